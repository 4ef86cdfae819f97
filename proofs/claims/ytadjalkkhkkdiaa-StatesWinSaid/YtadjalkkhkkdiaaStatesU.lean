/-
  Chapter 07: whose value a thing has: the things of the result.
-/
import Derived.Test.YtadjalkkhkkdiaaStatesZ
namespace Go.Proofs.Ytadjalkkhkkdiaa.st
open Go.K
def lookAt (acc : Nat → KV) (w : Int) : Look := cond (decide (w ≥ 0)) (sAt acc w.toNat).look begin.look
theorem lookAt_nat (acc : Nat → KV) (j : Nat) : lookAt acc (j : Int) = (sAt acc j).look := by
  unfold lookAt
  rw [decide_eq_true (show (j : Int) ≥ 0 by omega), Int.toNat_natCast]; rfl
theorem check_ok {s : Style} (h : (check s != 0) = false) : okAll s = true ∧ lookBad s.look = false := by
  unfold check checkLook at h
  cases h1 : okAll s <;> cases h2 : sameLook (said s zeroLook) s.look <;> cases h3 : lookBad s.look <;> simp_all
theorem go_ok {acc : Nat → KV} {r j : Nat} {h : Inherit} (he : ((goA acc (r + 1) j h).err != 0) = false) : (check (sAt acc j) != 0) = false ∧ goA acc (r + 1) j h = goA acc r (j + 1) (under (sAt acc j) h) := by
  have e : goA acc (r + 1) j h = cond (check (sAt acc j) != 0) ⟨check (sAt acc j), j, h⟩ (goA acc r (j + 1) (under (sAt acc j) h)) := rfl
  cases hc : check (sAt acc j) != 0 with
  | true => rw [e, hc] at he; exact absurd hc (by rw [show (check (sAt acc j) != 0) = false from he]; simp)
  | false => exact ⟨rfl, by rw [e, hc]; rfl⟩
theorem go_say {acc : Nat → KV} : ∀ (r j : Nat) (h : Inherit), ((goA acc r j h).err != 0) = false → ∀ i, j ≤ i → i < j + r → okAll (sAt acc i) = true
  | 0, _, _, _, i, hi, hr => by omega
  | r + 1, j, h, he, i, hi, hr => by
    obtain ⟨h1, h2⟩ := go_ok he
    rw [h2] at he
    by_cases hij : i = j
    · subst hij; exact (check_ok h1).1
    · exact go_say r (j + 1) _ he i (by omega) (by omega)
theorem okAll_all {s : Style} (h : okAll s = true) : okSay s.s0 = true ∧ okSay s.s1 = true ∧ okSay s.s2 = true ∧ okSay s.s3 = true ∧ okSay s.s4 = true := by
  unfold okAll at h
  cases h0 : okSay s.s0 <;> cases h1 : okSay s.s1 <;> cases h2 : okSay s.s2 <;> cases h3 : okSay s.s3 <;> cases h4 : okSay s.s4 <;> simp_all
theorem bad_under {s : Style} {i : Inherit} (h1 : lookBad i.look = false) (h2 : lookBad s.look = false) : lookBad (underAll s i).look = false := by
  unfold lookBad at h1 h2 ⊢
  rw [under_tex, under_cull, under_bias, under_bin]
  cases left s.s1 i.k1 <;> cases left s.s2 i.k2 <;> cases left s.s3 i.k3 <;> cases left s.s4 i.k4 <;> simp_all
theorem go_look {acc : Nat → KV} : ∀ (r j : Nat) (h : Inherit), ((goA acc r j h).err != 0) = false → lookBad h.look = false → lookBad (goA acc r j h).inh.look = false
  | 0, _, _, _, hb => hb
  | r + 1, j, h, he, hb => by
    obtain ⟨h1, h2⟩ := go_ok he
    rw [h2] at he ⊢
    exact go_look r (j + 1) _ he (by rw [under_all]; exact bad_under hb (check_ok h1).2)

theorem go_thing0 {acc : Nat → KV} : ∀ (r j : Nat) (h : Inherit) (q : Bool × Int), ((goA acc r j h).err != 0) = false → h.k0 = q.1 → thing h.look 0 = thing (lookAt acc q.2) 0 → thing (goA acc r j h).inh.look 0 = thing (lookAt acc (srcF acc 0 r j q).2) 0
  | 0, _, _, _, _, _, ht => ht
  | r + 1, j, h, q, he, hk, ht => by
    obtain ⟨h1, h2⟩ := go_ok he
    rw [h2] at he ⊢
    have e : srcF acc 0 (r + 1) j q = srcF acc 0 r (j + 1) (cond (left (sAt acc j).s0 q.1) q (over (sAt acc j).s0, (j : Int))) := rfl
    rw [e]
    refine go_thing0 r (j + 1) _ _ he ?_ ?_
    · rw [under_all, under_k0, hk]
      cases left (sAt acc j).s0 q.1 <;> rfl
    · rw [under_all, thing_0, hk]
      cases left (sAt acc j).s0 q.1 with
      | true => exact ht
      | false => simp only [cond_false]; rw [lookAt_nat]
theorem good6_0 {acc : Nat → KV} {n : Nat} (he : ((goA acc n 0 begin).err != 0) = false) : badW0 n acc (goA acc n 0 begin).inh.look = false := by
  have h1 := go_thing0 n 0 begin (false, -1) he rfl rfl
  rw [src_whose acc 0 n fun i hi => by have := okAll_all (go_say n 0 begin he i (by omega) (by omega)); exact this.1] at h1
  unfold badW0
  rw [h1]
  show (!sameTh (thing (lookAt acc (whoseV acc 0 n)) 0) (thing (lookAt acc (whoseV acc 0 n)) 0)) = false
  rw [sameTh_refl]; rfl
theorem go_thing1 {acc : Nat → KV} : ∀ (r j : Nat) (h : Inherit) (q : Bool × Int), ((goA acc r j h).err != 0) = false → h.k1 = q.1 → thing h.look 1 = thing (lookAt acc q.2) 1 → thing (goA acc r j h).inh.look 1 = thing (lookAt acc (srcF acc 1 r j q).2) 1
  | 0, _, _, _, _, _, ht => ht
  | r + 1, j, h, q, he, hk, ht => by
    obtain ⟨h1, h2⟩ := go_ok he
    rw [h2] at he ⊢
    have e : srcF acc 1 (r + 1) j q = srcF acc 1 r (j + 1) (cond (left (sAt acc j).s1 q.1) q (over (sAt acc j).s1, (j : Int))) := rfl
    rw [e]
    refine go_thing1 r (j + 1) _ _ he ?_ ?_
    · rw [under_all, under_k1, hk]
      cases left (sAt acc j).s1 q.1 <;> rfl
    · rw [under_all, thing_1, hk]
      cases left (sAt acc j).s1 q.1 with
      | true => exact ht
      | false => simp only [cond_false]; rw [lookAt_nat]
theorem good6_1 {acc : Nat → KV} {n : Nat} (he : ((goA acc n 0 begin).err != 0) = false) : badW1 n acc (goA acc n 0 begin).inh.look = false := by
  have h1 := go_thing1 n 0 begin (false, -1) he rfl rfl
  rw [src_whose acc 1 n fun i hi => by have := okAll_all (go_say n 0 begin he i (by omega) (by omega)); exact this.2.1] at h1
  unfold badW1
  rw [h1]
  show (!sameTh (thing (lookAt acc (whoseV acc 1 n)) 1) (thing (lookAt acc (whoseV acc 1 n)) 1)) = false
  rw [sameTh_refl]; rfl
theorem go_thing2 {acc : Nat → KV} : ∀ (r j : Nat) (h : Inherit) (q : Bool × Int), ((goA acc r j h).err != 0) = false → h.k2 = q.1 → thing h.look 2 = thing (lookAt acc q.2) 2 → thing (goA acc r j h).inh.look 2 = thing (lookAt acc (srcF acc 2 r j q).2) 2
  | 0, _, _, _, _, _, ht => ht
  | r + 1, j, h, q, he, hk, ht => by
    obtain ⟨h1, h2⟩ := go_ok he
    rw [h2] at he ⊢
    have e : srcF acc 2 (r + 1) j q = srcF acc 2 r (j + 1) (cond (left (sAt acc j).s2 q.1) q (over (sAt acc j).s2, (j : Int))) := rfl
    rw [e]
    refine go_thing2 r (j + 1) _ _ he ?_ ?_
    · rw [under_all, under_k2, hk]
      cases left (sAt acc j).s2 q.1 <;> rfl
    · rw [under_all, thing_2, hk]
      cases left (sAt acc j).s2 q.1 with
      | true => exact ht
      | false => simp only [cond_false]; rw [lookAt_nat]
theorem good6_2 {acc : Nat → KV} {n : Nat} (he : ((goA acc n 0 begin).err != 0) = false) : badW2 n acc (goA acc n 0 begin).inh.look = false := by
  have h1 := go_thing2 n 0 begin (false, -1) he rfl rfl
  rw [src_whose acc 2 n fun i hi => by have := okAll_all (go_say n 0 begin he i (by omega) (by omega)); exact this.2.2.1] at h1
  unfold badW2
  rw [h1]
  show (!sameTh (thing (lookAt acc (whoseV acc 2 n)) 2) (thing (lookAt acc (whoseV acc 2 n)) 2)) = false
  rw [sameTh_refl]; rfl
theorem go_thing3 {acc : Nat → KV} : ∀ (r j : Nat) (h : Inherit) (q : Bool × Int), ((goA acc r j h).err != 0) = false → h.k3 = q.1 → thing h.look 3 = thing (lookAt acc q.2) 3 → thing (goA acc r j h).inh.look 3 = thing (lookAt acc (srcF acc 3 r j q).2) 3
  | 0, _, _, _, _, _, ht => ht
  | r + 1, j, h, q, he, hk, ht => by
    obtain ⟨h1, h2⟩ := go_ok he
    rw [h2] at he ⊢
    have e : srcF acc 3 (r + 1) j q = srcF acc 3 r (j + 1) (cond (left (sAt acc j).s3 q.1) q (over (sAt acc j).s3, (j : Int))) := rfl
    rw [e]
    refine go_thing3 r (j + 1) _ _ he ?_ ?_
    · rw [under_all, under_k3, hk]
      cases left (sAt acc j).s3 q.1 <;> rfl
    · rw [under_all, thing_3, hk]
      cases left (sAt acc j).s3 q.1 with
      | true => exact ht
      | false => simp only [cond_false]; rw [lookAt_nat]
theorem good6_3 {acc : Nat → KV} {n : Nat} (he : ((goA acc n 0 begin).err != 0) = false) : badW3 n acc (goA acc n 0 begin).inh.look = false := by
  have h1 := go_thing3 n 0 begin (false, -1) he rfl rfl
  rw [src_whose acc 3 n fun i hi => by have := okAll_all (go_say n 0 begin he i (by omega) (by omega)); exact this.2.2.2.1] at h1
  unfold badW3
  rw [h1]
  show (!sameTh (thing (lookAt acc (whoseV acc 3 n)) 3) (thing (lookAt acc (whoseV acc 3 n)) 3)) = false
  rw [sameTh_refl]; rfl
theorem go_thing4 {acc : Nat → KV} : ∀ (r j : Nat) (h : Inherit) (q : Bool × Int), ((goA acc r j h).err != 0) = false → h.k4 = q.1 → thing h.look 4 = thing (lookAt acc q.2) 4 → thing (goA acc r j h).inh.look 4 = thing (lookAt acc (srcF acc 4 r j q).2) 4
  | 0, _, _, _, _, _, ht => ht
  | r + 1, j, h, q, he, hk, ht => by
    obtain ⟨h1, h2⟩ := go_ok he
    rw [h2] at he ⊢
    have e : srcF acc 4 (r + 1) j q = srcF acc 4 r (j + 1) (cond (left (sAt acc j).s4 q.1) q (over (sAt acc j).s4, (j : Int))) := rfl
    rw [e]
    refine go_thing4 r (j + 1) _ _ he ?_ ?_
    · rw [under_all, under_k4, hk]
      cases left (sAt acc j).s4 q.1 <;> rfl
    · rw [under_all, thing_4, hk]
      cases left (sAt acc j).s4 q.1 with
      | true => exact ht
      | false => simp only [cond_false]; rw [lookAt_nat]
theorem good6_4 {acc : Nat → KV} {n : Nat} (he : ((goA acc n 0 begin).err != 0) = false) : badW4 n acc (goA acc n 0 begin).inh.look = false := by
  have h1 := go_thing4 n 0 begin (false, -1) he rfl rfl
  rw [src_whose acc 4 n fun i hi => by have := okAll_all (go_say n 0 begin he i (by omega) (by omega)); exact this.2.2.2.2] at h1
  unfold badW4
  rw [h1]
  show (!sameTh (thing (lookAt acc (whoseV acc 4 n)) 4) (thing (lookAt acc (whoseV acc 4 n)) 4)) = false
  rw [sameTh_refl]; rfl
theorem law6 (xs : List KV) (h : argsOk Try.prog [48] xs = true) (_ : wfKs xs) (_ : deepKs Try.prog xs) : pureK Try.prog cfgZ 9 9 6 xs = some (.bool true) := by
  obtain ⟨n, es, acc, vs, rfl, h⟩ := argT h
  cases args0 h
  rw [tree6f]
  by_cases hn : (n : Int) > 128
  · rw [decide_eq_true hn]; rfl
  · have hb : Nat.ble n 128 = true := Nat.ble_eq_true_of_le (by omega)
    unfold errA lookA
    rw [decide_eq_false hn, hb]
    simp only [cond_false, cond_true]
    cases he : (goA acc n 0 begin).err != 0 with
    | true => simp [he, sameLook_refl]
    | false =>
      have hl := go_look n 0 begin he (by decide +kernel)
      simp only [cond_false, badAnyW, good6_0 he, good6_1 he, good6_2 he, good6_3 he, good6_4 he, checkLook, hl]
      rfl
end Go.Proofs.Ytadjalkkhkkdiaa.st
