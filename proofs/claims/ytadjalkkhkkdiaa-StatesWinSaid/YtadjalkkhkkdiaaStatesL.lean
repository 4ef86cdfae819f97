/-
  Chapter 07: what styles make, one under the other: one round of each loop.
-/
import Derived.Test.YtadjalkkhkkdiaaStatesE
namespace Go.Proofs.Ytadjalkkhkkdiaa.st
open Go.K
def dStyles : VD := ⟨false, [.k (.slice 31)]⟩
def S16 : LSpec := ⟨[(13, dStyles), (14, dI64), (15, dI64), (3, dI64)], [(2, ckK kLook, 1), (4, ckK kInherit, 1)], [(2, 0, 0), (4, 1, 0)]⟩
def S20 : LSpec := ⟨[(0, dStyles), (5, dI64), (3, dI64)], [(2, ckK kLook, 1), (4, ckK kInherit, 1)], [(2, 0, 0), (4, 1, 0)]⟩
/-- the style at a place -/
def sAt (acc : Nat → KV) (j : Nat) : Style := styleOf (acc j).cells
noncomputable section
def rd16 : List KV → List (List KV) → Option (Abs.AExit × List KV × List (List KV)) := roundK Try.prog cfg2 9 9 16 122 (bodyOf Try.prog 16 122) S16
def rd20 : List KV → List (List KV) → Option (Abs.AExit × List KV × List (List KV)) := roundK Try.prog cfg2 9 9 20 122 (bodyOf Try.prog 20 122) S20
def st16 (e : Abs.AExit) (n : Nat) (es : List KV) (acc : Nat → KV) (m i r : Int) (z : Look) (h : Inherit) : Option (Abs.AExit × List KV × List (List KV)) := some (e, [.ts 31 .any n es acc, .int .i64 m, .int .i64 i, .int .i64 r], [cLook z, cInherit h])
def st20 (e : Abs.AExit) (n : Nat) (es : List KV) (acc : Nat → KV) (i r : Int) (z : Look) (h : Inherit) : Option (Abs.AExit × List KV × List (List KV)) := some (e, [.ts 31 .any n es acc, .int .i64 i, .int .i64 r], [cLook z, cInherit h])
theorem tree16 (n : Nat) (es : List KV) (acc : Nat → KV) (m i r : Int) (z : Look) (h : Inherit) : rd16 [.ts 31 .any n es acc, .int .i64 m, .int .i64 i, .int .i64 r] [cLook z, cInherit h] =
    cond (decide (i < m)) (cond (decide (0 ≤ i) && decide (i < (n : Int))) (cond (check (sAt acc i.toNat) != 0) (st16 .ret n es acc m i (check (sAt acc i.toNat)) zeroLook h) (st16 .normal n es acc m (IntKind.i64.wrap (i + 1)) r z (under (sAt acc i.toNat) h))) none) (st16 (.exit 0) n es acc m i r z h) := by kernel_rfl
theorem tree20 (n : Nat) (es : List KV) (acc : Nat → KV) (i r : Int) (z : Look) (h : Inherit) : rd20 [.ts 31 .any n es acc, .int .i64 i, .int .i64 r] [cLook z, cInherit h] =
    cond (decide (i < (n : Int))) (cond (decide (0 ≤ i) && decide (i < (n : Int))) (cond (!may (sAt acc i.toNat)) (st20 .ret n es acc i 8 zeroLook h) (cond (decide (0 ≤ i) && decide (i < (n : Int))) (st20 .normal n es acc (IntKind.i64.wrap (i + 1)) r z (madeAll (sAt acc i.toNat) h)) none)) none) (st20 (.exit 0) n es acc i r z h) := by kernel_rfl
/-! ## The loops, whole -/
/-- the error; where it stopped; what was inherited there -/
structure Run where
  err : Int
  at_ : Nat
  inh : Inherit
def goA (acc : Nat → KV) : Nat → Nat → Inherit → Run
  | 0, j, h => ⟨0, j, h⟩
  | r + 1, j, h => cond (check (sAt acc j) != 0) ⟨check (sAt acc j), j, h⟩ (goA acc r (j + 1) (under (sAt acc j) h))
def goR (acc : Nat → KV) : Nat → Nat → Inherit → Run
  | 0, j, h => ⟨0, j, h⟩
  | r + 1, j, h => cond (!may (sAt acc j)) ⟨8, j, h⟩ (goR acc r (j + 1) (madeAll (sAt acc j) h))
def E16 (n : Nat) (es : List KV) (acc : Nat → KV) (z : Look) (x : Run) : LTell := .br (x.err != 0) (.out .ret [.ts 31 .any n es acc, .int .i64 n, .int .i64 x.at_, .int .i64 x.err] [cLook zeroLook, cInherit x.inh]) (.out (.exit 0) [.ts 31 .any n es acc, .int .i64 n, .int .i64 n, .int .i64 0] [cLook z, cInherit x.inh])
def E20 (n : Nat) (es : List KV) (acc : Nat → KV) (z : Look) (x : Run) : LTell := .br (x.err != 0) (.out .ret [.ts 31 .any n es acc, .int .i64 x.at_, .int .i64 x.err] [cLook zeroLook, cInherit x.inh]) (.out (.exit 0) [.ts 31 .any n es acc, .int .i64 n, .int .i64 0] [cLook z, cInherit x.inh])
theorem wrap_small {j : Nat} (h : j < 1000) : IntKind.i64.wrap ((j : Int) + 1) = ((j + 1 : Nat) : Int) := by
  have e : IntKind.i64.wrap ((j : Int) + 1) = (j : Int) + 1 := by
    have h1 : ((j : Int) + 1) % (2 ^ IntKind.i64.bits : Int) = (j : Int) + 1 := Int.emod_eq_of_lt (by omega) (by show (j : Int) + 1 < 18446744073709551616; omega)
    unfold IntKind.wrap
    simp only [h1]
    rw [if_neg]
    intro hc
    simp only [Bool.and_eq_true, decide_eq_true_eq] at hc
    have : (j : Int) + 1 ≥ 9223372036854775808 := hc.2
    omega
  rw [e]; omega
theorem loop16 (n : Nat) (es : List KV) (acc : Nat → KV) (hn : n ≤ 128) (z : Look) : ∀ (r j : Nat) (h : Inherit), j + r = n → ∀ {e vs' rs'}, (E16 n es acc z (goA acc r j h)).ev = some (e, vs', rs') → iterK rd16 (r + 1) [.ts 31 .any n es acc, .int .i64 n, .int .i64 j, .int .i64 0] [cLook z, cInherit h] = some (e, vs', rs')
  | 0, j, h, hj, e, vs', rs', hev => by
    have hj : j = n := by omega
    subst hj
    have ht := tree16 j es acc j j 0 z h
    have hd : decide ((j : Int) < (j : Int)) = false := by simp
    rw [hd, cond_false] at ht
    exact (it_o ht rfl).trans hev
  | r + 1, j, h, hj, e, vs', rs', hev => by
    have ht := tree16 n es acc n j 0 z h
    have hd : decide ((j : Int) < (n : Int)) = true := by simp; omega
    have hd2 : decide ((0 : Int) ≤ (j : Int)) = true := by simp
    rw [hd, hd2, Bool.and_self, cond_true, cond_true, Int.toNat_natCast, wrap_small (by omega)] at ht
    unfold goA at hev
    cases hc : check (sAt acc j) != 0 with
    | true =>
      rw [hc, cond_true] at ht hev
      simp only [E16, LTell.ev, hc, cond_true] at hev
      exact (it_o ht rfl).trans hev
    | false =>
      rw [hc, cond_false] at ht hev
      exact (it_n ht).trans (loop16 n es acc hn z r (j + 1) (under (sAt acc j) h) (by omega) hev)
theorem loop20 (n : Nat) (es : List KV) (acc : Nat → KV) (hn : n ≤ 128) (z : Look) : ∀ (r j : Nat) (h : Inherit), j + r = n → ∀ {e vs' rs'}, (E20 n es acc z (goR acc r j h)).ev = some (e, vs', rs') → iterK rd20 (r + 1) [.ts 31 .any n es acc, .int .i64 j, .int .i64 0] [cLook z, cInherit h] = some (e, vs', rs')
  | 0, j, h, hj, e, vs', rs', hev => by
    have hj : j = n := by omega
    subst hj
    have ht := tree20 j es acc j 0 z h
    have hd : decide ((j : Int) < (j : Int)) = false := by simp
    rw [hd, cond_false] at ht
    exact (it_o ht rfl).trans hev
  | r + 1, j, h, hj, e, vs', rs', hev => by
    have ht := tree20 n es acc j 0 z h
    have hd : decide ((j : Int) < (n : Int)) = true := by simp; omega
    have hd2 : decide ((0 : Int) ≤ (j : Int)) = true := by simp
    rw [hd, hd2, Bool.and_self, cond_true, cond_true, cond_true, Int.toNat_natCast, wrap_small (by omega)] at ht
    unfold goR at hev
    cases hc : may (sAt acc j) with
    | false =>
      rw [hc] at ht hev
      exact (it_o ht rfl).trans hev
    | true =>
      rw [hc] at ht hev
      exact (it_n ht).trans (loop20 n es acc hn z r (j + 1) (madeAll (sAt acc j) h) (by omega) hev)
def fT {α : Type} (v : KV) (k : Nat → List KV → (Nat → KV) → α) (d : α) : α :=
  match v with
  | .ts _ _ n es acc => k n es acc
  | _ => d
def F16 : LFn := fun vs rs => fT (vs.getD 0 .unk) (fun n es acc => fI (vs.getD 1 .unk) (fun m => fI (vs.getD 2 .unk) (fun i => fI (vs.getD 3 .unk) (fun r => withLook (rs.getD 0 []) (fun z => withInherit (rs.getD 1 []) (fun h =>
  .br (decide (i = 0)) (.br (decide (r = 0)) (.br (decide (m = (n : Int))) (.br (Nat.ble n 128) (E16 n es acc z (goA acc n 0 h)) .no) .no) .no) .no) .no) .no) .no) .no) .no) .no
def F20 : LFn := fun vs rs => fT (vs.getD 0 .unk) (fun n es acc => fI (vs.getD 1 .unk) (fun i => fI (vs.getD 2 .unk) (fun r => withLook (rs.getD 0 []) (fun z => withInherit (rs.getD 1 []) (fun h =>
  .br (decide (i = 0)) (.br (decide (r = 0)) (.br (Nat.ble n 128) (E20 n es acc z (goR acc n 0 h)) .no) .no) .no) .no) .no) .no) .no) .no
theorem kind_slice {t : TypeId} {v : KV} (h : Go.K.kindOk (.slice t) v = true) : ∃ n es acc, v = .ts t .any n es acc := by
  cases v with
  | ts t' m n es acc =>
    cases m with
    | any =>
      have h : Nat.beq t t' = true := h
      have := Nat.eq_of_beq_eq_true h
      subst this
      exact ⟨n, es, acc, rfl⟩
    | exact => exact absurd h (by simp [Go.K.kindOk])
    | fam b => exact absurd h (by simp [Go.K.kindOk])
  | _ => exact absurd h (by simp [Go.K.kindOk])
theorem styles_good {v : KV} (h : goodVD dStyles v = true) : ∃ n es acc, v = .ts 31 .any n es acc := by
  unfold goodVD at h
  split at h
  · simp [dStyles] at h
  · have h : Go.K.kindOk (.slice 31) v = true := by simpa [dStyles, goodCDs, goodCD] using h
    exact kind_slice h
theorem list_four {α : Type} {l : List α} (h : l.length = 4) : ∃ a b c d, l = [a, b, c, d] := by
  match l, h with
  | [a, b, c, d], _ => exact ⟨a, b, c, d, rfl⟩
theorem sh16 {vs : List KV} {rs : List (List KV)} (h : StOk Try.prog S16 vs rs) : ∃ n es acc m i r z y, vs = [.ts 31 .any n es acc, .int .i64 m, .int .i64 i, .int .i64 r] ∧ rs = [cLook z, cInherit y] := by
  obtain ⟨r0, r1, rfl⟩ := list_two h.lenr
  obtain ⟨v0, v1, v2, v3, rfl⟩ := list_four (goodVDs_length h.v)
  have hv := h.v
  simp only [S16, goodVDs, Bool.and_eq_true] at hv
  obtain ⟨q0, h0, g0⟩ := h.r 0 _ rfl
  obtain ⟨q1, h1, g1⟩ := h.r 1 _ rfl
  simp at h0 h1
  subst h0 h1
  obtain ⟨n, es, acc, rfl⟩ := styles_good hv.1
  refine ⟨n, es, acc, intOf v1, intOf v2, intOf v3, lookOf r0, inheritOf r1, ?_, ?_⟩
  · rw [← i64_good hv.2.1, ← i64_good hv.2.2.1, ← i64_good hv.2.2.2.1]
  · rw [look_of (ckK_good g0), inherit_of (ckK_good g1)]
theorem sh20 {vs : List KV} {rs : List (List KV)} (h : StOk Try.prog S20 vs rs) : ∃ n es acc i r z y, vs = [.ts 31 .any n es acc, .int .i64 i, .int .i64 r] ∧ rs = [cLook z, cInherit y] := by
  obtain ⟨r0, r1, rfl⟩ := list_two h.lenr
  obtain ⟨v0, v1, v2, rfl⟩ := list_three (goodVDs_length h.v)
  have hv := h.v
  simp only [S20, goodVDs, Bool.and_eq_true] at hv
  obtain ⟨q0, h0, g0⟩ := h.r 0 _ rfl
  obtain ⟨q1, h1, g1⟩ := h.r 1 _ rfl
  simp at h0 h1
  subst h0 h1
  obtain ⟨n, es, acc, rfl⟩ := styles_good hv.1
  refine ⟨n, es, acc, intOf v1, intOf v2, lookOf r0, inheritOf r1, ?_, ?_⟩
  · rw [← i64_good hv.2.1, ← i64_good hv.2.2.1]
  · rw [look_of (ckK_good g0), inherit_of (ckK_good g1)]
def L16 : Lp := ⟨16, 122, S16, F16⟩
def L20 : Lp := ⟨20, 122, S20, F20⟩
theorem ok16 : L16.Ok Try.prog := ⟨cfg2, 9, 9, pcs2_ok, lps_ok, fun vs rs e vs' rs' hok hev => by
  obtain ⟨n, es, acc, m, i, r, z, y, rfl, rfl⟩ := sh16 hok
  have hev : (LTell.br (decide (i = 0)) (.br (decide (r = 0)) (.br (decide (m = (n : Int))) (.br (Nat.ble n 128) (E16 n es acc z (goA acc n 0 y)) .no) .no) .no) .no).ev = some (e, vs', rs') := hev
  by_cases hi : i = 0
  · by_cases hr : r = 0
    · by_cases hm : m = (n : Int)
      · cases hn : Nat.ble n 128 with
        | true =>
          subst hi hr hm
          simp only [LTell.ev, hn, decide_true, cond_true] at hev
          exact ⟨n + 1, loop16 n es acc (Nat.le_of_ble_eq_true hn) z n 0 y (by omega) hev⟩
        | false => simp [LTell.ev, hn] at hev
      · simp [LTell.ev, hm] at hev
    · simp [LTell.ev, hr] at hev
  · simp [LTell.ev, hi] at hev⟩
theorem ok20 : L20.Ok Try.prog := ⟨cfg2, 9, 9, pcs2_ok, lps_ok, fun vs rs e vs' rs' hok hev => by
  obtain ⟨n, es, acc, i, r, z, y, rfl, rfl⟩ := sh20 hok
  have hev : (LTell.br (decide (i = 0)) (.br (decide (r = 0)) (.br (Nat.ble n 128) (E20 n es acc z (goR acc n 0 y)) .no) .no) .no).ev = some (e, vs', rs') := hev
  by_cases hi : i = 0
  · by_cases hr : r = 0
    · cases hn : Nat.ble n 128 with
      | true =>
        subst hi hr
        simp only [LTell.ev, hn, decide_true, cond_true] at hev
        exact ⟨n + 1, loop20 n es acc (Nat.le_of_ble_eq_true hn) z n 0 y (by omega) hev⟩
      | false => simp [LTell.ev, hn] at hev
    · simp [LTell.ev, hr] at hev
  · simp [LTell.ev, hi] at hev⟩
end
end Go.Proofs.Ytadjalkkhkkdiaa.st
