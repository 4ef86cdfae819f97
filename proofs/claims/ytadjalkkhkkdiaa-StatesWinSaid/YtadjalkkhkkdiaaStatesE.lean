/-
  Chapter 07: the program's answers are the document's: plain data, no program.
-/
import Derived.Test.YtadjalkkhkkdiaaStatesD
namespace Go.Proofs.Ytadjalkkhkkdiaa.st
open Go.K
theorem look_same (l : Look) : lookBad l = !mayLook l := by
  unfold lookBad mayLook
  by_cases h1 : l.tex < -1
  · have : ¬ (l.tex ≥ -1) := by omega
    simp [h1, this]
  · have h1' : l.tex ≥ -1 := by omega
    by_cases h2 : l.tex ≥ 16
    · have : ¬ (l.tex < 16) := by omega
      simp [h1, h1', h2, this]
    · have h2' : l.tex < 16 := by omega
      by_cases h3 : l.cull > 2
      · have : ¬ (l.cull ≤ 2) := by omega
        simp [h1, h1', h2, h2', h3, this]
      · have h3' : l.cull ≤ 2 := by omega
        by_cases h4 : l.bias < -1024
        · have : ¬ (l.bias ≥ -1024) := by omega
          simp [h1, h1', h2, h2', h3, h3', h4, this]
        · have h4' : l.bias ≥ -1024 := by omega
          by_cases h5 : l.bias > 1024
          · have : ¬ (l.bias ≤ 1024) := by omega
            simp [h1, h1', h2, h2', h3, h3', h4, h4', h5, this]
          · have h5' : l.bias ≤ 1024 := by omega
            by_cases h6 : l.bin < 0
            · have : ¬ (l.bin ≥ 0) := by omega
              simp [h1, h1', h2, h2', h3, h3', h4, h4', h5, h5', h6, this]
            · have h6' : l.bin ≥ 0 := by omega
              by_cases h7 : l.bin > 15
              · have : ¬ (l.bin ≤ 15) := by omega
                simp [h1, h1', h2, h2', h3, h3', h4, h4', h5, h5', h6, h6', h7, this]
              · have h7' : l.bin ≤ 15 := by omega
                simp [h1, h1', h2, h2', h3, h3', h4, h4', h5, h5', h6, h6', h7, h7']
theorem checkLook_same (l : Look) : checkLook l = refLook l := by
  unfold checkLook refLook
  rw [look_same]
/-- what may be said -/
theorem say_cases {x : Int} (h : okSay x = true) : x = 0 ∨ x = 1 ∨ x = 3 ∨ x = 5 ∨ x = 7 := by
  simpa [okSay] using h
theorem say_same {x : Int} (h0 : 0 ≤ x) : okSay x = !badSay x := by
  by_cases h : x > 7
  · have e : okSay x = false := by
      cases hb : okSay x with
      | false => rfl
      | true => rcases say_cases hb with h | h | h | h | h <;> omega
    rw [e, badSay]
    simp [h]
  · have : x = 0 ∨ x = 1 ∨ x = 2 ∨ x = 3 ∨ x = 4 ∨ x = 5 ∨ x = 6 ∨ x = 7 := by omega
    rcases this with rfl | rfl | rfl | rfl | rfl | rfl | rfl | rfl <;> rfl
structure Bytes (s : Style) : Prop where
  s0 : 0 ≤ s.s0
  s1 : 0 ≤ s.s1
  s2 : 0 ≤ s.s2
  s3 : 0 ≤ s.s3
  s4 : 0 ≤ s.s4
theorem all_same {s : Style} (h : Bytes s) : okAll s = !badAny s := by
  unfold okAll badAny
  rw [say_same h.s0, say_same h.s1, say_same h.s2, say_same h.s3, say_same h.s4]
  cases badSay s.s0 <;> cases badSay s.s1 <;> cases badSay s.s2 <;> cases badSay s.s3 <;> cases badSay s.s4 <;> rfl
def same0 (s : Style) : Bool := cond (s.s0 == 0) (!ne0 s) true
def same1 (s : Style) : Bool := cond (s.s1 == 0) (s.look.tex == 0) true
def same2 (s : Style) : Bool := cond (s.s2 == 0) (s.look.cull == 0) true
def same3 (s : Style) : Bool := cond (s.s3 == 0) (s.look.bias == 0) true
def same4 (s : Style) : Bool := cond (s.s4 == 0) (!s.look.blend && s.look.bin == 0) true
theorem flip0 (x : Int) : ((0 : Int) == x) = (x == 0) := by
  by_cases h : x = 0
  · subst h; rfl
  · have h' : ¬ (0 : Int) = x := fun e => h e.symm
    rw [beq_eq_false_iff_ne.2 h, beq_eq_false_iff_ne.2 h']
theorem pick_same (b : Bool) (x : Int) : ((cond b 0 x : Int) == x) = cond b (x == 0) true := by
  cases b with
  | true => exact flip0 x
  | false => simp
theorem pick_sameB (b : Bool) (x : Bool) : ((cond b false x : Bool) == x) = cond b (!x) true := by cases b <;> cases x <;> rfl
theorem said_c0 (s : Style) : (said s zeroLook).c0 = cond (s.s0 == 0) 0 s.look.c0 := by
  unfold said upto4 upto3 upto2 upto1 said0 said1 said2 said3 said4
  cases s.s0 == 0 <;> cases s.s1 == 0 <;> cases s.s2 == 0 <;> cases s.s3 == 0 <;> cases s.s4 == 0 <;> rfl
theorem said_c1 (s : Style) : (said s zeroLook).c1 = cond (s.s0 == 0) 0 s.look.c1 := by
  unfold said upto4 upto3 upto2 upto1 said0 said1 said2 said3 said4
  cases s.s0 == 0 <;> cases s.s1 == 0 <;> cases s.s2 == 0 <;> cases s.s3 == 0 <;> cases s.s4 == 0 <;> rfl
theorem said_c2 (s : Style) : (said s zeroLook).c2 = cond (s.s0 == 0) 0 s.look.c2 := by
  unfold said upto4 upto3 upto2 upto1 said0 said1 said2 said3 said4
  cases s.s0 == 0 <;> cases s.s1 == 0 <;> cases s.s2 == 0 <;> cases s.s3 == 0 <;> cases s.s4 == 0 <;> rfl
theorem said_c3 (s : Style) : (said s zeroLook).c3 = cond (s.s0 == 0) 0 s.look.c3 := by
  unfold said upto4 upto3 upto2 upto1 said0 said1 said2 said3 said4
  cases s.s0 == 0 <;> cases s.s1 == 0 <;> cases s.s2 == 0 <;> cases s.s3 == 0 <;> cases s.s4 == 0 <;> rfl
theorem said_tex (s : Style) : (said s zeroLook).tex = cond (s.s1 == 0) 0 s.look.tex := by
  unfold said upto4 upto3 upto2 upto1 said0 said1 said2 said3 said4
  cases s.s0 == 0 <;> cases s.s1 == 0 <;> cases s.s2 == 0 <;> cases s.s3 == 0 <;> cases s.s4 == 0 <;> rfl
theorem said_cull (s : Style) : (said s zeroLook).cull = cond (s.s2 == 0) 0 s.look.cull := by
  unfold said upto4 upto3 upto2 upto1 said0 said1 said2 said3 said4
  cases s.s0 == 0 <;> cases s.s1 == 0 <;> cases s.s2 == 0 <;> cases s.s3 == 0 <;> cases s.s4 == 0 <;> rfl
theorem said_bias (s : Style) : (said s zeroLook).bias = cond (s.s3 == 0) 0 s.look.bias := by
  unfold said upto4 upto3 upto2 upto1 said0 said1 said2 said3 said4
  cases s.s0 == 0 <;> cases s.s1 == 0 <;> cases s.s2 == 0 <;> cases s.s3 == 0 <;> cases s.s4 == 0 <;> rfl
theorem said_blend (s : Style) : (said s zeroLook).blend = cond (s.s4 == 0) false s.look.blend := by
  unfold said upto4 upto3 upto2 upto1 said0 said1 said2 said3 said4
  cases s.s0 == 0 <;> cases s.s1 == 0 <;> cases s.s2 == 0 <;> cases s.s3 == 0 <;> cases s.s4 == 0 <;> rfl
theorem said_bin (s : Style) : (said s zeroLook).bin = cond (s.s4 == 0) 0 s.look.bin := by
  unfold said upto4 upto3 upto2 upto1 said0 said1 said2 said3 said4
  cases s.s0 == 0 <;> cases s.s1 == 0 <;> cases s.s2 == 0 <;> cases s.s3 == 0 <;> cases s.s4 == 0 <;> rfl
theorem said_same (s : Style) : sameLook (said s zeroLook) s.look = (same0 s && (same1 s && (same2 s && (same3 s && same4 s)))) := by
  unfold sameLook same0 same1 same2 same3 same4 ne0
  rw [said_c0, said_c1, said_c2, said_c3, said_tex, said_cull, said_bias, said_blend, said_bin]
  simp only [pick_same, pick_sameB, Bool.not_not, Bool.and_true]
  cases s.s0 == 0 <;> cases s.s1 == 0 <;> cases s.s2 == 0 <;> cases s.s3 == 0 <;> cases s.s4 == 0 <;> first | rfl | simp only [cond_true, cond_false, Bool.true_and, Bool.and_true, Bool.and_assoc]
theorem b0_same (s : Style) (a : Bool) : b0 s a = (same0 s && a) := by
  unfold b0 same0; cases s.s0 == 0 <;> cases ne0 s <;> cases a <;> rfl
theorem b1_same (s : Style) (a : Bool) : b1 s a = (same1 s && a) := by
  unfold b1 same1 bne; cases s.s1 == 0 <;> cases s.look.tex == 0 <;> cases a <;> rfl
theorem b2_same (s : Style) (a : Bool) : b2 s a = (same2 s && a) := by
  unfold b2 same2 bne; cases s.s2 == 0 <;> cases s.look.cull == 0 <;> cases a <;> rfl
theorem b3_same (s : Style) (a : Bool) : b3 s a = (same3 s && a) := by
  unfold b3 same3 bne; cases s.s3 == 0 <;> cases s.look.bias == 0 <;> cases a <;> rfl
theorem b4_same (s : Style) (a : Bool) : b4 s a = (same4 s && a) := by
  unfold b4 same4 bne; cases s.s4 == 0 <;> cases s.look.blend <;> cases s.look.bin == 0 <;> cases a <;> rfl
theorem may_same (s : Style) : may s = (!badAny s && (same0 s && (same1 s && (same2 s && (same3 s && (same4 s && mayLook s.look)))))) := by
  unfold may
  rw [b0_same, b1_same, b2_same, b3_same, b4_same]
  cases badAny s <;> rfl
theorem check_same {s : Style} (h : Bytes s) : check s = refCheck s := by
  unfold check refCheck checkLook
  rw [all_same h, said_same, may_same, look_same]
  cases badAny s <;> cases same0 s <;> cases same1 s <;> cases same2 s <;> cases same3 s <;> cases same4 s <;> cases mayLook s.look <;> rfl
theorem left_same {x : Int} (h : okSay x = true) (k : Bool) : left x k = leftR x k := by
  rcases say_cases h with rfl | rfl | rfl | rfl | rfl <;> cases k <;> decide +kernel
theorem over_same {x : Int} (h : okSay x = true) : over x = overR x := by
  rcases say_cases h with rfl | rfl | rfl | rfl | rfl <;> decide +kernel
theorem made_same {s : Style} (h : okAll s = true) (i : Inherit) : underAll s i = madeAll s i := by
  have h' : okSay s.s0 = true ∧ okSay s.s1 = true ∧ okSay s.s2 = true ∧ okSay s.s3 = true ∧ okSay s.s4 = true := by
    unfold okAll at h
    cases h0 : okSay s.s0 <;> cases h1 : okSay s.s1 <;> cases h2 : okSay s.s2 <;> cases h3 : okSay s.s3 <;> cases h4 : okSay s.s4 <;> simp_all
  obtain ⟨h0, h1, h2, h3, h4⟩ := h'
  have e0 : ∀ i, under0 s i = made0 s i := fun i => by rw [under0, made0, left_same h0, over_same h0]
  have e1 : ∀ i, under1 s i = made1 s i := fun i => by rw [under1, made1, left_same h1, over_same h1]
  have e2 : ∀ i, under2 s i = made2 s i := fun i => by rw [under2, made2, left_same h2, over_same h2]
  have e3 : ∀ i, under3 s i = made3 s i := fun i => by rw [under3, made3, left_same h3, over_same h3]
  have e4 : ∀ i, under4 s i = made4 s i := fun i => by rw [under4, made4, left_same h4, over_same h4]
  rw [underAll, madeAll, e0, e1, e2, e3, e4]
theorem under_all (s : Style) (i : Inherit) : under s i = underAll s i := by
  unfold under
  cases h : noSay s with
  | false => rfl
  | true =>
    simp only [noSay, Bool.and_eq_true] at h
    obtain ⟨h0, h1, h2, h3, h4, _⟩ := h
    simp only [cond_true, underAll, under0, under1, under2, under3, under4, left, h0, h1, h2, h3, h4]
theorem may_all {s : Style} (h : Bytes s) (hm : may s = true) : okAll s = true := by
  rw [all_same h]
  rw [may_same] at hm
  simp only [Bool.and_eq_true] at hm
  exact hm.1
theorem pair_same (i : Inherit) {s : Style} (h : Bytes s) : uV i s = rV i s ∧ uE i s = rE i s := by
  have hc : (checkLook i.look != 0) = !mayLook i.look := by
    rw [checkLook, look_same]; cases mayLook i.look <;> rfl
  have hk : checkLook i.look = cond (!mayLook i.look) 8 0 := by rw [checkLook, look_same]
  have hs : (check s != 0) = !may s := by
    rw [check_same h, refCheck]; cases may s <;> rfl
  have hs' : check s = cond (!may s) 8 0 := check_same h
  unfold uV rV uE rE
  rw [hc, hs, hk, hs']
  cases hl : mayLook i.look with
  | false => exact ⟨rfl, rfl⟩
  | true =>
    cases hm : may s with
    | false => exact ⟨rfl, rfl⟩
    | true =>
      refine ⟨?_, rfl⟩
      show under s i = madeAll s i
      rw [under_all, made_same (may_all h hm)]
def sameInherit (a b : Inherit) : Bool := a.look.c0 == b.look.c0 && (a.look.c1 == b.look.c1 && (a.look.c2 == b.look.c2 && (a.look.c3 == b.look.c3 && (a.look.tex == b.look.tex && (a.look.cull == b.look.cull && (a.look.bias == b.look.bias && (a.look.blend == b.look.blend && (a.look.bin == b.look.bin && (a.k0 == b.k0 && (a.k1 == b.k1 && (a.k2 == b.k2 && (a.k3 == b.k3 && (a.k4 == b.k4 && true)))))))))))))
theorem sameInherit_refl (a : Inherit) : sameInherit a a = true := by simp [sameInherit]
noncomputable section
theorem tree3 (i : Inherit) (s : Style) : pureK Try.prog cfg3 9 9 3 [.agg (cInherit i), .agg (cStyle s)] = cond (sameInherit (uV i s) (rV i s)) (cond (uE i s == rE i s) (cond (check s == refCheck s) (cond (checkLook i.look == refLook i.look) (some (.bool true)) (some (.bool false))) (some (.bool false))) (some (.bool false))) (some (.bool false)) := by kernel_rfl
theorem run3 (i : Inherit) {s : Style} (h : Bytes s) : pureK Try.prog cfg3 9 9 3 [.agg (cInherit i), .agg (cStyle s)] = some (.bool true) := by
  obtain ⟨h1, h2⟩ := pair_same i h
  rw [tree3, h1, h2, check_same h, checkLook_same, sameInherit_refl]
  simp
end
theorem nonneg_of_wf {x : Int} (h : wfK (.int .u8 x)) : 0 ≤ x := by
  have h : (Lit.int .u8 x).wf = true := h
  simp only [Lit.wf, Bool.and_eq_true, decide_eq_true_eq] at h
  exact h.1
theorem bytes_of {s : Style} {l : List KV} (h : wfKs (l ++ [.agg (cStyle s)])) : Bytes s := by
  have h1 := wfKs_mem h (.agg (cStyle s)) (by simp)
  have h2 : wfKs (cStyle s) := h1
  exact ⟨nonneg_of_wf h2.1, nonneg_of_wf h2.2.1, nonneg_of_wf h2.2.2.1, nonneg_of_wf h2.2.2.2.1, nonneg_of_wf h2.2.2.2.2.1⟩
theorem law3 (xs : List KV) (h : argsOk Try.prog [28, 31] xs = true) (hw : wfKs xs) (_ : deepKs Try.prog xs) : pureK Try.prog cfg3 9 9 3 xs = some (.bool true) := by
  obtain ⟨i, vs, rfl, h⟩ := argI h
  obtain ⟨s, vs, rfl, h⟩ := argS h
  cases args0 h
  exact run3 i (bytes_of (l := [.agg (cInherit i)]) hw)
end Go.Proofs.Ytadjalkkhkkdiaa.st
