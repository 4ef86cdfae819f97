/-
  Chapter 07: whose value a thing has: the plain law.
-/
import Derived.Test.YtadjalkkhkkdiaaStatesY
namespace Go.Proofs.Ytadjalkkhkkdiaa.st
open Go.K
/-- is the thing kept; whose value is it -/
def srcF (acc : Nat → KV) (k : Nat) : Nat → Nat → Bool × Int → Bool × Int
  | 0, _, p => p
  | r + 1, j, p => srcF acc k r (j + 1) (cond (left (sayOf acc j k) p.1) p (over (sayOf acc j k), (j : Int)))
theorem left_kept {x : Int} (h : okSay x = true) (h4 : x < 4) : left x true = true := by
  rcases say_cases h with rfl | rfl | rfl | rfl | rfl <;> first | decide +kernel | omega
theorem left_free {x : Int} (h : okSay x = true) (h4 : x ≥ 4) (b : Bool) : left x b = false := by
  rcases say_cases h with rfl | rfl | rfl | rfl | rfl <;> first | omega | (cases b <;> decide +kernel)
theorem left_not (x : Int) : left x false = (x == 0) := by unfold left; cases x == 0 <;> rfl
theorem src_keep (acc : Nat → KV) (k : Nat) : ∀ (r j : Nat) (a : Int), (∀ i, j ≤ i → i < j + r → okSay (sayOf acc i k) = true ∧ sayOf acc i k < 4) → srcF acc k r j (true, a) = (true, a)
  | 0, _, _, _ => rfl
  | r + 1, j, a, h => by
    obtain ⟨h1, h2⟩ := h j (by omega) (by omega)
    unfold srcF
    rw [left_kept h1 h2]
    exact src_keep acc k r (j + 1) a fun i hi hr => h i (by omega) (by omega)
theorem src_seek (acc : Nat → KV) (k : Nat) : ∀ (r j : Nat) (a : Int), (∀ i, j ≤ i → i < j + r → okSay (sayOf acc i k) = true ∧ sayOf acc i k < 4) → (srcF acc k r j (false, a)).2 = cond (goLast acc k r j a).found ((goLast acc k r j a).at_ : Int) (goLast acc k r j a).last
  | 0, _, _, _ => rfl
  | r + 1, j, a, h => by
    obtain ⟨h1, h2⟩ := h j (by omega) (by omega)
    have hr : ∀ i, j + 1 ≤ i → i < j + 1 + r → okSay (sayOf acc i k) = true ∧ sayOf acc i k < 4 := fun i hi hr => h i (by omega) (by omega)
    unfold srcF goLast
    rw [left_not]
    rcases say_cases h1 with e | e | e | e | e
    · rw [e]; exact src_seek acc k r (j + 1) a hr
    · rw [e]; exact src_seek acc k r (j + 1) j hr
    · rw [e]
      show (srcF acc k r (j + 1) (over 3, (j : Int))).2 = (j : Int)
      rw [show over 3 = true by decide +kernel, src_keep acc k r (j + 1) j hr]
    · omega
    · omega
theorem src_free (acc : Nat → KV) (k : Nat) : ∀ (r j : Nat) (p : Bool × Int) (a : Int), (∀ i, j ≤ i → i < j + r → okSay (sayOf acc i k) = true) →
    (goFree acc k r j a = a ∧ ∀ i, j ≤ i → i < j + r → sayOf acc i k < 4) ∨ ∃ m : Nat, j ≤ m ∧ m < j + r ∧ goFree acc k r j a = (m : Int) ∧ sayOf acc m k ≥ 4 ∧ (∀ i, m < i → i < j + r → sayOf acc i k < 4) ∧ srcF acc k r j p = srcF acc k (j + r - (m + 1)) (m + 1) (over (sayOf acc m k), (m : Int))
  | 0, _, _, _, _ => .inl ⟨rfl, fun i hi hr => by omega⟩
  | r + 1, j, p, a, h => by
    have hj := h j (by omega) (by omega)
    have hr : ∀ i, j + 1 ≤ i → i < j + 1 + r → okSay (sayOf acc i k) = true := fun i hi hr => h i (by omega) (by omega)
    have e : j + (r + 1) = j + 1 + r := by omega
    have hs : srcF acc k (r + 1) j p = srcF acc k r (j + 1) (cond (left (sayOf acc j k) p.1) p (over (sayOf acc j k), (j : Int))) := rfl
    have hf : goFree acc k (r + 1) j a = goFree acc k r (j + 1) (cond (decide (sayOf acc j k ≥ 4)) (j : Int) a) := rfl
    rw [e, hs, hf]
    by_cases h4 : sayOf acc j k ≥ 4
    · rw [decide_eq_true h4, left_free hj h4]
      simp only [cond_true, cond_false]
      rcases src_free acc k r (j + 1) (over (sayOf acc j k), (j : Int)) j hr with ⟨h1, h2⟩ | ⟨m, h1, h2, h3, h5, h6, h7⟩
      · exact .inr ⟨j, by omega, by omega, h1, h4, fun i hi hr => h2 i (by omega) hr, by rw [show j + 1 + r - (j + 1) = r by omega]⟩
      · exact .inr ⟨m, by omega, h2, h3, h5, h6, h7⟩
    · rw [decide_eq_false h4]
      simp only [cond_false]
      rcases src_free acc k r (j + 1) (cond (left (sayOf acc j k) p.1) p (over (sayOf acc j k), (j : Int))) a hr with ⟨h1, h2⟩ | ⟨m, h1, h2, h3, h5, h6, h7⟩
      · refine .inl ⟨h1, fun i hi hr => ?_⟩
        by_cases hij : i = j
        · subst hij; omega
        · exact h2 i (by omega) hr
      · exact .inr ⟨m, by omega, h2, h3, h5, h6, h7⟩
theorem src_whose (acc : Nat → KV) (k n : Nat) (h : ∀ i, i < n → okSay (sayOf acc i k) = true) : (srcF acc k n 0 (false, -1)).2 = whoseV acc k n := by
  have h' : ∀ i, 0 ≤ i → i < 0 + n → okSay (sayOf acc i k) = true := fun i _ hi => h i (by omega)
  rcases src_free acc k n 0 (false, -1) (-1) h' with ⟨h1, h2⟩ | ⟨m, h1, h2, h3, h5, h6, h7⟩
  · have hf : freeV acc k n = -1 := h1
    rw [src_seek acc k n 0 (-1) fun i hi hr => ⟨h' i hi hr, h2 i hi hr⟩]
    unfold whoseV lastV seekV
    rw [hf]
    rfl
  · have hf : freeV acc k n = (m : Int) := h3
    have hm := h' m (by omega) h2
    have hrest : ∀ i, m + 1 ≤ i → i < m + 1 + (0 + n - (m + 1)) → okSay (sayOf acc i k) = true ∧ sayOf acc i k < 4 := fun i hi hr => ⟨h' i (by omega) (by omega), h6 i (by omega) (by omega)⟩
    rw [h7]
    unfold whoseV
    rw [hf, decide_eq_true (show (m : Int) ≥ 0 by omega), Int.toNat_natCast, cond_true]
    rcases say_cases hm with e | e | e | e | e
    · omega
    · omega
    · omega
    · have e2 : (sayOf acc m k == 7) = false := by rw [e]; rfl
      rw [e2, cond_false, e, show over 5 = false by decide +kernel, src_seek acc k _ _ _ hrest]
      unfold lastV seekV
      rw [hf, show ((m : Int) + 1).toNat = m + 1 by omega, Nat.zero_add]
    · have e2 : (sayOf acc m k == 7) = true := by rw [e]; rfl
      rw [e2, cond_true, e, show over 7 = true by decide +kernel, src_keep acc k _ _ _ hrest]
end Go.Proofs.Ytadjalkkhkkdiaa.st
