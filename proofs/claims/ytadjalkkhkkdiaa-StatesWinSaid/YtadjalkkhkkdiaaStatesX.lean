/-
  Chapter 07: whose value each thing has: one round of the law's loop.
-/
import Derived.Test.YtadjalkkhkkdiaaStatesV
namespace Go.Proofs.Ytadjalkkhkkdiaa.st
open Go.K
def S6 : LSpec := ⟨[(0, dStyles), (2, dBool), (6, dI64)], [(4, ckK kLook, 1)], [(4, 0, 0)]⟩
noncomputable section
def pcs6 : List (Nat × (List KV → Option KV)) := [(22, q22), (14, q14)]
def cfg6 : Cfg := ⟨pcOf pcs6, lpOf lpsW⟩
theorem cfg6_pc : PcOk Try.prog cfg6.pc := pc_all fun p hp => by
  simp only [pcs6, List.mem_cons, List.not_mem_nil, or_false] at hp
  rcases hp with rfl | rfl
  · exact pure22
  · exact pure14
theorem cfg6_lp : LpAll Try.prog cfg6 := lpsW_ok
def rd6 : List KV → List (List KV) → Option (Abs.AExit × List KV × List (List KV)) := roundK Try.prog cfg6 9 9 6 506 (bodyOf Try.prog 6 506) S6
def st6 (e : Abs.AExit) (n : Nat) (es : List KV) (acc : Nat → KV) (k : Int) (x : Look) : Option (Abs.AExit × List KV × List (List KV)) := some (e, [.ts 31 .any n es acc, .bool false, .int .i64 k], [cLook x])

def turn6_0 (n : Nat) (es : List KV) (acc : Nat → KV) (x : Look) (w : Int) : Option (Abs.AExit × List KV × List (List KV)) := cond (decide (w ≥ 0)) (cond (decide (0 ≤ w) && decide (w < (n : Int))) (cond (!sameTh (thing x 0) (thing (sAt acc w.toNat).look 0)) (st6 .ret n es acc 0 x) (st6 .normal n es acc 1 x)) none) (cond (!sameTh (thing x 0) (thing begin.look 0)) (st6 .ret n es acc 0 x) (st6 .normal n es acc 1 x))
def rest6_0 (n : Nat) (es : List KV) (acc : Nat → KV) (x : Look) : Option (Abs.AExit × List KV × List (List KV)) := cond (decide (0 ≤ (IntKind.i64.wrap ((goFree acc 0 n 0 (-1)) + 1)))) (cond (decide ((IntKind.i64.wrap ((goFree acc 0 n 0 (-1)) + 1)) ≤ (n : Int))) (cond (Nat.ble n 128) (cond (goLast acc 0 (n - (IntKind.i64.wrap ((goFree acc 0 n 0 (-1)) + 1)).toNat) (IntKind.i64.wrap ((goFree acc 0 n 0 (-1)) + 1)).toNat (goFree acc 0 n 0 (-1))).found (turn6_0 n es acc x (goLast acc 0 (n - (IntKind.i64.wrap ((goFree acc 0 n 0 (-1)) + 1)).toNat) (IntKind.i64.wrap ((goFree acc 0 n 0 (-1)) + 1)).toNat (goFree acc 0 n 0 (-1))).at_) (turn6_0 n es acc x (goLast acc 0 (n - (IntKind.i64.wrap ((goFree acc 0 n 0 (-1)) + 1)).toNat) (IntKind.i64.wrap ((goFree acc 0 n 0 (-1)) + 1)).toNat (goFree acc 0 n 0 (-1))).last)) none) none) none
theorem tree6_0 (n : Nat) (es : List KV) (acc : Nat → KV) (x : Look) : rd6 [.ts 31 .any n es acc, .bool false, .int .i64 0] [cLook x] = cond (Nat.ble n 128) (cond (decide ((goFree acc 0 n 0 (-1)) ≥ 0)) (cond (decide (0 ≤ (goFree acc 0 n 0 (-1))) && decide ((goFree acc 0 n 0 (-1)) < (n : Int))) (cond (sayOf acc (goFree acc 0 n 0 (-1)).toNat 0 == 7) (turn6_0 n es acc x (goFree acc 0 n 0 (-1))) (rest6_0 n es acc x)) none) (rest6_0 n es acc x)) none := by kernel_rfl
def turn6_1 (n : Nat) (es : List KV) (acc : Nat → KV) (x : Look) (w : Int) : Option (Abs.AExit × List KV × List (List KV)) := cond (decide (w ≥ 0)) (cond (decide (0 ≤ w) && decide (w < (n : Int))) (cond (!sameTh (thing x 1) (thing (sAt acc w.toNat).look 1)) (st6 .ret n es acc 1 x) (st6 .normal n es acc 2 x)) none) (cond (!sameTh (thing x 1) (thing begin.look 1)) (st6 .ret n es acc 1 x) (st6 .normal n es acc 2 x))
def rest6_1 (n : Nat) (es : List KV) (acc : Nat → KV) (x : Look) : Option (Abs.AExit × List KV × List (List KV)) := cond (decide (0 ≤ (IntKind.i64.wrap ((goFree acc 1 n 0 (-1)) + 1)))) (cond (decide ((IntKind.i64.wrap ((goFree acc 1 n 0 (-1)) + 1)) ≤ (n : Int))) (cond (Nat.ble n 128) (cond (goLast acc 1 (n - (IntKind.i64.wrap ((goFree acc 1 n 0 (-1)) + 1)).toNat) (IntKind.i64.wrap ((goFree acc 1 n 0 (-1)) + 1)).toNat (goFree acc 1 n 0 (-1))).found (turn6_1 n es acc x (goLast acc 1 (n - (IntKind.i64.wrap ((goFree acc 1 n 0 (-1)) + 1)).toNat) (IntKind.i64.wrap ((goFree acc 1 n 0 (-1)) + 1)).toNat (goFree acc 1 n 0 (-1))).at_) (turn6_1 n es acc x (goLast acc 1 (n - (IntKind.i64.wrap ((goFree acc 1 n 0 (-1)) + 1)).toNat) (IntKind.i64.wrap ((goFree acc 1 n 0 (-1)) + 1)).toNat (goFree acc 1 n 0 (-1))).last)) none) none) none
theorem tree6_1 (n : Nat) (es : List KV) (acc : Nat → KV) (x : Look) : rd6 [.ts 31 .any n es acc, .bool false, .int .i64 1] [cLook x] = cond (Nat.ble n 128) (cond (decide ((goFree acc 1 n 0 (-1)) ≥ 0)) (cond (decide (0 ≤ (goFree acc 1 n 0 (-1))) && decide ((goFree acc 1 n 0 (-1)) < (n : Int))) (cond (sayOf acc (goFree acc 1 n 0 (-1)).toNat 1 == 7) (turn6_1 n es acc x (goFree acc 1 n 0 (-1))) (rest6_1 n es acc x)) none) (rest6_1 n es acc x)) none := by kernel_rfl
def turn6_2 (n : Nat) (es : List KV) (acc : Nat → KV) (x : Look) (w : Int) : Option (Abs.AExit × List KV × List (List KV)) := cond (decide (w ≥ 0)) (cond (decide (0 ≤ w) && decide (w < (n : Int))) (cond (!sameTh (thing x 2) (thing (sAt acc w.toNat).look 2)) (st6 .ret n es acc 2 x) (st6 .normal n es acc 3 x)) none) (cond (!sameTh (thing x 2) (thing begin.look 2)) (st6 .ret n es acc 2 x) (st6 .normal n es acc 3 x))
def rest6_2 (n : Nat) (es : List KV) (acc : Nat → KV) (x : Look) : Option (Abs.AExit × List KV × List (List KV)) := cond (decide (0 ≤ (IntKind.i64.wrap ((goFree acc 2 n 0 (-1)) + 1)))) (cond (decide ((IntKind.i64.wrap ((goFree acc 2 n 0 (-1)) + 1)) ≤ (n : Int))) (cond (Nat.ble n 128) (cond (goLast acc 2 (n - (IntKind.i64.wrap ((goFree acc 2 n 0 (-1)) + 1)).toNat) (IntKind.i64.wrap ((goFree acc 2 n 0 (-1)) + 1)).toNat (goFree acc 2 n 0 (-1))).found (turn6_2 n es acc x (goLast acc 2 (n - (IntKind.i64.wrap ((goFree acc 2 n 0 (-1)) + 1)).toNat) (IntKind.i64.wrap ((goFree acc 2 n 0 (-1)) + 1)).toNat (goFree acc 2 n 0 (-1))).at_) (turn6_2 n es acc x (goLast acc 2 (n - (IntKind.i64.wrap ((goFree acc 2 n 0 (-1)) + 1)).toNat) (IntKind.i64.wrap ((goFree acc 2 n 0 (-1)) + 1)).toNat (goFree acc 2 n 0 (-1))).last)) none) none) none
theorem tree6_2 (n : Nat) (es : List KV) (acc : Nat → KV) (x : Look) : rd6 [.ts 31 .any n es acc, .bool false, .int .i64 2] [cLook x] = cond (Nat.ble n 128) (cond (decide ((goFree acc 2 n 0 (-1)) ≥ 0)) (cond (decide (0 ≤ (goFree acc 2 n 0 (-1))) && decide ((goFree acc 2 n 0 (-1)) < (n : Int))) (cond (sayOf acc (goFree acc 2 n 0 (-1)).toNat 2 == 7) (turn6_2 n es acc x (goFree acc 2 n 0 (-1))) (rest6_2 n es acc x)) none) (rest6_2 n es acc x)) none := by kernel_rfl
def turn6_3 (n : Nat) (es : List KV) (acc : Nat → KV) (x : Look) (w : Int) : Option (Abs.AExit × List KV × List (List KV)) := cond (decide (w ≥ 0)) (cond (decide (0 ≤ w) && decide (w < (n : Int))) (cond (!sameTh (thing x 3) (thing (sAt acc w.toNat).look 3)) (st6 .ret n es acc 3 x) (st6 .normal n es acc 4 x)) none) (cond (!sameTh (thing x 3) (thing begin.look 3)) (st6 .ret n es acc 3 x) (st6 .normal n es acc 4 x))
def rest6_3 (n : Nat) (es : List KV) (acc : Nat → KV) (x : Look) : Option (Abs.AExit × List KV × List (List KV)) := cond (decide (0 ≤ (IntKind.i64.wrap ((goFree acc 3 n 0 (-1)) + 1)))) (cond (decide ((IntKind.i64.wrap ((goFree acc 3 n 0 (-1)) + 1)) ≤ (n : Int))) (cond (Nat.ble n 128) (cond (goLast acc 3 (n - (IntKind.i64.wrap ((goFree acc 3 n 0 (-1)) + 1)).toNat) (IntKind.i64.wrap ((goFree acc 3 n 0 (-1)) + 1)).toNat (goFree acc 3 n 0 (-1))).found (turn6_3 n es acc x (goLast acc 3 (n - (IntKind.i64.wrap ((goFree acc 3 n 0 (-1)) + 1)).toNat) (IntKind.i64.wrap ((goFree acc 3 n 0 (-1)) + 1)).toNat (goFree acc 3 n 0 (-1))).at_) (turn6_3 n es acc x (goLast acc 3 (n - (IntKind.i64.wrap ((goFree acc 3 n 0 (-1)) + 1)).toNat) (IntKind.i64.wrap ((goFree acc 3 n 0 (-1)) + 1)).toNat (goFree acc 3 n 0 (-1))).last)) none) none) none
theorem tree6_3 (n : Nat) (es : List KV) (acc : Nat → KV) (x : Look) : rd6 [.ts 31 .any n es acc, .bool false, .int .i64 3] [cLook x] = cond (Nat.ble n 128) (cond (decide ((goFree acc 3 n 0 (-1)) ≥ 0)) (cond (decide (0 ≤ (goFree acc 3 n 0 (-1))) && decide ((goFree acc 3 n 0 (-1)) < (n : Int))) (cond (sayOf acc (goFree acc 3 n 0 (-1)).toNat 3 == 7) (turn6_3 n es acc x (goFree acc 3 n 0 (-1))) (rest6_3 n es acc x)) none) (rest6_3 n es acc x)) none := by kernel_rfl
def turn6_4 (n : Nat) (es : List KV) (acc : Nat → KV) (x : Look) (w : Int) : Option (Abs.AExit × List KV × List (List KV)) := cond (decide (w ≥ 0)) (cond (decide (0 ≤ w) && decide (w < (n : Int))) (cond (!sameTh (thing x 4) (thing (sAt acc w.toNat).look 4)) (st6 .ret n es acc 4 x) (st6 .normal n es acc 5 x)) none) (cond (!sameTh (thing x 4) (thing begin.look 4)) (st6 .ret n es acc 4 x) (st6 .normal n es acc 5 x))
def rest6_4 (n : Nat) (es : List KV) (acc : Nat → KV) (x : Look) : Option (Abs.AExit × List KV × List (List KV)) := cond (decide (0 ≤ (IntKind.i64.wrap ((goFree acc 4 n 0 (-1)) + 1)))) (cond (decide ((IntKind.i64.wrap ((goFree acc 4 n 0 (-1)) + 1)) ≤ (n : Int))) (cond (Nat.ble n 128) (cond (goLast acc 4 (n - (IntKind.i64.wrap ((goFree acc 4 n 0 (-1)) + 1)).toNat) (IntKind.i64.wrap ((goFree acc 4 n 0 (-1)) + 1)).toNat (goFree acc 4 n 0 (-1))).found (turn6_4 n es acc x (goLast acc 4 (n - (IntKind.i64.wrap ((goFree acc 4 n 0 (-1)) + 1)).toNat) (IntKind.i64.wrap ((goFree acc 4 n 0 (-1)) + 1)).toNat (goFree acc 4 n 0 (-1))).at_) (turn6_4 n es acc x (goLast acc 4 (n - (IntKind.i64.wrap ((goFree acc 4 n 0 (-1)) + 1)).toNat) (IntKind.i64.wrap ((goFree acc 4 n 0 (-1)) + 1)).toNat (goFree acc 4 n 0 (-1))).last)) none) none) none
theorem tree6_4 (n : Nat) (es : List KV) (acc : Nat → KV) (x : Look) : rd6 [.ts 31 .any n es acc, .bool false, .int .i64 4] [cLook x] = cond (Nat.ble n 128) (cond (decide ((goFree acc 4 n 0 (-1)) ≥ 0)) (cond (decide (0 ≤ (goFree acc 4 n 0 (-1))) && decide ((goFree acc 4 n 0 (-1)) < (n : Int))) (cond (sayOf acc (goFree acc 4 n 0 (-1)).toNat 4 == 7) (turn6_4 n es acc x (goFree acc 4 n 0 (-1))) (rest6_4 n es acc x)) none) (rest6_4 n es acc x)) none := by kernel_rfl
theorem tree6_5 (n : Nat) (es : List KV) (acc : Nat → KV) (x : Look) : rd6 [.ts 31 .any n es acc, .bool false, .int .i64 5] [cLook x] = st6 (.exit 0) n es acc 5 x := by kernel_rfl
theorem last_bound (acc : Nat → KV) (k : Nat) : ∀ (r j : Nat) (a : Int), -1 ≤ a → a < (j : Int) → -1 ≤ (goLast acc k r j a).last ∧ (goLast acc k r j a).last < ((j + r : Nat) : Int) ∧ ((goLast acc k r j a).found = true → (goLast acc k r j a).at_ < j + r)
  | 0, j, a, h1, h2 => ⟨h1, by simpa [goLast] using h2, fun h => by simp [goLast] at h⟩
  | r + 1, j, a, h1, h2 => by
    unfold goLast
    have e : j + (r + 1) = j + 1 + r := by omega
    rw [e]
    cases sayOf acc j k == 3 with
    | true => exact ⟨h1, by simp only [cond_true]; omega, fun _ => by simp only [cond_true]; omega⟩
    | false =>
      rw [cond_false]
      cases decide (sayOf acc j k > 0) with
      | true => exact last_bound acc k r (j + 1) j (by omega) (by omega)
      | false => exact last_bound acc k r (j + 1) a h1 (by omega)
theorem lastV_bound (acc : Nat → KV) (k n : Nat) : -1 ≤ lastV acc k n ∧ lastV acc k n < (n : Int) := by
  obtain ⟨h1, h2⟩ := freeV_bound acc k n
  have := last_bound acc k (n - (freeV acc k n + 1).toNat) (freeV acc k n + 1).toNat (freeV acc k n) h1 (by omega)
  have e : (freeV acc k n + 1).toNat + (n - (freeV acc k n + 1).toNat) = n := by omega
  rw [e] at this
  obtain ⟨h3, h4, h5⟩ := this
  unfold lastV seekV
  cases hf : (goLast acc k (n - (freeV acc k n + 1).toNat) (freeV acc k n + 1).toNat (freeV acc k n)).found with
  | true => have := h5 hf; simp only [cond_true]; omega
  | false => simp only [cond_false]; omega
theorem whoseV_bound (acc : Nat → KV) (k n : Nat) : -1 ≤ whoseV acc k n ∧ whoseV acc k n < (n : Int) := by
  unfold whoseV
  cases decide (freeV acc k n ≥ 0) with
  | true =>
    cases sayOf acc (freeV acc k n).toNat k == 7 with
    | true => exact freeV_bound acc k n
    | false => exact lastV_bound acc k n
  | false => exact lastV_bound acc k n
/-- the look whose value the thing should have -/
def fromV (acc : Nat → KV) (k n : Nat) : Look := cond (decide (whoseV acc k n ≥ 0)) (sAt acc (whoseV acc k n).toNat).look begin.look
theorem rest6_0_is (n : Nat) (es : List KV) (acc : Nat → KV) (x : Look) (hn : n ≤ 128) : rest6_0 n es acc x = turn6_0 n es acc x (lastV acc 0 n) := by
  obtain ⟨h1, h2⟩ := freeV_bound acc 0 n
  have hw := wrap_free h1 h2 hn
  have hb : Nat.ble n 128 = true := Nat.ble_eq_true_of_le hn
  unfold rest6_0 lastV seekV
  unfold freeV at h1 h2 hw ⊢
  rw [hw, hb, decide_eq_true (show (0 : Int) ≤ goFree acc 0 n 0 (-1) + 1 by omega), decide_eq_true (show goFree acc 0 n 0 (-1) + 1 ≤ (n : Int) by omega)]
  simp only [cond_true]
  cases (goLast acc 0 (n - (goFree acc 0 n 0 (-1) + 1).toNat) (goFree acc 0 n 0 (-1) + 1).toNat (goFree acc 0 n 0 (-1))).found <;> rfl
def badW0 (n : Nat) (acc : Nat → KV) (x : Look) : Bool := !sameTh (thing x 0) (thing (fromV acc 0 n) 0)
theorem round6_0 (n : Nat) (es : List KV) (acc : Nat → KV) (x : Look) (hn : n ≤ 128) : rd6 [.ts 31 .any n es acc, .bool false, .int .i64 0] [cLook x] = cond (badW0 n acc x) (st6 .ret n es acc 0 x) (st6 .normal n es acc 1 x) := by
  obtain ⟨h1, h2⟩ := freeV_bound acc 0 n
  obtain ⟨h3, h4⟩ := whoseV_bound acc 0 n
  have hb : Nat.ble n 128 = true := Nat.ble_eq_true_of_le hn
  have e : rd6 [.ts 31 .any n es acc, .bool false, .int .i64 0] [cLook x] = turn6_0 n es acc x (whoseV acc 0 n) := by
    rw [tree6_0, rest6_0_is n es acc x hn, hb, cond_true]
    unfold whoseV
    unfold freeV at h1 h2 ⊢
    by_cases h : goFree acc 0 n 0 (-1) ≥ 0
    · rw [decide_eq_true h, decide_eq_true h2]
      simp only [cond_true, Bool.and_self]
      cases sayOf acc (goFree acc 0 n 0 (-1)).toNat 0 == 7 <;> rfl
    · rw [decide_eq_false h]
      rfl
  rw [e, turn6_0, badW0, fromV]
  by_cases h : whoseV acc 0 n ≥ 0
  · rw [decide_eq_true h, decide_eq_true h4]
    rfl
  · rw [decide_eq_false h]
    rfl
theorem rest6_1_is (n : Nat) (es : List KV) (acc : Nat → KV) (x : Look) (hn : n ≤ 128) : rest6_1 n es acc x = turn6_1 n es acc x (lastV acc 1 n) := by
  obtain ⟨h1, h2⟩ := freeV_bound acc 1 n
  have hw := wrap_free h1 h2 hn
  have hb : Nat.ble n 128 = true := Nat.ble_eq_true_of_le hn
  unfold rest6_1 lastV seekV
  unfold freeV at h1 h2 hw ⊢
  rw [hw, hb, decide_eq_true (show (0 : Int) ≤ goFree acc 1 n 0 (-1) + 1 by omega), decide_eq_true (show goFree acc 1 n 0 (-1) + 1 ≤ (n : Int) by omega)]
  simp only [cond_true]
  cases (goLast acc 1 (n - (goFree acc 1 n 0 (-1) + 1).toNat) (goFree acc 1 n 0 (-1) + 1).toNat (goFree acc 1 n 0 (-1))).found <;> rfl
def badW1 (n : Nat) (acc : Nat → KV) (x : Look) : Bool := !sameTh (thing x 1) (thing (fromV acc 1 n) 1)
theorem round6_1 (n : Nat) (es : List KV) (acc : Nat → KV) (x : Look) (hn : n ≤ 128) : rd6 [.ts 31 .any n es acc, .bool false, .int .i64 1] [cLook x] = cond (badW1 n acc x) (st6 .ret n es acc 1 x) (st6 .normal n es acc 2 x) := by
  obtain ⟨h1, h2⟩ := freeV_bound acc 1 n
  obtain ⟨h3, h4⟩ := whoseV_bound acc 1 n
  have hb : Nat.ble n 128 = true := Nat.ble_eq_true_of_le hn
  have e : rd6 [.ts 31 .any n es acc, .bool false, .int .i64 1] [cLook x] = turn6_1 n es acc x (whoseV acc 1 n) := by
    rw [tree6_1, rest6_1_is n es acc x hn, hb, cond_true]
    unfold whoseV
    unfold freeV at h1 h2 ⊢
    by_cases h : goFree acc 1 n 0 (-1) ≥ 0
    · rw [decide_eq_true h, decide_eq_true h2]
      simp only [cond_true, Bool.and_self]
      cases sayOf acc (goFree acc 1 n 0 (-1)).toNat 1 == 7 <;> rfl
    · rw [decide_eq_false h]
      rfl
  rw [e, turn6_1, badW1, fromV]
  by_cases h : whoseV acc 1 n ≥ 0
  · rw [decide_eq_true h, decide_eq_true h4]
    rfl
  · rw [decide_eq_false h]
    rfl
theorem rest6_2_is (n : Nat) (es : List KV) (acc : Nat → KV) (x : Look) (hn : n ≤ 128) : rest6_2 n es acc x = turn6_2 n es acc x (lastV acc 2 n) := by
  obtain ⟨h1, h2⟩ := freeV_bound acc 2 n
  have hw := wrap_free h1 h2 hn
  have hb : Nat.ble n 128 = true := Nat.ble_eq_true_of_le hn
  unfold rest6_2 lastV seekV
  unfold freeV at h1 h2 hw ⊢
  rw [hw, hb, decide_eq_true (show (0 : Int) ≤ goFree acc 2 n 0 (-1) + 1 by omega), decide_eq_true (show goFree acc 2 n 0 (-1) + 1 ≤ (n : Int) by omega)]
  simp only [cond_true]
  cases (goLast acc 2 (n - (goFree acc 2 n 0 (-1) + 1).toNat) (goFree acc 2 n 0 (-1) + 1).toNat (goFree acc 2 n 0 (-1))).found <;> rfl
def badW2 (n : Nat) (acc : Nat → KV) (x : Look) : Bool := !sameTh (thing x 2) (thing (fromV acc 2 n) 2)
theorem round6_2 (n : Nat) (es : List KV) (acc : Nat → KV) (x : Look) (hn : n ≤ 128) : rd6 [.ts 31 .any n es acc, .bool false, .int .i64 2] [cLook x] = cond (badW2 n acc x) (st6 .ret n es acc 2 x) (st6 .normal n es acc 3 x) := by
  obtain ⟨h1, h2⟩ := freeV_bound acc 2 n
  obtain ⟨h3, h4⟩ := whoseV_bound acc 2 n
  have hb : Nat.ble n 128 = true := Nat.ble_eq_true_of_le hn
  have e : rd6 [.ts 31 .any n es acc, .bool false, .int .i64 2] [cLook x] = turn6_2 n es acc x (whoseV acc 2 n) := by
    rw [tree6_2, rest6_2_is n es acc x hn, hb, cond_true]
    unfold whoseV
    unfold freeV at h1 h2 ⊢
    by_cases h : goFree acc 2 n 0 (-1) ≥ 0
    · rw [decide_eq_true h, decide_eq_true h2]
      simp only [cond_true, Bool.and_self]
      cases sayOf acc (goFree acc 2 n 0 (-1)).toNat 2 == 7 <;> rfl
    · rw [decide_eq_false h]
      rfl
  rw [e, turn6_2, badW2, fromV]
  by_cases h : whoseV acc 2 n ≥ 0
  · rw [decide_eq_true h, decide_eq_true h4]
    rfl
  · rw [decide_eq_false h]
    rfl
theorem rest6_3_is (n : Nat) (es : List KV) (acc : Nat → KV) (x : Look) (hn : n ≤ 128) : rest6_3 n es acc x = turn6_3 n es acc x (lastV acc 3 n) := by
  obtain ⟨h1, h2⟩ := freeV_bound acc 3 n
  have hw := wrap_free h1 h2 hn
  have hb : Nat.ble n 128 = true := Nat.ble_eq_true_of_le hn
  unfold rest6_3 lastV seekV
  unfold freeV at h1 h2 hw ⊢
  rw [hw, hb, decide_eq_true (show (0 : Int) ≤ goFree acc 3 n 0 (-1) + 1 by omega), decide_eq_true (show goFree acc 3 n 0 (-1) + 1 ≤ (n : Int) by omega)]
  simp only [cond_true]
  cases (goLast acc 3 (n - (goFree acc 3 n 0 (-1) + 1).toNat) (goFree acc 3 n 0 (-1) + 1).toNat (goFree acc 3 n 0 (-1))).found <;> rfl
def badW3 (n : Nat) (acc : Nat → KV) (x : Look) : Bool := !sameTh (thing x 3) (thing (fromV acc 3 n) 3)
theorem round6_3 (n : Nat) (es : List KV) (acc : Nat → KV) (x : Look) (hn : n ≤ 128) : rd6 [.ts 31 .any n es acc, .bool false, .int .i64 3] [cLook x] = cond (badW3 n acc x) (st6 .ret n es acc 3 x) (st6 .normal n es acc 4 x) := by
  obtain ⟨h1, h2⟩ := freeV_bound acc 3 n
  obtain ⟨h3, h4⟩ := whoseV_bound acc 3 n
  have hb : Nat.ble n 128 = true := Nat.ble_eq_true_of_le hn
  have e : rd6 [.ts 31 .any n es acc, .bool false, .int .i64 3] [cLook x] = turn6_3 n es acc x (whoseV acc 3 n) := by
    rw [tree6_3, rest6_3_is n es acc x hn, hb, cond_true]
    unfold whoseV
    unfold freeV at h1 h2 ⊢
    by_cases h : goFree acc 3 n 0 (-1) ≥ 0
    · rw [decide_eq_true h, decide_eq_true h2]
      simp only [cond_true, Bool.and_self]
      cases sayOf acc (goFree acc 3 n 0 (-1)).toNat 3 == 7 <;> rfl
    · rw [decide_eq_false h]
      rfl
  rw [e, turn6_3, badW3, fromV]
  by_cases h : whoseV acc 3 n ≥ 0
  · rw [decide_eq_true h, decide_eq_true h4]
    rfl
  · rw [decide_eq_false h]
    rfl
theorem rest6_4_is (n : Nat) (es : List KV) (acc : Nat → KV) (x : Look) (hn : n ≤ 128) : rest6_4 n es acc x = turn6_4 n es acc x (lastV acc 4 n) := by
  obtain ⟨h1, h2⟩ := freeV_bound acc 4 n
  have hw := wrap_free h1 h2 hn
  have hb : Nat.ble n 128 = true := Nat.ble_eq_true_of_le hn
  unfold rest6_4 lastV seekV
  unfold freeV at h1 h2 hw ⊢
  rw [hw, hb, decide_eq_true (show (0 : Int) ≤ goFree acc 4 n 0 (-1) + 1 by omega), decide_eq_true (show goFree acc 4 n 0 (-1) + 1 ≤ (n : Int) by omega)]
  simp only [cond_true]
  cases (goLast acc 4 (n - (goFree acc 4 n 0 (-1) + 1).toNat) (goFree acc 4 n 0 (-1) + 1).toNat (goFree acc 4 n 0 (-1))).found <;> rfl
def badW4 (n : Nat) (acc : Nat → KV) (x : Look) : Bool := !sameTh (thing x 4) (thing (fromV acc 4 n) 4)
theorem round6_4 (n : Nat) (es : List KV) (acc : Nat → KV) (x : Look) (hn : n ≤ 128) : rd6 [.ts 31 .any n es acc, .bool false, .int .i64 4] [cLook x] = cond (badW4 n acc x) (st6 .ret n es acc 4 x) (st6 .normal n es acc 5 x) := by
  obtain ⟨h1, h2⟩ := freeV_bound acc 4 n
  obtain ⟨h3, h4⟩ := whoseV_bound acc 4 n
  have hb : Nat.ble n 128 = true := Nat.ble_eq_true_of_le hn
  have e : rd6 [.ts 31 .any n es acc, .bool false, .int .i64 4] [cLook x] = turn6_4 n es acc x (whoseV acc 4 n) := by
    rw [tree6_4, rest6_4_is n es acc x hn, hb, cond_true]
    unfold whoseV
    unfold freeV at h1 h2 ⊢
    by_cases h : goFree acc 4 n 0 (-1) ≥ 0
    · rw [decide_eq_true h, decide_eq_true h2]
      simp only [cond_true, Bool.and_self]
      cases sayOf acc (goFree acc 4 n 0 (-1)).toNat 4 == 7 <;> rfl
    · rw [decide_eq_false h]
      rfl
  rw [e, turn6_4, badW4, fromV]
  by_cases h : whoseV acc 4 n ≥ 0
  · rw [decide_eq_true h, decide_eq_true h4]
    rfl
  · rw [decide_eq_false h]
    rfl
end
end Go.Proofs.Ytadjalkkhkkdiaa.st
