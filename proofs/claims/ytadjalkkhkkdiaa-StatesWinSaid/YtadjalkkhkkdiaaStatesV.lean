/-
  Chapter 07: whose value a thing has, whole.
-/
import Derived.Test.YtadjalkkhkkdiaaStatesW
namespace Go.Proofs.Ytadjalkkhkkdiaa.st
open Go.K
def freeV (acc : Nat → KV) (k n : Nat) : Int := goFree acc k n 0 (-1)
def seekV (acc : Nat → KV) (k n : Nat) : Seek := goLast acc k (n - (freeV acc k n + 1).toNat) (freeV acc k n + 1).toNat (freeV acc k n)
def lastV (acc : Nat → KV) (k n : Nat) : Int := cond (seekV acc k n).found (seekV acc k n).at_ (seekV acc k n).last
def whoseV (acc : Nat → KV) (k n : Nat) : Int := cond (decide (freeV acc k n ≥ 0)) (cond (sayOf acc (freeV acc k n).toNat k == 7) (freeV acc k n) (lastV acc k n)) (lastV acc k n)
theorem free_bound (acc : Nat → KV) (k : Nat) : ∀ (r j : Nat) (a : Int), -1 ≤ a → a < (j : Int) → -1 ≤ goFree acc k r j a ∧ goFree acc k r j a < ((j + r : Nat) : Int)
  | 0, j, a, h1, h2 => ⟨h1, by simpa [goFree] using h2⟩
  | r + 1, j, a, h1, h2 => by
    unfold goFree
    have e : ((j + (r + 1) : Nat) : Int) = ((j + 1 + r : Nat) : Int) := by omega
    rw [e]
    cases decide (sayOf acc j k ≥ 4) with
    | true => exact free_bound acc k r (j + 1) j (by omega) (by omega)
    | false => exact free_bound acc k r (j + 1) a h1 (by omega)
theorem freeV_bound (acc : Nat → KV) (k n : Nat) : -1 ≤ freeV acc k n ∧ freeV acc k n < (n : Int) := by
  have := free_bound acc k n 0 (-1) (by omega) (by omega)
  rw [Nat.zero_add] at this
  exact this
theorem wrap_free {f : Int} {n : Nat} (h1 : -1 ≤ f) (h2 : f < (n : Int)) (hn : n ≤ 128) : IntKind.i64.wrap (f + 1) = f + 1 := by
  have h1' : (f + 1) % (2 ^ IntKind.i64.bits : Int) = f + 1 := Int.emod_eq_of_lt (by omega) (by show f + 1 < 18446744073709551616; omega)
  unfold IntKind.wrap
  simp only [h1']
  rw [if_neg]
  intro hc
  simp only [Bool.and_eq_true, decide_eq_true_eq] at hc
  have : f + 1 ≥ 9223372036854775808 := hc.2
  omega
noncomputable section

theorem rest21_0_is (n : Nat) (acc : Nat → KV) (hn : n ≤ 128) : rest21_0 n acc = some (.int .i64 (lastV acc 0 n)) := by
  obtain ⟨h1, h2⟩ := freeV_bound acc 0 n
  have hw := wrap_free h1 h2 hn
  have hb : Nat.ble n 128 = true := Nat.ble_eq_true_of_le hn
  unfold rest21_0 lastV seekV
  unfold freeV at h1 h2 hw ⊢
  rw [hw, hb, decide_eq_true (show (0 : Int) ≤ goFree acc 0 n 0 (-1) + 1 by omega), decide_eq_true (show goFree acc 0 n 0 (-1) + 1 ≤ (n : Int) by omega)]
  simp only [cond_true]
  cases (goLast acc 0 (n - (goFree acc 0 n 0 (-1) + 1).toNat) (goFree acc 0 n 0 (-1) + 1).toNat (goFree acc 0 n 0 (-1))).found <;> rfl
theorem run21_0 (n : Nat) (es : List KV) (acc : Nat → KV) (hn : n ≤ 128) : pureK Try.prog cfgW 9 9 21 [.ts 31 .any n es acc, .int .i64 0] = some (.int .i64 (whoseV acc 0 n)) := by
  obtain ⟨h1, h2⟩ := freeV_bound acc 0 n
  have hb : Nat.ble n 128 = true := Nat.ble_eq_true_of_le hn
  rw [tree21_0, rest21_0_is n acc hn, hb, cond_true]
  unfold whoseV
  unfold freeV at h1 h2 ⊢
  by_cases h : goFree acc 0 n 0 (-1) ≥ 0
  · rw [decide_eq_true h, decide_eq_true h2]
    simp only [cond_true, Bool.and_self]
    cases sayOf acc (goFree acc 0 n 0 (-1)).toNat 0 == 7 <;> rfl
  · rw [decide_eq_false h]
    rfl
theorem rest21_1_is (n : Nat) (acc : Nat → KV) (hn : n ≤ 128) : rest21_1 n acc = some (.int .i64 (lastV acc 1 n)) := by
  obtain ⟨h1, h2⟩ := freeV_bound acc 1 n
  have hw := wrap_free h1 h2 hn
  have hb : Nat.ble n 128 = true := Nat.ble_eq_true_of_le hn
  unfold rest21_1 lastV seekV
  unfold freeV at h1 h2 hw ⊢
  rw [hw, hb, decide_eq_true (show (0 : Int) ≤ goFree acc 1 n 0 (-1) + 1 by omega), decide_eq_true (show goFree acc 1 n 0 (-1) + 1 ≤ (n : Int) by omega)]
  simp only [cond_true]
  cases (goLast acc 1 (n - (goFree acc 1 n 0 (-1) + 1).toNat) (goFree acc 1 n 0 (-1) + 1).toNat (goFree acc 1 n 0 (-1))).found <;> rfl
theorem run21_1 (n : Nat) (es : List KV) (acc : Nat → KV) (hn : n ≤ 128) : pureK Try.prog cfgW 9 9 21 [.ts 31 .any n es acc, .int .i64 1] = some (.int .i64 (whoseV acc 1 n)) := by
  obtain ⟨h1, h2⟩ := freeV_bound acc 1 n
  have hb : Nat.ble n 128 = true := Nat.ble_eq_true_of_le hn
  rw [tree21_1, rest21_1_is n acc hn, hb, cond_true]
  unfold whoseV
  unfold freeV at h1 h2 ⊢
  by_cases h : goFree acc 1 n 0 (-1) ≥ 0
  · rw [decide_eq_true h, decide_eq_true h2]
    simp only [cond_true, Bool.and_self]
    cases sayOf acc (goFree acc 1 n 0 (-1)).toNat 1 == 7 <;> rfl
  · rw [decide_eq_false h]
    rfl
theorem rest21_2_is (n : Nat) (acc : Nat → KV) (hn : n ≤ 128) : rest21_2 n acc = some (.int .i64 (lastV acc 2 n)) := by
  obtain ⟨h1, h2⟩ := freeV_bound acc 2 n
  have hw := wrap_free h1 h2 hn
  have hb : Nat.ble n 128 = true := Nat.ble_eq_true_of_le hn
  unfold rest21_2 lastV seekV
  unfold freeV at h1 h2 hw ⊢
  rw [hw, hb, decide_eq_true (show (0 : Int) ≤ goFree acc 2 n 0 (-1) + 1 by omega), decide_eq_true (show goFree acc 2 n 0 (-1) + 1 ≤ (n : Int) by omega)]
  simp only [cond_true]
  cases (goLast acc 2 (n - (goFree acc 2 n 0 (-1) + 1).toNat) (goFree acc 2 n 0 (-1) + 1).toNat (goFree acc 2 n 0 (-1))).found <;> rfl
theorem run21_2 (n : Nat) (es : List KV) (acc : Nat → KV) (hn : n ≤ 128) : pureK Try.prog cfgW 9 9 21 [.ts 31 .any n es acc, .int .i64 2] = some (.int .i64 (whoseV acc 2 n)) := by
  obtain ⟨h1, h2⟩ := freeV_bound acc 2 n
  have hb : Nat.ble n 128 = true := Nat.ble_eq_true_of_le hn
  rw [tree21_2, rest21_2_is n acc hn, hb, cond_true]
  unfold whoseV
  unfold freeV at h1 h2 ⊢
  by_cases h : goFree acc 2 n 0 (-1) ≥ 0
  · rw [decide_eq_true h, decide_eq_true h2]
    simp only [cond_true, Bool.and_self]
    cases sayOf acc (goFree acc 2 n 0 (-1)).toNat 2 == 7 <;> rfl
  · rw [decide_eq_false h]
    rfl
theorem rest21_3_is (n : Nat) (acc : Nat → KV) (hn : n ≤ 128) : rest21_3 n acc = some (.int .i64 (lastV acc 3 n)) := by
  obtain ⟨h1, h2⟩ := freeV_bound acc 3 n
  have hw := wrap_free h1 h2 hn
  have hb : Nat.ble n 128 = true := Nat.ble_eq_true_of_le hn
  unfold rest21_3 lastV seekV
  unfold freeV at h1 h2 hw ⊢
  rw [hw, hb, decide_eq_true (show (0 : Int) ≤ goFree acc 3 n 0 (-1) + 1 by omega), decide_eq_true (show goFree acc 3 n 0 (-1) + 1 ≤ (n : Int) by omega)]
  simp only [cond_true]
  cases (goLast acc 3 (n - (goFree acc 3 n 0 (-1) + 1).toNat) (goFree acc 3 n 0 (-1) + 1).toNat (goFree acc 3 n 0 (-1))).found <;> rfl
theorem run21_3 (n : Nat) (es : List KV) (acc : Nat → KV) (hn : n ≤ 128) : pureK Try.prog cfgW 9 9 21 [.ts 31 .any n es acc, .int .i64 3] = some (.int .i64 (whoseV acc 3 n)) := by
  obtain ⟨h1, h2⟩ := freeV_bound acc 3 n
  have hb : Nat.ble n 128 = true := Nat.ble_eq_true_of_le hn
  rw [tree21_3, rest21_3_is n acc hn, hb, cond_true]
  unfold whoseV
  unfold freeV at h1 h2 ⊢
  by_cases h : goFree acc 3 n 0 (-1) ≥ 0
  · rw [decide_eq_true h, decide_eq_true h2]
    simp only [cond_true, Bool.and_self]
    cases sayOf acc (goFree acc 3 n 0 (-1)).toNat 3 == 7 <;> rfl
  · rw [decide_eq_false h]
    rfl
theorem rest21_4_is (n : Nat) (acc : Nat → KV) (hn : n ≤ 128) : rest21_4 n acc = some (.int .i64 (lastV acc 4 n)) := by
  obtain ⟨h1, h2⟩ := freeV_bound acc 4 n
  have hw := wrap_free h1 h2 hn
  have hb : Nat.ble n 128 = true := Nat.ble_eq_true_of_le hn
  unfold rest21_4 lastV seekV
  unfold freeV at h1 h2 hw ⊢
  rw [hw, hb, decide_eq_true (show (0 : Int) ≤ goFree acc 4 n 0 (-1) + 1 by omega), decide_eq_true (show goFree acc 4 n 0 (-1) + 1 ≤ (n : Int) by omega)]
  simp only [cond_true]
  cases (goLast acc 4 (n - (goFree acc 4 n 0 (-1) + 1).toNat) (goFree acc 4 n 0 (-1) + 1).toNat (goFree acc 4 n 0 (-1))).found <;> rfl
theorem run21_4 (n : Nat) (es : List KV) (acc : Nat → KV) (hn : n ≤ 128) : pureK Try.prog cfgW 9 9 21 [.ts 31 .any n es acc, .int .i64 4] = some (.int .i64 (whoseV acc 4 n)) := by
  obtain ⟨h1, h2⟩ := freeV_bound acc 4 n
  have hb : Nat.ble n 128 = true := Nat.ble_eq_true_of_le hn
  rw [tree21_4, rest21_4_is n acc hn, hb, cond_true]
  unfold whoseV
  unfold freeV at h1 h2 ⊢
  by_cases h : goFree acc 4 n 0 (-1) ≥ 0
  · rw [decide_eq_true h, decide_eq_true h2]
    simp only [cond_true, Bool.and_self]
    cases sayOf acc (goFree acc 4 n 0 (-1)).toNat 4 == 7 <;> rfl
  · rw [decide_eq_false h]
    rfl
theorem run21 {k : Nat} (hk : k < 5) (n : Nat) (es : List KV) (acc : Nat → KV) (hn : n ≤ 128) : pureK Try.prog cfgW 9 9 21 [.ts 31 .any n es acc, .int .i64 k] = some (.int .i64 (whoseV acc k n)) := by
  match k, hk with
  | 0, _ => exact run21_0 n es acc hn
  | 1, _ => exact run21_1 n es acc hn
  | 2, _ => exact run21_2 n es acc hn
  | 3, _ => exact run21_3 n es acc hn
  | 4, _ => exact run21_4 n es acc hn
theorem par21 : paramsOf Try.prog 21 = [48, 3] := by kernel_rfl
def q21 : List KV → Option KV := guardF Try.prog 21 fun xs => fT (xs.getD 0 .unk) (fun n _ acc => fI (xs.getD 1 .unk) (fun k => cond (decide (0 ≤ k)) (cond (decide (k < 5)) (cond (Nat.ble n 128) (some (.int .i64 (whoseV acc k.toNat n))) none) none) none) none) none
theorem pure21 : PureOk Try.prog 21 q21 := pure_of funcs mixed cfgW_pc lpsW_ok (L := 9) (n := 9) fun xs v h hv => by
  rw [par21] at h
  obtain ⟨n, es, acc, vs, rfl, h⟩ := argT h
  obtain ⟨k, vs, rfl, h⟩ := argN h
  cases args0 h
  have hv : cond (decide (0 ≤ k)) (cond (decide (k < 5)) (cond (Nat.ble n 128) (some (KV.int .i64 (whoseV acc k.toNat n))) none) none) none = some v := hv
  by_cases h0 : 0 ≤ k
  · by_cases h5 : k < 5
    · cases hn : Nat.ble n 128 with
      | true =>
        obtain ⟨m, rfl⟩ := nat_of h0
        rw [decide_eq_true h0, decide_eq_true h5, hn] at hv
        simp only [cond_true, Int.toNat_natCast] at hv
        rw [← hv]
        exact run21 (by omega) n es acc (Nat.le_of_ble_eq_true hn)
      | false => simp [hn] at hv
    · simp [h5] at hv
  · simp [h0] at hv
end
end Go.Proofs.Ytadjalkkhkkdiaa.st
