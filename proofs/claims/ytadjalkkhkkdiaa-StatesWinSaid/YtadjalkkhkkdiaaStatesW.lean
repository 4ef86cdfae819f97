/-
  Chapter 07: whose value a thing has: one round of each loop.
-/
import Derived.Test.YtadjalkkhkkdiaaStatesM
import Derived.Test.YtadjalkkhkkdiaaStatesQ
namespace Go.Proofs.Ytadjalkkhkkdiaa.st
open Go.K
def SA : LSpec := ⟨[(0, dStyles), (1, dI64), (5, dI64), (6, dI64), (4, dI64)], [], []⟩
def SB : LSpec := ⟨[(0, dStyles), (1, dI64), (8, dI64), (7, dI64), (4, dI64)], [], []⟩
/-- what a place's style says of a thing -/
def sayOf (acc : Nat → KV) (j k : Nat) : Int := intOf ((acc j).cells.getD k .unk)
noncomputable section
def rdA : List KV → List (List KV) → Option (Abs.AExit × List KV × List (List KV)) := roundK Try.prog Cfg.none 9 9 21 58 (bodyOf Try.prog 21 58) SA
def rdB : List KV → List (List KV) → Option (Abs.AExit × List KV × List (List KV)) := roundK Try.prog Cfg.none 9 9 21 506 (bodyOf Try.prog 21 506) SB
def stA (e : Abs.AExit) (n : Nat) (es : List KV) (acc : Nat → KV) (k a i r : Int) : Option (Abs.AExit × List KV × List (List KV)) := some (e, [.ts 31 .any n es acc, .int .i64 k, .int .i64 a, .int .i64 i, .int .i64 r], [])

theorem treeA0 (n : Nat) (es : List KV) (acc : Nat → KV) (a i r : Int) : rdA [.ts 31 .any n es acc, .int .i64 0, .int .i64 a, .int .i64 i, .int .i64 r] [] = cond (decide (i < (n : Int))) (cond (decide (0 ≤ i) && decide (i < (n : Int))) (cond (decide (sayOf acc i.toNat 0 ≥ 4)) (stA .normal n es acc 0 i (IntKind.i64.wrap (i + 1)) r) (stA .normal n es acc 0 a (IntKind.i64.wrap (i + 1)) r)) none) (stA (.exit 0) n es acc 0 a i r) := by kernel_rfl
theorem treeB0 (n : Nat) (es : List KV) (acc : Nat → KV) (i a r : Int) : rdB [.ts 31 .any n es acc, .int .i64 0, .int .i64 i, .int .i64 a, .int .i64 r] [] = cond (decide (i < (n : Int))) (cond (decide (0 ≤ i) && decide (i < (n : Int))) (cond (sayOf acc i.toNat 0 == 3) (stA .ret n es acc 0 i a i) (cond (decide (0 ≤ i) && decide (i < (n : Int))) (cond (decide (sayOf acc i.toNat 0 > 0)) (stA .normal n es acc 0 (IntKind.i64.wrap (i + 1)) i r) (stA .normal n es acc 0 (IntKind.i64.wrap (i + 1)) a r)) none)) none) (stA (.exit 2) n es acc 0 i a r) := by kernel_rfl
theorem treeA1 (n : Nat) (es : List KV) (acc : Nat → KV) (a i r : Int) : rdA [.ts 31 .any n es acc, .int .i64 1, .int .i64 a, .int .i64 i, .int .i64 r] [] = cond (decide (i < (n : Int))) (cond (decide (0 ≤ i) && decide (i < (n : Int))) (cond (decide (sayOf acc i.toNat 1 ≥ 4)) (stA .normal n es acc 1 i (IntKind.i64.wrap (i + 1)) r) (stA .normal n es acc 1 a (IntKind.i64.wrap (i + 1)) r)) none) (stA (.exit 0) n es acc 1 a i r) := by kernel_rfl
theorem treeB1 (n : Nat) (es : List KV) (acc : Nat → KV) (i a r : Int) : rdB [.ts 31 .any n es acc, .int .i64 1, .int .i64 i, .int .i64 a, .int .i64 r] [] = cond (decide (i < (n : Int))) (cond (decide (0 ≤ i) && decide (i < (n : Int))) (cond (sayOf acc i.toNat 1 == 3) (stA .ret n es acc 1 i a i) (cond (decide (0 ≤ i) && decide (i < (n : Int))) (cond (decide (sayOf acc i.toNat 1 > 0)) (stA .normal n es acc 1 (IntKind.i64.wrap (i + 1)) i r) (stA .normal n es acc 1 (IntKind.i64.wrap (i + 1)) a r)) none)) none) (stA (.exit 2) n es acc 1 i a r) := by kernel_rfl
theorem treeA2 (n : Nat) (es : List KV) (acc : Nat → KV) (a i r : Int) : rdA [.ts 31 .any n es acc, .int .i64 2, .int .i64 a, .int .i64 i, .int .i64 r] [] = cond (decide (i < (n : Int))) (cond (decide (0 ≤ i) && decide (i < (n : Int))) (cond (decide (sayOf acc i.toNat 2 ≥ 4)) (stA .normal n es acc 2 i (IntKind.i64.wrap (i + 1)) r) (stA .normal n es acc 2 a (IntKind.i64.wrap (i + 1)) r)) none) (stA (.exit 0) n es acc 2 a i r) := by kernel_rfl
theorem treeB2 (n : Nat) (es : List KV) (acc : Nat → KV) (i a r : Int) : rdB [.ts 31 .any n es acc, .int .i64 2, .int .i64 i, .int .i64 a, .int .i64 r] [] = cond (decide (i < (n : Int))) (cond (decide (0 ≤ i) && decide (i < (n : Int))) (cond (sayOf acc i.toNat 2 == 3) (stA .ret n es acc 2 i a i) (cond (decide (0 ≤ i) && decide (i < (n : Int))) (cond (decide (sayOf acc i.toNat 2 > 0)) (stA .normal n es acc 2 (IntKind.i64.wrap (i + 1)) i r) (stA .normal n es acc 2 (IntKind.i64.wrap (i + 1)) a r)) none)) none) (stA (.exit 2) n es acc 2 i a r) := by kernel_rfl
theorem treeA3 (n : Nat) (es : List KV) (acc : Nat → KV) (a i r : Int) : rdA [.ts 31 .any n es acc, .int .i64 3, .int .i64 a, .int .i64 i, .int .i64 r] [] = cond (decide (i < (n : Int))) (cond (decide (0 ≤ i) && decide (i < (n : Int))) (cond (decide (sayOf acc i.toNat 3 ≥ 4)) (stA .normal n es acc 3 i (IntKind.i64.wrap (i + 1)) r) (stA .normal n es acc 3 a (IntKind.i64.wrap (i + 1)) r)) none) (stA (.exit 0) n es acc 3 a i r) := by kernel_rfl
theorem treeB3 (n : Nat) (es : List KV) (acc : Nat → KV) (i a r : Int) : rdB [.ts 31 .any n es acc, .int .i64 3, .int .i64 i, .int .i64 a, .int .i64 r] [] = cond (decide (i < (n : Int))) (cond (decide (0 ≤ i) && decide (i < (n : Int))) (cond (sayOf acc i.toNat 3 == 3) (stA .ret n es acc 3 i a i) (cond (decide (0 ≤ i) && decide (i < (n : Int))) (cond (decide (sayOf acc i.toNat 3 > 0)) (stA .normal n es acc 3 (IntKind.i64.wrap (i + 1)) i r) (stA .normal n es acc 3 (IntKind.i64.wrap (i + 1)) a r)) none)) none) (stA (.exit 2) n es acc 3 i a r) := by kernel_rfl
theorem treeA4 (n : Nat) (es : List KV) (acc : Nat → KV) (a i r : Int) : rdA [.ts 31 .any n es acc, .int .i64 4, .int .i64 a, .int .i64 i, .int .i64 r] [] = cond (decide (i < (n : Int))) (cond (decide (0 ≤ i) && decide (i < (n : Int))) (cond (decide (sayOf acc i.toNat 4 ≥ 4)) (stA .normal n es acc 4 i (IntKind.i64.wrap (i + 1)) r) (stA .normal n es acc 4 a (IntKind.i64.wrap (i + 1)) r)) none) (stA (.exit 0) n es acc 4 a i r) := by kernel_rfl
theorem treeB4 (n : Nat) (es : List KV) (acc : Nat → KV) (i a r : Int) : rdB [.ts 31 .any n es acc, .int .i64 4, .int .i64 i, .int .i64 a, .int .i64 r] [] = cond (decide (i < (n : Int))) (cond (decide (0 ≤ i) && decide (i < (n : Int))) (cond (sayOf acc i.toNat 4 == 3) (stA .ret n es acc 4 i a i) (cond (decide (0 ≤ i) && decide (i < (n : Int))) (cond (decide (sayOf acc i.toNat 4 > 0)) (stA .normal n es acc 4 (IntKind.i64.wrap (i + 1)) i r) (stA .normal n es acc 4 (IntKind.i64.wrap (i + 1)) a r)) none)) none) (stA (.exit 2) n es acc 4 i a r) := by kernel_rfl
theorem treeA {k : Nat} (hk : k < 5) (n : Nat) (es : List KV) (acc : Nat → KV) (a i r : Int) : rdA [.ts 31 .any n es acc, .int .i64 k, .int .i64 a, .int .i64 i, .int .i64 r] [] = cond (decide (i < (n : Int))) (cond (decide (0 ≤ i) && decide (i < (n : Int))) (cond (decide (sayOf acc i.toNat k ≥ 4)) (stA .normal n es acc k i (IntKind.i64.wrap (i + 1)) r) (stA .normal n es acc k a (IntKind.i64.wrap (i + 1)) r)) none) (stA (.exit 0) n es acc k a i r) := by
  match k, hk with
  | 0, _ => exact treeA0 n es acc a i r
  | 1, _ => exact treeA1 n es acc a i r
  | 2, _ => exact treeA2 n es acc a i r
  | 3, _ => exact treeA3 n es acc a i r
  | 4, _ => exact treeA4 n es acc a i r
theorem treeB {k : Nat} (hk : k < 5) (n : Nat) (es : List KV) (acc : Nat → KV) (i a r : Int) : rdB [.ts 31 .any n es acc, .int .i64 k, .int .i64 i, .int .i64 a, .int .i64 r] [] = cond (decide (i < (n : Int))) (cond (decide (0 ≤ i) && decide (i < (n : Int))) (cond (sayOf acc i.toNat k == 3) (stA .ret n es acc k i a i) (cond (decide (0 ≤ i) && decide (i < (n : Int))) (cond (decide (sayOf acc i.toNat k > 0)) (stA .normal n es acc k (IntKind.i64.wrap (i + 1)) i r) (stA .normal n es acc k (IntKind.i64.wrap (i + 1)) a r)) none)) none) (stA (.exit 2) n es acc k i a r) := by
  match k, hk with
  | 0, _ => exact treeB0 n es acc i a r
  | 1, _ => exact treeB1 n es acc i a r
  | 2, _ => exact treeB2 n es acc i a r
  | 3, _ => exact treeB3 n es acc i a r
  | 4, _ => exact treeB4 n es acc i a r
/-! ## The loops of whose, whole -/
def goFree (acc : Nat → KV) (k : Nat) : Nat → Nat → Int → Int
  | 0, _, a => a
  | r + 1, j, a => goFree acc k r (j + 1) (cond (decide (sayOf acc j k ≥ 4)) (j : Int) a)
/-- did it stop; where; the last one that says it -/
structure Seek where
  found : Bool
  at_ : Nat
  last : Int
def goLast (acc : Nat → KV) (k : Nat) : Nat → Nat → Int → Seek
  | 0, j, a => ⟨false, j, a⟩
  | r + 1, j, a => cond (sayOf acc j k == 3) ⟨true, j, a⟩ (goLast acc k r (j + 1) (cond (decide (sayOf acc j k > 0)) (j : Int) a))
theorem loopA {k : Nat} (hk : k < 5) (n : Nat) (es : List KV) (acc : Nat → KV) (hn : n ≤ 128) (r0 : Int) : ∀ (r j : Nat) (a : Int), j + r = n → iterK rdA (r + 1) [.ts 31 .any n es acc, .int .i64 k, .int .i64 a, .int .i64 j, .int .i64 r0] [] = stA (.exit 0) n es acc k (goFree acc k r j a) n r0
  | 0, j, a, hj => by
    have hj : j = n := by omega
    subst hj
    have ht := treeA hk j es acc a j r0
    have hd : decide ((j : Int) < (j : Int)) = false := by simp
    rw [hd, cond_false] at ht
    exact it_o ht rfl
  | r + 1, j, a, hj => by
    have ht := treeA hk n es acc a j r0
    have hd : decide ((j : Int) < (n : Int)) = true := by simp; omega
    have hd2 : decide ((0 : Int) ≤ (j : Int)) = true := by simp
    rw [hd, hd2, Bool.and_self, cond_true, cond_true, Int.toNat_natCast, wrap_small (by omega)] at ht
    unfold goFree
    cases hc : decide (sayOf acc j k ≥ 4) with
    | true =>
      rw [hc, cond_true] at ht
      exact (it_n ht).trans (loopA hk n es acc hn r0 r (j + 1) j (by omega))
    | false =>
      rw [hc, cond_false] at ht
      exact (it_n ht).trans (loopA hk n es acc hn r0 r (j + 1) a (by omega))
def seekB (n : Nat) (es : List KV) (acc : Nat → KV) (k : Int) (r0 : Int) (x : Seek) : Option (Abs.AExit × List KV × List (List KV)) := cond x.found (stA .ret n es acc k x.at_ x.last x.at_) (stA (.exit 2) n es acc k x.at_ x.last r0)
theorem loopB {k : Nat} (hk : k < 5) (n : Nat) (es : List KV) (acc : Nat → KV) (hn : n ≤ 128) (r0 : Int) : ∀ (r j : Nat) (a : Int), j + r = n → iterK rdB (r + 1) [.ts 31 .any n es acc, .int .i64 k, .int .i64 j, .int .i64 a, .int .i64 r0] [] = seekB n es acc k r0 (goLast acc k r j a)
  | 0, j, a, hj => by
    have hj : j = n := by omega
    subst hj
    have ht := treeB hk j es acc j a r0
    have hd : decide ((j : Int) < (j : Int)) = false := by simp
    rw [hd, cond_false] at ht
    exact it_o ht rfl
  | r + 1, j, a, hj => by
    have ht := treeB hk n es acc j a r0
    have hd : decide ((j : Int) < (n : Int)) = true := by simp; omega
    have hd2 : decide ((0 : Int) ≤ (j : Int)) = true := by simp
    rw [hd, hd2, Bool.and_self, cond_true, cond_true, cond_true, Int.toNat_natCast, wrap_small (by omega)] at ht
    unfold goLast
    cases hc : sayOf acc j k == 3 with
    | true =>
      rw [hc, cond_true] at ht
      exact it_o ht rfl
    | false =>
      rw [hc, cond_false] at ht
      cases hc2 : decide (sayOf acc j k > 0) with
      | true =>
        rw [hc2, cond_true] at ht
        exact (it_n ht).trans (loopB hk n es acc hn r0 r (j + 1) j (by omega))
      | false =>
        rw [hc2, cond_false] at ht
        exact (it_n ht).trans (loopB hk n es acc hn r0 r (j + 1) a (by omega))
def FA : LFn := fun vs _ => fT (vs.getD 0 .unk) (fun n es acc => fI (vs.getD 1 .unk) (fun k => fI (vs.getD 2 .unk) (fun a => fI (vs.getD 3 .unk) (fun i => fI (vs.getD 4 .unk) (fun r =>
  .br (decide (0 ≤ k)) (.br (decide (k < 5)) (.br (decide (i = 0)) (.br (Nat.ble n 128) (.out (.exit 0) [.ts 31 .any n es acc, .int .i64 k, .int .i64 (goFree acc k.toNat n 0 a), .int .i64 n, .int .i64 r] []) .no) .no) .no) .no) .no) .no) .no) .no) .no
def tellB (n : Nat) (es : List KV) (acc : Nat → KV) (k r : Int) (x : Seek) : LTell := .br x.found (.out .ret [.ts 31 .any n es acc, .int .i64 k, .int .i64 x.at_, .int .i64 x.last, .int .i64 x.at_] []) (.out (.exit 2) [.ts 31 .any n es acc, .int .i64 k, .int .i64 x.at_, .int .i64 x.last, .int .i64 r] [])
def FB : LFn := fun vs _ => fT (vs.getD 0 .unk) (fun n es acc => fI (vs.getD 1 .unk) (fun k => fI (vs.getD 2 .unk) (fun i => fI (vs.getD 3 .unk) (fun a => fI (vs.getD 4 .unk) (fun r =>
  .br (decide (0 ≤ k)) (.br (decide (k < 5)) (.br (decide (0 ≤ i)) (.br (decide (i ≤ (n : Int))) (.br (Nat.ble n 128) (tellB n es acc k r (goLast acc k.toNat (n - i.toNat) i.toNat a)) .no) .no) .no) .no) .no) .no) .no) .no) .no) .no
theorem list_five {α : Type} {l : List α} (h : l.length = 5) : ∃ a b c d e, l = [a, b, c, d, e] := by
  match l, h with
  | [a, b, c, d, e], _ => exact ⟨a, b, c, d, e, rfl⟩
theorem shA {vs : List KV} {rs : List (List KV)} (h : StOk Try.prog SA vs rs) : ∃ n es acc k a i r, vs = [.ts 31 .any n es acc, .int .i64 k, .int .i64 a, .int .i64 i, .int .i64 r] ∧ rs = [] := by
  have hr : rs = [] := List.eq_nil_of_length_eq_zero h.lenr
  obtain ⟨v0, v1, v2, v3, v4, rfl⟩ := list_five (goodVDs_length h.v)
  have hv := h.v
  simp only [SA, goodVDs, Bool.and_eq_true] at hv
  obtain ⟨n, es, acc, rfl⟩ := styles_good hv.1
  exact ⟨n, es, acc, intOf v1, intOf v2, intOf v3, intOf v4, by rw [← i64_good hv.2.1, ← i64_good hv.2.2.1, ← i64_good hv.2.2.2.1, ← i64_good hv.2.2.2.2.1], hr⟩
theorem shB {vs : List KV} {rs : List (List KV)} (h : StOk Try.prog SB vs rs) : ∃ n es acc k a i r, vs = [.ts 31 .any n es acc, .int .i64 k, .int .i64 a, .int .i64 i, .int .i64 r] ∧ rs = [] := by
  have hr : rs = [] := List.eq_nil_of_length_eq_zero h.lenr
  obtain ⟨v0, v1, v2, v3, v4, rfl⟩ := list_five (goodVDs_length h.v)
  have hv := h.v
  simp only [SB, goodVDs, Bool.and_eq_true] at hv
  obtain ⟨n, es, acc, rfl⟩ := styles_good hv.1
  exact ⟨n, es, acc, intOf v1, intOf v2, intOf v3, intOf v4, by rw [← i64_good hv.2.1, ← i64_good hv.2.2.1, ← i64_good hv.2.2.2.1, ← i64_good hv.2.2.2.2.1], hr⟩
def LA : Lp := ⟨21, 58, SA, FA⟩
def LB : Lp := ⟨21, 506, SB, FB⟩
theorem nat_of {k : Int} (h0 : 0 ≤ k) : ∃ m : Nat, k = (m : Int) := ⟨k.toNat, by omega⟩
theorem okA : LA.Ok Try.prog := ⟨Cfg.none, 9, 9, pc_none, lp_none, fun vs rs e vs' rs' hok hev => by
  obtain ⟨n, es, acc, k, a, i, r, rfl, rfl⟩ := shA hok
  have hev : (LTell.br (decide (0 ≤ k)) (.br (decide (k < 5)) (.br (decide (i = 0)) (.br (Nat.ble n 128) (.out (.exit 0) [.ts 31 .any n es acc, .int .i64 k, .int .i64 (goFree acc k.toNat n 0 a), .int .i64 n, .int .i64 r] []) .no) .no) .no) .no).ev = some (e, vs', rs') := hev
  by_cases h0 : 0 ≤ k
  · by_cases h5 : k < 5
    · by_cases hi : i = 0
      · cases hn : Nat.ble n 128 with
        | true =>
          obtain ⟨m, rfl⟩ := nat_of h0
          subst hi
          simp only [LTell.ev, h0, h5, hn, decide_true, cond_true, Int.toNat_natCast] at hev
          exact ⟨n + 1, (loopA (by omega) n es acc (Nat.le_of_ble_eq_true hn) r n 0 a (by omega)).trans hev⟩
        | false => simp [LTell.ev, hn] at hev
      · simp [LTell.ev, hi] at hev
    · simp [LTell.ev, h5] at hev
  · simp [LTell.ev, h0] at hev⟩
theorem okB : LB.Ok Try.prog := ⟨Cfg.none, 9, 9, pc_none, lp_none, fun vs rs e vs' rs' hok hev => by
  obtain ⟨n, es, acc, k, i, a, r, rfl, rfl⟩ := shB hok
  have hev : (LTell.br (decide (0 ≤ k)) (.br (decide (k < 5)) (.br (decide (0 ≤ i)) (.br (decide (i ≤ (n : Int))) (.br (Nat.ble n 128) (tellB n es acc k r (goLast acc k.toNat (n - i.toNat) i.toNat a)) .no) .no) .no) .no) .no).ev = some (e, vs', rs') := hev
  by_cases h0 : 0 ≤ k
  · by_cases h5 : k < 5
    · by_cases hi : 0 ≤ i
      · by_cases hin : i ≤ (n : Int)
        · cases hn : Nat.ble n 128 with
          | true =>
            obtain ⟨m, rfl⟩ := nat_of h0
            obtain ⟨j, rfl⟩ := nat_of hi
            simp only [LTell.ev, h0, h5, hi, hin, hn, decide_true, cond_true, Int.toNat_natCast] at hev
            refine ⟨n - j + 1, (loopB (by omega) n es acc (Nat.le_of_ble_eq_true hn) r (n - j) j a (by omega)).trans ?_⟩
            rw [← hev]
            unfold seekB tellB LTell.ev LTell.ev
            rfl
          | false => simp [LTell.ev, hn] at hev
        · simp [LTell.ev, hin] at hev
      · simp [LTell.ev, hi] at hev
    · simp [LTell.ev, h5] at hev
  · simp [LTell.ev, h0] at hev⟩
def lpsW : List Lp := [LA, LB]
theorem thereW : lpsW.all (fun l => loopThere Try.prog l.f l.p) = true := by kernel_rfl
theorem lpsW_ok {pc : FuncId → Option (List KV → Option KV)} : LpAll Try.prog ⟨pc, lpOf lpsW⟩ := lp_all funcs mixed fun l hl => ⟨by
  simp only [lpsW, List.mem_cons, List.not_mem_nil, or_false] at hl
  rcases hl with rfl | rfl
  · exact okA
  · exact okB, List.all_eq_true.1 thereW l hl⟩
def cfgW : Cfg := ⟨pcOf [], lpOf lpsW⟩
theorem cfgW_pc : PcOk Try.prog cfgW.pc := pc_all (ps := []) fun q hq => by simp at hq
def rest21_0 (n : Nat) (acc : Nat → KV) : Option KV := cond (decide (0 ≤ (IntKind.i64.wrap ((goFree acc 0 n 0 (-1)) + 1)))) (cond (decide ((IntKind.i64.wrap ((goFree acc 0 n 0 (-1)) + 1)) ≤ (n : Int))) (cond (Nat.ble n 128) (cond (goLast acc 0 (n - (IntKind.i64.wrap ((goFree acc 0 n 0 (-1)) + 1)).toNat) (IntKind.i64.wrap ((goFree acc 0 n 0 (-1)) + 1)).toNat (goFree acc 0 n 0 (-1))).found (some (.int .i64 (goLast acc 0 (n - (IntKind.i64.wrap ((goFree acc 0 n 0 (-1)) + 1)).toNat) (IntKind.i64.wrap ((goFree acc 0 n 0 (-1)) + 1)).toNat (goFree acc 0 n 0 (-1))).at_)) (some (.int .i64 (goLast acc 0 (n - (IntKind.i64.wrap ((goFree acc 0 n 0 (-1)) + 1)).toNat) (IntKind.i64.wrap ((goFree acc 0 n 0 (-1)) + 1)).toNat (goFree acc 0 n 0 (-1))).last))) none) none) none
theorem tree21_0 (n : Nat) (es : List KV) (acc : Nat → KV) : pureK Try.prog cfgW 9 9 21 [.ts 31 .any n es acc, .int .i64 0] = cond (Nat.ble n 128) (cond (decide ((goFree acc 0 n 0 (-1)) ≥ 0)) (cond (decide (0 ≤ (goFree acc 0 n 0 (-1))) && decide ((goFree acc 0 n 0 (-1)) < (n : Int))) (cond (sayOf acc (goFree acc 0 n 0 (-1)).toNat 0 == 7) (some (.int .i64 (goFree acc 0 n 0 (-1)))) (rest21_0 n acc)) none) (rest21_0 n acc)) none := by kernel_rfl
def rest21_1 (n : Nat) (acc : Nat → KV) : Option KV := cond (decide (0 ≤ (IntKind.i64.wrap ((goFree acc 1 n 0 (-1)) + 1)))) (cond (decide ((IntKind.i64.wrap ((goFree acc 1 n 0 (-1)) + 1)) ≤ (n : Int))) (cond (Nat.ble n 128) (cond (goLast acc 1 (n - (IntKind.i64.wrap ((goFree acc 1 n 0 (-1)) + 1)).toNat) (IntKind.i64.wrap ((goFree acc 1 n 0 (-1)) + 1)).toNat (goFree acc 1 n 0 (-1))).found (some (.int .i64 (goLast acc 1 (n - (IntKind.i64.wrap ((goFree acc 1 n 0 (-1)) + 1)).toNat) (IntKind.i64.wrap ((goFree acc 1 n 0 (-1)) + 1)).toNat (goFree acc 1 n 0 (-1))).at_)) (some (.int .i64 (goLast acc 1 (n - (IntKind.i64.wrap ((goFree acc 1 n 0 (-1)) + 1)).toNat) (IntKind.i64.wrap ((goFree acc 1 n 0 (-1)) + 1)).toNat (goFree acc 1 n 0 (-1))).last))) none) none) none
theorem tree21_1 (n : Nat) (es : List KV) (acc : Nat → KV) : pureK Try.prog cfgW 9 9 21 [.ts 31 .any n es acc, .int .i64 1] = cond (Nat.ble n 128) (cond (decide ((goFree acc 1 n 0 (-1)) ≥ 0)) (cond (decide (0 ≤ (goFree acc 1 n 0 (-1))) && decide ((goFree acc 1 n 0 (-1)) < (n : Int))) (cond (sayOf acc (goFree acc 1 n 0 (-1)).toNat 1 == 7) (some (.int .i64 (goFree acc 1 n 0 (-1)))) (rest21_1 n acc)) none) (rest21_1 n acc)) none := by kernel_rfl
def rest21_2 (n : Nat) (acc : Nat → KV) : Option KV := cond (decide (0 ≤ (IntKind.i64.wrap ((goFree acc 2 n 0 (-1)) + 1)))) (cond (decide ((IntKind.i64.wrap ((goFree acc 2 n 0 (-1)) + 1)) ≤ (n : Int))) (cond (Nat.ble n 128) (cond (goLast acc 2 (n - (IntKind.i64.wrap ((goFree acc 2 n 0 (-1)) + 1)).toNat) (IntKind.i64.wrap ((goFree acc 2 n 0 (-1)) + 1)).toNat (goFree acc 2 n 0 (-1))).found (some (.int .i64 (goLast acc 2 (n - (IntKind.i64.wrap ((goFree acc 2 n 0 (-1)) + 1)).toNat) (IntKind.i64.wrap ((goFree acc 2 n 0 (-1)) + 1)).toNat (goFree acc 2 n 0 (-1))).at_)) (some (.int .i64 (goLast acc 2 (n - (IntKind.i64.wrap ((goFree acc 2 n 0 (-1)) + 1)).toNat) (IntKind.i64.wrap ((goFree acc 2 n 0 (-1)) + 1)).toNat (goFree acc 2 n 0 (-1))).last))) none) none) none
theorem tree21_2 (n : Nat) (es : List KV) (acc : Nat → KV) : pureK Try.prog cfgW 9 9 21 [.ts 31 .any n es acc, .int .i64 2] = cond (Nat.ble n 128) (cond (decide ((goFree acc 2 n 0 (-1)) ≥ 0)) (cond (decide (0 ≤ (goFree acc 2 n 0 (-1))) && decide ((goFree acc 2 n 0 (-1)) < (n : Int))) (cond (sayOf acc (goFree acc 2 n 0 (-1)).toNat 2 == 7) (some (.int .i64 (goFree acc 2 n 0 (-1)))) (rest21_2 n acc)) none) (rest21_2 n acc)) none := by kernel_rfl
def rest21_3 (n : Nat) (acc : Nat → KV) : Option KV := cond (decide (0 ≤ (IntKind.i64.wrap ((goFree acc 3 n 0 (-1)) + 1)))) (cond (decide ((IntKind.i64.wrap ((goFree acc 3 n 0 (-1)) + 1)) ≤ (n : Int))) (cond (Nat.ble n 128) (cond (goLast acc 3 (n - (IntKind.i64.wrap ((goFree acc 3 n 0 (-1)) + 1)).toNat) (IntKind.i64.wrap ((goFree acc 3 n 0 (-1)) + 1)).toNat (goFree acc 3 n 0 (-1))).found (some (.int .i64 (goLast acc 3 (n - (IntKind.i64.wrap ((goFree acc 3 n 0 (-1)) + 1)).toNat) (IntKind.i64.wrap ((goFree acc 3 n 0 (-1)) + 1)).toNat (goFree acc 3 n 0 (-1))).at_)) (some (.int .i64 (goLast acc 3 (n - (IntKind.i64.wrap ((goFree acc 3 n 0 (-1)) + 1)).toNat) (IntKind.i64.wrap ((goFree acc 3 n 0 (-1)) + 1)).toNat (goFree acc 3 n 0 (-1))).last))) none) none) none
theorem tree21_3 (n : Nat) (es : List KV) (acc : Nat → KV) : pureK Try.prog cfgW 9 9 21 [.ts 31 .any n es acc, .int .i64 3] = cond (Nat.ble n 128) (cond (decide ((goFree acc 3 n 0 (-1)) ≥ 0)) (cond (decide (0 ≤ (goFree acc 3 n 0 (-1))) && decide ((goFree acc 3 n 0 (-1)) < (n : Int))) (cond (sayOf acc (goFree acc 3 n 0 (-1)).toNat 3 == 7) (some (.int .i64 (goFree acc 3 n 0 (-1)))) (rest21_3 n acc)) none) (rest21_3 n acc)) none := by kernel_rfl
def rest21_4 (n : Nat) (acc : Nat → KV) : Option KV := cond (decide (0 ≤ (IntKind.i64.wrap ((goFree acc 4 n 0 (-1)) + 1)))) (cond (decide ((IntKind.i64.wrap ((goFree acc 4 n 0 (-1)) + 1)) ≤ (n : Int))) (cond (Nat.ble n 128) (cond (goLast acc 4 (n - (IntKind.i64.wrap ((goFree acc 4 n 0 (-1)) + 1)).toNat) (IntKind.i64.wrap ((goFree acc 4 n 0 (-1)) + 1)).toNat (goFree acc 4 n 0 (-1))).found (some (.int .i64 (goLast acc 4 (n - (IntKind.i64.wrap ((goFree acc 4 n 0 (-1)) + 1)).toNat) (IntKind.i64.wrap ((goFree acc 4 n 0 (-1)) + 1)).toNat (goFree acc 4 n 0 (-1))).at_)) (some (.int .i64 (goLast acc 4 (n - (IntKind.i64.wrap ((goFree acc 4 n 0 (-1)) + 1)).toNat) (IntKind.i64.wrap ((goFree acc 4 n 0 (-1)) + 1)).toNat (goFree acc 4 n 0 (-1))).last))) none) none) none
theorem tree21_4 (n : Nat) (es : List KV) (acc : Nat → KV) : pureK Try.prog cfgW 9 9 21 [.ts 31 .any n es acc, .int .i64 4] = cond (Nat.ble n 128) (cond (decide ((goFree acc 4 n 0 (-1)) ≥ 0)) (cond (decide (0 ≤ (goFree acc 4 n 0 (-1))) && decide ((goFree acc 4 n 0 (-1)) < (n : Int))) (cond (sayOf acc (goFree acc 4 n 0 (-1)).toNat 4 == 7) (some (.int .i64 (goFree acc 4 n 0 (-1)))) (rest21_4 n acc)) none) (rest21_4 n acc)) none := by kernel_rfl
end
end Go.Proofs.Ytadjalkkhkkdiaa.st
