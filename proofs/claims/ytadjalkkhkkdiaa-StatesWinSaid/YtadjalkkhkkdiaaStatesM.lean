/-
  Chapter 07: what styles make, one under the other: the program's function and the document's, whole; the law.
-/
import Derived.Test.YtadjalkkhkkdiaaStatesL
namespace Go.Proofs.Ytadjalkkhkkdiaa.st
open Go.K
noncomputable section
def lps4 : List Lp := [L16, L20]
theorem there4 : lps4.all (fun l => loopThere Try.prog l.f l.p) = true := by kernel_rfl
theorem lps4_ok {pc : FuncId → Option (List KV → Option KV)} : LpAll Try.prog ⟨pc, lpOf lps4⟩ := lp_all funcs mixed fun l hl => ⟨by
  simp only [lps4, List.mem_cons, List.not_mem_nil, or_false] at hl
  rcases hl with rfl | rfl
  · exact ok16
  · exact ok20, List.all_eq_true.1 there4 l hl⟩
def cfg4 : Cfg := ⟨pcOf pcs2, lpOf lps4⟩
theorem pcs4_ok : PcOk Try.prog cfg4.pc := pcs2_ok
def pairL (l : Look) (e : Int) : Option KV := some (.tup [.agg (cLook l), .int .i64 e])
def lookA (n : Nat) (x : Run) : Look := cond (decide ((n : Int) > 128)) zeroLook (cond (x.err != 0) zeroLook x.inh.look)
def errA (n : Nat) (x : Run) : Int := cond (decide ((n : Int) > 128)) 4 (cond (x.err != 0) x.err 0)
theorem tree16f (n : Nat) (es : List KV) (acc : Nat → KV) : pureK Try.prog cfg4 9 9 16 [.ts 31 .any n es acc] =
    cond (decide ((n : Int) > 128)) (pairL zeroLook 4) (cond (decide ((n : Int) = (n : Int))) (cond (Nat.ble n 128) (cond ((goA acc n 0 begin).err != 0) (pairL zeroLook (goA acc n 0 begin).err) (pairL (goA acc n 0 begin).inh.look 0)) none) none) := by kernel_rfl
theorem tree20f (n : Nat) (es : List KV) (acc : Nat → KV) : pureK Try.prog cfg4 9 9 20 [.ts 31 .any n es acc] =
    cond (decide ((n : Int) > 128)) (pairL zeroLook 4) (cond (Nat.ble n 128) (cond ((goR acc n 0 begin).err != 0) (pairL zeroLook (goR acc n 0 begin).err) (pairL (goR acc n 0 begin).inh.look 0)) none) := by kernel_rfl
theorem run16 (n : Nat) (es : List KV) (acc : Nat → KV) : pureK Try.prog cfg4 9 9 16 [.ts 31 .any n es acc] = pairL (lookA n (goA acc n 0 begin)) (errA n (goA acc n 0 begin)) := by
  rw [tree16f, lookA, errA]
  by_cases h : (n : Int) > 128
  · simp [h]
  · have hb : Nat.ble n 128 = true := Nat.ble_eq_true_of_le (by omega)
    have hd : decide ((n : Int) > 128) = false := decide_eq_false h
    rw [hd, hb, decide_eq_true rfl]
    cases (goA acc n 0 begin).err != 0 <;> rfl
theorem run20 (n : Nat) (es : List KV) (acc : Nat → KV) : pureK Try.prog cfg4 9 9 20 [.ts 31 .any n es acc] = pairL (lookA n (goR acc n 0 begin)) (errA n (goR acc n 0 begin)) := by
  rw [tree20f, lookA, errA]
  by_cases h : (n : Int) > 128
  · simp [h]
  · have hb : Nat.ble n 128 = true := Nat.ble_eq_true_of_le (by omega)
    have hd : decide ((n : Int) > 128) = false := decide_eq_false h
    rw [hd, hb]
    cases (goR acc n 0 begin).err != 0 <;> rfl
theorem par16 : paramsOf Try.prog 16 = [48] := by kernel_rfl
theorem par20 : paramsOf Try.prog 20 = [48] := by kernel_rfl
theorem lay48 : layF Try.prog 48 = ⟨false, [.slice 31]⟩ := by kernel_rfl
theorem argT {ts : List TypeId} {xs : List KV} (h : argsOk Try.prog (48 :: ts) xs = true) : ∃ n es acc vs, xs = .ts 31 .any n es acc :: vs ∧ argsOk Try.prog ts vs = true := by
  obtain ⟨v, vs, rfl, h1, h2⟩ := args_cons h
  rw [lay48] at h1
  obtain ⟨n, es, acc, rfl⟩ := kind_slice (elem_one h1)
  exact ⟨n, es, acc, vs, rfl, h2⟩
def q16 : List KV → Option KV := guardF Try.prog 16 fun xs => fT (xs.getD 0 .unk) (fun n _ acc => pairL (lookA n (goA acc n 0 begin)) (errA n (goA acc n 0 begin))) none
def q20 : List KV → Option KV := guardF Try.prog 20 fun xs => fT (xs.getD 0 .unk) (fun n _ acc => pairL (lookA n (goR acc n 0 begin)) (errA n (goR acc n 0 begin))) none
theorem pure16 : PureOk Try.prog 16 q16 := pure_of funcs mixed pcs4_ok lps4_ok (L := 9) (n := 9) fun xs v h hv => by
  rw [par16] at h
  obtain ⟨n, es, acc, vs, rfl, h⟩ := argT h
  cases args0 h
  rw [← hv]; exact run16 n es acc
theorem pure20 : PureOk Try.prog 20 q20 := pure_of funcs mixed pcs4_ok lps4_ok (L := 9) (n := 9) fun xs v h hv => by
  rw [par20] at h
  obtain ⟨n, es, acc, vs, rfl, h⟩ := argT h
  cases args0 h
  rw [← hv]; exact run20 n es acc
def pcs5 : List (Nat × (List KV → Option KV)) := [(16, q16), (20, q20)]
def cfg5 : Cfg := ⟨pcOf pcs5, lpOf []⟩
theorem cfg5_pc : PcOk Try.prog cfg5.pc := pc_all fun p hp => by
  simp only [pcs5, List.mem_cons, List.not_mem_nil, or_false] at hp
  rcases hp with rfl | rfl
  · exact pure16
  · exact pure20
theorem cfg5_lp : LpAll Try.prog cfg5 := lp_all funcs mixed (ls := []) fun l hl => by simp at hl
theorem tree5 (n : Nat) (es : List KV) (acc : Nat → KV) : pureK Try.prog cfg5 9 9 5 [.ts 31 .any n es acc] =
    cond (decide ((n : Int) > 1000)) (some (.bool true)) (cond (sameLook (lookA n (goA acc n 0 begin)) (lookA n (goR acc n 0 begin))) (some (.bool (errA n (goA acc n 0 begin) == errA n (goR acc n 0 begin)))) (some (.bool false))) := by kernel_rfl
end

/-! ## The plain law -/
theorem sameLook_refl (a : Look) : sameLook a a = true := by simp [sameLook]
theorem elem_at {l : Lay} {es : List KV} {j : Nat} (h : elemsOk l es = true) (hj : j < es.length) : elemOk l (es.getD j .unk) = true := by
  have e := List.getElem?_eq_getElem hj
  rw [List.getD_eq_getElem?_getD, e]
  exact elemsOk_get h e
theorem style_at {n : Nat} {es : List KV} {acc : Nat → KV} (ht : TreeOk Try.prog 31 n es acc) (hw : wfKs es) {j : Nat} (hj : j < n) : acc j = .agg (cStyle (sAt acc j)) ∧ Bytes (sAt acc j) := by
  have hl : j < es.length := by rw [← ht.len]; exact hj
  have h1 := elem_at ht.typed hl
  rw [lay31, ← ht.acc j hj] at h1
  obtain ⟨cs, h2, h3⟩ := elem_agg h1
  have h4 : acc j = .agg (cStyle (sAt acc j)) := by
    rw [sAt, h2]
    show KV.agg cs = .agg (cStyle (styleOf cs))
    rw [style_of h3]
  refine ⟨h4, ?_⟩
  have h5 : wfK (acc j) := by
    rw [ht.acc j hj, List.getD_eq_getElem?_getD, List.getElem?_eq_getElem hl]
    exact wfKs_mem hw _ (List.getElem_mem hl)
  rw [h4] at h5
  exact bytes_of (l := []) ⟨h5, trivial⟩
theorem go_same {n : Nat} {es : List KV} {acc : Nat → KV} (ht : TreeOk Try.prog 31 n es acc) (hw : wfKs es) : ∀ (r j : Nat) (h : Inherit), j + r = n → goA acc r j h = goR acc r j h
  | 0, _, _, _ => rfl
  | r + 1, j, h, hj => by
    have hb := (style_at ht hw (show j < n by omega)).2
    unfold goA goR
    rw [check_same hb, refCheck]
    cases hm : may (sAt acc j) with
    | false => rfl
    | true =>
      show goA acc r (j + 1) (under (sAt acc j) h) = goR acc r (j + 1) (madeAll (sAt acc j) h)
      rw [under_all, made_same (may_all hb hm)]
      exact go_same ht hw r (j + 1) _ (by omega)
theorem law5 (xs : List KV) (h : argsOk Try.prog [48] xs = true) (hw : wfKs xs) (hd : deepKs Try.prog xs) : pureK Try.prog cfg5 9 9 5 xs = some (.bool true) := by
  obtain ⟨n, es, acc, vs, rfl, h⟩ := argT h
  cases args0 h
  have ht : TreeOk Try.prog 31 n es acc := hd.1.1
  have hw : wfKs es := hw.1.2
  rw [tree5, go_same ht hw n 0 begin (by omega), sameLook_refl]
  cases decide ((n : Int) > 1000) <;> simp
end Go.Proofs.Ytadjalkkhkkdiaa.st
