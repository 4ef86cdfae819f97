/-
  Chapter 07: what a style makes of a look, and its errors: the program's functions and the document's, whole.
-/
import Derived.Test.YtadjalkkhkkdiaaStatesC
namespace Go.Proofs.Ytadjalkkhkkdiaa.st
open Go.K
noncomputable section
def uE (i : Inherit) (s : Style) : Int := cond (checkLook i.look != 0) (checkLook i.look) (cond (check s != 0) (check s) 0)
def uV (i : Inherit) (s : Style) : Inherit := cond (checkLook i.look != 0) zeroInherit (cond (check s != 0) zeroInherit (under s i))
def rE (i : Inherit) (s : Style) : Int := cond (!mayLook i.look) 8 (cond (!may s) 8 0)
def rV (i : Inherit) (s : Style) : Inherit := cond (!mayLook i.look) zeroInherit (cond (!may s) zeroInherit (madeAll s i))
def refCheck (s : Style) : Int := cond (!may s) 8 0
def refLook (l : Look) : Int := cond (!mayLook l) 8 0
def pairV (i : Inherit) (e : Int) : Option KV := some (.tup [.agg (cInherit i), .int .i64 e])
theorem tree8 (i : Inherit) (s : Style) : pureK Try.prog cfg2 9 9 8 [.agg (cInherit i), .agg (cStyle s)] = cond (checkLook i.look != 0) (pairV zeroInherit (checkLook i.look)) (cond (check s != 0) (pairV zeroInherit (check s)) (pairV (under s i) 0)) := by kernel_rfl
theorem run8 (i : Inherit) (s : Style) : pureK Try.prog cfg2 9 9 8 [.agg (cInherit i), .agg (cStyle s)] = pairV (uV i s) (uE i s) := by
  rw [tree8, uV, uE]
  cases checkLook i.look != 0 <;> cases check s != 0 <;> rfl
theorem tree9 (i : Inherit) (s : Style) : pureK Try.prog cfg2 9 9 9 [.agg (cInherit i), .agg (cStyle s)] = cond (!mayLook i.look) (pairV zeroInherit 8) (cond (!may s) (pairV zeroInherit 8) (pairV (madeAll s i) 0)) := by kernel_rfl
theorem run9 (i : Inherit) (s : Style) : pureK Try.prog cfg2 9 9 9 [.agg (cInherit i), .agg (cStyle s)] = pairV (rV i s) (rE i s) := by
  rw [tree9, rV, rE]
  cases mayLook i.look <;> cases may s <;> rfl
theorem tree11 (s : Style) : pureK Try.prog cfg2 9 9 11 [.agg (cStyle s)] = cond (!may s) (some (.int .i64 8)) (some (.int .i64 0)) := by kernel_rfl
theorem run11 (s : Style) : pureK Try.prog cfg2 9 9 11 [.agg (cStyle s)] = some (.int .i64 (refCheck s)) := by
  rw [tree11, refCheck]
  cases may s <;> rfl
theorem tree13 (l : Look) : pureK Try.prog cfg2 9 9 13 [.agg (cLook l)] = cond (!mayLook l) (some (.int .i64 8)) (some (.int .i64 0)) := by kernel_rfl
theorem run13 (l : Look) : pureK Try.prog cfg2 9 9 13 [.agg (cLook l)] = some (.int .i64 (refLook l)) := by
  rw [tree13, refLook]
  cases mayLook l <;> rfl
theorem par8 : paramsOf Try.prog 8 = [28, 31] := by kernel_rfl
theorem par9 : paramsOf Try.prog 9 = [28, 31] := by kernel_rfl
theorem par11 : paramsOf Try.prog 11 = [31] := by kernel_rfl
theorem par13 : paramsOf Try.prog 13 = [25] := by kernel_rfl
def q8 : List KV → Option KV := guardF Try.prog 8 fun xs => onI (xs.getD 0 .unk) fun i => onS (xs.getD 1 .unk) fun s => pairV (uV i s) (uE i s)
def q9 : List KV → Option KV := guardF Try.prog 9 fun xs => onI (xs.getD 0 .unk) fun i => onS (xs.getD 1 .unk) fun s => pairV (rV i s) (rE i s)
def q11 : List KV → Option KV := guardF Try.prog 11 fun xs => onS (xs.getD 0 .unk) fun s => some (.int .i64 (refCheck s))
def q13 : List KV → Option KV := guardF Try.prog 13 fun xs => onL (xs.getD 0 .unk) fun l => some (.int .i64 (refLook l))
theorem pure8 : PureOk Try.prog 8 q8 := pure_of funcs mixed pcs2_ok lps_ok (L := 9) (n := 9) fun xs v h hv => by
  rw [par8] at h
  obtain ⟨i, vs, rfl, h⟩ := argI h
  obtain ⟨s, vs, rfl, h⟩ := argS h
  cases args0 h
  rw [← hv]; exact run8 i s
theorem pure9 : PureOk Try.prog 9 q9 := pure_of funcs mixed pcs2_ok lps_ok (L := 9) (n := 9) fun xs v h hv => by
  rw [par9] at h
  obtain ⟨i, vs, rfl, h⟩ := argI h
  obtain ⟨s, vs, rfl, h⟩ := argS h
  cases args0 h
  rw [← hv]; exact run9 i s
theorem pure11 : PureOk Try.prog 11 q11 := pure_of funcs mixed pcs2_ok lps_ok (L := 9) (n := 9) fun xs v h hv => by
  rw [par11] at h
  obtain ⟨s, vs, rfl, h⟩ := argS h
  cases args0 h
  rw [← hv]; exact run11 s
theorem pure13 : PureOk Try.prog 13 q13 := pure_of funcs mixed pcs2_ok lps_ok (L := 9) (n := 9) fun xs v h hv => by
  rw [par13] at h
  obtain ⟨l, vs, rfl, h⟩ := argL h
  cases args0 h
  rw [← hv]; exact run13 l
def pcs3 : List (Nat × (List KV → Option KV)) := [(8, q8), (9, q9), (11, q11), (13, q13), (10, q10), (25, q25), (23, q23), (26, q26), (12, q12), (24, q24), (14, q14), (15, q15)]
def cfg3 : Cfg := ⟨pcOf pcs3, lpOf lps⟩
theorem pcs3_ok : PcOk Try.prog cfg3.pc := pc_all fun p hp => by
  simp only [pcs3, List.mem_cons, List.not_mem_nil, or_false] at hp
  rcases hp with rfl | rfl | rfl | rfl | rfl | rfl | rfl | rfl | rfl | rfl | rfl | rfl
  · exact pure8
  · exact pure9
  · exact pure11
  · exact pure13
  · exact pure10
  · exact pure25
  · exact pure23
  · exact pure26
  · exact pure12
  · exact pure24
  · exact pure14
  · exact pure15
end
end Go.Proofs.Ytadjalkkhkkdiaa.st
