/-
  Chapter 07: whether a style may be, what it makes of a look: the program's functions and the document's, whole.
-/
import Derived.Test.YtadjalkkhkkdiaaStatesB
namespace Go.Proofs.Ytadjalkkhkkdiaa.st
open Go.K
noncomputable section
def zeroLook : Look := ⟨0, 0, 0, 0, 0, 0, 0, false, 0⟩
def zeroInherit : Inherit := ⟨zeroLook, false, false, false, false, false⟩
def sameLook (a b : Look) : Bool := a.c0 == b.c0 && (a.c1 == b.c1 && (a.c2 == b.c2 && (a.c3 == b.c3 && (a.tex == b.tex && (a.cull == b.cull && (a.bias == b.bias && (a.blend == b.blend && (a.bin == b.bin && true))))))))
def check (s : Style) : Int := cond (okAll s) (cond (!sameLook (said s zeroLook) s.look) 8 (checkLook s.look)) 8
theorem tree10 (s : Style) : pureK Try.prog cfg1 9 9 10 [.agg (cStyle s)] = cond (okAll s) (cond (!sameLook (said s zeroLook) s.look) (some (.int .i64 8)) (some (.int .i64 (checkLook s.look)))) (some (.int .i64 8)) := by kernel_rfl
theorem run10 (s : Style) : pureK Try.prog cfg1 9 9 10 [.agg (cStyle s)] = some (.int .i64 (check s)) := by
  rw [tree10, check]
  cases okAll s <;> cases sameLook (said s zeroLook) s.look <;> rfl
def ne0 (s : Style) : Bool := !(s.look.c0 == 0 && (s.look.c1 == 0 && (s.look.c2 == 0 && (s.look.c3 == 0 && true))))
def noB : Option KV := some (.bool false)
def m0 (s : Style) (a : Option KV) : Option KV := cond (s.s0 == 0) (cond (ne0 s) noB a) a
def m1 (s : Style) (a : Option KV) : Option KV := cond (s.s1 == 0) (cond (s.look.tex != 0) noB a) a
def m2 (s : Style) (a : Option KV) : Option KV := cond (s.s2 == 0) (cond (s.look.cull != 0) noB a) a
def m3 (s : Style) (a : Option KV) : Option KV := cond (s.s3 == 0) (cond (s.look.bias != 0) noB a) a
def m4 (s : Style) (a : Option KV) : Option KV := cond (s.s4 == 0) (cond s.look.blend noB (cond (s.look.bin != 0) noB a)) a
def b0 (s : Style) (a : Bool) : Bool := cond (s.s0 == 0) (cond (ne0 s) false a) a
def b1 (s : Style) (a : Bool) : Bool := cond (s.s1 == 0) (cond (s.look.tex != 0) false a) a
def b2 (s : Style) (a : Bool) : Bool := cond (s.s2 == 0) (cond (s.look.cull != 0) false a) a
def b3 (s : Style) (a : Bool) : Bool := cond (s.s3 == 0) (cond (s.look.bias != 0) false a) a
def b4 (s : Style) (a : Bool) : Bool := cond (s.s4 == 0) (cond s.look.blend false (cond (s.look.bin != 0) false a)) a
theorem mb0 (s : Style) (a : Bool) : m0 s (some (.bool a)) = some (.bool (b0 s a)) := by
  unfold m0 b0; cases s.s0 == 0 <;> cases ne0 s <;> rfl
theorem mb1 (s : Style) (a : Bool) : m1 s (some (.bool a)) = some (.bool (b1 s a)) := by
  unfold m1 b1; cases s.s1 == 0 <;> cases s.look.tex != 0 <;> rfl
theorem mb2 (s : Style) (a : Bool) : m2 s (some (.bool a)) = some (.bool (b2 s a)) := by
  unfold m2 b2; cases s.s2 == 0 <;> cases s.look.cull != 0 <;> rfl
theorem mb3 (s : Style) (a : Bool) : m3 s (some (.bool a)) = some (.bool (b3 s a)) := by
  unfold m3 b3; cases s.s3 == 0 <;> cases s.look.bias != 0 <;> rfl
theorem mb4 (s : Style) (a : Bool) : m4 s (some (.bool a)) = some (.bool (b4 s a)) := by
  unfold m4 b4; cases s.s4 == 0 <;> cases s.look.blend <;> cases s.look.bin != 0 <;> rfl
def may (s : Style) : Bool := cond (badAny s) false (b0 s (b1 s (b2 s (b3 s (b4 s (mayLook s.look))))))
theorem tree25 (s : Style) : pureK Try.prog cfg1 9 9 25 [.agg (cStyle s)] = cond (badAny s) noB (m0 s (m1 s (m2 s (m3 s (m4 s (some (.bool (mayLook s.look)))))))) := by kernel_rfl
theorem run25 (s : Style) : pureK Try.prog cfg1 9 9 25 [.agg (cStyle s)] = some (.bool (may s)) := by
  rw [tree25, mb4, mb3, mb2, mb1, mb0, may]
  cases badAny s <;> rfl
def noSay (s : Style) : Bool := s.s0 == 0 && (s.s1 == 0 && (s.s2 == 0 && (s.s3 == 0 && (s.s4 == 0 && true))))
def under (s : Style) (i : Inherit) : Inherit := cond (noSay s) i (underAll s i)
theorem tree23 (s : Style) (i : Inherit) : pureK Try.prog cfg1 9 9 23 [.agg (cInherit i), .agg (cStyle s)] = cond (noSay s) (some (.agg (cInherit i))) (some (.agg (cInherit (underAll s i)))) := by kernel_rfl
theorem run23 (s : Style) (i : Inherit) : pureK Try.prog cfg1 9 9 23 [.agg (cInherit i), .agg (cStyle s)] = some (.agg (cInherit (under s i))) := by
  rw [tree23, under]
  cases noSay s <;> rfl
theorem run26 (s : Style) (i : Inherit) : pureK Try.prog cfg1 9 9 26 [.agg (cInherit i), .agg (cStyle s)] = some (.agg (cInherit (madeAll s i))) := by kernel_rfl
theorem par10 : paramsOf Try.prog 10 = [31] := by kernel_rfl
theorem par25 : paramsOf Try.prog 25 = [31] := by kernel_rfl
theorem par23 : paramsOf Try.prog 23 = [28, 31] := by kernel_rfl
theorem par26 : paramsOf Try.prog 26 = [28, 31] := by kernel_rfl
def q10 : List KV → Option KV := guardF Try.prog 10 fun xs => onS (xs.getD 0 .unk) fun s => some (.int .i64 (check s))
def q25 : List KV → Option KV := guardF Try.prog 25 fun xs => onS (xs.getD 0 .unk) fun s => some (.bool (may s))
def q23 : List KV → Option KV := guardF Try.prog 23 fun xs => onI (xs.getD 0 .unk) fun i => onS (xs.getD 1 .unk) fun s => some (.agg (cInherit (under s i)))
def q26 : List KV → Option KV := guardF Try.prog 26 fun xs => onI (xs.getD 0 .unk) fun i => onS (xs.getD 1 .unk) fun s => some (.agg (cInherit (madeAll s i)))
theorem pure10 : PureOk Try.prog 10 q10 := pure_of funcs mixed pcs1_ok lps_ok (L := 9) (n := 9) fun xs v h hv => by
  rw [par10] at h
  obtain ⟨s, vs, rfl, h⟩ := argS h
  cases args0 h
  rw [← hv]; exact run10 s
theorem pure25 : PureOk Try.prog 25 q25 := pure_of funcs mixed pcs1_ok lps_ok (L := 9) (n := 9) fun xs v h hv => by
  rw [par25] at h
  obtain ⟨s, vs, rfl, h⟩ := argS h
  cases args0 h
  rw [← hv]; exact run25 s
theorem pure23 : PureOk Try.prog 23 q23 := pure_of funcs mixed pcs1_ok lps_ok (L := 9) (n := 9) fun xs v h hv => by
  rw [par23] at h
  obtain ⟨i, vs, rfl, h⟩ := argI h
  obtain ⟨s, vs, rfl, h⟩ := argS h
  cases args0 h
  rw [← hv]; exact run23 s i
theorem pure26 : PureOk Try.prog 26 q26 := pure_of funcs mixed pcs1_ok lps_ok (L := 9) (n := 9) fun xs v h hv => by
  rw [par26] at h
  obtain ⟨i, vs, rfl, h⟩ := argI h
  obtain ⟨s, vs, rfl, h⟩ := argS h
  cases args0 h
  rw [← hv]; exact run26 s i
def pcs2 : List (Nat × (List KV → Option KV)) := [(10, q10), (25, q25), (23, q23), (26, q26), (12, q12), (24, q24), (14, q14), (15, q15)]
def cfg2 : Cfg := ⟨pcOf pcs2, lpOf lps⟩
theorem pcs2_ok : PcOk Try.prog cfg2.pc := pc_all fun p hp => by
  simp only [pcs2, List.mem_cons, List.not_mem_nil, or_false] at hp
  rcases hp with rfl | rfl | rfl | rfl | rfl | rfl | rfl | rfl
  · exact pure10
  · exact pure25
  · exact pure23
  · exact pure26
  · exact pure12
  · exact pure24
  · exact pure14
  · exact pure15
end
end Go.Proofs.Ytadjalkkhkkdiaa.st
