/-
  The abstract machine's run of the part 1 of the law RenderNames: the pieces of its call, joined.
-/
import Derived.Test.YtcfijkmjblcenaaGreatDoorRenderNamesDeep2A
import Derived.Test.YtcfijkmjblcenaaGreatDoorRenderNamesDeep2R1
import Derived.Test.YtcfijkmjblcenaaGreatDoorRenderNamesDeep2R4
import Derived.Test.YtcfijkmjblcenaaGreatDoorRenderNamesDeep2R5
namespace Go.Proofs.YtcfijkmjblcenaaGreatDoor.renderNames
theorem loop2 : Abs.loopV (Abs.codeV Tryz.prog call2_2 400 body2) 400 dt2_4 dA2_4 = some (.exit 0, dt2_11, dA2_11) := Abs.loop_next Tryz.prog 400 call2_2 (n := 399) round2_1 (Abs.loop_next Tryz.prog 400 call2_2 (n := 398) round2_2 (Abs.loop_next Tryz.prog 400 call2_2 (n := 397) round2_3 (Abs.loop_next Tryz.prog 400 call2_2 (n := 396) round2_4 (Abs.loop_next Tryz.prog 400 call2_2 (n := 395) round2_5 (Abs.loop_next Tryz.prog 400 call2_2 (n := 394) round2_6 (Abs.loop_out Tryz.prog 400 call2_2 (n := 393) out2))))))
theorem reg2_2 : Abs.runS Tryz.prog 400 call2_2 ((spine2_2.drop 6).take 1) dt2_4 dA2_4 = some (.normal, dt2_11, dA2_11) := by
  rw [bl2, Abs.runS_one]
  exact Abs.block_of_loop Tryz.prog 400 call2_2 loop2
theorem whole2_1 : call2_1 13 args2_1 dA2_3 = some (val2_1, dA2_12) :=
  Abs.call_of_left Tryz.prog (Abs.keyTold 101 (Abs.insertTold [(389, 2, 16)])) 400 (n := 397) rfl rfl there2_1 bod2_1 (Abs.LeftG.step Tryz.prog 400 (k := 6) (j := 1) (Abs.LeftG.step Tryz.prog 400 (k := 0) (j := 6) (Abs.LeftG.start Tryz.prog 400 call2_2 spine2_2 _ _) in2_1) reg2_2) fin2_1
theorem reg2_1 : Abs.runS Tryz.prog 400 call2_1 ((spine2_1.drop 3).take 1) dt2_2 dA2_2 = some (.normal, dt2_13, dA2_13) := by
  rw [el2_1, Abs.runS_one]
  refine Abs.region_of_ops Tryz.prog 400 call2_1 ?_
  have h1 := Abs.opsV_append Tryz.prog call2_1 ops2_1.toList _ ([op2_1] ++ ops2_1.toList.drop 2) _ _ _ _ pre2_1
  have h2 := Abs.opsV_call Tryz.prog call2_1 ops2_1.toList grd2_1 cmp2_1 cal2_1 whole2_1
  have h3 := Abs.opsV_append Tryz.prog call2_1 ops2_1.toList _ (ops2_1.toList.drop 2) _ _ _ _ h2
  rw [← spl2_1] at h1
  rw [h1, h3]
  exact post2_1
theorem whole2_0 : call 5 args2_0 dA2_1 = some (val2_0, dA2_14) :=
  Abs.call_of_left Tryz.prog (Abs.keyTold 101 (Abs.insertTold [(389, 2, 16)])) 400 (n := 398) rfl rfl there2_0 bod2_0 (Abs.LeftG.step Tryz.prog 400 (k := 3) (j := 1) (Abs.LeftG.step Tryz.prog 400 (k := 0) (j := 3) (Abs.LeftG.start Tryz.prog 400 call2_1 spine2_1 _ _) in2_0) reg2_1) fin2_0
theorem run2 : Abs.runS Tryz.prog 400 call ((spine.drop 1).take 1) t1 A1 = some (.normal, t2, A2) := by
  rw [el2_0, Abs.runS_one]
  refine Abs.region_of_ops Tryz.prog 400 call ?_
  have h1 := Abs.opsV_append Tryz.prog call ops2_0.toList _ ([op2_0] ++ ops2_0.toList.drop 1) _ _ _ _ pre2_0
  have h2 := Abs.opsV_call Tryz.prog call ops2_0.toList grd2_0 cmp2_0 cal2_0 whole2_0
  have h3 := Abs.opsV_append Tryz.prog call ops2_0.toList _ (ops2_0.toList.drop 1) _ _ _ _ h2
  rw [← spl2_0] at h1
  rw [h1, h3]
  exact post2_0
end Go.Proofs.YtcfijkmjblcenaaGreatDoor.renderNames
