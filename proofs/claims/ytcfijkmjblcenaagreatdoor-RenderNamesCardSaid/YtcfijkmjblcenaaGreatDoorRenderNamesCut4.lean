/-
  The abstract machine's run of the part 3 of the law RenderNames: the pieces of its call, joined.
-/
import Derived.Test.YtcfijkmjblcenaaGreatDoorRenderNamesDeep4A
import Derived.Test.YtcfijkmjblcenaaGreatDoorRenderNamesDeep4R1
import Derived.Test.YtcfijkmjblcenaaGreatDoorRenderNamesDeep4R4
namespace Go.Proofs.YtcfijkmjblcenaaGreatDoor.renderNames
theorem loop4 : Abs.loopV (Abs.codeV Tryz.prog call4_1 400 body4) 400 dt4_2 dA4_2 = some (.exit 0, dt4_7, dA4_7) := Abs.loop_next Tryz.prog 400 call4_1 (n := 399) round4_1 (Abs.loop_next Tryz.prog 400 call4_1 (n := 398) round4_2 (Abs.loop_next Tryz.prog 400 call4_1 (n := 397) round4_3 (Abs.loop_next Tryz.prog 400 call4_1 (n := 396) round4_4 (Abs.loop_out Tryz.prog 400 call4_1 (n := 395) out4))))
theorem reg4_1 : Abs.runS Tryz.prog 400 call4_1 ((spine4_1.drop 7).take 1) dt4_2 dA4_2 = some (.normal, dt4_7, dA4_7) := by
  rw [bl4, Abs.runS_one]
  exact Abs.block_of_loop Tryz.prog 400 call4_1 loop4
theorem whole4_0 : call 6 args4_0 dA4_1 = some (val4_0, dA4_8) :=
  Abs.call_of_left Tryz.prog (Abs.keyTold 101 (Abs.insertTold [(389, 2, 16)])) 400 (n := 398) rfl rfl there4_0 bod4_0 (Abs.LeftG.step Tryz.prog 400 (k := 7) (j := 1) (Abs.LeftG.step Tryz.prog 400 (k := 0) (j := 7) (Abs.LeftG.start Tryz.prog 400 call4_1 spine4_1 _ _) in4_0) reg4_1) fin4_0
theorem run4 : Abs.runS Tryz.prog 400 call ((spine.drop 3).take 1) t3 A3 = some (.normal, t4, A4) := by
  rw [el4_0, Abs.runS_one]
  refine Abs.region_of_ops Tryz.prog 400 call ?_
  have h1 := Abs.opsV_append Tryz.prog call ops4_0.toList _ ([op4_0] ++ ops4_0.toList.drop 4) _ _ _ _ pre4_0
  have h2 := Abs.opsV_call Tryz.prog call ops4_0.toList grd4_0 cmp4_0 cal4_0 whole4_0
  have h3 := Abs.opsV_append Tryz.prog call ops4_0.toList _ (ops4_0.toList.drop 4) _ _ _ _ h2
  rw [← spl4_0] at h1
  rw [h1, h3]
  exact post4_0
end Go.Proofs.YtcfijkmjblcenaaGreatDoor.renderNames
