/-
  The abstract machine's run of the part 6 of the law RenderNames: the pieces of its call, joined.
-/
import Derived.Test.YtcfijkmjblcenaaGreatDoorRenderNamesDeep6A
import Derived.Test.YtcfijkmjblcenaaGreatDoorRenderNamesDeep6R1
import Derived.Test.YtcfijkmjblcenaaGreatDoorRenderNamesDeep6R4
import Derived.Test.YtcfijkmjblcenaaGreatDoorRenderNamesDeep6R5
namespace Go.Proofs.YtcfijkmjblcenaaGreatDoor.renderNames
theorem loop6 : Abs.loopV (Abs.codeV Tryz.prog call6_1 400 body6) 400 dt6_2 dA6_2 = some (.exit 0, dt6_9, dA6_9) := Abs.loop_next Tryz.prog 400 call6_1 (n := 399) round6_1 (Abs.loop_next Tryz.prog 400 call6_1 (n := 398) round6_2 (Abs.loop_next Tryz.prog 400 call6_1 (n := 397) round6_3 (Abs.loop_next Tryz.prog 400 call6_1 (n := 396) round6_4 (Abs.loop_next Tryz.prog 400 call6_1 (n := 395) round6_5 (Abs.loop_next Tryz.prog 400 call6_1 (n := 394) round6_6 (Abs.loop_out Tryz.prog 400 call6_1 (n := 393) out6))))))
theorem reg6_1 : Abs.runS Tryz.prog 400 call6_1 ((spine6_1.drop 6).take 1) dt6_2 dA6_2 = some (.normal, dt6_9, dA6_9) := by
  rw [bl6, Abs.runS_one]
  exact Abs.block_of_loop Tryz.prog 400 call6_1 loop6
theorem whole6_0 : call 13 args6_0 dA6_1 = some (val6_0, dA6_10) :=
  Abs.call_of_left Tryz.prog (Abs.keyTold 101 (Abs.insertTold [(389, 2, 16)])) 400 (n := 398) rfl rfl there6_0 bod6_0 (Abs.LeftG.step Tryz.prog 400 (k := 6) (j := 1) (Abs.LeftG.step Tryz.prog 400 (k := 0) (j := 6) (Abs.LeftG.start Tryz.prog 400 call6_1 spine6_1 _ _) in6_0) reg6_1) fin6_0
theorem run6 : Abs.runS Tryz.prog 400 call ((spine.drop 6).take 1) t5 A5 = some (.normal, t6, A6) := by
  rw [el6_0, Abs.runS_one]
  refine Abs.region_of_ops Tryz.prog 400 call ?_
  have h1 := Abs.opsV_append Tryz.prog call ops6_0.toList _ ([op6_0] ++ ops6_0.toList.drop 2) _ _ _ _ pre6_0
  have h2 := Abs.opsV_call Tryz.prog call ops6_0.toList grd6_0 cmp6_0 cal6_0 whole6_0
  have h3 := Abs.opsV_append Tryz.prog call ops6_0.toList _ (ops6_0.toList.drop 2) _ _ _ _ h2
  rw [← spl6_0] at h1
  rw [h1, h3]
  exact post6_0
end Go.Proofs.YtcfijkmjblcenaaGreatDoor.renderNames
