/-
  The abstract machine's own run of the law RenderNames says true: its pieces joined. No conditions.
-/
import Derived.Test.YtcfijkmjblcenaaGreatDoorRenderNamesCut1
import Derived.Test.YtcfijkmjblcenaaGreatDoorRenderNamesCut2
import Derived.Test.YtcfijkmjblcenaaGreatDoorRenderNamesCut3
import Derived.Test.YtcfijkmjblcenaaGreatDoorRenderNamesCut4
import Derived.Test.YtcfijkmjblcenaaGreatDoorRenderNamesCut5
import Derived.Test.YtcfijkmjblcenaaGreatDoorRenderNamesCut6
namespace Go.Proofs.YtcfijkmjblcenaaGreatDoor.renderNames
theorem body : Tryz.f3.body = some root := by kernel_rfl
theorem there : Tryz.prog.funcs.toList[3]? = some Tryz.f3 := by kernel_rfl
theorem left1 : Abs.Left Tryz.prog 400 call begin spine (spine.drop 1) t1 A1 := Abs.Left.step Tryz.prog 400 (k := 0) (j := 1) (Abs.Left.start Tryz.prog 400 call begin spine) run1
theorem left2 : Abs.Left Tryz.prog 400 call begin spine (spine.drop 2) t2 A2 := Abs.Left.step Tryz.prog 400 (k := 1) (j := 1) left1 run2
theorem left3 : Abs.Left Tryz.prog 400 call begin spine (spine.drop 3) t3 A3 := Abs.Left.step Tryz.prog 400 (k := 2) (j := 1) left2 run3
theorem left4 : Abs.Left Tryz.prog 400 call begin spine (spine.drop 4) t4 A4 := Abs.Left.step Tryz.prog 400 (k := 3) (j := 1) left3 run4
theorem left5 : Abs.Left Tryz.prog 400 call begin spine (spine.drop 6) t5 A5 := Abs.Left.step Tryz.prog 400 (k := 4) (j := 2) left4 run5
theorem left6 : Abs.Left Tryz.prog 400 call begin spine (spine.drop 7) t6 A6 := Abs.Left.step Tryz.prog 400 (k := 6) (j := 1) left5 run6
theorem last : Abs.saysEnd Tryz.prog Tryz.f3 begin (Abs.runS Tryz.prog 400 call (spine.drop 7) t6 A6) = true := by kernel_rfl
theorem says : Abs.saysTrue (Abs.callV Tryz.prog (Abs.keyTold 101 (Abs.insertTold [(389, 2, 16)])) 400 400 3 [] (Abs.St.glob globs)) = true := Abs.says_of_left Tryz.prog (Abs.keyTold 101 (Abs.insertTold [(389, 2, 16)])) 400 399 (A0 := begin) rfl rfl there body left6 last
end Go.Proofs.YtcfijkmjblcenaaGreatDoor.renderNames
