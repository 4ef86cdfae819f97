/-
  The abstract machine's own run of the law PickNames says true: its pieces joined. No conditions.
-/
import Derived.Test.YtcfijkmjblcenaaGreatDoorPickNamesCut1
import Derived.Test.YtcfijkmjblcenaaGreatDoorPickNamesCut2
import Derived.Test.YtcfijkmjblcenaaGreatDoorPickNamesCut3
namespace Go.Proofs.YtcfijkmjblcenaaGreatDoor.pickNames
theorem body : Tryz.f4.body = some root := by kernel_rfl
theorem there : Tryz.prog.funcs.toList[4]? = some Tryz.f4 := by kernel_rfl
theorem left1 : Abs.Left Tryz.prog 400 call begin spine (spine.drop 2) t1 A1 := Abs.Left.step Tryz.prog 400 (k := 0) (j := 2) (Abs.Left.start Tryz.prog 400 call begin spine) run1
theorem left2 : Abs.Left Tryz.prog 400 call begin spine (spine.drop 3) t2 A2 := Abs.Left.step Tryz.prog 400 (k := 2) (j := 1) left1 run2
theorem left3 : Abs.Left Tryz.prog 400 call begin spine (spine.drop 4) t3 A3 := Abs.Left.step Tryz.prog 400 (k := 3) (j := 1) left2 run3
theorem last : Abs.saysEnd Tryz.prog Tryz.f4 begin (Abs.runS Tryz.prog 400 call (spine.drop 4) t3 A3) = true := by kernel_rfl
theorem says : Abs.saysTrue (Abs.callV Tryz.prog (Abs.keyTold 101 (Abs.insertTold [(389, 2, 16)])) 400 400 4 [] (Abs.St.glob globs)) = true := Abs.says_of_left Tryz.prog (Abs.keyTold 101 (Abs.insertTold [(389, 2, 16)])) 400 399 (A0 := begin) rfl rfl there body left3 last
end Go.Proofs.YtcfijkmjblcenaaGreatDoor.pickNames
