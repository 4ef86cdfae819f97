/-
  The abstract machine's own run of the law RasterNames says true: its pieces joined. No conditions.
-/
import Derived.Test.YtcfijkmjblcenaaGreatRasterNamesCut1
import Derived.Test.YtcfijkmjblcenaaGreatRasterNamesCut2
import Derived.Test.YtcfijkmjblcenaaGreatRasterNamesCut3
import Derived.Test.YtcfijkmjblcenaaGreatRasterNamesCut4
import Derived.Test.YtcfijkmjblcenaaGreatRasterNamesCut5
namespace Go.Proofs.YtcfijkmjblcenaaGreat.rasterNames
theorem body : Tryz.f3.body = some root := by kernel_rfl
theorem there : Tryz.prog.funcs.toList[3]? = some Tryz.f3 := by kernel_rfl
theorem left1 : Abs.Left Tryz.prog 400 call spine (spine.drop 2) t1 A1 := Abs.Left.step Tryz.prog 400 (k := 0) (j := 2) (Abs.Left.start Tryz.prog 400 call spine) run1
theorem left2 : Abs.Left Tryz.prog 400 call spine (spine.drop 4) t2 A2 := Abs.Left.step Tryz.prog 400 (k := 2) (j := 2) left1 run2
theorem left3 : Abs.Left Tryz.prog 400 call spine (spine.drop 5) t3 A3 := Abs.Left.step Tryz.prog 400 (k := 4) (j := 1) left2 run3
theorem left4 : Abs.Left Tryz.prog 400 call spine (spine.drop 6) t4 A4 := Abs.Left.step Tryz.prog 400 (k := 5) (j := 1) left3 run4
theorem left5 : Abs.Left Tryz.prog 400 call spine (spine.drop 7) t5 A5 := Abs.Left.step Tryz.prog 400 (k := 6) (j := 1) left4 run5
theorem last : Abs.saysEnd Tryz.prog Tryz.f3 (Abs.runS Tryz.prog 400 call (spine.drop 7) t5 A5) = true := by kernel_rfl
theorem says : Abs.saysTrue (Abs.callV Tryz.prog Abs.noneTold 400 400 3 [] Abs.St.empty) = true := Abs.says_of_left Tryz.prog Abs.noneTold 400 399 rfl rfl there body left5 last
end Go.Proofs.YtcfijkmjblcenaaGreat.rasterNames
