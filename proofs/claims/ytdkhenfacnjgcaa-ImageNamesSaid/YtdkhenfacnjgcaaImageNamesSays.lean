/-
  The abstract machine's own run of the law ImageNames says true: its pieces joined. No conditions.
-/
import Derived.Test.YtdkhenfacnjgcaaImageNamesCut1
import Derived.Test.YtdkhenfacnjgcaaImageNamesCut2
import Derived.Test.YtdkhenfacnjgcaaImageNamesCut3
import Derived.Test.YtdkhenfacnjgcaaImageNamesCut4
import Derived.Test.YtdkhenfacnjgcaaImageNamesCut5
namespace Go.Proofs.Ytdkhenfacnjgcaa.imageNames
theorem body : Try.f3.body = some root := by kernel_rfl
theorem there : Try.prog.funcs.toList[3]? = some Try.f3 := by kernel_rfl
theorem left1 : Abs.Left Try.prog 200 call spine (spine.drop 3) t1 A1 := Abs.Left.step Try.prog 200 (k := 0) (j := 3) (Abs.Left.start Try.prog 200 call spine) run1
theorem left2 : Abs.Left Try.prog 200 call spine (spine.drop 6) t2 A2 := Abs.Left.step Try.prog 200 (k := 3) (j := 3) left1 run2
theorem left3 : Abs.Left Try.prog 200 call spine (spine.drop 11) t3 A3 := Abs.Left.step Try.prog 200 (k := 6) (j := 5) left2 run3
theorem left4 : Abs.Left Try.prog 200 call spine (spine.drop 12) t4 A4 := Abs.Left.step Try.prog 200 (k := 11) (j := 1) left3 run4
theorem left5 : Abs.Left Try.prog 200 call spine (spine.drop 13) t5 A5 := Abs.Left.step Try.prog 200 (k := 12) (j := 1) left4 run5
theorem last : Abs.saysEnd Try.prog Try.f3 (Abs.runS Try.prog 200 call (spine.drop 13) t5 A5) = true := by kernel_rfl
theorem says : Abs.saysTrue (Abs.callV Try.prog Abs.noneTold 200 200 3 [] Abs.St.empty) = true := Abs.says_of_left Try.prog Abs.noneTold 200 199 rfl there body left5 last
end Go.Proofs.Ytdkhenfacnjgcaa.imageNames
