/-
  The abstract machine's run of the parts 3 to 5 of the law ImageNames.
-/
import Derived.Test.YtdkhenfacnjgcaaImageNamesCut2D
namespace Go.Proofs.Ytdkhenfacnjgcaa.imageNames
theorem run2 : Abs.runS Try.prog 200 call ((spine.drop 3).take 3) t1 A1 = some (.normal, t2, A2) := by kernel_rfl
end Go.Proofs.Ytdkhenfacnjgcaa.imageNames
