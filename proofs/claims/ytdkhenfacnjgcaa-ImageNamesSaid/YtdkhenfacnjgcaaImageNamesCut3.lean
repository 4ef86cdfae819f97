/-
  The abstract machine's run of the parts 6 to 10 of the law ImageNames.
-/
import Derived.Test.YtdkhenfacnjgcaaImageNamesCut3D
namespace Go.Proofs.Ytdkhenfacnjgcaa.imageNames
theorem run3 : Abs.runS Try.prog 200 call ((spine.drop 6).take 5) t2 A2 = some (.normal, t3, A3) := by kernel_rfl
end Go.Proofs.Ytdkhenfacnjgcaa.imageNames
