/-
  The abstract machine's run of the parts 12 to 12 of the law ImageNames.
-/
import Derived.Test.YtdkhenfacnjgcaaImageNamesCut5D
namespace Go.Proofs.Ytdkhenfacnjgcaa.imageNames
theorem run5 : Abs.runS Try.prog 200 call ((spine.drop 12).take 1) t4 A4 = some (.normal, t5, A5) := by kernel_rfl
end Go.Proofs.Ytdkhenfacnjgcaa.imageNames
