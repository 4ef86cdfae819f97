/-
  The abstract machine's run of the parts 0 to 2 of the law ImageNames.
-/
import Derived.Test.YtdkhenfacnjgcaaImageNamesCut1D
namespace Go.Proofs.Ytdkhenfacnjgcaa.imageNames
theorem run1 : Abs.runS Try.prog 200 call ((spine.drop 0).take 3) Abs.Trie.leaf Abs.St.empty.enter = some (.normal, t1, A1) := by kernel_rfl
end Go.Proofs.Ytdkhenfacnjgcaa.imageNames
