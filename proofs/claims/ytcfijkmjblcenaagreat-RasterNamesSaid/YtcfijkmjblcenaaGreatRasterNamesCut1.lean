/-
  The abstract machine's run of the parts 0 to 1 of the law RasterNames.
-/
import Derived.Test.YtcfijkmjblcenaaGreatRasterNamesCut1D
namespace Go.Proofs.YtcfijkmjblcenaaGreat.rasterNames
theorem run1 : Abs.runS Tryz.prog 400 call ((spine.drop 0).take 2) Abs.Trie.leaf Abs.St.empty.enter = some (.normal, t1, A1) := by kernel_rfl
end Go.Proofs.YtcfijkmjblcenaaGreat.rasterNames
