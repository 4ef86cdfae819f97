/-
  The abstract machine's run of the parts 2 to 3 of the law RasterNames.
-/
import Derived.Test.YtcfijkmjblcenaaGreatRasterNamesCut2D
namespace Go.Proofs.YtcfijkmjblcenaaGreat.rasterNames
theorem run2 : Abs.runS Tryz.prog 400 call ((spine.drop 2).take 2) t1 A1 = some (.normal, t2, A2) := by kernel_rfl
end Go.Proofs.YtcfijkmjblcenaaGreat.rasterNames
