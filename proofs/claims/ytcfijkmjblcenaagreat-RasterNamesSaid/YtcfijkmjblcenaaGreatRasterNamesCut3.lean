/-
  The abstract machine's run of the parts 4 to 4 of the law RasterNames.
-/
import Derived.Test.YtcfijkmjblcenaaGreatRasterNamesCut3D
namespace Go.Proofs.YtcfijkmjblcenaaGreat.rasterNames
theorem run3 : Abs.runS Tryz.prog 400 call ((spine.drop 4).take 1) t2 A2 = some (.normal, t3, A3) := by kernel_rfl
end Go.Proofs.YtcfijkmjblcenaaGreat.rasterNames
