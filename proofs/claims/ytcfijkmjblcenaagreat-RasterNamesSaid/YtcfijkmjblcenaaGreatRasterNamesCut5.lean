/-
  The abstract machine's run of the parts 6 to 6 of the law RasterNames.
-/
import Derived.Test.YtcfijkmjblcenaaGreatRasterNamesCut5D
namespace Go.Proofs.YtcfijkmjblcenaaGreat.rasterNames
theorem run5 : Abs.runS Tryz.prog 400 call ((spine.drop 6).take 1) t4 A4 = some (.normal, t5, A5) := by kernel_rfl
end Go.Proofs.YtcfijkmjblcenaaGreat.rasterNames
