/-
  A piece of the abstract machine's run of the law RasterNames, inside a call.
-/
import Derived.Test.YtcfijkmjblcenaaGreatRasterNamesDeep4S7
namespace Go.Proofs.YtcfijkmjblcenaaGreat.rasterNames
theorem round4_1 : Abs.codeV Tryz.prog call4 400 body4 dt4_1 dA4_1 = some (.normal, dt4_2, dA4_2) := by kernel_rfl
end Go.Proofs.YtcfijkmjblcenaaGreat.rasterNames
