/-
  A piece of the abstract machine's run of the law RasterNames, inside a call.
-/
import Derived.Test.YtcfijkmjblcenaaGreatRasterNamesDeep4S7
namespace Go.Proofs.YtcfijkmjblcenaaGreat.rasterNames
theorem round4_3 : Abs.codeV Tryz.prog call4 400 body4 dt4_3 dA4_3 = some (.normal, dt4_4, dA4_4) := by kernel_rfl
end Go.Proofs.YtcfijkmjblcenaaGreat.rasterNames
