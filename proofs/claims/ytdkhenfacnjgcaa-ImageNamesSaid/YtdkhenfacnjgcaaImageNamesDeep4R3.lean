/-
  A piece of the abstract machine's run of the law ImageNames, inside a call.
-/
import Derived.Test.YtdkhenfacnjgcaaImageNamesDeep4S7
namespace Go.Proofs.Ytdkhenfacnjgcaa.imageNames
theorem round4_3 : Abs.codeV Try.prog call4 200 body4 dt4_3 dA4_3 = some (.normal, dt4_4, dA4_4) := by kernel_rfl
end Go.Proofs.Ytdkhenfacnjgcaa.imageNames
