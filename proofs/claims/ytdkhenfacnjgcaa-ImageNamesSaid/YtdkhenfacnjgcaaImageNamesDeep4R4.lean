/-
  A piece of the abstract machine's run of the law ImageNames, inside a call.
-/
import Derived.Test.YtdkhenfacnjgcaaImageNamesDeep4S7
namespace Go.Proofs.Ytdkhenfacnjgcaa.imageNames
theorem round4_4 : Abs.codeV Try.prog call4 200 body4 dt4_4 dA4_4 = some (.normal, dt4_5, dA4_5) := by kernel_rfl
end Go.Proofs.Ytdkhenfacnjgcaa.imageNames
