/-
  The chapter's first examples (bins), told by the abstract machine's own run. No conditions.
-/
import Derived.Test.YtjmpheohljeapaaBase
namespace Go.Proofs.Ytjmpheohljeapaa.b
open Go.K
noncomputable def F_l28_alive : List KV → KR KV := fun _ => .ok (.bool true)
theorem pure_l28_alive : PureOk Try.prog 20 F_l28_alive := pure_closed funcs mixed (L := 200) (n := 60) (by kernel_rfl) (by kernel_rfl)
end Go.Proofs.Ytjmpheohljeapaa.b
