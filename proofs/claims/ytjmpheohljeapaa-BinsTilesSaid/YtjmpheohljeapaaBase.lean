/-
  The program's facts that all texts ask.
-/
import Derived.Test.YtjmpheohljeapaaProg
import Derived.Test.YtjmpheohljeapaaKTyped
namespace Go.Proofs.Ytjmpheohljeapaa.b
open Go.K
theorem funcs : Try.prog.funcs.toList.all Abs.funcOk = true := by kernel_rfl
theorem mixed : Try.prog.follows .mixedOrders = true := by kernel_rfl
end Go.Proofs.Ytjmpheohljeapaa.b
