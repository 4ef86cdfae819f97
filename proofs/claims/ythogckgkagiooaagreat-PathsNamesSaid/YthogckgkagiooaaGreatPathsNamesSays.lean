/-
  The abstract machine's own run of the law PathsNames says true. No conditions.
-/
import Derived.Test.YthogckgkagiooaaGreatProg
import Derived.Test.YthogckgkagiooaaGreatAbsCode
import Derived.WalkKit
namespace Go.Proofs.YthogckgkagiooaaGreat.pathsNames
theorem says : Abs.saysTrue (Abs.callV Tryz.prog (Abs.insertTold [(137, 2, 16)]) 500 200 3 [] Abs.St.empty) = true := by kernel_rfl
end Go.Proofs.YthogckgkagiooaaGreat.pathsNames
