/-
  The abstract machine's run of the parts 3 to 3 of the law PickNames.
-/
import Derived.Test.YtcfijkmjblcenaaGreatDoorPickNamesCutD1
namespace Go.Proofs.YtcfijkmjblcenaaGreatDoor.pickNames
theorem run3 : Abs.runS Tryz.prog 400 call ((spine.drop 3).take 1) t2 A2 = some (.normal, t3, A3) := by kernel_rfl
end Go.Proofs.YtcfijkmjblcenaaGreatDoor.pickNames
