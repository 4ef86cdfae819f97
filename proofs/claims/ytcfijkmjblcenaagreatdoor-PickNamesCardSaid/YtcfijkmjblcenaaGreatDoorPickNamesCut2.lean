/-
  The abstract machine's run of the parts 2 to 2 of the law PickNames.
-/
import Derived.Test.YtcfijkmjblcenaaGreatDoorPickNamesCutD1
namespace Go.Proofs.YtcfijkmjblcenaaGreatDoor.pickNames
theorem run2 : Abs.runS Tryz.prog 400 call ((spine.drop 2).take 1) t1 A1 = some (.normal, t2, A2) := by kernel_rfl
end Go.Proofs.YtcfijkmjblcenaaGreatDoor.pickNames
