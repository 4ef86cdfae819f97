/-
  The abstract machine's run of the parts 0 to 1 of the law PickNames.
-/
import Derived.Test.YtcfijkmjblcenaaGreatDoorPickNamesCutD1
namespace Go.Proofs.YtcfijkmjblcenaaGreatDoor.pickNames
theorem run1 : Abs.runS Tryz.prog 400 call ((spine.drop 0).take 2) Abs.Trie.leaf begin.enter = some (.normal, t1, A1) := by kernel_rfl
end Go.Proofs.YtcfijkmjblcenaaGreatDoor.pickNames
