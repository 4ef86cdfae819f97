/-
  The abstract machine's run of the parts 0 to 0 of the law RenderNames.
-/
import Derived.Test.YtcfijkmjblcenaaGreatDoorRenderNamesCutD1
namespace Go.Proofs.YtcfijkmjblcenaaGreatDoor.renderNames
theorem run1 : Abs.runS Tryz.prog 400 call ((spine.drop 0).take 1) Abs.Trie.leaf begin.enter = some (.normal, t1, A1) := by kernel_rfl
end Go.Proofs.YtcfijkmjblcenaaGreatDoor.renderNames
