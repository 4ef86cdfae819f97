/-
  The abstract machine's run of the parts 2 to 2 of the law RenderNames.
-/
import Derived.Test.YtcfijkmjblcenaaGreatDoorRenderNamesCutD1
namespace Go.Proofs.YtcfijkmjblcenaaGreatDoor.renderNames
theorem run3 : Abs.runS Tryz.prog 400 call ((spine.drop 2).take 1) t2 A2 = some (.normal, t3, A3) := by kernel_rfl
end Go.Proofs.YtcfijkmjblcenaaGreatDoor.renderNames
