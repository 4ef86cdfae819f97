/-
  The abstract machine's run of the parts 4 to 5 of the law RenderNames.
-/
import Derived.Test.YtcfijkmjblcenaaGreatDoorRenderNamesCutD1
namespace Go.Proofs.YtcfijkmjblcenaaGreatDoor.renderNames
theorem run5 : Abs.runS Tryz.prog 400 call ((spine.drop 4).take 2) t4 A4 = some (.normal, t5, A5) := by kernel_rfl
end Go.Proofs.YtcfijkmjblcenaaGreatDoor.renderNames
