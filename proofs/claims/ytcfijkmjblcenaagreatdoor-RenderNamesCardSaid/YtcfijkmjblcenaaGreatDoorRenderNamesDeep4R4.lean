/-
  Rounds of a loop inside a call of the law RenderNames.
-/
import Derived.Test.YtcfijkmjblcenaaGreatDoorRenderNamesDeep4S1
namespace Go.Proofs.YtcfijkmjblcenaaGreatDoor.renderNames
theorem round4_4 : Abs.codeV Tryz.prog call4_1 400 body4 dt4_5 dA4_5 = some (.normal, dt4_6, dA4_6) := by kernel_rfl
end Go.Proofs.YtcfijkmjblcenaaGreatDoor.renderNames
