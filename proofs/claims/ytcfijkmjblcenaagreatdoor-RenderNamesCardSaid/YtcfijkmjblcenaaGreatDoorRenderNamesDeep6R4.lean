/-
  Rounds of a loop inside a call of the law RenderNames.
-/
import Derived.Test.YtcfijkmjblcenaaGreatDoorRenderNamesDeep6S1
namespace Go.Proofs.YtcfijkmjblcenaaGreatDoor.renderNames
theorem round6_4 : Abs.codeV Tryz.prog call6_1 400 body6 dt6_5 dA6_5 = some (.normal, dt6_6, dA6_6) := by kernel_rfl
end Go.Proofs.YtcfijkmjblcenaaGreatDoor.renderNames
