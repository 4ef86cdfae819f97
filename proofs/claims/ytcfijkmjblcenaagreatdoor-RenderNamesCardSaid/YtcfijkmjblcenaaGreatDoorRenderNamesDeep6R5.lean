/-
  Rounds of a loop inside a call of the law RenderNames.
-/
import Derived.Test.YtcfijkmjblcenaaGreatDoorRenderNamesDeep6S1
namespace Go.Proofs.YtcfijkmjblcenaaGreatDoor.renderNames
theorem round6_5 : Abs.codeV Tryz.prog call6_1 400 body6 dt6_6 dA6_6 = some (.normal, dt6_7, dA6_7) := by kernel_rfl
theorem round6_6 : Abs.codeV Tryz.prog call6_1 400 body6 dt6_7 dA6_7 = some (.normal, dt6_8, dA6_8) := by kernel_rfl
end Go.Proofs.YtcfijkmjblcenaaGreatDoor.renderNames
