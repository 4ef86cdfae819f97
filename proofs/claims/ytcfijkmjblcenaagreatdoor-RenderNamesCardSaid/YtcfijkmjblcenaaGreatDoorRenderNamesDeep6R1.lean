/-
  Rounds of a loop inside a call of the law RenderNames.
-/
import Derived.Test.YtcfijkmjblcenaaGreatDoorRenderNamesDeep6S1
namespace Go.Proofs.YtcfijkmjblcenaaGreatDoor.renderNames
theorem round6_1 : Abs.codeV Tryz.prog call6_1 400 body6 dt6_2 dA6_2 = some (.normal, dt6_3, dA6_3) := by kernel_rfl
theorem round6_2 : Abs.codeV Tryz.prog call6_1 400 body6 dt6_3 dA6_3 = some (.normal, dt6_4, dA6_4) := by kernel_rfl
theorem round6_3 : Abs.codeV Tryz.prog call6_1 400 body6 dt6_4 dA6_4 = some (.normal, dt6_5, dA6_5) := by kernel_rfl
end Go.Proofs.YtcfijkmjblcenaaGreatDoor.renderNames
