/-
  Rounds of a loop inside a call of the law RenderNames.
-/
import Derived.Test.YtcfijkmjblcenaaGreatDoorRenderNamesDeep4S1
namespace Go.Proofs.YtcfijkmjblcenaaGreatDoor.renderNames
theorem round4_1 : Abs.codeV Tryz.prog call4_1 400 body4 dt4_2 dA4_2 = some (.normal, dt4_3, dA4_3) := by kernel_rfl
theorem round4_2 : Abs.codeV Tryz.prog call4_1 400 body4 dt4_3 dA4_3 = some (.normal, dt4_4, dA4_4) := by kernel_rfl
theorem round4_3 : Abs.codeV Tryz.prog call4_1 400 body4 dt4_4 dA4_4 = some (.normal, dt4_5, dA4_5) := by kernel_rfl
end Go.Proofs.YtcfijkmjblcenaaGreatDoor.renderNames
