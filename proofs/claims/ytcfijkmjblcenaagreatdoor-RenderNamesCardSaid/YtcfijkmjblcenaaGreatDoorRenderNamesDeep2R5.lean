/-
  Rounds of a loop inside a call of the law RenderNames.
-/
import Derived.Test.YtcfijkmjblcenaaGreatDoorRenderNamesDeep2S1
namespace Go.Proofs.YtcfijkmjblcenaaGreatDoor.renderNames
theorem round2_5 : Abs.codeV Tryz.prog call2_2 400 body2 dt2_8 dA2_8 = some (.normal, dt2_9, dA2_9) := by kernel_rfl
theorem round2_6 : Abs.codeV Tryz.prog call2_2 400 body2 dt2_9 dA2_9 = some (.normal, dt2_10, dA2_10) := by kernel_rfl
end Go.Proofs.YtcfijkmjblcenaaGreatDoor.renderNames
