/-
  Rounds of a loop inside a call of the law RenderNames.
-/
import Derived.Test.YtcfijkmjblcenaaGreatDoorRenderNamesDeep2S1
namespace Go.Proofs.YtcfijkmjblcenaaGreatDoor.renderNames
theorem round2_1 : Abs.codeV Tryz.prog call2_2 400 body2 dt2_4 dA2_4 = some (.normal, dt2_5, dA2_5) := by kernel_rfl
theorem round2_2 : Abs.codeV Tryz.prog call2_2 400 body2 dt2_5 dA2_5 = some (.normal, dt2_6, dA2_6) := by kernel_rfl
theorem round2_3 : Abs.codeV Tryz.prog call2_2 400 body2 dt2_6 dA2_6 = some (.normal, dt2_7, dA2_7) := by kernel_rfl
end Go.Proofs.YtcfijkmjblcenaaGreatDoor.renderNames
