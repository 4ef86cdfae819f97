/-
  Rounds of a loop inside a call of the law RenderNames.
-/
import Derived.Test.YtcfijkmjblcenaaGreatDoorRenderNamesDeep2S1
namespace Go.Proofs.YtcfijkmjblcenaaGreatDoor.renderNames
theorem round2_4 : Abs.codeV Tryz.prog call2_2 400 body2 dt2_7 dA2_7 = some (.normal, dt2_8, dA2_8) := by kernel_rfl
end Go.Proofs.YtcfijkmjblcenaaGreatDoor.renderNames
