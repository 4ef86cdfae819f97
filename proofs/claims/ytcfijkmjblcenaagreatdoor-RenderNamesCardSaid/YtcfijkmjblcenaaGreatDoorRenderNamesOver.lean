/-
  The law RenderNames holds: the call returns true (shown by the abstract machine's own run of the code, whose every answer is shown to be the model's). No conditions.
-/
import Derived.Test.YtcfijkmjblcenaaGreatDoorRows
import Derived.Test.YtcfijkmjblcenaaGreatDoorAbsCode
import Derived.Test.YtcfijkmjblcenaaGreatDoorInsert
import Derived.Test.YtcfijkmjblcenaaGreatDoorKey
import Derived.Test.YtcfijkmjblcenaaGreatDoorAbsGlob
import Derived.Test.YtcfijkmjblcenaaGreatDoorAbsRow
import Derived.WalkKit
import Derived.Test.YtcfijkmjblcenaaGreatDoorCards
import Derived.Test.YtcfijkmjblcenaaGreatDoorTie
import Derived.ProofKit
import Derived.LaidMore
import Derived.Stop.Joined
import Derived.SevenTiedAt
import Derived.OpenShut
import Derived.Test.YtcfijkmjblcenaaGreatDoorRenderNamesLift
import Derived.Test.YtcfijkmjblcenaaGreatDoorRenderNamesFacts
namespace Go.Proofs.YtcfijkmjblcenaaGreatDoor.renderNames
open Go.ChangeShapes Go.WideShapes Go.ChangeAt Go.RowKit

theorem over : Rows.renderNamesRow.holds Tryz.pinned (OpenSpec.ofChange Rows.renderNamesSpec) :=
  OpenClaim.holds_of_wide 3 Tryz.f3 rfl rfl rfl rfl rfl rfl rfl ⟨rfl, rfl, rfl, rfl, rfl⟩ rfl rfl rfl rfl rfl (by kernel_rfl) Tryz.func3 facts
    (of_decide_eq_true (by kernel_rfl)) (by unfold Func.isWrapper; first | (rw [if_pos (by decide +kernel)]; kernel_rfl) | (rw [if_neg (by decide +kernel)]; exact ⟨rfl, rfl⟩))
    (fun os started H enc _ => lifted os started H enc)
end Go.Proofs.YtcfijkmjblcenaaGreatDoor.renderNames
