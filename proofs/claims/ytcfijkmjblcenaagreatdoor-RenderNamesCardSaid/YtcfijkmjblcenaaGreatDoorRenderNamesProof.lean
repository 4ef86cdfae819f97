/-
  The law RenderNames holds: the call returns true (shown by the abstract machine's own run of the code, whose every answer is shown to be the model's). No conditions.
-/
import Derived.Test.YtcfijkmjblcenaaGreatDoorRows
import Derived.Test.YtcfijkmjblcenaaGreatDoorAbsCode
import Derived.Test.YtcfijkmjblcenaaGreatDoorInsert
import Derived.Test.YtcfijkmjblcenaaGreatDoorKey
import Derived.Test.YtcfijkmjblcenaaGreatDoorAbsGlob
import Derived.Test.YtcfijkmjblcenaaGreatDoorAbsRow
import Derived.WalkKit
import Derived.Test.YtcfijkmjblcenaaGreatDoorCards
import Derived.Test.YtcfijkmjblcenaaGreatDoorTie
import Derived.ProofKit
import Derived.LaidMore
import Derived.Stop.Joined
import Derived.SevenTiedAt
import Derived.OpenShut
import Derived.Test.YtcfijkmjblcenaaGreatDoorRenderNamesOver
namespace Go.Proofs.YtcfijkmjblcenaaGreatDoor.renderNames
open Go.ChangeShapes Go.WideShapes Go.ChangeAt Go.RowKit

theorem wfF : Rows.renderNamesRow.wfByText (OpenSpec.ofChange Rows.renderNamesSpec) = true := by kernel_rfl
theorem mainF : Tryz.prog.mainIs = some (true, "5deae248cdd33e76ea86c400e66a518d0b879fcac550cfeee493d0e1bc9fa5f0".toList) := by kernel_rfl
theorem namedF : Tryz.prog.funcNamed Rows.renderNamesRow.func = some 3 := by kernel_rfl
theorem looksF : false = Tryz.prog.looks [] := by kernel_rfl
theorem goesF : false = Rows.renderNamesRow.goesBy Tryz.prog := by kernel_rfl

theorem card : Rows.RenderNamesCardSaid :=
  Claim7.holds_tied_plain_at .later [] [.data] true (true, "5deae248cdd33e76ea86c400e66a518d0b879fcac550cfeee493d0e1bc9fa5f0") false
    over (fun _ h => by cases h) wfF (fun _ h => by cases h) renderNames_row_tie rfl ⟨rfl, rfl⟩ mainF rfl
    (fun f fn hf hfn => by
      obtain rfl : f = 3 := Option.some.inj (namedF.symm.trans hf) |>.symm
      obtain rfl : fn = Tryz.f3 := (Option.some.inj (Tryz.func3.symm.trans hfn)).symm
      exact ⟨looksF, fun j t ht => by
        rw [Tryz.params3] at ht
        simp at ht⟩)
    goesF

theorem proved : Rows.RenderNamesCardSaid :=
  card
end Go.Proofs.YtcfijkmjblcenaaGreatDoor.renderNames
