/-
  The law RenderNames holds: the call returns true (shown by the abstract machine's own run of the code, whose every answer is shown to be the model's). No conditions.
-/
import Derived.Test.YtcfijkmjblcenaaGreatDoorRows
import Derived.ProofKit
namespace Go.Proofs.YtcfijkmjblcenaaGreatDoor.renderNames
open Go.ChangeShapes Go.WideShapes Go.ChangeAt Go.RowKit

theorem fact0 : (Rows.renderNamesRow.inPlace == Tryz.prog.inPlace 3) = true := by kernel_rfl
theorem fact1 : (Rows.renderNamesRow.unfollowed == Tryz.prog.unfollowed 3) = true := by kernel_rfl
theorem fact2 : (Rows.renderNamesRow.recurses == Tryz.prog.recurses 3) = true := by kernel_rfl
theorem fact3 : (Rows.renderNamesRow.named == Tryz.prog.varsNamed 3) = true := by kernel_rfl
theorem fact4 : (Rows.renderNamesRow.plainKeys == Tryz.prog.plainKeys) = true := by kernel_rfl
theorem fact5 : Tryz.prog.stopsHeard = true := by kernel_rfl
theorem fact6 : Tryz.prog.mayEnter = true := by kernel_rfl
theorem fact7 : laidOutB Tryz.prog = true := by kernel_rfl
theorem fact8 : mapsRowed Tryz.prog = true := by kernel_rfl
theorem facts : joinedFacts Tryz.prog 3 Tryz.f3 Rows.renderNamesSpec Rows.renderNamesRow = true := by
  unfold joinedFacts
  rw [fact0, fact1, fact2, fact3, fact4, fact5, fact6, fact7, fact8]
  kernel_rfl
end Go.Proofs.YtcfijkmjblcenaaGreatDoor.renderNames
