/-
  The law PickNames holds: the call returns true (shown by the abstract machine's own run of the code, whose every answer is shown to be the model's). No conditions.
-/
import Derived.Test.YtcfijkmjblcenaaGreatDoorRows
import Derived.ProofKit
namespace Go.Proofs.YtcfijkmjblcenaaGreatDoor.pickNames
open Go.ChangeShapes Go.WideShapes Go.ChangeAt Go.RowKit

theorem fact0 : (Rows.pickNamesRow.inPlace == Tryz.prog.inPlace 4) = true := by kernel_rfl
theorem fact1 : (Rows.pickNamesRow.unfollowed == Tryz.prog.unfollowed 4) = true := by kernel_rfl
theorem fact2 : (Rows.pickNamesRow.recurses == Tryz.prog.recurses 4) = true := by kernel_rfl
theorem fact3 : (Rows.pickNamesRow.named == Tryz.prog.varsNamed 4) = true := by kernel_rfl
theorem fact4 : (Rows.pickNamesRow.plainKeys == Tryz.prog.plainKeys) = true := by kernel_rfl
theorem fact5 : Tryz.prog.stopsHeard = true := by kernel_rfl
theorem fact6 : Tryz.prog.mayEnter = true := by kernel_rfl
theorem fact7 : laidOutB Tryz.prog = true := by kernel_rfl
theorem fact8 : mapsRowed Tryz.prog = true := by kernel_rfl
theorem facts : joinedFacts Tryz.prog 4 Tryz.f4 Rows.pickNamesSpec Rows.pickNamesRow = true := by
  unfold joinedFacts
  rw [fact0, fact1, fact2, fact3, fact4, fact5, fact6, fact7, fact8]
  kernel_rfl
end Go.Proofs.YtcfijkmjblcenaaGreatDoor.pickNames
