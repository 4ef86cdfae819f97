/-
  The law RenderNames holds: the call returns true (shown by the abstract machine's own run of the code, whose every answer is shown to be the model's). No conditions.
-/
import Derived.Test.YtcfijkmjblcenaaGreatDoorRows
import Derived.Test.YtcfijkmjblcenaaGreatDoorAbsCode
import Derived.Test.YtcfijkmjblcenaaGreatDoorInsert
import Derived.Test.YtcfijkmjblcenaaGreatDoorKey
import Derived.Test.YtcfijkmjblcenaaGreatDoorAbsGlob
import Derived.Test.YtcfijkmjblcenaaGreatDoorAbsRow
import Derived.WalkKit
import Derived.Test.YtcfijkmjblcenaaGreatDoorCards
import Derived.Test.YtcfijkmjblcenaaGreatDoorTie
import Derived.ProofKit
import Derived.LaidMore
import Derived.Stop.Joined
import Derived.SevenTiedAt
import Derived.OpenShut
namespace Go.Proofs.YtcfijkmjblcenaaGreatDoor.renderNames
open Go.ChangeShapes Go.WideShapes Go.ChangeAt Go.RowKit

/-- The heap that the variables' own initialisers leave meets the row's condition. -/
theorem door_met (os : Os) (args : Array Value) : laidMetH Tryz.prog Rows.renderNamesRow.laid ((World.doorLaid Tryz.prog 600 os).forCall (fun _ _ => 0) ⟨#[], args, []⟩).memory :=
  laidMetH_of_parts3 (fuel := 70) (laidMet_of_run' 70 (by kernel_rfl) (by kernel_rfl)) (by kernel_rfl) (by kernel_rfl)
end Go.Proofs.YtcfijkmjblcenaaGreatDoor.renderNames
