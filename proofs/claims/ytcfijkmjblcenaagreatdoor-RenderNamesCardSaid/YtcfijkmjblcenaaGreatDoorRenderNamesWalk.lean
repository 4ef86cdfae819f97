/-
  The law RenderNames holds: the call returns true (shown by the abstract machine's own run of the code, whose every answer is shown to be the model's). No conditions.
-/
import Derived.Test.YtcfijkmjblcenaaGreatDoorRows
import Derived.Test.YtcfijkmjblcenaaGreatDoorAbsCode
import Derived.Test.YtcfijkmjblcenaaGreatDoorRenderNamesSays
import Derived.Test.YtcfijkmjblcenaaGreatDoorInsert
import Derived.Test.YtcfijkmjblcenaaGreatDoorKey
import Derived.Test.YtcfijkmjblcenaaGreatDoorAbsGlob
import Derived.Test.YtcfijkmjblcenaaGreatDoorAbsRow
import Derived.WalkKit
import Derived.Test.YtcfijkmjblcenaaGreatDoorCards
import Derived.Test.YtcfijkmjblcenaaGreatDoorTie
import Derived.ProofKit
import Derived.LaidMore
import Derived.Stop.Joined
import Derived.SevenTiedAt
import Derived.OpenShut
namespace Go.Proofs.YtcfijkmjblcenaaGreatDoor.renderNames
open Go.ChangeShapes Go.WideShapes Go.ChangeAt Go.RowKit

theorem own : ownKnob Tryz.prog.godebug = none := by kernel_rfl
theorem funcs : Tryz.prog.funcs.toList.all Abs.funcOk = true := by kernel_rfl
theorem mixed : Tryz.prog.follows .mixedOrders = true := by kernel_rfl
theorem walk (w : World) (hl : laidMetH Tryz.prog Rows.renderNamesRow.laid w) : Calls Tryz.prog 3 #[] w fun e w' => e = .returned (.bool true) ∧ Below w.heap.size w w' := Abs.closed_law_glob (key.told insert.told) funcs mixed says (Abs.globIn_of_laid hl (by kernel_rfl) (by kernel_rfl) (by kernel_rfl))
end Go.Proofs.YtcfijkmjblcenaaGreatDoor.renderNames
