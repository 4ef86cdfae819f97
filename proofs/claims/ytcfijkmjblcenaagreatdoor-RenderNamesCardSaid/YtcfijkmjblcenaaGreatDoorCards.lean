/-
  DERIVED. GIVEN WITH THE SEED: THE CARDS: each row of YtcfijkmjblcenaaGreatDoorRows.lean that lists a variable, with what it lists TIED to the program's text (the seventh form; the later family's looks); each row that meets fmt, with fmt's text TOLD by the authors' own Lean function (tested against real Go, not proved from fmt's source: count such statements apart). THE CARD IS WHAT COUNTS. Prove the row's statement (the work); the ties are given (YtcfijkmjblcenaaGreatDoorTie.lean); close each card by the builder's one call (the guide's Derived/Test/ToyasCard.lean, 'card_holds'). Laid BY PROGRAM, IN A SANDBOX (cutbox-door.mjs). By AI agents, Wed Nov 11 2026. No macro, syntax, notation, axiom, sorry.
-/
import Derived.Test.YtcfijkmjblcenaaGreatDoorRows
import GoSem.ClaimSeven
namespace Go.Proofs.YtcfijkmjblcenaaGreatDoor
namespace Rows

/-- THE TIED CARD OF 'dioramalaw30.RenderNames'. -/
def renderNamesCard : Claim7 := { stood := { row := renderNamesRow, standIns := [], harness := (true, "5deae248cdd33e76ea86c400e66a518d0b879fcac550cfeee493d0e1bc9fa5f0"), looks := false }, kinds := [], alts := [], laidByText := true, laidKinds := [.data], laidTests := true, laidLooks := .later }
def RenderNamesCardSaid : Prop := Claim7.holds Tryz.pinned (.plain (OpenSpec.ofChange renderNamesSpec)) renderNamesCard

/-- THE TIED CARD OF 'dioramalaw31.PickNames'. -/
def pickNamesCard : Claim7 := { stood := { row := pickNamesRow, standIns := [], harness := (true, "5deae248cdd33e76ea86c400e66a518d0b879fcac550cfeee493d0e1bc9fa5f0"), looks := false }, kinds := [], alts := [], laidByText := true, laidKinds := [.data, .data, .data, .data], laidTests := true, laidLooks := .later }
def PickNamesCardSaid : Prop := Claim7.holds Tryz.pinned (.plain (OpenSpec.ofChange pickNamesSpec)) pickNamesCard

/-- THE SECOND FORM's CARD OF 'dioramalaw30.RenderNames'. -/
def renderNamesUptoCard : Claim7 := { stood := { row := renderNamesUptoRow, standIns := [], harness := (true, "5deae248cdd33e76ea86c400e66a518d0b879fcac550cfeee493d0e1bc9fa5f0"), looks := false }, kinds := [], alts := [], laidByText := true, laidKinds := [.data], laidTests := true, laidLooks := .later }
def RenderNamesUptoCardSaid : Prop := Claim7.holds Tryz.pinned (.plain (OpenSpec.upto renderNamesSpec)) renderNamesUptoCard

/-- THE SECOND FORM's CARD OF 'dioramalaw31.PickNames'. -/
def pickNamesUptoCard : Claim7 := { stood := { row := pickNamesUptoRow, standIns := [], harness := (true, "5deae248cdd33e76ea86c400e66a518d0b879fcac550cfeee493d0e1bc9fa5f0"), looks := false }, kinds := [], alts := [], laidByText := true, laidKinds := [.data, .data, .data, .data], laidTests := true, laidLooks := .later }
def PickNamesUptoCardSaid : Prop := Claim7.holds Tryz.pinned (.plain (OpenSpec.upto pickNamesSpec)) pickNamesUptoCard
end Rows
end Go.Proofs.YtcfijkmjblcenaaGreatDoor
