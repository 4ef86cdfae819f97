/-
  DERIVED. GIVEN WITH THE SEED: THE CARDS: each row of YtfnobdpcbcgmcaaGreatDoorRows.lean that lists a variable, with what it lists TIED to the program's text (the seventh form; the later family's looks); each row that meets fmt, with fmt's text TOLD by the authors' own Lean function (tested against real Go, not proved from fmt's source: count such statements apart). THE CARD IS WHAT COUNTS. Prove the row's statement (the work); the ties are given (YtfnobdpcbcgmcaaGreatDoorTie.lean); close each card by the builder's one call (the guide's Derived/Test/ToyasCard.lean, 'card_holds'). Laid BY PROGRAM, IN A SANDBOX (cutbox-door.mjs). By AI agents, Wed Nov 11 2026. No macro, syntax, notation, axiom, sorry.
-/
import Derived.Test.YtfnobdpcbcgmcaaGreatDoorRows
import GoSem.ClaimSeven
namespace Go.Proofs.YtfnobdpcbcgmcaaGreatDoor
namespace Rows

/-- THE TIED CARD OF 'dioramalaw14.CacheNames'. -/
def cacheNamesCard : Claim7 := { stood := { row := cacheNamesRow, standIns := [], harness := (true, "4d075513f5b0fb2bdc5dc3396c21f401748ff23baaa579cb1513f7da4f5e603f"), looks := false }, kinds := [], alts := [], laidByText := true, laidKinds := [.data, .data, .data], laidTests := true, laidLooks := .later }
def CacheNamesCardSaid : Prop := Claim7.holds Tryz.pinned (.plain (OpenSpec.ofChange cacheNamesSpec)) cacheNamesCard

/-- THE SECOND FORM's CARD OF 'dioramalaw14.CacheNames'. -/
def cacheNamesUptoCard : Claim7 := { stood := { row := cacheNamesUptoRow, standIns := [], harness := (true, "4d075513f5b0fb2bdc5dc3396c21f401748ff23baaa579cb1513f7da4f5e603f"), looks := false }, kinds := [], alts := [], laidByText := true, laidKinds := [.data, .data, .data], laidTests := true, laidLooks := .later }
def CacheNamesUptoCardSaid : Prop := Claim7.holds Tryz.pinned (.plain (OpenSpec.upto cacheNamesSpec)) cacheNamesUptoCard
end Rows
end Go.Proofs.YtfnobdpcbcgmcaaGreatDoor
