/-
  No cell of these rows narrows 'for every input' (looked for: loops, veiled, ifaces, maps, wideKeys, modest, calm, conditions, laid).
  DERIVED. THE GIVEN ROWS OF THIS SEAT. 5 by the template 'for every input the law returns true; each argument reads behind the call as it read before'; 0 by the template 'total and deterministic' (their statements: YtadjalkkhkkdiaaTotals.lean).
  GIVEN WITH THE SEED: the statements are not yours to turn. If you find one false, say at which input.
  Laid BY PROGRAM, IN A SANDBOX (cutbox-rows.mjs): the forced cells as the released guide's own fill.sh prints them over the translation a0fcc211d4a10d42… (all of the seat's roots in one cut). By AI agents, Wed Nov 11 2026. No macro, syntax, notation, axiom, sorry.
-/
import Derived.Test.YtadjalkkhkkdiaaChecked
import GoSem.Claim
import GoSem.ClaimJoined
import GoSem.ClaimMapViews
import Derived.JoinedTies
import Derived.KernelRfl
namespace Go.Proofs.Ytadjalkkhkkdiaa
/- THE CELL 'sum', in the pinned program and in every row, IS THE sha256 OF THE DUMP (.gsa) THAT YtadjalkkhkkdiaaProg.lean LOADS. Nothing in Lean hashes anything: it is a label: what it is worth is what the hold of that sum in a sandbox is worth. -/
noncomputable def Try.pinned : Pinned := { name := "ytadjalkkhkkdiaa", sum := "a0fcc211d4a10d42d178edf01cb9ac673964de3d7d477d88ae23af6444ce4e45", checked := Try.checked }
namespace Rows
def none {H : Type} : Left H := { results := [], args := [] }

/-- 'dioramalaw07.StatesOne': WHATEVER THE INPUT: true; the input reads as it did. -/
def statesOneSpec : ChangeSpec := { name := "statesOne", fn := fun _ => fun
  | [d1, d2] => { results := [.lit (.bool true)], args := [d1, d2] }
  | _ => none }
def statesOneRow : OpenClaim := { program := "ytadjalkkhkkdiaa", sum := "a0fcc211d4a10d42d178edf01cb9ac673964de3d7d477d88ae23af6444ce4e45", func := "diorama/dioramalaw07.StatesOne", spec := "statesOne", unfollowed := true, recurses := true, apart := false }
def StatesOneSaid : Prop := statesOneRow.holds Try.pinned (OpenSpec.ofChange statesOneSpec)

/-- ITS FALSE NEIGHBOUR: 'it returns false'. Refute it at one input. -/
def statesOneWrong : ChangeSpec := { name := "statesOne", fn := fun _ => fun
  | [d1, d2] => { results := [.lit (.bool false)], args := [d1, d2] }
  | _ => none }
def StatesOneWrongFalsely : Prop := statesOneRow.holds Try.pinned (OpenSpec.ofChange statesOneWrong)

/-- 'dioramalaw07.StatesNames': WHATEVER THE INPUT: true; the input reads as it did. -/
def statesNamesSpec : ChangeSpec := { name := "statesNames", fn := fun _ => fun
  | [] => { results := [.lit (.bool true)], args := [] }
  | _ => none }
def statesNamesRow : OpenClaim := { program := "ytadjalkkhkkdiaa", sum := "a0fcc211d4a10d42d178edf01cb9ac673964de3d7d477d88ae23af6444ce4e45", func := "diorama/dioramalaw07.StatesNames", spec := "statesNames", unfollowed := true, recurses := true, apart := false }
def StatesNamesSaid : Prop := statesNamesRow.holds Try.pinned (OpenSpec.ofChange statesNamesSpec)

/-- ITS FALSE NEIGHBOUR: 'it returns false'. Refute it at one input. -/
def statesNamesWrong : ChangeSpec := { name := "statesNames", fn := fun _ => fun
  | [] => { results := [.lit (.bool false)], args := [] }
  | _ => none }
def StatesNamesWrongFalsely : Prop := statesNamesRow.holds Try.pinned (OpenSpec.ofChange statesNamesWrong)

/-- 'dioramalaw07.StatesAlong': WHATEVER THE INPUT: true; the input reads as it did. -/
def statesAlongSpec : ChangeSpec := { name := "statesAlong", fn := fun _ => fun
  | [d] => { results := [.lit (.bool true)], args := [d] }
  | _ => none }
def statesAlongRow : OpenClaim := { program := "ytadjalkkhkkdiaa", sum := "a0fcc211d4a10d42d178edf01cb9ac673964de3d7d477d88ae23af6444ce4e45", func := "diorama/dioramalaw07.StatesAlong", spec := "statesAlong", unfollowed := true, recurses := true, apart := false }
def StatesAlongSaid : Prop := statesAlongRow.holds Try.pinned (OpenSpec.ofChange statesAlongSpec)

/-- ITS FALSE NEIGHBOUR: 'it returns false'. Refute it at one input. -/
def statesAlongWrong : ChangeSpec := { name := "statesAlong", fn := fun _ => fun
  | [d] => { results := [.lit (.bool false)], args := [d] }
  | _ => none }
def StatesAlongWrongFalsely : Prop := statesAlongRow.holds Try.pinned (OpenSpec.ofChange statesAlongWrong)

/-- 'dioramalaw07.StatesWin': WHATEVER THE INPUT: true; the input reads as it did. -/
def statesWinSpec : ChangeSpec := { name := "statesWin", fn := fun _ => fun
  | [d] => { results := [.lit (.bool true)], args := [d] }
  | _ => none }
def statesWinRow : OpenClaim := { program := "ytadjalkkhkkdiaa", sum := "a0fcc211d4a10d42d178edf01cb9ac673964de3d7d477d88ae23af6444ce4e45", func := "diorama/dioramalaw07.StatesWin", spec := "statesWin", unfollowed := true, recurses := true, apart := false }
def StatesWinSaid : Prop := statesWinRow.holds Try.pinned (OpenSpec.ofChange statesWinSpec)

/-- ITS FALSE NEIGHBOUR: 'it returns false'. Refute it at one input. -/
def statesWinWrong : ChangeSpec := { name := "statesWin", fn := fun _ => fun
  | [d] => { results := [.lit (.bool false)], args := [d] }
  | _ => none }
def StatesWinWrongFalsely : Prop := statesWinRow.holds Try.pinned (OpenSpec.ofChange statesWinWrong)

/-- 'dioramalaw07.StatesQuiet': WHATEVER THE INPUT: true; the input reads as it did. -/
def statesQuietSpec : ChangeSpec := { name := "statesQuiet", fn := fun _ => fun
  | [d1, d2] => { results := [.lit (.bool true)], args := [d1, d2] }
  | _ => none }
def statesQuietRow : OpenClaim := { program := "ytadjalkkhkkdiaa", sum := "a0fcc211d4a10d42d178edf01cb9ac673964de3d7d477d88ae23af6444ce4e45", func := "diorama/dioramalaw07.StatesQuiet", spec := "statesQuiet", unfollowed := true, recurses := true, apart := false }
def StatesQuietSaid : Prop := statesQuietRow.holds Try.pinned (OpenSpec.ofChange statesQuietSpec)

/-- ITS FALSE NEIGHBOUR: 'it returns false'. Refute it at one input. -/
def statesQuietWrong : ChangeSpec := { name := "statesQuiet", fn := fun _ => fun
  | [d1, d2] => { results := [.lit (.bool false)], args := [d1, d2] }
  | _ => none }
def StatesQuietWrongFalsely : Prop := statesQuietRow.holds Try.pinned (OpenSpec.ofChange statesQuietWrong)

/- THE SECOND FORM. 'bulk': how many values and letters a reading holds, each counted each time it is reached (what is shared counts as often as it is met; a slice's spare places count too). A statement '..UptoSaid' is the law's where the arguments, and the package variables that the reading takes, are together of bulk at most 1048576: NARROWER than '..Said'. Prove '..Said' where nothing that the law and all that it calls make is longer than what came in: it says more and counts as full. Else prove '..UptoSaid'. A law counts once. -/
mutual
def uptoBulk {H : Type} : DataW H → Nat
  | .lit (.string bytes) => bytes.length + 1
  | .lit _ => 1
  | .nil => 1
  | .ptr d => uptoBulk d + 1
  | .slice elems spare => uptoBulkAll elems + uptoBulkAll spare + 1
  | .agg parts => uptoBulkAll parts + 1
  | .iface _ d => uptoBulk d + 1
  | .map entries => uptoBulkEntries entries + 1
  | .held _ => 1
def uptoBulkAll {H : Type} : List (DataW H) → Nat
  | [] => 0
  | d :: r => uptoBulk d + uptoBulkAll r
def uptoBulkEntries {H : Type} : List (Lit × DataW H) → Nat
  | [] => 0
  | x :: r => uptoBulkEntry x + uptoBulkEntries r
def uptoBulkEntry {H : Type} : Lit × DataW H → Nat
  | (.string bytes, d) => bytes.length + uptoBulk d + 1
  | (_, d) => uptoBulk d + 1
 end
def uptoSmall : (H : Type) → List (DataW H) → Bool := fun _ ds => decide (uptoBulkAll ds ≤ 1048576)
def OpenSpec.upto (s : _root_.Go.ChangeSpec) : _root_.Go.OpenSpec := { _root_.Go.OpenSpec.ofChange s with cond := some uptoSmall }

/-- 'dioramalaw07.StatesOne', WHERE WHAT IT READS IS OF BULK AT MOST 1048576: true; the input reads as it did. -/
def statesOneUptoRow : OpenClaim := { program := "ytadjalkkhkkdiaa", sum := "a0fcc211d4a10d42d178edf01cb9ac673964de3d7d477d88ae23af6444ce4e45", func := "diorama/dioramalaw07.StatesOne", spec := "statesOne", unfollowed := true, recurses := true, apart := false, narrowed := true }
def StatesOneUptoSaid : Prop := statesOneUptoRow.holds Try.pinned (OpenSpec.upto statesOneSpec)

/-- 'dioramalaw07.StatesNames', WHERE WHAT IT READS IS OF BULK AT MOST 1048576: true; the input reads as it did. -/
def statesNamesUptoRow : OpenClaim := { program := "ytadjalkkhkkdiaa", sum := "a0fcc211d4a10d42d178edf01cb9ac673964de3d7d477d88ae23af6444ce4e45", func := "diorama/dioramalaw07.StatesNames", spec := "statesNames", unfollowed := true, recurses := true, apart := false, narrowed := true }
def StatesNamesUptoSaid : Prop := statesNamesUptoRow.holds Try.pinned (OpenSpec.upto statesNamesSpec)

/-- 'dioramalaw07.StatesAlong', WHERE WHAT IT READS IS OF BULK AT MOST 1048576: true; the input reads as it did. -/
def statesAlongUptoRow : OpenClaim := { program := "ytadjalkkhkkdiaa", sum := "a0fcc211d4a10d42d178edf01cb9ac673964de3d7d477d88ae23af6444ce4e45", func := "diorama/dioramalaw07.StatesAlong", spec := "statesAlong", unfollowed := true, recurses := true, apart := false, narrowed := true }
def StatesAlongUptoSaid : Prop := statesAlongUptoRow.holds Try.pinned (OpenSpec.upto statesAlongSpec)

/-- 'dioramalaw07.StatesWin', WHERE WHAT IT READS IS OF BULK AT MOST 1048576: true; the input reads as it did. -/
def statesWinUptoRow : OpenClaim := { program := "ytadjalkkhkkdiaa", sum := "a0fcc211d4a10d42d178edf01cb9ac673964de3d7d477d88ae23af6444ce4e45", func := "diorama/dioramalaw07.StatesWin", spec := "statesWin", unfollowed := true, recurses := true, apart := false, narrowed := true }
def StatesWinUptoSaid : Prop := statesWinUptoRow.holds Try.pinned (OpenSpec.upto statesWinSpec)

/-- 'dioramalaw07.StatesQuiet', WHERE WHAT IT READS IS OF BULK AT MOST 1048576: true; the input reads as it did. -/
def statesQuietUptoRow : OpenClaim := { program := "ytadjalkkhkkdiaa", sum := "a0fcc211d4a10d42d178edf01cb9ac673964de3d7d477d88ae23af6444ce4e45", func := "diorama/dioramalaw07.StatesQuiet", spec := "statesQuiet", unfollowed := true, recurses := true, apart := false, narrowed := true }
def StatesQuietUptoSaid : Prop := statesQuietUptoRow.holds Try.pinned (OpenSpec.upto statesQuietSpec)

end Rows
end Go.Proofs.Ytadjalkkhkkdiaa
