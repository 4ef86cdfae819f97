/-
  No cell of these rows narrows 'for every input' (looked for: loops, veiled, ifaces, maps, wideKeys, modest, calm, conditions, laid).
  DERIVED. THE GIVEN ROWS OF THIS SEAT. 3 by the template 'for every input the law returns true; each argument reads behind the call as it read before'; 0 by the template 'total and deterministic' (their statements: YthogckgkagiooaaTotals.lean).
  GIVEN WITH THE SEED: the statements are not yours to turn. If you find one false, say at which input.
  Laid BY PROGRAM, IN A SANDBOX (cutbox-rows.mjs): the forced cells as the released guide's own fill.sh prints them over the translation eb4e4896998c4608… (all of the seat's roots in one cut). By AI agents, Wed Nov 11 2026. No macro, syntax, notation, axiom, sorry.
-/
import Derived.Test.YthogckgkagiooaaChecked
import GoSem.Claim
import GoSem.ClaimJoined
import GoSem.ClaimMapViews
import Derived.JoinedTies
import Derived.KernelRfl
namespace Go.Proofs.Ythogckgkagiooaa
/- THE CELL 'sum', in the pinned program and in every row, IS THE sha256 OF THE DUMP (.gsa) THAT YthogckgkagiooaaProg.lean LOADS. Nothing in Lean hashes anything: it is a label: what it is worth is what the hold of that sum in a sandbox is worth. -/
noncomputable def Try.pinned : Pinned := { name := "ythogckgkagiooaa", sum := "eb4e4896998c4608ca2b23278fe76d7d61b2b088a8eb891b4c462bb034a3a002", checked := Try.checked }
namespace Rows
def none {H : Type} : Left H := { results := [], args := [] }

/-- 'dioramalaw28.BinsNames': WHATEVER THE INPUT: true; the input reads as it did. -/
def binsNamesSpec : ChangeSpec := { name := "binsNames", fn := fun _ => fun
  | [] => { results := [.lit (.bool true)], args := [] }
  | _ => none }
def binsNamesRow : OpenClaim := { program := "ythogckgkagiooaa", sum := "eb4e4896998c4608ca2b23278fe76d7d61b2b088a8eb891b4c462bb034a3a002", func := "diorama/dioramalaw28.BinsNames", spec := "binsNames", unfollowed := true, recurses := true, plainKeys := false, apart := false }
def BinsNamesSaid : Prop := binsNamesRow.holds Try.pinned (OpenSpec.ofChange binsNamesSpec)

/-- ITS FALSE NEIGHBOUR: 'it returns false'. Refute it at one input. -/
def binsNamesWrong : ChangeSpec := { name := "binsNames", fn := fun _ => fun
  | [] => { results := [.lit (.bool false)], args := [] }
  | _ => none }
def BinsNamesWrongFalsely : Prop := binsNamesRow.holds Try.pinned (OpenSpec.ofChange binsNamesWrong)

/-- 'dioramalaw13.WorldNames': WHATEVER THE INPUT: true; the input reads as it did. -/
def worldNamesSpec : ChangeSpec := { name := "worldNames", fn := fun _ => fun
  | [] => { results := [.lit (.bool true)], args := [] }
  | _ => none }
def worldNamesRow : OpenClaim := { program := "ythogckgkagiooaa", sum := "eb4e4896998c4608ca2b23278fe76d7d61b2b088a8eb891b4c462bb034a3a002", func := "diorama/dioramalaw13.WorldNames", spec := "worldNames", unfollowed := true, recurses := true, plainKeys := false, apart := false }
def WorldNamesSaid : Prop := worldNamesRow.holds Try.pinned (OpenSpec.ofChange worldNamesSpec)

/-- ITS FALSE NEIGHBOUR: 'it returns false'. Refute it at one input. -/
def worldNamesWrong : ChangeSpec := { name := "worldNames", fn := fun _ => fun
  | [] => { results := [.lit (.bool false)], args := [] }
  | _ => none }
def WorldNamesWrongFalsely : Prop := worldNamesRow.holds Try.pinned (OpenSpec.ofChange worldNamesWrong)

/-- 'dioramalaw10.EditNames': WHATEVER THE INPUT: true; the input reads as it did. -/
def editNamesSpec : ChangeSpec := { name := "editNames", fn := fun _ => fun
  | [] => { results := [.lit (.bool true)], args := [] }
  | _ => none }
def editNamesRow : OpenClaim := { program := "ythogckgkagiooaa", sum := "eb4e4896998c4608ca2b23278fe76d7d61b2b088a8eb891b4c462bb034a3a002", func := "diorama/dioramalaw10.EditNames", spec := "editNames", inPlace := ["slices.overlaps[diorama/api.Handle]"], unfollowed := true, recurses := true, plainKeys := false, apart := false }
def EditNamesSaid : Prop := editNamesRow.holds Try.pinned (OpenSpec.ofChange editNamesSpec)

/-- ITS FALSE NEIGHBOUR: 'it returns false'. Refute it at one input. -/
def editNamesWrong : ChangeSpec := { name := "editNames", fn := fun _ => fun
  | [] => { results := [.lit (.bool false)], args := [] }
  | _ => none }
def EditNamesWrongFalsely : Prop := editNamesRow.holds Try.pinned (OpenSpec.ofChange editNamesWrong)

/- THE SECOND FORM. 'bulk': how many values and letters a reading holds, each counted each time it is reached (what is shared counts as often as it is met; a slice's spare places count too). A statement '..UptoSaid' is the law's where the arguments, and the package variables that the reading takes, are together of bulk at most 1048576: NARROWER than '..Said'. Prove '..Said' where nothing that the law and all that it calls make is longer than what came in: it says more and counts as full. Else prove '..UptoSaid'. A law counts once. -/
mutual
def uptoBulk {H : Type} : DataW H → Nat
  | .lit (.string bytes) => bytes.length + 1
  | .lit _ => 1
  | .nil => 1
  | .ptr d => uptoBulk d + 1
  | .slice elems spare => uptoBulkAll elems + uptoBulkAll spare + 1
  | .agg parts => uptoBulkAll parts + 1
  | .iface _ d => uptoBulk d + 1
  | .map entries => uptoBulkEntries entries + 1
  | .held _ => 1
def uptoBulkAll {H : Type} : List (DataW H) → Nat
  | [] => 0
  | d :: r => uptoBulk d + uptoBulkAll r
def uptoBulkEntries {H : Type} : List (Lit × DataW H) → Nat
  | [] => 0
  | x :: r => uptoBulkEntry x + uptoBulkEntries r
def uptoBulkEntry {H : Type} : Lit × DataW H → Nat
  | (.string bytes, d) => bytes.length + uptoBulk d + 1
  | (_, d) => uptoBulk d + 1
 end
def uptoSmall : (H : Type) → List (DataW H) → Bool := fun _ ds => decide (uptoBulkAll ds ≤ 1048576)
def OpenSpec.upto (s : _root_.Go.ChangeSpec) : _root_.Go.OpenSpec := { _root_.Go.OpenSpec.ofChange s with cond := some uptoSmall }

/-- 'dioramalaw28.BinsNames', WHERE WHAT IT READS IS OF BULK AT MOST 1048576: true; the input reads as it did. -/
def binsNamesUptoRow : OpenClaim := { program := "ythogckgkagiooaa", sum := "eb4e4896998c4608ca2b23278fe76d7d61b2b088a8eb891b4c462bb034a3a002", func := "diorama/dioramalaw28.BinsNames", spec := "binsNames", unfollowed := true, recurses := true, plainKeys := false, apart := false, narrowed := true }
def BinsNamesUptoSaid : Prop := binsNamesUptoRow.holds Try.pinned (OpenSpec.upto binsNamesSpec)

/-- 'dioramalaw13.WorldNames', WHERE WHAT IT READS IS OF BULK AT MOST 1048576: true; the input reads as it did. -/
def worldNamesUptoRow : OpenClaim := { program := "ythogckgkagiooaa", sum := "eb4e4896998c4608ca2b23278fe76d7d61b2b088a8eb891b4c462bb034a3a002", func := "diorama/dioramalaw13.WorldNames", spec := "worldNames", unfollowed := true, recurses := true, plainKeys := false, apart := false, narrowed := true }
def WorldNamesUptoSaid : Prop := worldNamesUptoRow.holds Try.pinned (OpenSpec.upto worldNamesSpec)

/-- 'dioramalaw10.EditNames', WHERE WHAT IT READS IS OF BULK AT MOST 1048576: true; the input reads as it did. -/
def editNamesUptoRow : OpenClaim := { program := "ythogckgkagiooaa", sum := "eb4e4896998c4608ca2b23278fe76d7d61b2b088a8eb891b4c462bb034a3a002", func := "diorama/dioramalaw10.EditNames", spec := "editNames", inPlace := ["slices.overlaps[diorama/api.Handle]"], unfollowed := true, recurses := true, plainKeys := false, apart := false, narrowed := true }
def EditNamesUptoSaid : Prop := editNamesUptoRow.holds Try.pinned (OpenSpec.upto editNamesSpec)

end Rows
end Go.Proofs.Ythogckgkagiooaa
