/-
  No cell of these rows narrows 'for every input' (looked for: loops, veiled, ifaces, maps, wideKeys, modest, calm, conditions, laid).
  DERIVED. THE GIVEN ROWS OF THIS SEAT. 3 by the template 'for every input the law returns true; each argument reads behind the call as it read before'; 0 by the template 'total and deterministic' (their statements: YtckbdndhmcoihaaTotals.lean).
  GIVEN WITH THE SEED: the statements are not yours to turn. If you find one false, say at which input.
  Laid BY PROGRAM, IN A SANDBOX (cutbox-rows.mjs): the forced cells as the released guide's own fill.sh prints them over the translation a4d3c0b4867eba2d… (all of the seat's roots in one cut). By AI agents, Wed Nov 11 2026. No macro, syntax, notation, axiom, sorry.
-/
import Derived.Test.YtckbdndhmcoihaaChecked
import GoSem.Claim
import GoSem.ClaimJoined
import GoSem.ClaimMapViews
import Derived.JoinedTies
import Derived.KernelRfl
namespace Go.Proofs.Ytckbdndhmcoihaa
/- THE CELL 'sum', in the pinned program and in every row, IS THE sha256 OF THE DUMP (.gsa) THAT YtckbdndhmcoihaaProg.lean LOADS. Nothing in Lean hashes anything: it is a label: what it is worth is what the hold of that sum in a sandbox is worth. -/
noncomputable def Try.pinned : Pinned := { name := "ytckbdndhmcoihaa", sum := "a4d3c0b4867eba2d76578857183968fed0454967ae4ee064531afd714d14eeb9", checked := Try.checked }
namespace Rows
def none {H : Type} : Left H := { results := [], args := [] }

/-- 'dioramalaw13.WorldLevels': WHATEVER THE INPUT: true; the input reads as it did. -/
def worldLevelsSpec : ChangeSpec := { name := "worldLevels", fn := fun _ => fun
  | [d1, d2] => { results := [.lit (.bool true)], args := [d1, d2] }
  | _ => none }
def worldLevelsRow : OpenClaim := { program := "ytckbdndhmcoihaa", sum := "a4d3c0b4867eba2d76578857183968fed0454967ae4ee064531afd714d14eeb9", func := "diorama/dioramalaw13.WorldLevels", spec := "worldLevels", unfollowed := true, recurses := true, plainKeys := false, apart := false }
def WorldLevelsSaid : Prop := worldLevelsRow.holds Try.pinned (OpenSpec.ofChange worldLevelsSpec)

/-- ITS FALSE NEIGHBOUR: 'it returns false'. Refute it at one input. -/
def worldLevelsWrong : ChangeSpec := { name := "worldLevels", fn := fun _ => fun
  | [d1, d2] => { results := [.lit (.bool false)], args := [d1, d2] }
  | _ => none }
def WorldLevelsWrongFalsely : Prop := worldLevelsRow.holds Try.pinned (OpenSpec.ofChange worldLevelsWrong)

/-- 'dioramalaw13.WorldPlain': WHATEVER THE INPUT: true; the input reads as it did. -/
def worldPlainSpec : ChangeSpec := { name := "worldPlain", fn := fun _ => fun
  | [d] => { results := [.lit (.bool true)], args := [d] }
  | _ => none }
def worldPlainRow : OpenClaim := { program := "ytckbdndhmcoihaa", sum := "a4d3c0b4867eba2d76578857183968fed0454967ae4ee064531afd714d14eeb9", func := "diorama/dioramalaw13.WorldPlain", spec := "worldPlain", unfollowed := true, recurses := true, plainKeys := false, apart := false }
def WorldPlainSaid : Prop := worldPlainRow.holds Try.pinned (OpenSpec.ofChange worldPlainSpec)

/-- ITS FALSE NEIGHBOUR: 'it returns false'. Refute it at one input. -/
def worldPlainWrong : ChangeSpec := { name := "worldPlain", fn := fun _ => fun
  | [d] => { results := [.lit (.bool false)], args := [d] }
  | _ => none }
def WorldPlainWrongFalsely : Prop := worldPlainRow.holds Try.pinned (OpenSpec.ofChange worldPlainWrong)

/-- 'dioramalaw13.WorldIn': WHATEVER THE INPUT: true; the input reads as it did. -/
def worldInSpec : ChangeSpec := { name := "worldIn", fn := fun _ => fun
  | [d] => { results := [.lit (.bool true)], args := [d] }
  | _ => none }
def worldInRow : OpenClaim := { program := "ytckbdndhmcoihaa", sum := "a4d3c0b4867eba2d76578857183968fed0454967ae4ee064531afd714d14eeb9", func := "diorama/dioramalaw13.WorldIn", spec := "worldIn", unfollowed := true, recurses := true, plainKeys := false, apart := false }
def WorldInSaid : Prop := worldInRow.holds Try.pinned (OpenSpec.ofChange worldInSpec)

/-- ITS FALSE NEIGHBOUR: 'it returns false'. Refute it at one input. -/
def worldInWrong : ChangeSpec := { name := "worldIn", fn := fun _ => fun
  | [d] => { results := [.lit (.bool false)], args := [d] }
  | _ => none }
def WorldInWrongFalsely : Prop := worldInRow.holds Try.pinned (OpenSpec.ofChange worldInWrong)

/- THE SECOND FORM. 'bulk': how many values and letters a reading holds, each counted each time it is reached (what is shared counts as often as it is met; a slice's spare places count too). A statement '..UptoSaid' is the law's where the arguments, and the package variables that the reading takes, are together of bulk at most 1048576: NARROWER than '..Said'. Prove '..Said' where nothing that the law and all that it calls make is longer than what came in: it says more and counts as full. Else prove '..UptoSaid'. A law counts once. -/
mutual
def uptoBulk {H : Type} : DataW H → Nat
  | .lit (.string bytes) => bytes.length + 1
  | .lit _ => 1
  | .nil => 1
  | .ptr d => uptoBulk d + 1
  | .slice elems spare => uptoBulkAll elems + uptoBulkAll spare + 1
  | .agg parts => uptoBulkAll parts + 1
  | .iface _ d => uptoBulk d + 1
  | .map entries => uptoBulkEntries entries + 1
  | .held _ => 1
def uptoBulkAll {H : Type} : List (DataW H) → Nat
  | [] => 0
  | d :: r => uptoBulk d + uptoBulkAll r
def uptoBulkEntries {H : Type} : List (Lit × DataW H) → Nat
  | [] => 0
  | x :: r => uptoBulkEntry x + uptoBulkEntries r
def uptoBulkEntry {H : Type} : Lit × DataW H → Nat
  | (.string bytes, d) => bytes.length + uptoBulk d + 1
  | (_, d) => uptoBulk d + 1
 end
def uptoSmall : (H : Type) → List (DataW H) → Bool := fun _ ds => decide (uptoBulkAll ds ≤ 1048576)
def OpenSpec.upto (s : _root_.Go.ChangeSpec) : _root_.Go.OpenSpec := { _root_.Go.OpenSpec.ofChange s with cond := some uptoSmall }

/-- 'dioramalaw13.WorldLevels', WHERE WHAT IT READS IS OF BULK AT MOST 1048576: true; the input reads as it did. -/
def worldLevelsUptoRow : OpenClaim := { program := "ytckbdndhmcoihaa", sum := "a4d3c0b4867eba2d76578857183968fed0454967ae4ee064531afd714d14eeb9", func := "diorama/dioramalaw13.WorldLevels", spec := "worldLevels", unfollowed := true, recurses := true, plainKeys := false, apart := false, narrowed := true }
def WorldLevelsUptoSaid : Prop := worldLevelsUptoRow.holds Try.pinned (OpenSpec.upto worldLevelsSpec)

/-- 'dioramalaw13.WorldPlain', WHERE WHAT IT READS IS OF BULK AT MOST 1048576: true; the input reads as it did. -/
def worldPlainUptoRow : OpenClaim := { program := "ytckbdndhmcoihaa", sum := "a4d3c0b4867eba2d76578857183968fed0454967ae4ee064531afd714d14eeb9", func := "diorama/dioramalaw13.WorldPlain", spec := "worldPlain", unfollowed := true, recurses := true, plainKeys := false, apart := false, narrowed := true }
def WorldPlainUptoSaid : Prop := worldPlainUptoRow.holds Try.pinned (OpenSpec.upto worldPlainSpec)

/-- 'dioramalaw13.WorldIn', WHERE WHAT IT READS IS OF BULK AT MOST 1048576: true; the input reads as it did. -/
def worldInUptoRow : OpenClaim := { program := "ytckbdndhmcoihaa", sum := "a4d3c0b4867eba2d76578857183968fed0454967ae4ee064531afd714d14eeb9", func := "diorama/dioramalaw13.WorldIn", spec := "worldIn", unfollowed := true, recurses := true, plainKeys := false, apart := false, narrowed := true }
def WorldInUptoSaid : Prop := worldInUptoRow.holds Try.pinned (OpenSpec.upto worldInSpec)

end Rows
end Go.Proofs.Ytckbdndhmcoihaa
