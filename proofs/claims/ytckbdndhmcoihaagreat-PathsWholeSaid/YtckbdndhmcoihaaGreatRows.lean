/-
  No cell of these rows narrows 'for every input' (looked for: loops, veiled, ifaces, maps, wideKeys, modest, calm, conditions, laid).
  DERIVED. THE GIVEN ROWS OF THIS SEAT. 9 by the template 'for every input the law returns true; each argument reads behind the call as it read before'; 0 by the template 'total and deterministic' (their statements: YtckbdndhmcoihaaGreatTotals.lean).
  GIVEN WITH THE SEED: the statements are not yours to turn. If you find one false, say at which input.
  Laid BY PROGRAM, IN A SANDBOX (cutbox-rows.mjs): the forced cells as the released guide's own fill.sh prints them over the translation 9b1b2bd44de07f3f… (all of the seat's roots in one cut). By AI agents, Wed Nov 11 2026. No macro, syntax, notation, axiom, sorry.
-/
import Derived.Test.YtckbdndhmcoihaaGreatChecked
import GoSem.Claim
import GoSem.ClaimJoined
import GoSem.ClaimMapViews
import Derived.JoinedTies
import Derived.KernelRfl
namespace Go.Proofs.YtckbdndhmcoihaaGreat
/- THE CELL 'sum', in the pinned program and in every row, IS THE sha256 OF THE DUMP (.gsa) THAT YtckbdndhmcoihaaGreatProg.lean LOADS. Nothing in Lean hashes anything: it is a label: what it is worth is what the hold of that sum in a sandbox is worth. -/
noncomputable def Tryz.pinned : Pinned := { name := "ytckbdndhmcoihaagreat", sum := "9b1b2bd44de07f3fe1075ef3719e85affc38c118013773b675bd941ce58a80e1", checked := Tryz.checked }
namespace Rows
def none {H : Type} : Left H := { results := [], args := [] }

/-- 'dioramalaw13.WorldMat': WHATEVER THE INPUT: true; the input reads as it did. -/
def worldMatSpec : ChangeSpec := { name := "worldMat", fn := fun _ => fun
  | [d1, d2] => { results := [.lit (.bool true)], args := [d1, d2] }
  | _ => none }
def worldMatRow : OpenClaim := { program := "ytckbdndhmcoihaagreat", sum := "9b1b2bd44de07f3fe1075ef3719e85affc38c118013773b675bd941ce58a80e1", func := "diorama/dioramalaw13.WorldMat", spec := "worldMat", unfollowed := true, recurses := true, plainKeys := false, apart := false }
def WorldMatSaid : Prop := worldMatRow.holds Tryz.pinned (OpenSpec.ofChange worldMatSpec)

/-- ITS FALSE NEIGHBOUR: 'it returns false'. Refute it at one input. -/
def worldMatWrong : ChangeSpec := { name := "worldMat", fn := fun _ => fun
  | [d1, d2] => { results := [.lit (.bool false)], args := [d1, d2] }
  | _ => none }
def WorldMatWrongFalsely : Prop := worldMatRow.holds Tryz.pinned (OpenSpec.ofChange worldMatWrong)

/-- 'dioramalaw12.PathsOne': WHATEVER THE INPUT: true; the input reads as it did. -/
def pathsOneSpec : ChangeSpec := { name := "pathsOne", fn := fun _ => fun
  | [d1, d2, d3] => { results := [.lit (.bool true)], args := [d1, d2, d3] }
  | _ => none }
def pathsOneRow : OpenClaim := { program := "ytckbdndhmcoihaagreat", sum := "9b1b2bd44de07f3fe1075ef3719e85affc38c118013773b675bd941ce58a80e1", func := "diorama/dioramalaw12.PathsOne", spec := "pathsOne", unfollowed := true, recurses := true, plainKeys := false, apart := false }
def PathsOneSaid : Prop := pathsOneRow.holds Tryz.pinned (OpenSpec.ofChange pathsOneSpec)

/-- ITS FALSE NEIGHBOUR: 'it returns false'. Refute it at one input. -/
def pathsOneWrong : ChangeSpec := { name := "pathsOne", fn := fun _ => fun
  | [d1, d2, d3] => { results := [.lit (.bool false)], args := [d1, d2, d3] }
  | _ => none }
def PathsOneWrongFalsely : Prop := pathsOneRow.holds Tryz.pinned (OpenSpec.ofChange pathsOneWrong)

/-- 'dioramalaw10.EditMays': WHATEVER THE INPUT: true; the input reads as it did. -/
def editMaysSpec : ChangeSpec := { name := "editMays", fn := fun _ => fun
  | [d1, d2, d3] => { results := [.lit (.bool true)], args := [d1, d2, d3] }
  | _ => none }
def editMaysRow : OpenClaim := { program := "ytckbdndhmcoihaagreat", sum := "9b1b2bd44de07f3fe1075ef3719e85affc38c118013773b675bd941ce58a80e1", func := "diorama/dioramalaw10.EditMays", spec := "editMays", unfollowed := true, recurses := true, plainKeys := false, apart := false }
def EditMaysSaid : Prop := editMaysRow.holds Tryz.pinned (OpenSpec.ofChange editMaysSpec)

/-- ITS FALSE NEIGHBOUR: 'it returns false'. Refute it at one input. -/
def editMaysWrong : ChangeSpec := { name := "editMays", fn := fun _ => fun
  | [d1, d2, d3] => { results := [.lit (.bool false)], args := [d1, d2, d3] }
  | _ => none }
def EditMaysWrongFalsely : Prop := editMaysRow.holds Tryz.pinned (OpenSpec.ofChange editMaysWrong)

/-- 'dioramalaw10.EditDoes': WHATEVER THE INPUT: true; the input reads as it did. -/
def editDoesSpec : ChangeSpec := { name := "editDoes", fn := fun _ => fun
  | [d1, d2] => { results := [.lit (.bool true)], args := [d1, d2] }
  | _ => none }
def editDoesRow : OpenClaim := { program := "ytckbdndhmcoihaagreat", sum := "9b1b2bd44de07f3fe1075ef3719e85affc38c118013773b675bd941ce58a80e1", func := "diorama/dioramalaw10.EditDoes", spec := "editDoes", inPlace := ["slices.overlaps[diorama/api.Handle]"], unfollowed := true, recurses := true, plainKeys := false, apart := false }
def EditDoesSaid : Prop := editDoesRow.holds Tryz.pinned (OpenSpec.ofChange editDoesSpec)

/-- ITS FALSE NEIGHBOUR: 'it returns false'. Refute it at one input. -/
def editDoesWrong : ChangeSpec := { name := "editDoes", fn := fun _ => fun
  | [d1, d2] => { results := [.lit (.bool false)], args := [d1, d2] }
  | _ => none }
def EditDoesWrongFalsely : Prop := editDoesRow.holds Tryz.pinned (OpenSpec.ofChange editDoesWrong)

/-- 'dioramalaw12.PathsRight': WHATEVER THE INPUT: true; the input reads as it did. -/
def pathsRightSpec : ChangeSpec := { name := "pathsRight", fn := fun _ => fun
  | [d] => { results := [.lit (.bool true)], args := [d] }
  | _ => none }
def pathsRightRow : OpenClaim := { program := "ytckbdndhmcoihaagreat", sum := "9b1b2bd44de07f3fe1075ef3719e85affc38c118013773b675bd941ce58a80e1", func := "diorama/dioramalaw12.PathsRight", spec := "pathsRight", inPlace := ["slices.overlaps[diorama/api.Handle]"], unfollowed := true, recurses := true, plainKeys := false, apart := false }
def PathsRightSaid : Prop := pathsRightRow.holds Tryz.pinned (OpenSpec.ofChange pathsRightSpec)

/-- ITS FALSE NEIGHBOUR: 'it returns false'. Refute it at one input. -/
def pathsRightWrong : ChangeSpec := { name := "pathsRight", fn := fun _ => fun
  | [d] => { results := [.lit (.bool false)], args := [d] }
  | _ => none }
def PathsRightWrongFalsely : Prop := pathsRightRow.holds Tryz.pinned (OpenSpec.ofChange pathsRightWrong)

/-- 'dioramalaw12.PathsWhole': WHATEVER THE INPUT: true; the input reads as it did. -/
def pathsWholeSpec : ChangeSpec := { name := "pathsWhole", fn := fun _ => fun
  | [d1, d2] => { results := [.lit (.bool true)], args := [d1, d2] }
  | _ => none }
def pathsWholeRow : OpenClaim := { program := "ytckbdndhmcoihaagreat", sum := "9b1b2bd44de07f3fe1075ef3719e85affc38c118013773b675bd941ce58a80e1", func := "diorama/dioramalaw12.PathsWhole", spec := "pathsWhole", inPlace := ["slices.overlaps[diorama/api.Handle]"], unfollowed := true, recurses := true, plainKeys := false, apart := false }
def PathsWholeSaid : Prop := pathsWholeRow.holds Tryz.pinned (OpenSpec.ofChange pathsWholeSpec)

/-- ITS FALSE NEIGHBOUR: 'it returns false'. Refute it at one input. -/
def pathsWholeWrong : ChangeSpec := { name := "pathsWhole", fn := fun _ => fun
  | [d1, d2] => { results := [.lit (.bool false)], args := [d1, d2] }
  | _ => none }
def PathsWholeWrongFalsely : Prop := pathsWholeRow.holds Tryz.pinned (OpenSpec.ofChange pathsWholeWrong)

/-- 'dioramalaw10.EditKeeps': WHATEVER THE INPUT: true; the input reads as it did. -/
def editKeepsSpec : ChangeSpec := { name := "editKeeps", fn := fun _ => fun
  | [d1, d2] => { results := [.lit (.bool true)], args := [d1, d2] }
  | _ => none }
def editKeepsRow : OpenClaim := { program := "ytckbdndhmcoihaagreat", sum := "9b1b2bd44de07f3fe1075ef3719e85affc38c118013773b675bd941ce58a80e1", func := "diorama/dioramalaw10.EditKeeps", spec := "editKeeps", inPlace := ["slices.overlaps[diorama/api.Handle]"], unfollowed := true, recurses := true, plainKeys := false, apart := false }
def EditKeepsSaid : Prop := editKeepsRow.holds Tryz.pinned (OpenSpec.ofChange editKeepsSpec)

/-- ITS FALSE NEIGHBOUR: 'it returns false'. Refute it at one input. -/
def editKeepsWrong : ChangeSpec := { name := "editKeeps", fn := fun _ => fun
  | [d1, d2] => { results := [.lit (.bool false)], args := [d1, d2] }
  | _ => none }
def EditKeepsWrongFalsely : Prop := editKeepsRow.holds Tryz.pinned (OpenSpec.ofChange editKeepsWrong)

/-- 'dioramalaw10.EditTouches': WHATEVER THE INPUT: true; the input reads as it did. -/
def editTouchesSpec : ChangeSpec := { name := "editTouches", fn := fun _ => fun
  | [d1, d2] => { results := [.lit (.bool true)], args := [d1, d2] }
  | _ => none }
def editTouchesRow : OpenClaim := { program := "ytckbdndhmcoihaagreat", sum := "9b1b2bd44de07f3fe1075ef3719e85affc38c118013773b675bd941ce58a80e1", func := "diorama/dioramalaw10.EditTouches", spec := "editTouches", inPlace := ["slices.overlaps[diorama/api.Handle]"], unfollowed := true, recurses := true, plainKeys := false, apart := false }
def EditTouchesSaid : Prop := editTouchesRow.holds Tryz.pinned (OpenSpec.ofChange editTouchesSpec)

/-- ITS FALSE NEIGHBOUR: 'it returns false'. Refute it at one input. -/
def editTouchesWrong : ChangeSpec := { name := "editTouches", fn := fun _ => fun
  | [d1, d2] => { results := [.lit (.bool false)], args := [d1, d2] }
  | _ => none }
def EditTouchesWrongFalsely : Prop := editTouchesRow.holds Tryz.pinned (OpenSpec.ofChange editTouchesWrong)

/-- 'dioramalaw10.EditBack': WHATEVER THE INPUT: true; the input reads as it did. -/
def editBackSpec : ChangeSpec := { name := "editBack", fn := fun _ => fun
  | [d1, d2] => { results := [.lit (.bool true)], args := [d1, d2] }
  | _ => none }
def editBackRow : OpenClaim := { program := "ytckbdndhmcoihaagreat", sum := "9b1b2bd44de07f3fe1075ef3719e85affc38c118013773b675bd941ce58a80e1", func := "diorama/dioramalaw10.EditBack", spec := "editBack", inPlace := ["slices.overlaps[diorama/api.Handle]"], unfollowed := true, recurses := true, plainKeys := false, apart := false }
def EditBackSaid : Prop := editBackRow.holds Tryz.pinned (OpenSpec.ofChange editBackSpec)

/-- ITS FALSE NEIGHBOUR: 'it returns false'. Refute it at one input. -/
def editBackWrong : ChangeSpec := { name := "editBack", fn := fun _ => fun
  | [d1, d2] => { results := [.lit (.bool false)], args := [d1, d2] }
  | _ => none }
def EditBackWrongFalsely : Prop := editBackRow.holds Tryz.pinned (OpenSpec.ofChange editBackWrong)

/- THE SECOND FORM. 'bulk': how many values and letters a reading holds, each counted each time it is reached (what is shared counts as often as it is met; a slice's spare places count too). A statement '..UptoSaid' is the law's where the arguments, and the package variables that the reading takes, are together of bulk at most 1048576: NARROWER than '..Said'. Prove '..Said' where nothing that the law and all that it calls make is longer than what came in: it says more and counts as full. Else prove '..UptoSaid'. A law counts once. -/
mutual
def uptoBulk {H : Type} : DataW H → Nat
  | .lit (.string bytes) => bytes.length + 1
  | .lit _ => 1
  | .nil => 1
  | .ptr d => uptoBulk d + 1
  | .slice elems spare => uptoBulkAll elems + uptoBulkAll spare + 1
  | .agg parts => uptoBulkAll parts + 1
  | .iface _ d => uptoBulk d + 1
  | .map entries => uptoBulkEntries entries + 1
  | .held _ => 1
def uptoBulkAll {H : Type} : List (DataW H) → Nat
  | [] => 0
  | d :: r => uptoBulk d + uptoBulkAll r
def uptoBulkEntries {H : Type} : List (Lit × DataW H) → Nat
  | [] => 0
  | x :: r => uptoBulkEntry x + uptoBulkEntries r
def uptoBulkEntry {H : Type} : Lit × DataW H → Nat
  | (.string bytes, d) => bytes.length + uptoBulk d + 1
  | (_, d) => uptoBulk d + 1
 end
def uptoSmall : (H : Type) → List (DataW H) → Bool := fun _ ds => decide (uptoBulkAll ds ≤ 1048576)
def OpenSpec.upto (s : _root_.Go.ChangeSpec) : _root_.Go.OpenSpec := { _root_.Go.OpenSpec.ofChange s with cond := some uptoSmall }

/-- 'dioramalaw13.WorldMat', WHERE WHAT IT READS IS OF BULK AT MOST 1048576: true; the input reads as it did. -/
def worldMatUptoRow : OpenClaim := { program := "ytckbdndhmcoihaagreat", sum := "9b1b2bd44de07f3fe1075ef3719e85affc38c118013773b675bd941ce58a80e1", func := "diorama/dioramalaw13.WorldMat", spec := "worldMat", unfollowed := true, recurses := true, plainKeys := false, apart := false, narrowed := true }
def WorldMatUptoSaid : Prop := worldMatUptoRow.holds Tryz.pinned (OpenSpec.upto worldMatSpec)

/-- 'dioramalaw12.PathsOne', WHERE WHAT IT READS IS OF BULK AT MOST 1048576: true; the input reads as it did. -/
def pathsOneUptoRow : OpenClaim := { program := "ytckbdndhmcoihaagreat", sum := "9b1b2bd44de07f3fe1075ef3719e85affc38c118013773b675bd941ce58a80e1", func := "diorama/dioramalaw12.PathsOne", spec := "pathsOne", unfollowed := true, recurses := true, plainKeys := false, apart := false, narrowed := true }
def PathsOneUptoSaid : Prop := pathsOneUptoRow.holds Tryz.pinned (OpenSpec.upto pathsOneSpec)

/-- 'dioramalaw10.EditMays', WHERE WHAT IT READS IS OF BULK AT MOST 1048576: true; the input reads as it did. -/
def editMaysUptoRow : OpenClaim := { program := "ytckbdndhmcoihaagreat", sum := "9b1b2bd44de07f3fe1075ef3719e85affc38c118013773b675bd941ce58a80e1", func := "diorama/dioramalaw10.EditMays", spec := "editMays", unfollowed := true, recurses := true, plainKeys := false, apart := false, narrowed := true }
def EditMaysUptoSaid : Prop := editMaysUptoRow.holds Tryz.pinned (OpenSpec.upto editMaysSpec)

/-- 'dioramalaw10.EditDoes', WHERE WHAT IT READS IS OF BULK AT MOST 1048576: true; the input reads as it did. -/
def editDoesUptoRow : OpenClaim := { program := "ytckbdndhmcoihaagreat", sum := "9b1b2bd44de07f3fe1075ef3719e85affc38c118013773b675bd941ce58a80e1", func := "diorama/dioramalaw10.EditDoes", spec := "editDoes", inPlace := ["slices.overlaps[diorama/api.Handle]"], unfollowed := true, recurses := true, plainKeys := false, apart := false, narrowed := true }
def EditDoesUptoSaid : Prop := editDoesUptoRow.holds Tryz.pinned (OpenSpec.upto editDoesSpec)

/-- 'dioramalaw12.PathsRight', WHERE WHAT IT READS IS OF BULK AT MOST 1048576: true; the input reads as it did. -/
def pathsRightUptoRow : OpenClaim := { program := "ytckbdndhmcoihaagreat", sum := "9b1b2bd44de07f3fe1075ef3719e85affc38c118013773b675bd941ce58a80e1", func := "diorama/dioramalaw12.PathsRight", spec := "pathsRight", inPlace := ["slices.overlaps[diorama/api.Handle]"], unfollowed := true, recurses := true, plainKeys := false, apart := false, narrowed := true }
def PathsRightUptoSaid : Prop := pathsRightUptoRow.holds Tryz.pinned (OpenSpec.upto pathsRightSpec)

/-- 'dioramalaw12.PathsWhole', WHERE WHAT IT READS IS OF BULK AT MOST 1048576: true; the input reads as it did. -/
def pathsWholeUptoRow : OpenClaim := { program := "ytckbdndhmcoihaagreat", sum := "9b1b2bd44de07f3fe1075ef3719e85affc38c118013773b675bd941ce58a80e1", func := "diorama/dioramalaw12.PathsWhole", spec := "pathsWhole", inPlace := ["slices.overlaps[diorama/api.Handle]"], unfollowed := true, recurses := true, plainKeys := false, apart := false, narrowed := true }
def PathsWholeUptoSaid : Prop := pathsWholeUptoRow.holds Tryz.pinned (OpenSpec.upto pathsWholeSpec)

/-- 'dioramalaw10.EditKeeps', WHERE WHAT IT READS IS OF BULK AT MOST 1048576: true; the input reads as it did. -/
def editKeepsUptoRow : OpenClaim := { program := "ytckbdndhmcoihaagreat", sum := "9b1b2bd44de07f3fe1075ef3719e85affc38c118013773b675bd941ce58a80e1", func := "diorama/dioramalaw10.EditKeeps", spec := "editKeeps", inPlace := ["slices.overlaps[diorama/api.Handle]"], unfollowed := true, recurses := true, plainKeys := false, apart := false, narrowed := true }
def EditKeepsUptoSaid : Prop := editKeepsUptoRow.holds Tryz.pinned (OpenSpec.upto editKeepsSpec)

/-- 'dioramalaw10.EditTouches', WHERE WHAT IT READS IS OF BULK AT MOST 1048576: true; the input reads as it did. -/
def editTouchesUptoRow : OpenClaim := { program := "ytckbdndhmcoihaagreat", sum := "9b1b2bd44de07f3fe1075ef3719e85affc38c118013773b675bd941ce58a80e1", func := "diorama/dioramalaw10.EditTouches", spec := "editTouches", inPlace := ["slices.overlaps[diorama/api.Handle]"], unfollowed := true, recurses := true, plainKeys := false, apart := false, narrowed := true }
def EditTouchesUptoSaid : Prop := editTouchesUptoRow.holds Tryz.pinned (OpenSpec.upto editTouchesSpec)

/-- 'dioramalaw10.EditBack', WHERE WHAT IT READS IS OF BULK AT MOST 1048576: true; the input reads as it did. -/
def editBackUptoRow : OpenClaim := { program := "ytckbdndhmcoihaagreat", sum := "9b1b2bd44de07f3fe1075ef3719e85affc38c118013773b675bd941ce58a80e1", func := "diorama/dioramalaw10.EditBack", spec := "editBack", inPlace := ["slices.overlaps[diorama/api.Handle]"], unfollowed := true, recurses := true, plainKeys := false, apart := false, narrowed := true }
def EditBackUptoSaid : Prop := editBackUptoRow.holds Tryz.pinned (OpenSpec.upto editBackSpec)

end Rows
end Go.Proofs.YtckbdndhmcoihaaGreat
