/-
  No cell of these rows narrows 'for every input' (looked for: loops, veiled, ifaces, maps, wideKeys, modest, calm, conditions, laid).
  DERIVED. THE GIVEN ROWS OF THIS SEAT. 5 by the template 'for every input the law returns true; each argument reads behind the call as it read before'; 0 by the template 'total and deterministic' (their statements: YtjmpheohljeapaaTotals.lean).
  GIVEN WITH THE SEED: the statements are not yours to turn. If you find one false, say at which input.
  Laid BY PROGRAM, IN A SANDBOX (cutbox-rows.mjs): the forced cells as the released guide's own fill.sh prints them over the translation becaad4099371c74… (all of the seat's roots in one cut). By AI agents, Wed Nov 11 2026. No macro, syntax, notation, axiom, sorry.
-/
import Derived.Test.YtjmpheohljeapaaChecked
import GoSem.Claim
import GoSem.ClaimJoined
import GoSem.ClaimMapViews
import Derived.JoinedTies
import Derived.KernelRfl
namespace Go.Proofs.Ytjmpheohljeapaa
/- THE CELL 'sum', in the pinned program and in every row, IS THE sha256 OF THE DUMP (.gsa) THAT YtjmpheohljeapaaProg.lean LOADS. Nothing in Lean hashes anything: it is a label: what it is worth is what the hold of that sum in a sandbox is worth. -/
noncomputable def Try.pinned : Pinned := { name := "ytjmpheohljeapaa", sum := "becaad4099371c74665a2ced6cfa5dc5d62db5deb439cbb67c61efced703735c", checked := Try.checked }
namespace Rows
def none {H : Type} : Left H := { results := [], args := [] }

/-- 'dioramalaw13.WorldShow': WHATEVER THE INPUT: true; the input reads as it did. -/
def worldShowSpec : ChangeSpec := { name := "worldShow", fn := fun _ => fun
  | [d1, d2, d3, d4, d5] => { results := [.lit (.bool true)], args := [d1, d2, d3, d4, d5] }
  | _ => none }
def worldShowRow : OpenClaim := { program := "ytjmpheohljeapaa", sum := "becaad4099371c74665a2ced6cfa5dc5d62db5deb439cbb67c61efced703735c", func := "diorama/dioramalaw13.WorldShow", spec := "worldShow", unfollowed := true, recurses := true, plainKeys := false, apart := false }
def WorldShowSaid : Prop := worldShowRow.holds Try.pinned (OpenSpec.ofChange worldShowSpec)

/-- ITS FALSE NEIGHBOUR: 'it returns false'. Refute it at one input. -/
def worldShowWrong : ChangeSpec := { name := "worldShow", fn := fun _ => fun
  | [d1, d2, d3, d4, d5] => { results := [.lit (.bool false)], args := [d1, d2, d3, d4, d5] }
  | _ => none }
def WorldShowWrongFalsely : Prop := worldShowRow.holds Try.pinned (OpenSpec.ofChange worldShowWrong)

/-- 'dioramalaw28.BinsTiles': WHATEVER THE INPUT: true; the input reads as it did. -/
def binsTilesSpec : ChangeSpec := { name := "binsTiles", fn := fun _ => fun
  | [d1, d2, d3, d4] => { results := [.lit (.bool true)], args := [d1, d2, d3, d4] }
  | _ => none }
def binsTilesRow : OpenClaim := { program := "ytjmpheohljeapaa", sum := "becaad4099371c74665a2ced6cfa5dc5d62db5deb439cbb67c61efced703735c", func := "diorama/dioramalaw28.BinsTiles", spec := "binsTiles", unfollowed := true, recurses := true, plainKeys := false, apart := false }
def BinsTilesSaid : Prop := binsTilesRow.holds Try.pinned (OpenSpec.ofChange binsTilesSpec)

/-- ITS FALSE NEIGHBOUR: 'it returns false'. Refute it at one input. -/
def binsTilesWrong : ChangeSpec := { name := "binsTiles", fn := fun _ => fun
  | [d1, d2, d3, d4] => { results := [.lit (.bool false)], args := [d1, d2, d3, d4] }
  | _ => none }
def BinsTilesWrongFalsely : Prop := binsTilesRow.holds Try.pinned (OpenSpec.ofChange binsTilesWrong)

/-- 'dioramalaw28.BinsAll': WHATEVER THE INPUT: true; the input reads as it did. -/
def binsAllSpec : ChangeSpec := { name := "binsAll", fn := fun _ => fun
  | [d1, d2] => { results := [.lit (.bool true)], args := [d1, d2] }
  | _ => none }
def binsAllRow : OpenClaim := { program := "ytjmpheohljeapaa", sum := "becaad4099371c74665a2ced6cfa5dc5d62db5deb439cbb67c61efced703735c", func := "diorama/dioramalaw28.BinsAll", spec := "binsAll", unfollowed := true, recurses := true, plainKeys := false, apart := false }
def BinsAllSaid : Prop := binsAllRow.holds Try.pinned (OpenSpec.ofChange binsAllSpec)

/-- ITS FALSE NEIGHBOUR: 'it returns false'. Refute it at one input. -/
def binsAllWrong : ChangeSpec := { name := "binsAll", fn := fun _ => fun
  | [d1, d2] => { results := [.lit (.bool false)], args := [d1, d2] }
  | _ => none }
def BinsAllWrongFalsely : Prop := binsAllRow.holds Try.pinned (OpenSpec.ofChange binsAllWrong)

/-- 'dioramalaw30.RenderBegins': WHATEVER THE INPUT: true; the input reads as it did. -/
def renderBeginsSpec : ChangeSpec := { name := "renderBegins", fn := fun _ => fun
  | [d1, d2, d3, d4, d5, d6] => { results := [.lit (.bool true)], args := [d1, d2, d3, d4, d5, d6] }
  | _ => none }
def renderBeginsRow : OpenClaim := { program := "ytjmpheohljeapaa", sum := "becaad4099371c74665a2ced6cfa5dc5d62db5deb439cbb67c61efced703735c", func := "diorama/dioramalaw30.RenderBegins", spec := "renderBegins", unfollowed := true, recurses := true, plainKeys := false, apart := false }
def RenderBeginsSaid : Prop := renderBeginsRow.holds Try.pinned (OpenSpec.ofChange renderBeginsSpec)

/-- ITS FALSE NEIGHBOUR: 'it returns false'. Refute it at one input. -/
def renderBeginsWrong : ChangeSpec := { name := "renderBegins", fn := fun _ => fun
  | [d1, d2, d3, d4, d5, d6] => { results := [.lit (.bool false)], args := [d1, d2, d3, d4, d5, d6] }
  | _ => none }
def RenderBeginsWrongFalsely : Prop := renderBeginsRow.holds Try.pinned (OpenSpec.ofChange renderBeginsWrong)

/-- 'dioramalaw13.WorldLevels': WHATEVER THE INPUT: true; the input reads as it did. -/
def worldLevelsSpec : ChangeSpec := { name := "worldLevels", fn := fun _ => fun
  | [d1, d2] => { results := [.lit (.bool true)], args := [d1, d2] }
  | _ => none }
def worldLevelsRow : OpenClaim := { program := "ytjmpheohljeapaa", sum := "becaad4099371c74665a2ced6cfa5dc5d62db5deb439cbb67c61efced703735c", func := "diorama/dioramalaw13.WorldLevels", spec := "worldLevels", unfollowed := true, recurses := true, plainKeys := false, apart := false }
def WorldLevelsSaid : Prop := worldLevelsRow.holds Try.pinned (OpenSpec.ofChange worldLevelsSpec)

/-- ITS FALSE NEIGHBOUR: 'it returns false'. Refute it at one input. -/
def worldLevelsWrong : ChangeSpec := { name := "worldLevels", fn := fun _ => fun
  | [d1, d2] => { results := [.lit (.bool false)], args := [d1, d2] }
  | _ => none }
def WorldLevelsWrongFalsely : Prop := worldLevelsRow.holds Try.pinned (OpenSpec.ofChange worldLevelsWrong)

/- THE SECOND FORM. 'bulk': how many values and letters a reading holds, each counted each time it is reached (what is shared counts as often as it is met; a slice's spare places count too). A statement '..UptoSaid' is the law's where the arguments, and the package variables that the reading takes, are together of bulk at most 1048576: NARROWER than '..Said'. Prove '..Said' where nothing that the law and all that it calls make is longer than what came in: it says more and counts as full. Else prove '..UptoSaid'. A law counts once. -/
mutual
def uptoBulk {H : Type} : DataW H → Nat
  | .lit (.string bytes) => bytes.length + 1
  | .lit _ => 1
  | .nil => 1
  | .ptr d => uptoBulk d + 1
  | .slice elems spare => uptoBulkAll elems + uptoBulkAll spare + 1
  | .agg parts => uptoBulkAll parts + 1
  | .iface _ d => uptoBulk d + 1
  | .map entries => uptoBulkEntries entries + 1
  | .held _ => 1
def uptoBulkAll {H : Type} : List (DataW H) → Nat
  | [] => 0
  | d :: r => uptoBulk d + uptoBulkAll r
def uptoBulkEntries {H : Type} : List (Lit × DataW H) → Nat
  | [] => 0
  | x :: r => uptoBulkEntry x + uptoBulkEntries r
def uptoBulkEntry {H : Type} : Lit × DataW H → Nat
  | (.string bytes, d) => bytes.length + uptoBulk d + 1
  | (_, d) => uptoBulk d + 1
 end
def uptoSmall : (H : Type) → List (DataW H) → Bool := fun _ ds => decide (uptoBulkAll ds ≤ 1048576)
def OpenSpec.upto (s : _root_.Go.ChangeSpec) : _root_.Go.OpenSpec := { _root_.Go.OpenSpec.ofChange s with cond := some uptoSmall }

/-- 'dioramalaw13.WorldShow', WHERE WHAT IT READS IS OF BULK AT MOST 1048576: true; the input reads as it did. -/
def worldShowUptoRow : OpenClaim := { program := "ytjmpheohljeapaa", sum := "becaad4099371c74665a2ced6cfa5dc5d62db5deb439cbb67c61efced703735c", func := "diorama/dioramalaw13.WorldShow", spec := "worldShow", unfollowed := true, recurses := true, plainKeys := false, apart := false, narrowed := true }
def WorldShowUptoSaid : Prop := worldShowUptoRow.holds Try.pinned (OpenSpec.upto worldShowSpec)

/-- 'dioramalaw28.BinsTiles', WHERE WHAT IT READS IS OF BULK AT MOST 1048576: true; the input reads as it did. -/
def binsTilesUptoRow : OpenClaim := { program := "ytjmpheohljeapaa", sum := "becaad4099371c74665a2ced6cfa5dc5d62db5deb439cbb67c61efced703735c", func := "diorama/dioramalaw28.BinsTiles", spec := "binsTiles", unfollowed := true, recurses := true, plainKeys := false, apart := false, narrowed := true }
def BinsTilesUptoSaid : Prop := binsTilesUptoRow.holds Try.pinned (OpenSpec.upto binsTilesSpec)

/-- 'dioramalaw28.BinsAll', WHERE WHAT IT READS IS OF BULK AT MOST 1048576: true; the input reads as it did. -/
def binsAllUptoRow : OpenClaim := { program := "ytjmpheohljeapaa", sum := "becaad4099371c74665a2ced6cfa5dc5d62db5deb439cbb67c61efced703735c", func := "diorama/dioramalaw28.BinsAll", spec := "binsAll", unfollowed := true, recurses := true, plainKeys := false, apart := false, narrowed := true }
def BinsAllUptoSaid : Prop := binsAllUptoRow.holds Try.pinned (OpenSpec.upto binsAllSpec)

/-- 'dioramalaw30.RenderBegins', WHERE WHAT IT READS IS OF BULK AT MOST 1048576: true; the input reads as it did. -/
def renderBeginsUptoRow : OpenClaim := { program := "ytjmpheohljeapaa", sum := "becaad4099371c74665a2ced6cfa5dc5d62db5deb439cbb67c61efced703735c", func := "diorama/dioramalaw30.RenderBegins", spec := "renderBegins", unfollowed := true, recurses := true, plainKeys := false, apart := false, narrowed := true }
def RenderBeginsUptoSaid : Prop := renderBeginsUptoRow.holds Try.pinned (OpenSpec.upto renderBeginsSpec)

/-- 'dioramalaw13.WorldLevels', WHERE WHAT IT READS IS OF BULK AT MOST 1048576: true; the input reads as it did. -/
def worldLevelsUptoRow : OpenClaim := { program := "ytjmpheohljeapaa", sum := "becaad4099371c74665a2ced6cfa5dc5d62db5deb439cbb67c61efced703735c", func := "diorama/dioramalaw13.WorldLevels", spec := "worldLevels", unfollowed := true, recurses := true, plainKeys := false, apart := false, narrowed := true }
def WorldLevelsUptoSaid : Prop := worldLevelsUptoRow.holds Try.pinned (OpenSpec.upto worldLevelsSpec)

end Rows
end Go.Proofs.Ytjmpheohljeapaa
