/-
  No cell of these rows narrows 'for every input' (looked for: loops, veiled, ifaces, maps, wideKeys, modest, calm, conditions, laid).
  DERIVED. THE GIVEN ROWS OF THIS SEAT. 6 by the template 'for every input the law returns true; each argument reads behind the call as it read before'; 0 by the template 'total and deterministic' (their statements: YtahhdndhkgbcjaaTotals.lean).
  GIVEN WITH THE SEED: the statements are not yours to turn. If you find one false, say at which input.
  Laid BY PROGRAM, IN A SANDBOX (cutbox-rows.mjs): the forced cells as the released guide's own fill.sh prints them over the translation bd17e314f1306297… (all of the seat's roots in one cut). By AI agents, Wed Nov 11 2026. No macro, syntax, notation, axiom, sorry.
-/
import Derived.Test.YtahhdndhkgbcjaaChecked
import GoSem.Claim
import GoSem.ClaimJoined
import GoSem.ClaimMapViews
import Derived.JoinedTies
import Derived.KernelRfl
namespace Go.Proofs.Ytahhdndhkgbcjaa
/- THE CELL 'sum', in the pinned program and in every row, IS THE sha256 OF THE DUMP (.gsa) THAT YtahhdndhkgbcjaaProg.lean LOADS. Nothing in Lean hashes anything: it is a label: what it is worth is what the hold of that sum in a sandbox is worth. -/
noncomputable def Try.pinned : Pinned := { name := "ytahhdndhkgbcjaa", sum := "bd17e314f13062978c24a1e08988663b5221b3bd7506c39e5487b5780f8e5633", checked := Try.checked }
namespace Rows
def none {H : Type} : Left H := { results := [], args := [] }

/-- 'dioramalaw28.BinsAll': WHATEVER THE INPUT: true; the input reads as it did. -/
def binsAllSpec : ChangeSpec := { name := "binsAll", fn := fun _ => fun
  | [d1, d2] => { results := [.lit (.bool true)], args := [d1, d2] }
  | _ => none }
def binsAllRow : OpenClaim := { program := "ytahhdndhkgbcjaa", sum := "bd17e314f13062978c24a1e08988663b5221b3bd7506c39e5487b5780f8e5633", func := "diorama/dioramalaw28.BinsAll", spec := "binsAll", unfollowed := true, recurses := true, apart := false }
def BinsAllSaid : Prop := binsAllRow.holds Try.pinned (OpenSpec.ofChange binsAllSpec)

/-- ITS FALSE NEIGHBOUR: 'it returns false'. Refute it at one input. -/
def binsAllWrong : ChangeSpec := { name := "binsAll", fn := fun _ => fun
  | [d1, d2] => { results := [.lit (.bool false)], args := [d1, d2] }
  | _ => none }
def BinsAllWrongFalsely : Prop := binsAllRow.holds Try.pinned (OpenSpec.ofChange binsAllWrong)

/-- 'dioramalaw24.ImageColors': WHATEVER THE INPUT: true; the input reads as it did. -/
def imageColorsSpec : ChangeSpec := { name := "imageColors", fn := fun _ => fun
  | [d1, d2, d3, d4, d5] => { results := [.lit (.bool true)], args := [d1, d2, d3, d4, d5] }
  | _ => none }
def imageColorsRow : OpenClaim := { program := "ytahhdndhkgbcjaa", sum := "bd17e314f13062978c24a1e08988663b5221b3bd7506c39e5487b5780f8e5633", func := "diorama/dioramalaw24.ImageColors", spec := "imageColors", unfollowed := true, recurses := true, apart := false }
def ImageColorsSaid : Prop := imageColorsRow.holds Try.pinned (OpenSpec.ofChange imageColorsSpec)

/-- ITS FALSE NEIGHBOUR: 'it returns false'. Refute it at one input. -/
def imageColorsWrong : ChangeSpec := { name := "imageColors", fn := fun _ => fun
  | [d1, d2, d3, d4, d5] => { results := [.lit (.bool false)], args := [d1, d2, d3, d4, d5] }
  | _ => none }
def ImageColorsWrongFalsely : Prop := imageColorsRow.holds Try.pinned (OpenSpec.ofChange imageColorsWrong)

/-- 'dioramalaw24.ImageLeaves': WHATEVER THE INPUT: true; the input reads as it did. -/
def imageLeavesSpec : ChangeSpec := { name := "imageLeaves", fn := fun _ => fun
  | [d1, d2, d3, d4, d5, d6] => { results := [.lit (.bool true)], args := [d1, d2, d3, d4, d5, d6] }
  | _ => none }
def imageLeavesRow : OpenClaim := { program := "ytahhdndhkgbcjaa", sum := "bd17e314f13062978c24a1e08988663b5221b3bd7506c39e5487b5780f8e5633", func := "diorama/dioramalaw24.ImageLeaves", spec := "imageLeaves", unfollowed := true, recurses := true, apart := false }
def ImageLeavesSaid : Prop := imageLeavesRow.holds Try.pinned (OpenSpec.ofChange imageLeavesSpec)

/-- ITS FALSE NEIGHBOUR: 'it returns false'. Refute it at one input. -/
def imageLeavesWrong : ChangeSpec := { name := "imageLeaves", fn := fun _ => fun
  | [d1, d2, d3, d4, d5, d6] => { results := [.lit (.bool false)], args := [d1, d2, d3, d4, d5, d6] }
  | _ => none }
def ImageLeavesWrongFalsely : Prop := imageLeavesRow.holds Try.pinned (OpenSpec.ofChange imageLeavesWrong)

/-- 'dioramalaw28.BinsMeet': WHATEVER THE INPUT: true; the input reads as it did. -/
def binsMeetSpec : ChangeSpec := { name := "binsMeet", fn := fun _ => fun
  | [d1, d2, d3, d4, d5, d6] => { results := [.lit (.bool true)], args := [d1, d2, d3, d4, d5, d6] }
  | _ => none }
def binsMeetRow : OpenClaim := { program := "ytahhdndhkgbcjaa", sum := "bd17e314f13062978c24a1e08988663b5221b3bd7506c39e5487b5780f8e5633", func := "diorama/dioramalaw28.BinsMeet", spec := "binsMeet", unfollowed := true, recurses := true, apart := false }
def BinsMeetSaid : Prop := binsMeetRow.holds Try.pinned (OpenSpec.ofChange binsMeetSpec)

/-- ITS FALSE NEIGHBOUR: 'it returns false'. Refute it at one input. -/
def binsMeetWrong : ChangeSpec := { name := "binsMeet", fn := fun _ => fun
  | [d1, d2, d3, d4, d5, d6] => { results := [.lit (.bool false)], args := [d1, d2, d3, d4, d5, d6] }
  | _ => none }
def BinsMeetWrongFalsely : Prop := binsMeetRow.holds Try.pinned (OpenSpec.ofChange binsMeetWrong)

/-- 'dioramalaw24.ImageWins': WHATEVER THE INPUT: true; the input reads as it did. -/
def imageWinsSpec : ChangeSpec := { name := "imageWins", fn := fun _ => fun
  | [d1, d2, d3, d4, d5] => { results := [.lit (.bool true)], args := [d1, d2, d3, d4, d5] }
  | _ => none }
def imageWinsRow : OpenClaim := { program := "ytahhdndhkgbcjaa", sum := "bd17e314f13062978c24a1e08988663b5221b3bd7506c39e5487b5780f8e5633", func := "diorama/dioramalaw24.ImageWins", spec := "imageWins", unfollowed := true, recurses := true, apart := false }
def ImageWinsSaid : Prop := imageWinsRow.holds Try.pinned (OpenSpec.ofChange imageWinsSpec)

/-- ITS FALSE NEIGHBOUR: 'it returns false'. Refute it at one input. -/
def imageWinsWrong : ChangeSpec := { name := "imageWins", fn := fun _ => fun
  | [d1, d2, d3, d4, d5] => { results := [.lit (.bool false)], args := [d1, d2, d3, d4, d5] }
  | _ => none }
def ImageWinsWrongFalsely : Prop := imageWinsRow.holds Try.pinned (OpenSpec.ofChange imageWinsWrong)

/-- 'dioramalaw26.RasterSplits': WHATEVER THE INPUT: true; the input reads as it did. -/
def rasterSplitsSpec : ChangeSpec := { name := "rasterSplits", fn := fun _ => fun
  | [d1, d2, d3, d4, d5, d6] => { results := [.lit (.bool true)], args := [d1, d2, d3, d4, d5, d6] }
  | _ => none }
def rasterSplitsRow : OpenClaim := { program := "ytahhdndhkgbcjaa", sum := "bd17e314f13062978c24a1e08988663b5221b3bd7506c39e5487b5780f8e5633", func := "diorama/dioramalaw26.RasterSplits", spec := "rasterSplits", unfollowed := true, recurses := true, apart := false }
def RasterSplitsSaid : Prop := rasterSplitsRow.holds Try.pinned (OpenSpec.ofChange rasterSplitsSpec)

/-- ITS FALSE NEIGHBOUR: 'it returns false'. Refute it at one input. -/
def rasterSplitsWrong : ChangeSpec := { name := "rasterSplits", fn := fun _ => fun
  | [d1, d2, d3, d4, d5, d6] => { results := [.lit (.bool false)], args := [d1, d2, d3, d4, d5, d6] }
  | _ => none }
def RasterSplitsWrongFalsely : Prop := rasterSplitsRow.holds Try.pinned (OpenSpec.ofChange rasterSplitsWrong)

/- THE SECOND FORM. 'bulk': how many values and letters a reading holds, each counted each time it is reached (what is shared counts as often as it is met; a slice's spare places count too). A statement '..UptoSaid' is the law's where the arguments, and the package variables that the reading takes, are together of bulk at most 1048576: NARROWER than '..Said'. Prove '..Said' where nothing that the law and all that it calls make is longer than what came in: it says more and counts as full. Else prove '..UptoSaid'. A law counts once. -/
mutual
def uptoBulk {H : Type} : DataW H → Nat
  | .lit (.string bytes) => bytes.length + 1
  | .lit _ => 1
  | .nil => 1
  | .ptr d => uptoBulk d + 1
  | .slice elems spare => uptoBulkAll elems + uptoBulkAll spare + 1
  | .agg parts => uptoBulkAll parts + 1
  | .iface _ d => uptoBulk d + 1
  | .map entries => uptoBulkEntries entries + 1
  | .held _ => 1
def uptoBulkAll {H : Type} : List (DataW H) → Nat
  | [] => 0
  | d :: r => uptoBulk d + uptoBulkAll r
def uptoBulkEntries {H : Type} : List (Lit × DataW H) → Nat
  | [] => 0
  | x :: r => uptoBulkEntry x + uptoBulkEntries r
def uptoBulkEntry {H : Type} : Lit × DataW H → Nat
  | (.string bytes, d) => bytes.length + uptoBulk d + 1
  | (_, d) => uptoBulk d + 1
 end
def uptoSmall : (H : Type) → List (DataW H) → Bool := fun _ ds => decide (uptoBulkAll ds ≤ 1048576)
def OpenSpec.upto (s : _root_.Go.ChangeSpec) : _root_.Go.OpenSpec := { _root_.Go.OpenSpec.ofChange s with cond := some uptoSmall }

/-- 'dioramalaw28.BinsAll', WHERE WHAT IT READS IS OF BULK AT MOST 1048576: true; the input reads as it did. -/
def binsAllUptoRow : OpenClaim := { program := "ytahhdndhkgbcjaa", sum := "bd17e314f13062978c24a1e08988663b5221b3bd7506c39e5487b5780f8e5633", func := "diorama/dioramalaw28.BinsAll", spec := "binsAll", unfollowed := true, recurses := true, apart := false, narrowed := true }
def BinsAllUptoSaid : Prop := binsAllUptoRow.holds Try.pinned (OpenSpec.upto binsAllSpec)

/-- 'dioramalaw24.ImageColors', WHERE WHAT IT READS IS OF BULK AT MOST 1048576: true; the input reads as it did. -/
def imageColorsUptoRow : OpenClaim := { program := "ytahhdndhkgbcjaa", sum := "bd17e314f13062978c24a1e08988663b5221b3bd7506c39e5487b5780f8e5633", func := "diorama/dioramalaw24.ImageColors", spec := "imageColors", unfollowed := true, recurses := true, apart := false, narrowed := true }
def ImageColorsUptoSaid : Prop := imageColorsUptoRow.holds Try.pinned (OpenSpec.upto imageColorsSpec)

/-- 'dioramalaw24.ImageLeaves', WHERE WHAT IT READS IS OF BULK AT MOST 1048576: true; the input reads as it did. -/
def imageLeavesUptoRow : OpenClaim := { program := "ytahhdndhkgbcjaa", sum := "bd17e314f13062978c24a1e08988663b5221b3bd7506c39e5487b5780f8e5633", func := "diorama/dioramalaw24.ImageLeaves", spec := "imageLeaves", unfollowed := true, recurses := true, apart := false, narrowed := true }
def ImageLeavesUptoSaid : Prop := imageLeavesUptoRow.holds Try.pinned (OpenSpec.upto imageLeavesSpec)

/-- 'dioramalaw28.BinsMeet', WHERE WHAT IT READS IS OF BULK AT MOST 1048576: true; the input reads as it did. -/
def binsMeetUptoRow : OpenClaim := { program := "ytahhdndhkgbcjaa", sum := "bd17e314f13062978c24a1e08988663b5221b3bd7506c39e5487b5780f8e5633", func := "diorama/dioramalaw28.BinsMeet", spec := "binsMeet", unfollowed := true, recurses := true, apart := false, narrowed := true }
def BinsMeetUptoSaid : Prop := binsMeetUptoRow.holds Try.pinned (OpenSpec.upto binsMeetSpec)

/-- 'dioramalaw24.ImageWins', WHERE WHAT IT READS IS OF BULK AT MOST 1048576: true; the input reads as it did. -/
def imageWinsUptoRow : OpenClaim := { program := "ytahhdndhkgbcjaa", sum := "bd17e314f13062978c24a1e08988663b5221b3bd7506c39e5487b5780f8e5633", func := "diorama/dioramalaw24.ImageWins", spec := "imageWins", unfollowed := true, recurses := true, apart := false, narrowed := true }
def ImageWinsUptoSaid : Prop := imageWinsUptoRow.holds Try.pinned (OpenSpec.upto imageWinsSpec)

/-- 'dioramalaw26.RasterSplits', WHERE WHAT IT READS IS OF BULK AT MOST 1048576: true; the input reads as it did. -/
def rasterSplitsUptoRow : OpenClaim := { program := "ytahhdndhkgbcjaa", sum := "bd17e314f13062978c24a1e08988663b5221b3bd7506c39e5487b5780f8e5633", func := "diorama/dioramalaw26.RasterSplits", spec := "rasterSplits", unfollowed := true, recurses := true, apart := false, narrowed := true }
def RasterSplitsUptoSaid : Prop := rasterSplitsUptoRow.holds Try.pinned (OpenSpec.upto rasterSplitsSpec)

end Rows
end Go.Proofs.Ytahhdndhkgbcjaa
