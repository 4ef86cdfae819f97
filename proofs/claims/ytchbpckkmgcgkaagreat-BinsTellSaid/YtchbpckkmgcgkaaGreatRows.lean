/-
  No cell of these rows narrows 'for every input' (looked for: loops, veiled, ifaces, maps, wideKeys, modest, calm, conditions, laid).
  DERIVED. THE GIVEN ROWS OF THIS SEAT. 5 by the template 'for every input the law returns true; each argument reads behind the call as it read before'; 0 by the template 'total and deterministic' (their statements: YtchbpckkmgcgkaaGreatTotals.lean).
  GIVEN WITH THE SEED: the statements are not yours to turn. If you find one false, say at which input.
  Laid BY PROGRAM, IN A SANDBOX (cutbox-rows.mjs): the forced cells as the released guide's own fill.sh prints them over the translation bb24889e96156e11… (all of the seat's roots in one cut). By AI agents, Wed Nov 11 2026. No macro, syntax, notation, axiom, sorry.
-/
import Derived.Test.YtchbpckkmgcgkaaGreatChecked
import GoSem.Claim
import GoSem.ClaimJoined
import GoSem.ClaimMapViews
import Derived.JoinedTies
import Derived.KernelRfl
namespace Go.Proofs.YtchbpckkmgcgkaaGreat
/- THE CELL 'sum', in the pinned program and in every row, IS THE sha256 OF THE DUMP (.gsa) THAT YtchbpckkmgcgkaaGreatProg.lean LOADS. Nothing in Lean hashes anything: it is a label: what it is worth is what the hold of that sum in a sandbox is worth. -/
noncomputable def Tryz.pinned : Pinned := { name := "ytchbpckkmgcgkaagreat", sum := "bb24889e96156e1134583877570fccab8124cbffc46e493ba14bd15b16e4c347", checked := Tryz.checked }
namespace Rows
def none {H : Type} : Left H := { results := [], args := [] }

/-- 'dioramalaw24.ImageFrags': WHATEVER THE INPUT: true; the input reads as it did. -/
def imageFragsSpec : ChangeSpec := { name := "imageFrags", fn := fun _ => fun
  | [d1, d2, d3, d4, d5, d6, d7] => { results := [.lit (.bool true)], args := [d1, d2, d3, d4, d5, d6, d7] }
  | _ => none }
def imageFragsRow : OpenClaim := { program := "ytchbpckkmgcgkaagreat", sum := "bb24889e96156e1134583877570fccab8124cbffc46e493ba14bd15b16e4c347", func := "diorama/dioramalaw24.ImageFrags", spec := "imageFrags", unfollowed := true, recurses := true, apart := false }
def ImageFragsSaid : Prop := imageFragsRow.holds Tryz.pinned (OpenSpec.ofChange imageFragsSpec)

/-- ITS FALSE NEIGHBOUR: 'it returns false'. Refute it at one input. -/
def imageFragsWrong : ChangeSpec := { name := "imageFrags", fn := fun _ => fun
  | [d1, d2, d3, d4, d5, d6, d7] => { results := [.lit (.bool false)], args := [d1, d2, d3, d4, d5, d6, d7] }
  | _ => none }
def ImageFragsWrongFalsely : Prop := imageFragsRow.holds Tryz.pinned (OpenSpec.ofChange imageFragsWrong)

/-- 'dioramalaw24.ImageWhole': WHATEVER THE INPUT: true; the input reads as it did. -/
def imageWholeSpec : ChangeSpec := { name := "imageWhole", fn := fun _ => fun
  | [d1, d2, d3] => { results := [.lit (.bool true)], args := [d1, d2, d3] }
  | _ => none }
def imageWholeRow : OpenClaim := { program := "ytchbpckkmgcgkaagreat", sum := "bb24889e96156e1134583877570fccab8124cbffc46e493ba14bd15b16e4c347", func := "diorama/dioramalaw24.ImageWhole", spec := "imageWhole", unfollowed := true, recurses := true, apart := false }
def ImageWholeSaid : Prop := imageWholeRow.holds Tryz.pinned (OpenSpec.ofChange imageWholeSpec)

/-- ITS FALSE NEIGHBOUR: 'it returns false'. Refute it at one input. -/
def imageWholeWrong : ChangeSpec := { name := "imageWhole", fn := fun _ => fun
  | [d1, d2, d3] => { results := [.lit (.bool false)], args := [d1, d2, d3] }
  | _ => none }
def ImageWholeWrongFalsely : Prop := imageWholeRow.holds Tryz.pinned (OpenSpec.ofChange imageWholeWrong)

/-- 'dioramalaw28.BinsTell': WHATEVER THE INPUT: true; the input reads as it did. -/
def binsTellSpec : ChangeSpec := { name := "binsTell", fn := fun _ => fun
  | [d1, d2, d3, d4, d5, d6, d7] => { results := [.lit (.bool true)], args := [d1, d2, d3, d4, d5, d6, d7] }
  | _ => none }
def binsTellRow : OpenClaim := { program := "ytchbpckkmgcgkaagreat", sum := "bb24889e96156e1134583877570fccab8124cbffc46e493ba14bd15b16e4c347", func := "diorama/dioramalaw28.BinsTell", spec := "binsTell", unfollowed := true, recurses := true, apart := false }
def BinsTellSaid : Prop := binsTellRow.holds Tryz.pinned (OpenSpec.ofChange binsTellSpec)

/-- ITS FALSE NEIGHBOUR: 'it returns false'. Refute it at one input. -/
def binsTellWrong : ChangeSpec := { name := "binsTell", fn := fun _ => fun
  | [d1, d2, d3, d4, d5, d6, d7] => { results := [.lit (.bool false)], args := [d1, d2, d3, d4, d5, d6, d7] }
  | _ => none }
def BinsTellWrongFalsely : Prop := binsTellRow.holds Tryz.pinned (OpenSpec.ofChange binsTellWrong)

/-- 'dioramalaw26.RasterDraws': WHATEVER THE INPUT: true; the input reads as it did. -/
def rasterDrawsSpec : ChangeSpec := { name := "rasterDraws", fn := fun _ => fun
  | [d1, d2, d3, d4, d5] => { results := [.lit (.bool true)], args := [d1, d2, d3, d4, d5] }
  | _ => none }
def rasterDrawsRow : OpenClaim := { program := "ytchbpckkmgcgkaagreat", sum := "bb24889e96156e1134583877570fccab8124cbffc46e493ba14bd15b16e4c347", func := "diorama/dioramalaw26.RasterDraws", spec := "rasterDraws", unfollowed := true, recurses := true, apart := false }
def RasterDrawsSaid : Prop := rasterDrawsRow.holds Tryz.pinned (OpenSpec.ofChange rasterDrawsSpec)

/-- ITS FALSE NEIGHBOUR: 'it returns false'. Refute it at one input. -/
def rasterDrawsWrong : ChangeSpec := { name := "rasterDraws", fn := fun _ => fun
  | [d1, d2, d3, d4, d5] => { results := [.lit (.bool false)], args := [d1, d2, d3, d4, d5] }
  | _ => none }
def RasterDrawsWrongFalsely : Prop := rasterDrawsRow.holds Tryz.pinned (OpenSpec.ofChange rasterDrawsWrong)

/-- 'dioramalaw26.RasterImage': WHATEVER THE INPUT: true; the input reads as it did. -/
def rasterImageSpec : ChangeSpec := { name := "rasterImage", fn := fun _ => fun
  | [d1, d2, d3, d4] => { results := [.lit (.bool true)], args := [d1, d2, d3, d4] }
  | _ => none }
def rasterImageRow : OpenClaim := { program := "ytchbpckkmgcgkaagreat", sum := "bb24889e96156e1134583877570fccab8124cbffc46e493ba14bd15b16e4c347", func := "diorama/dioramalaw26.RasterImage", spec := "rasterImage", unfollowed := true, recurses := true, apart := false }
def RasterImageSaid : Prop := rasterImageRow.holds Tryz.pinned (OpenSpec.ofChange rasterImageSpec)

/-- ITS FALSE NEIGHBOUR: 'it returns false'. Refute it at one input. -/
def rasterImageWrong : ChangeSpec := { name := "rasterImage", fn := fun _ => fun
  | [d1, d2, d3, d4] => { results := [.lit (.bool false)], args := [d1, d2, d3, d4] }
  | _ => none }
def RasterImageWrongFalsely : Prop := rasterImageRow.holds Tryz.pinned (OpenSpec.ofChange rasterImageWrong)

/- THE SECOND FORM. 'bulk': how many values and letters a reading holds, each counted each time it is reached (what is shared counts as often as it is met; a slice's spare places count too). A statement '..UptoSaid' is the law's where the arguments, and the package variables that the reading takes, are together of bulk at most 1048576: NARROWER than '..Said'. Prove '..Said' where nothing that the law and all that it calls make is longer than what came in: it says more and counts as full. Else prove '..UptoSaid'. A law counts once. -/
mutual
def uptoBulk {H : Type} : DataW H → Nat
  | .lit (.string bytes) => bytes.length + 1
  | .lit _ => 1
  | .nil => 1
  | .ptr d => uptoBulk d + 1
  | .slice elems spare => uptoBulkAll elems + uptoBulkAll spare + 1
  | .agg parts => uptoBulkAll parts + 1
  | .iface _ d => uptoBulk d + 1
  | .map entries => uptoBulkEntries entries + 1
  | .held _ => 1
def uptoBulkAll {H : Type} : List (DataW H) → Nat
  | [] => 0
  | d :: r => uptoBulk d + uptoBulkAll r
def uptoBulkEntries {H : Type} : List (Lit × DataW H) → Nat
  | [] => 0
  | x :: r => uptoBulkEntry x + uptoBulkEntries r
def uptoBulkEntry {H : Type} : Lit × DataW H → Nat
  | (.string bytes, d) => bytes.length + uptoBulk d + 1
  | (_, d) => uptoBulk d + 1
 end
def uptoSmall : (H : Type) → List (DataW H) → Bool := fun _ ds => decide (uptoBulkAll ds ≤ 1048576)
def OpenSpec.upto (s : _root_.Go.ChangeSpec) : _root_.Go.OpenSpec := { _root_.Go.OpenSpec.ofChange s with cond := some uptoSmall }

/-- 'dioramalaw24.ImageFrags', WHERE WHAT IT READS IS OF BULK AT MOST 1048576: true; the input reads as it did. -/
def imageFragsUptoRow : OpenClaim := { program := "ytchbpckkmgcgkaagreat", sum := "bb24889e96156e1134583877570fccab8124cbffc46e493ba14bd15b16e4c347", func := "diorama/dioramalaw24.ImageFrags", spec := "imageFrags", unfollowed := true, recurses := true, apart := false, narrowed := true }
def ImageFragsUptoSaid : Prop := imageFragsUptoRow.holds Tryz.pinned (OpenSpec.upto imageFragsSpec)

/-- 'dioramalaw24.ImageWhole', WHERE WHAT IT READS IS OF BULK AT MOST 1048576: true; the input reads as it did. -/
def imageWholeUptoRow : OpenClaim := { program := "ytchbpckkmgcgkaagreat", sum := "bb24889e96156e1134583877570fccab8124cbffc46e493ba14bd15b16e4c347", func := "diorama/dioramalaw24.ImageWhole", spec := "imageWhole", unfollowed := true, recurses := true, apart := false, narrowed := true }
def ImageWholeUptoSaid : Prop := imageWholeUptoRow.holds Tryz.pinned (OpenSpec.upto imageWholeSpec)

/-- 'dioramalaw28.BinsTell', WHERE WHAT IT READS IS OF BULK AT MOST 1048576: true; the input reads as it did. -/
def binsTellUptoRow : OpenClaim := { program := "ytchbpckkmgcgkaagreat", sum := "bb24889e96156e1134583877570fccab8124cbffc46e493ba14bd15b16e4c347", func := "diorama/dioramalaw28.BinsTell", spec := "binsTell", unfollowed := true, recurses := true, apart := false, narrowed := true }
def BinsTellUptoSaid : Prop := binsTellUptoRow.holds Tryz.pinned (OpenSpec.upto binsTellSpec)

/-- 'dioramalaw26.RasterDraws', WHERE WHAT IT READS IS OF BULK AT MOST 1048576: true; the input reads as it did. -/
def rasterDrawsUptoRow : OpenClaim := { program := "ytchbpckkmgcgkaagreat", sum := "bb24889e96156e1134583877570fccab8124cbffc46e493ba14bd15b16e4c347", func := "diorama/dioramalaw26.RasterDraws", spec := "rasterDraws", unfollowed := true, recurses := true, apart := false, narrowed := true }
def RasterDrawsUptoSaid : Prop := rasterDrawsUptoRow.holds Tryz.pinned (OpenSpec.upto rasterDrawsSpec)

/-- 'dioramalaw26.RasterImage', WHERE WHAT IT READS IS OF BULK AT MOST 1048576: true; the input reads as it did. -/
def rasterImageUptoRow : OpenClaim := { program := "ytchbpckkmgcgkaagreat", sum := "bb24889e96156e1134583877570fccab8124cbffc46e493ba14bd15b16e4c347", func := "diorama/dioramalaw26.RasterImage", spec := "rasterImage", unfollowed := true, recurses := true, apart := false, narrowed := true }
def RasterImageUptoSaid : Prop := rasterImageUptoRow.holds Tryz.pinned (OpenSpec.upto rasterImageSpec)

end Rows
end Go.Proofs.YtchbpckkmgcgkaaGreat
