/-
  What the contracts of the library say of the String of a strings.Builder and of strconv.Itoa in this program. No conditions.
-/
import Derived.Shelf.Strings.Builder1
import Derived.Shelf.Strconv.Itoa3
import Derived.Test.YtcfijkmjblcenaaGreatDoorProg
namespace Go.Proofs
open Go.Shelf
def Tryz.lays169_ren : Go.Shelf.Ren := ⟨fun | 169 => 161 | n => n, fun | 70 => 325 | 9 => 9 | 0 => 0 | 72 => 328 | 37 => 326 | 127 => 438 | 3 => 3 | 5 => 5 | n => n, fun | n => n⟩
theorem Tryz.lays169 : Go.Proofs.Lays.n169 Tryz.prog Tryz.lays169_ren := {
  mixed := by kernel_rfl
  f169 := Tryz.func161.trans (congrArg some (by kernel_rfl))
  t0 := Tryz.underlying0
  a0 := Tryz.isAgg0
  z0 := Tryz.sizeOf0
  v0 := Tryz.zeroValue0
  t3 := Tryz.underlying3
  a3 := Tryz.isAgg3
  z3 := Tryz.sizeOf3
  v3 := Tryz.zeroValue3
  t9 := Tryz.underlying9
  a9 := Tryz.isAgg9
  z9 := Tryz.sizeOf9
  v9 := Tryz.zeroValue9
  t37 := Tryz.underlying326
  a37 := Tryz.isAgg326
  z37 := Tryz.sizeOf326
  v37 := Tryz.zeroValue326
  t70 := Tryz.underlying325
  a70 := Tryz.isAgg325
  z70 := Tryz.sizeOf325
  v70 := Tryz.zeroValue325
  t72 := Tryz.underlying328
  a72 := Tryz.isAgg328
  z72 := Tryz.sizeOf328
  v72 := Tryz.zeroValue328
  t127 := Tryz.underlying438
  a127 := Tryz.isAgg438
  z127 := Tryz.sizeOf438
  v127 := Tryz.zeroValue438 }
theorem Tryz.Builder_Extra_169 : Builder.Extra Tryz.prog Tryz.lays169_ren := {
  sizeBuilder := by kernel_rfl
  liesBuilder := by kernel_rfl
  t5 := Tryz.underlying5
  a5 := Tryz.isAgg5
  z5 := Tryz.sizeOf5
  v5 := Tryz.zeroValue5
  infoByte := by kernel_rfl
  cellsByte := by kernel_rfl
  sizeByte := by kernel_rfl
  neB5 := by decide }
open Go.RowKit in
/-- (*strings.Builder).String: "String returns the accumulated string.": WHATEVER THE BUILDER HOLDS. (LAID: no walk: one application.) -/
theorem Tryz.Builder_String_any (B b : Nat) (l : List UInt8) (w : World) (h : Lib.IsBuilder 328 5 B b (Lib.byteCells l) w) (hBw : B ≤ w.heap.size) :
    Calls Tryz.prog 161 #[.pointer (some ⟨b, 0, none⟩)] w fun e w' => e = .returned (.string ⟨l.toArray⟩) ∧ Below B w w' := Any.Builder_String_any Tryz.lays169 Tryz.Builder_Extra_169 B b l w h hBw
def Tryz.lays171_ren : Go.Shelf.Ren := ⟨fun | 171 => 160 | 243 => 258 | 246 => 337 | 283 => 394 | 284 => 395 | 285 => 396 | 286 => 397 | 129 => 212 | 317 => 406 | 318 => 407 | 319 => 408 | 320 => 409 | 337 => 412 | 338 => 413 | n => n, fun | 3 => 3 | 9 => 9 | 2 => 2 | 4 => 4 | 171 => 586 | 0 => 0 | 53 => 364 | 37 => 326 | 5 => 5 | 173 => 588 | 212 => 597 | 51 => 361 | 20 => 20 | 213 => 598 | 46 => 271 | 232 => 600 | 233 => 601 | n => n, fun | 17 => 1 | 18 => 2 | 19 => 3 | n => n⟩
theorem Tryz.lays171 : Go.Proofs.Lays.n171 Tryz.prog Tryz.lays171_ren := {
  mixed := by kernel_rfl
  f129 := Tryz.func212.trans (congrArg some (by kernel_rfl))
  f171 := Tryz.func160.trans (congrArg some (by kernel_rfl))
  f243 := Tryz.func258.trans (congrArg some (by kernel_rfl))
  f246 := Tryz.func337.trans (congrArg some (by kernel_rfl))
  f283 := Tryz.func394.trans (congrArg some (by kernel_rfl))
  f284 := Tryz.func395.trans (congrArg some (by kernel_rfl))
  f285 := Tryz.func396.trans (congrArg some (by kernel_rfl))
  f286 := Tryz.func397.trans (congrArg some (by kernel_rfl))
  f317 := Tryz.func406.trans (congrArg some (by kernel_rfl))
  f318 := Tryz.func407.trans (congrArg some (by kernel_rfl))
  f319 := Tryz.func408.trans (congrArg some (by kernel_rfl))
  f320 := Tryz.func409.trans (congrArg some (by kernel_rfl))
  f337 := Tryz.func412.trans (congrArg some (by kernel_rfl))
  f338 := Tryz.func413.trans (congrArg some (by kernel_rfl))
  t0 := Tryz.underlying0
  a0 := Tryz.isAgg0
  z0 := Tryz.sizeOf0
  v0 := Tryz.zeroValue0
  t2 := Tryz.underlying2
  a2 := Tryz.isAgg2
  z2 := Tryz.sizeOf2
  v2 := Tryz.zeroValue2
  t3 := Tryz.underlying3
  a3 := Tryz.isAgg3
  z3 := Tryz.sizeOf3
  v3 := Tryz.zeroValue3
  t4 := Tryz.underlying4
  a4 := Tryz.isAgg4
  z4 := Tryz.sizeOf4
  v4 := Tryz.zeroValue4
  t5 := Tryz.underlying5
  a5 := Tryz.isAgg5
  z5 := Tryz.sizeOf5
  v5 := Tryz.zeroValue5
  t9 := Tryz.underlying9
  a9 := Tryz.isAgg9
  z9 := Tryz.sizeOf9
  v9 := Tryz.zeroValue9
  t20 := Tryz.underlying20
  a20 := Tryz.isAgg20
  z20 := Tryz.sizeOf20
  v20 := Tryz.zeroValue20
  t37 := Tryz.underlying326
  a37 := Tryz.isAgg326
  z37 := Tryz.sizeOf326
  v37 := Tryz.zeroValue326
  t46 := Tryz.underlying271
  a46 := Tryz.isAgg271
  z46 := Tryz.sizeOf271
  v46 := Tryz.zeroValue271
  t51 := Tryz.underlying361
  a51 := Tryz.isAgg361
  z51 := Tryz.sizeOf361
  v51 := Tryz.zeroValue361
  t53 := Tryz.underlying364
  a53 := Tryz.isAgg364
  z53 := Tryz.sizeOf364
  v53 := Tryz.zeroValue364
  t171 := Tryz.underlying586
  a171 := Tryz.isAgg586
  z171 := Tryz.sizeOf586
  v171 := Tryz.zeroValue586
  t173 := Tryz.underlying588
  a173 := Tryz.isAgg588
  z173 := Tryz.sizeOf588
  v173 := Tryz.zeroValue588
  t212 := Tryz.underlying597
  a212 := Tryz.isAgg597
  z212 := Tryz.sizeOf597
  v212 := Tryz.zeroValue597
  t213 := Tryz.underlying598
  a213 := Tryz.isAgg598
  z213 := Tryz.sizeOf598
  t232 := Tryz.underlying600
  a232 := Tryz.isAgg600
  z232 := Tryz.sizeOf600
  v232 := Tryz.zeroValue600
  t233 := Tryz.underlying601
  a233 := Tryz.isAgg601
  z233 := Tryz.sizeOf601
  v233 := Tryz.zeroValue601
  g17 := by kernel_rfl
  g18 := by kernel_rfl
  g19 := by kernel_rfl }
open Go.RowKit Go.Sort Go.Lib in
/-- THE ROAD WITHOUT THE TABLE: 0 <= i < 100: NO PREMISE ON THE WORLD, AND THE WORLD IS AS IT WAS: a row that keeps its argument in that range need list no table ('laid = []'). (LAID: no walk: one application.) -/
theorem Tryz.strconv_Itoa_small (i : Nat) (hi : i < 100) (w : World) :
    Calls Tryz.prog 160 #[.int .i64 i] w fun e w' => e = .returned (.string ⟨(Lib.decDigits i).toArray⟩) ∧ w' = w := Any.strconv_Itoa_small Tryz.lays171 i hi w
end Go.Proofs
