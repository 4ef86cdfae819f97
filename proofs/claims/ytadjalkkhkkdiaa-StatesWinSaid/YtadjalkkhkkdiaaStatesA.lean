/-
  Chapter 07: looks, styles, what is inherited, as plain data; one round of each of the program's loops over a style's things.
-/
import Derived.Test.YtadjalkkhkkdiaaProg
import Derived.Test.YtadjalkkhkkdiaaKLaw
import Derived.KernelRfl
namespace Go.Proofs.Ytadjalkkhkkdiaa.st
open Go.K

/-! ## Data -/
structure Look where
  (c0 c1 c2 c3 tex cull bias : Int) (blend : Bool) (bin : Int)
structure Style where
  (s0 s1 s2 s3 s4 : Int) (look : Look)
structure Inherit where
  (look : Look) (k0 k1 k2 k3 k4 : Bool)
def cLook (l : Look) : List KV := [.int .u8 l.c0, .int .u8 l.c1, .int .u8 l.c2, .int .u8 l.c3, .int .i64 l.tex, .int .u8 l.cull, .int .i64 l.bias, .bool l.blend, .int .i64 l.bin]
def cStyle (s : Style) : List KV := [.int .u8 s.s0, .int .u8 s.s1, .int .u8 s.s2, .int .u8 s.s3, .int .u8 s.s4, .int .u8 s.look.c0, .int .u8 s.look.c1, .int .u8 s.look.c2, .int .u8 s.look.c3, .int .i64 s.look.tex, .int .u8 s.look.cull, .int .i64 s.look.bias, .bool s.look.blend, .int .i64 s.look.bin]
def cInherit (i : Inherit) : List KV := [.int .u8 i.look.c0, .int .u8 i.look.c1, .int .u8 i.look.c2, .int .u8 i.look.c3, .int .i64 i.look.tex, .int .u8 i.look.cull, .int .i64 i.look.bias, .bool i.look.blend, .int .i64 i.look.bin, .bool i.k0, .bool i.k1, .bool i.k2, .bool i.k3, .bool i.k4]
def gI (cs : List KV) (k : Nat) : Int := intOf (cs.getD k .unk)
def gB (cs : List KV) (k : Nat) : Bool := boolOf (cs.getD k .unk)
def lookOf (cs : List KV) : Look := ⟨gI cs 0, gI cs 1, gI cs 2, gI cs 3, gI cs 4, gI cs 5, gI cs 6, gB cs 7, gI cs 8⟩
def styleOf (cs : List KV) : Style := ⟨gI cs 0, gI cs 1, gI cs 2, gI cs 3, gI cs 4, ⟨gI cs 5, gI cs 6, gI cs 7, gI cs 8, gI cs 9, gI cs 10, gI cs 11, gB cs 12, gI cs 13⟩⟩
def inheritOf (cs : List KV) : Inherit := ⟨⟨gI cs 0, gI cs 1, gI cs 2, gI cs 3, gI cs 4, gI cs 5, gI cs 6, gB cs 7, gI cs 8⟩, gB cs 9, gB cs 10, gB cs 11, gB cs 12, gB cs 13⟩
def kLook : List CK := [.int .u8, .int .u8, .int .u8, .int .u8, .int .i64, .int .u8, .int .i64, .bool, .int .i64]
def kStyle : List CK := [.int .u8, .int .u8, .int .u8, .int .u8, .int .u8, .int .u8, .int .u8, .int .u8, .int .u8, .int .i64, .int .u8, .int .i64, .bool, .int .i64]
def kInherit : List CK := [.int .u8, .int .u8, .int .u8, .int .u8, .int .i64, .int .u8, .int .i64, .bool, .int .i64, .bool, .bool, .bool, .bool, .bool]
theorem of_kinds {ks : List CK} {cs : List KV} (h : kindsOk ks cs = true) : leaves (.agg cs) ks 0 = cs := by
  rw [leaves_eq (e := .agg cs) (ks := ks) h (fun m c e => by rw [Nat.zero_add]; exact e)]
  show (cs.drop 0).take ks.length = cs
  rw [List.drop_zero, ← kindsOk_size h, List.take_length]
theorem look_of {cs : List KV} (h : kindsOk kLook cs = true) : cLook (lookOf cs) = cs := of_kinds h
theorem style_of {cs : List KV} (h : kindsOk kStyle cs = true) : cStyle (styleOf cs) = cs := of_kinds h
theorem inherit_of {cs : List KV} (h : kindsOk kInherit cs = true) : cInherit (inheritOf cs) = cs := of_kinds h
def ckK (l : List CK) : List CD := l.map .k
theorem ckK_good : ∀ {ks : List CK} {cs : List KV}, goodCDs (ckK ks) cs = true → kindsOk ks cs = true
  | [], [], _ => rfl
  | [], _ :: _, h => by simp [ckK, goodCDs] at h
  | _ :: _, [], h => by simp [ckK, goodCDs] at h
  | k :: ks, v :: vs, h => by
    simp only [ckK, List.map_cons, goodCDs, Bool.and_eq_true] at h
    simp only [kindsOk, Bool.and_eq_true]
    exact ⟨h.1, ckK_good h.2⟩
def dI64 : VD := ⟨false, [.k (.int .i64)]⟩
def dBool : VD := ⟨false, [.k .bool]⟩
def fnV (n : Nat) : KV := .fn (.func n) [] []
def vCopies : KV := .agg [fnV 29, fnV 30, fnV 31, fnV 32, fnV 33]
def dCopies : VD := ⟨true, [.lit (fnV 29), .lit (fnV 30), .lit (fnV 31), .lit (fnV 32), .lit (fnV 33)]⟩
theorem lits_good : ∀ {ws cs : List KV}, goodCDs (ws.map .lit) cs = true → cs = ws
  | [], [], _ => rfl
  | [], _ :: _, h => by simp [goodCDs] at h
  | _ :: _, [], h => by simp [goodCDs] at h
  | w :: ws, v :: vs, h => by
    simp only [List.map_cons, goodCDs, Bool.and_eq_true] at h
    rw [litOk_eq (w := w) h.1, lits_good h.2]
theorem copies_good {v : KV} (h : goodVD dCopies v = true) : v = vCopies := by
  unfold goodVD at h
  split at h
  · rename_i cs
    have h : goodCDs ([fnV 29, fnV 30, fnV 31, fnV 32, fnV 33].map .lit) cs = true := by simpa [dCopies] using h
    rw [lits_good h]; rfl
  · simp [dCopies] at h
theorem i64_good {v : KV} (h : goodVD dI64 v = true) : v = .int .i64 (intOf v) := by
  unfold goodVD at h
  split at h
  · simp [dI64] at h
  · have h : Go.K.kindOk (.int .i64) v = true := by simpa [dI64, goodCDs, goodCD] using h
    exact (kindOk_leaf h).symm
theorem bool_good {v : KV} (h : goodVD dBool v = true) : v = .bool (boolOf v) := by
  unfold goodVD at h
  split at h
  · simp [dBool] at h
  · have h : Go.K.kindOk .bool v = true := by simpa [dBool, goodCDs, goodCD] using h
    exact (kindOk_leaf h).symm
def S10 : LSpec := ⟨[(2, dI64), (7, dI64), (6, dCopies)], [(1, ckK kStyle, 1), (3, ckK kLook, 1)], [(1, 0, 0), (3, 1, 0)]⟩
def S23 : LSpec := ⟨[(14, dI64), (13, dCopies)], [(2, ckK kInherit, 1), (3, ckK kStyle, 1), (4, ckK kInherit, 1)], [(2, 0, 0), (3, 1, 0), (4, 2, 0)]⟩
def S25 : LSpec := ⟨[(2, dBool), (3, dI64)], [(1, ckK kStyle, 1)], [(1, 0, 0)]⟩
def S26 : LSpec := ⟨[(5, dI64)], [(2, ckK kInherit, 1), (3, ckK kStyle, 1), (4, ckK kInherit, 1)], [(2, 0, 0), (3, 1, 0), (4, 2, 0)]⟩


/-! ## Forcing: the parts of a value, as they stand in it -/
def fI {α : Type} (v : KV) (k : Int → α) (d : α) : α :=
  match v with
  | .int _ n => k n
  | _ => d
def fB {α : Type} (v : KV) (k : Bool → α) (d : α) : α :=
  match v with
  | .bool b => k b
  | _ => d
def withLook {α : Type} (cs : List KV) (k : Look → α) (d : α) : α := fI (cs.getD 0 .unk) (fun x0 => fI (cs.getD 1 .unk) (fun x1 => fI (cs.getD 2 .unk) (fun x2 => fI (cs.getD 3 .unk) (fun x3 => fI (cs.getD 4 .unk) (fun x4 => fI (cs.getD 5 .unk) (fun x5 => fI (cs.getD 6 .unk) (fun x6 => fB (cs.getD 7 .unk) (fun x7 => fI (cs.getD 8 .unk) (fun x8 => k ⟨x0, x1, x2, x3, x4, x5, x6, x7, x8⟩) d) d) d) d) d) d) d) d) d
def withStyle {α : Type} (cs : List KV) (k : Style → α) (d : α) : α := fI (cs.getD 0 .unk) (fun x0 => fI (cs.getD 1 .unk) (fun x1 => fI (cs.getD 2 .unk) (fun x2 => fI (cs.getD 3 .unk) (fun x3 => fI (cs.getD 4 .unk) (fun x4 => fI (cs.getD 5 .unk) (fun x5 => fI (cs.getD 6 .unk) (fun x6 => fI (cs.getD 7 .unk) (fun x7 => fI (cs.getD 8 .unk) (fun x8 => fI (cs.getD 9 .unk) (fun x9 => fI (cs.getD 10 .unk) (fun x10 => fI (cs.getD 11 .unk) (fun x11 => fB (cs.getD 12 .unk) (fun x12 => fI (cs.getD 13 .unk) (fun x13 => k ⟨x0, x1, x2, x3, x4, ⟨x5, x6, x7, x8, x9, x10, x11, x12, x13⟩⟩) d) d) d) d) d) d) d) d) d) d) d) d) d) d
def withInherit {α : Type} (cs : List KV) (k : Inherit → α) (d : α) : α := fI (cs.getD 0 .unk) (fun x0 => fI (cs.getD 1 .unk) (fun x1 => fI (cs.getD 2 .unk) (fun x2 => fI (cs.getD 3 .unk) (fun x3 => fI (cs.getD 4 .unk) (fun x4 => fI (cs.getD 5 .unk) (fun x5 => fI (cs.getD 6 .unk) (fun x6 => fB (cs.getD 7 .unk) (fun x7 => fI (cs.getD 8 .unk) (fun x8 => fB (cs.getD 9 .unk) (fun x9 => fB (cs.getD 10 .unk) (fun x10 => fB (cs.getD 11 .unk) (fun x11 => fB (cs.getD 12 .unk) (fun x12 => fB (cs.getD 13 .unk) (fun x13 => k ⟨⟨x0, x1, x2, x3, x4, x5, x6, x7, x8⟩, x9, x10, x11, x12, x13⟩) d) d) d) d) d) d) d) d) d) d) d) d) d) d

/-! ## What one thing of a style does -/
def okSay (x : Int) : Bool := x == 0 || (x == 1 || (x == 3 || (x == 5 || x == 7)))
def badSay (x : Int) : Bool := cond (decide (x > 7)) true (cond (x.tmod 2 == 0) (decide (x > 0)) false)
def bit (m x : Int) : Int := IntKind.u8.wrap ((BitVec.ofInt 8 x &&& BitVec.ofInt 8 m).toNat : Nat)
/-- is a thing left as it is? -/
def left (x : Int) (kept : Bool) : Bool := cond (x == 0) true (cond kept (bit 4 x == 0) false)
def leftR (x : Int) (kept : Bool) : Bool := cond (x == 0) true (cond kept (!decide (x ≥ 4)) false)
def over (x : Int) : Bool := bit 2 x != 0
def overR (x : Int) : Bool := cond (x == 3) true (x == 7)

def take0 (l f : Look) : Look := { l with c0 := f.c0, c1 := f.c1, c2 := f.c2, c3 := f.c3 }
def take1 (l f : Look) : Look := { l with tex := f.tex }
def take2 (l f : Look) : Look := { l with cull := f.cull }
def take3 (l f : Look) : Look := { l with bias := f.bias }
def take4 (l f : Look) : Look := { l with blend := f.blend, bin := f.bin }
def said0 (s : Style) (l : Look) : Look := cond (s.s0 == 0) l (take0 l s.look)
def said1 (s : Style) (l : Look) : Look := cond (s.s1 == 0) l (take1 l s.look)
def said2 (s : Style) (l : Look) : Look := cond (s.s2 == 0) l (take2 l s.look)
def said3 (s : Style) (l : Look) : Look := cond (s.s3 == 0) l (take3 l s.look)
def said4 (s : Style) (l : Look) : Look := cond (s.s4 == 0) l (take4 l s.look)
def under0 (s : Style) (i : Inherit) : Inherit := cond (left s.s0 i.k0) i { i with look := take0 i.look s.look, k0 := over s.s0 }
def under1 (s : Style) (i : Inherit) : Inherit := cond (left s.s1 i.k1) i { i with look := take1 i.look s.look, k1 := over s.s1 }
def under2 (s : Style) (i : Inherit) : Inherit := cond (left s.s2 i.k2) i { i with look := take2 i.look s.look, k2 := over s.s2 }
def under3 (s : Style) (i : Inherit) : Inherit := cond (left s.s3 i.k3) i { i with look := take3 i.look s.look, k3 := over s.s3 }
def under4 (s : Style) (i : Inherit) : Inherit := cond (left s.s4 i.k4) i { i with look := take4 i.look s.look, k4 := over s.s4 }
def made0 (s : Style) (i : Inherit) : Inherit := cond (leftR s.s0 i.k0) i { i with look := take0 i.look s.look, k0 := overR s.s0 }
def made1 (s : Style) (i : Inherit) : Inherit := cond (leftR s.s1 i.k1) i { i with look := take1 i.look s.look, k1 := overR s.s1 }
def made2 (s : Style) (i : Inherit) : Inherit := cond (leftR s.s2 i.k2) i { i with look := take2 i.look s.look, k2 := overR s.s2 }
def made3 (s : Style) (i : Inherit) : Inherit := cond (leftR s.s3 i.k3) i { i with look := take3 i.look s.look, k3 := overR s.s3 }
def made4 (s : Style) (i : Inherit) : Inherit := cond (leftR s.s4 i.k4) i { i with look := take4 i.look s.look, k4 := overR s.s4 }

noncomputable section
/-! ## The rounds -/
def rd10 : List KV → List (List KV) → Option (Abs.AExit × List KV × List (List KV)) := roundK Try.prog Cfg.none 9 9 10 58 (bodyOf Try.prog 10 58) S10
def rd23 : List KV → List (List KV) → Option (Abs.AExit × List KV × List (List KV)) := roundK Try.prog Cfg.none 9 9 23 58 (bodyOf Try.prog 23 58) S23
def rd25 : List KV → List (List KV) → Option (Abs.AExit × List KV × List (List KV)) := roundK Try.prog Cfg.none 9 9 25 26 (bodyOf Try.prog 25 26) S25
def rd26 : List KV → List (List KV) → Option (Abs.AExit × List KV × List (List KV)) := roundK Try.prog Cfg.none 9 9 26 26 (bodyOf Try.prog 26 26) S26
def n10 (k : Int) (s : Style) (l : Look) : Option (Abs.AExit × List KV × List (List KV)) := some (.normal, [.int .i64 0, .int .i64 k, vCopies], [cStyle s, cLook l])
def b10 (k : Int) (s : Style) (l : Look) : Option (Abs.AExit × List KV × List (List KV)) := some (.ret, [.int .i64 8, .int .i64 k, vCopies], [cStyle s, cLook l])
def n23 (k : Int) (s : Style) (z i : Inherit) : Option (Abs.AExit × List KV × List (List KV)) := some (.normal, [.int .i64 k, vCopies], [cInherit i, cStyle s, cInherit z])
def n25 (k : Int) (s : Style) : Option (Abs.AExit × List KV × List (List KV)) := some (.normal, [.bool false, .int .i64 k], [cStyle s])
def b25 (k : Int) (s : Style) : Option (Abs.AExit × List KV × List (List KV)) := some (.ret, [.bool false, .int .i64 k], [cStyle s])
def n26 (k : Int) (s : Style) (z i : Inherit) : Option (Abs.AExit × List KV × List (List KV)) := some (.normal, [.int .i64 k], [cInherit i, cStyle s, cInherit z])

theorem tree10_0 (s : Style) (l : Look) : rd10 [.int .i64 0, .int .i64 0, vCopies] [cStyle s, cLook l] = cond (s.s0 == 0) (n10 1 s l) (cond (s.s0 == 1) (n10 1 s (take0 l s.look)) (cond (s.s0 == 3) (n10 1 s (take0 l s.look)) (cond (s.s0 == 5) (n10 1 s (take0 l s.look)) (cond (s.s0 == 7) (n10 1 s (take0 l s.look)) (b10 0 s l))))) := by kernel_rfl
theorem round10_0 (s : Style) (l : Look) : rd10 [.int .i64 0, .int .i64 0, vCopies] [cStyle s, cLook l] = cond (okSay s.s0) (n10 1 s (said0 s l)) (b10 0 s l) := by
  rw [tree10_0, okSay, said0]
  cases s.s0 == 0 <;> cases s.s0 == 1 <;> cases s.s0 == 3 <;> cases s.s0 == 5 <;> cases s.s0 == 7 <;> rfl
theorem tree10_1 (s : Style) (l : Look) : rd10 [.int .i64 0, .int .i64 1, vCopies] [cStyle s, cLook l] = cond (s.s1 == 0) (n10 2 s l) (cond (s.s1 == 1) (n10 2 s (take1 l s.look)) (cond (s.s1 == 3) (n10 2 s (take1 l s.look)) (cond (s.s1 == 5) (n10 2 s (take1 l s.look)) (cond (s.s1 == 7) (n10 2 s (take1 l s.look)) (b10 1 s l))))) := by kernel_rfl
theorem round10_1 (s : Style) (l : Look) : rd10 [.int .i64 0, .int .i64 1, vCopies] [cStyle s, cLook l] = cond (okSay s.s1) (n10 2 s (said1 s l)) (b10 1 s l) := by
  rw [tree10_1, okSay, said1]
  cases s.s1 == 0 <;> cases s.s1 == 1 <;> cases s.s1 == 3 <;> cases s.s1 == 5 <;> cases s.s1 == 7 <;> rfl
theorem tree10_2 (s : Style) (l : Look) : rd10 [.int .i64 0, .int .i64 2, vCopies] [cStyle s, cLook l] = cond (s.s2 == 0) (n10 3 s l) (cond (s.s2 == 1) (n10 3 s (take2 l s.look)) (cond (s.s2 == 3) (n10 3 s (take2 l s.look)) (cond (s.s2 == 5) (n10 3 s (take2 l s.look)) (cond (s.s2 == 7) (n10 3 s (take2 l s.look)) (b10 2 s l))))) := by kernel_rfl
theorem round10_2 (s : Style) (l : Look) : rd10 [.int .i64 0, .int .i64 2, vCopies] [cStyle s, cLook l] = cond (okSay s.s2) (n10 3 s (said2 s l)) (b10 2 s l) := by
  rw [tree10_2, okSay, said2]
  cases s.s2 == 0 <;> cases s.s2 == 1 <;> cases s.s2 == 3 <;> cases s.s2 == 5 <;> cases s.s2 == 7 <;> rfl
theorem tree10_3 (s : Style) (l : Look) : rd10 [.int .i64 0, .int .i64 3, vCopies] [cStyle s, cLook l] = cond (s.s3 == 0) (n10 4 s l) (cond (s.s3 == 1) (n10 4 s (take3 l s.look)) (cond (s.s3 == 3) (n10 4 s (take3 l s.look)) (cond (s.s3 == 5) (n10 4 s (take3 l s.look)) (cond (s.s3 == 7) (n10 4 s (take3 l s.look)) (b10 3 s l))))) := by kernel_rfl
theorem round10_3 (s : Style) (l : Look) : rd10 [.int .i64 0, .int .i64 3, vCopies] [cStyle s, cLook l] = cond (okSay s.s3) (n10 4 s (said3 s l)) (b10 3 s l) := by
  rw [tree10_3, okSay, said3]
  cases s.s3 == 0 <;> cases s.s3 == 1 <;> cases s.s3 == 3 <;> cases s.s3 == 5 <;> cases s.s3 == 7 <;> rfl
theorem tree10_4 (s : Style) (l : Look) : rd10 [.int .i64 0, .int .i64 4, vCopies] [cStyle s, cLook l] = cond (s.s4 == 0) (n10 5 s l) (cond (s.s4 == 1) (n10 5 s (take4 l s.look)) (cond (s.s4 == 3) (n10 5 s (take4 l s.look)) (cond (s.s4 == 5) (n10 5 s (take4 l s.look)) (cond (s.s4 == 7) (n10 5 s (take4 l s.look)) (b10 4 s l))))) := by kernel_rfl
theorem round10_4 (s : Style) (l : Look) : rd10 [.int .i64 0, .int .i64 4, vCopies] [cStyle s, cLook l] = cond (okSay s.s4) (n10 5 s (said4 s l)) (b10 4 s l) := by
  rw [tree10_4, okSay, said4]
  cases s.s4 == 0 <;> cases s.s4 == 1 <;> cases s.s4 == 3 <;> cases s.s4 == 5 <;> cases s.s4 == 7 <;> rfl
theorem round10_5 (s : Style) (l : Look) : rd10 [.int .i64 0, .int .i64 5, vCopies] [cStyle s, cLook l] = some (.exit 0, [.int .i64 0, .int .i64 5, vCopies], [cStyle s, cLook l]) := by kernel_rfl
theorem tree23_0 (s : Style) (z i : Inherit) : rd23 [.int .i64 0, vCopies] [cInherit i, cStyle s, cInherit z] = cond (s.s0 == 0) (n23 1 s z i) (cond i.k0 (cond (bit 4 s.s0 == 0) (n23 1 s z i) (n23 1 s z { i with look := take0 i.look s.look, k0 := over s.s0 })) (n23 1 s z { i with look := take0 i.look s.look, k0 := over s.s0 })) := by kernel_rfl
theorem round23_0 (s : Style) (z i : Inherit) : rd23 [.int .i64 0, vCopies] [cInherit i, cStyle s, cInherit z] = n23 1 s z (under0 s i) := by
  rw [tree23_0, under0, left]
  cases s.s0 == 0 <;> cases i.k0 <;> cases bit 4 s.s0 == 0 <;> rfl
theorem tree23_1 (s : Style) (z i : Inherit) : rd23 [.int .i64 1, vCopies] [cInherit i, cStyle s, cInherit z] = cond (s.s1 == 0) (n23 2 s z i) (cond i.k1 (cond (bit 4 s.s1 == 0) (n23 2 s z i) (n23 2 s z { i with look := take1 i.look s.look, k1 := over s.s1 })) (n23 2 s z { i with look := take1 i.look s.look, k1 := over s.s1 })) := by kernel_rfl
theorem round23_1 (s : Style) (z i : Inherit) : rd23 [.int .i64 1, vCopies] [cInherit i, cStyle s, cInherit z] = n23 2 s z (under1 s i) := by
  rw [tree23_1, under1, left]
  cases s.s1 == 0 <;> cases i.k1 <;> cases bit 4 s.s1 == 0 <;> rfl
theorem tree23_2 (s : Style) (z i : Inherit) : rd23 [.int .i64 2, vCopies] [cInherit i, cStyle s, cInherit z] = cond (s.s2 == 0) (n23 3 s z i) (cond i.k2 (cond (bit 4 s.s2 == 0) (n23 3 s z i) (n23 3 s z { i with look := take2 i.look s.look, k2 := over s.s2 })) (n23 3 s z { i with look := take2 i.look s.look, k2 := over s.s2 })) := by kernel_rfl
theorem round23_2 (s : Style) (z i : Inherit) : rd23 [.int .i64 2, vCopies] [cInherit i, cStyle s, cInherit z] = n23 3 s z (under2 s i) := by
  rw [tree23_2, under2, left]
  cases s.s2 == 0 <;> cases i.k2 <;> cases bit 4 s.s2 == 0 <;> rfl
theorem tree23_3 (s : Style) (z i : Inherit) : rd23 [.int .i64 3, vCopies] [cInherit i, cStyle s, cInherit z] = cond (s.s3 == 0) (n23 4 s z i) (cond i.k3 (cond (bit 4 s.s3 == 0) (n23 4 s z i) (n23 4 s z { i with look := take3 i.look s.look, k3 := over s.s3 })) (n23 4 s z { i with look := take3 i.look s.look, k3 := over s.s3 })) := by kernel_rfl
theorem round23_3 (s : Style) (z i : Inherit) : rd23 [.int .i64 3, vCopies] [cInherit i, cStyle s, cInherit z] = n23 4 s z (under3 s i) := by
  rw [tree23_3, under3, left]
  cases s.s3 == 0 <;> cases i.k3 <;> cases bit 4 s.s3 == 0 <;> rfl
theorem tree23_4 (s : Style) (z i : Inherit) : rd23 [.int .i64 4, vCopies] [cInherit i, cStyle s, cInherit z] = cond (s.s4 == 0) (n23 5 s z i) (cond i.k4 (cond (bit 4 s.s4 == 0) (n23 5 s z i) (n23 5 s z { i with look := take4 i.look s.look, k4 := over s.s4 })) (n23 5 s z { i with look := take4 i.look s.look, k4 := over s.s4 })) := by kernel_rfl
theorem round23_4 (s : Style) (z i : Inherit) : rd23 [.int .i64 4, vCopies] [cInherit i, cStyle s, cInherit z] = n23 5 s z (under4 s i) := by
  rw [tree23_4, under4, left]
  cases s.s4 == 0 <;> cases i.k4 <;> cases bit 4 s.s4 == 0 <;> rfl
theorem round23_5 (s : Style) (z i : Inherit) : rd23 [.int .i64 5, vCopies] [cInherit i, cStyle s, cInherit z] = some (.exit 0, [.int .i64 5, vCopies], [cInherit i, cStyle s, cInherit z]) := by kernel_rfl
theorem tree25_0 (s : Style) : rd25 [.bool false, .int .i64 0] [cStyle s] = cond (decide (s.s0 > 7)) (b25 0 s) (cond (s.s0.tmod 2 == 0) (cond (decide (s.s0 > 0)) (b25 0 s) (n25 1 s)) (n25 1 s)) := by kernel_rfl
theorem round25_0 (s : Style) : rd25 [.bool false, .int .i64 0] [cStyle s] = cond (badSay s.s0) (b25 0 s) (n25 1 s) := by
  rw [tree25_0, badSay]
  cases decide (s.s0 > 7) <;> cases s.s0.tmod 2 == 0 <;> cases decide (s.s0 > 0) <;> rfl
theorem tree25_1 (s : Style) : rd25 [.bool false, .int .i64 1] [cStyle s] = cond (decide (s.s1 > 7)) (b25 1 s) (cond (s.s1.tmod 2 == 0) (cond (decide (s.s1 > 0)) (b25 1 s) (n25 2 s)) (n25 2 s)) := by kernel_rfl
theorem round25_1 (s : Style) : rd25 [.bool false, .int .i64 1] [cStyle s] = cond (badSay s.s1) (b25 1 s) (n25 2 s) := by
  rw [tree25_1, badSay]
  cases decide (s.s1 > 7) <;> cases s.s1.tmod 2 == 0 <;> cases decide (s.s1 > 0) <;> rfl
theorem tree25_2 (s : Style) : rd25 [.bool false, .int .i64 2] [cStyle s] = cond (decide (s.s2 > 7)) (b25 2 s) (cond (s.s2.tmod 2 == 0) (cond (decide (s.s2 > 0)) (b25 2 s) (n25 3 s)) (n25 3 s)) := by kernel_rfl
theorem round25_2 (s : Style) : rd25 [.bool false, .int .i64 2] [cStyle s] = cond (badSay s.s2) (b25 2 s) (n25 3 s) := by
  rw [tree25_2, badSay]
  cases decide (s.s2 > 7) <;> cases s.s2.tmod 2 == 0 <;> cases decide (s.s2 > 0) <;> rfl
theorem tree25_3 (s : Style) : rd25 [.bool false, .int .i64 3] [cStyle s] = cond (decide (s.s3 > 7)) (b25 3 s) (cond (s.s3.tmod 2 == 0) (cond (decide (s.s3 > 0)) (b25 3 s) (n25 4 s)) (n25 4 s)) := by kernel_rfl
theorem round25_3 (s : Style) : rd25 [.bool false, .int .i64 3] [cStyle s] = cond (badSay s.s3) (b25 3 s) (n25 4 s) := by
  rw [tree25_3, badSay]
  cases decide (s.s3 > 7) <;> cases s.s3.tmod 2 == 0 <;> cases decide (s.s3 > 0) <;> rfl
theorem tree25_4 (s : Style) : rd25 [.bool false, .int .i64 4] [cStyle s] = cond (decide (s.s4 > 7)) (b25 4 s) (cond (s.s4.tmod 2 == 0) (cond (decide (s.s4 > 0)) (b25 4 s) (n25 5 s)) (n25 5 s)) := by kernel_rfl
theorem round25_4 (s : Style) : rd25 [.bool false, .int .i64 4] [cStyle s] = cond (badSay s.s4) (b25 4 s) (n25 5 s) := by
  rw [tree25_4, badSay]
  cases decide (s.s4 > 7) <;> cases s.s4.tmod 2 == 0 <;> cases decide (s.s4 > 0) <;> rfl
theorem round25_5 (s : Style) : rd25 [.bool false, .int .i64 5] [cStyle s] = some (.exit 0, [.bool false, .int .i64 5], [cStyle s]) := by kernel_rfl
theorem tree26_0 (s : Style) (z i : Inherit) : rd26 [.int .i64 0] [cInherit i, cStyle s, cInherit z] = cond (s.s0 == 3) (cond (s.s0 == 0) (n26 1 s z i) (cond i.k0 (cond (!decide (s.s0 ≥ 4)) (n26 1 s z i) (n26 1 s z { i with look := take0 i.look s.look, k0 := true })) (n26 1 s z { i with look := take0 i.look s.look, k0 := true }))) (cond (s.s0 == 0) (n26 1 s z i) (cond i.k0 (cond (!decide (s.s0 ≥ 4)) (n26 1 s z i) (n26 1 s z { i with look := take0 i.look s.look, k0 := (s.s0 == 7) })) (n26 1 s z { i with look := take0 i.look s.look, k0 := (s.s0 == 7) }))) := by kernel_rfl
theorem round26_0 (s : Style) (z i : Inherit) : rd26 [.int .i64 0] [cInherit i, cStyle s, cInherit z] = n26 1 s z (made0 s i) := by
  rw [tree26_0, made0, leftR, overR]
  cases s.s0 == 0 <;> cases i.k0 <;> cases decide (s.s0 ≥ 4) <;> cases s.s0 == 3 <;> rfl
theorem tree26_1 (s : Style) (z i : Inherit) : rd26 [.int .i64 1] [cInherit i, cStyle s, cInherit z] = cond (s.s1 == 3) (cond (s.s1 == 0) (n26 2 s z i) (cond i.k1 (cond (!decide (s.s1 ≥ 4)) (n26 2 s z i) (n26 2 s z { i with look := take1 i.look s.look, k1 := true })) (n26 2 s z { i with look := take1 i.look s.look, k1 := true }))) (cond (s.s1 == 0) (n26 2 s z i) (cond i.k1 (cond (!decide (s.s1 ≥ 4)) (n26 2 s z i) (n26 2 s z { i with look := take1 i.look s.look, k1 := (s.s1 == 7) })) (n26 2 s z { i with look := take1 i.look s.look, k1 := (s.s1 == 7) }))) := by kernel_rfl
theorem round26_1 (s : Style) (z i : Inherit) : rd26 [.int .i64 1] [cInherit i, cStyle s, cInherit z] = n26 2 s z (made1 s i) := by
  rw [tree26_1, made1, leftR, overR]
  cases s.s1 == 0 <;> cases i.k1 <;> cases decide (s.s1 ≥ 4) <;> cases s.s1 == 3 <;> rfl
theorem tree26_2 (s : Style) (z i : Inherit) : rd26 [.int .i64 2] [cInherit i, cStyle s, cInherit z] = cond (s.s2 == 3) (cond (s.s2 == 0) (n26 3 s z i) (cond i.k2 (cond (!decide (s.s2 ≥ 4)) (n26 3 s z i) (n26 3 s z { i with look := take2 i.look s.look, k2 := true })) (n26 3 s z { i with look := take2 i.look s.look, k2 := true }))) (cond (s.s2 == 0) (n26 3 s z i) (cond i.k2 (cond (!decide (s.s2 ≥ 4)) (n26 3 s z i) (n26 3 s z { i with look := take2 i.look s.look, k2 := (s.s2 == 7) })) (n26 3 s z { i with look := take2 i.look s.look, k2 := (s.s2 == 7) }))) := by kernel_rfl
theorem round26_2 (s : Style) (z i : Inherit) : rd26 [.int .i64 2] [cInherit i, cStyle s, cInherit z] = n26 3 s z (made2 s i) := by
  rw [tree26_2, made2, leftR, overR]
  cases s.s2 == 0 <;> cases i.k2 <;> cases decide (s.s2 ≥ 4) <;> cases s.s2 == 3 <;> rfl
theorem tree26_3 (s : Style) (z i : Inherit) : rd26 [.int .i64 3] [cInherit i, cStyle s, cInherit z] = cond (s.s3 == 3) (cond (s.s3 == 0) (n26 4 s z i) (cond i.k3 (cond (!decide (s.s3 ≥ 4)) (n26 4 s z i) (n26 4 s z { i with look := take3 i.look s.look, k3 := true })) (n26 4 s z { i with look := take3 i.look s.look, k3 := true }))) (cond (s.s3 == 0) (n26 4 s z i) (cond i.k3 (cond (!decide (s.s3 ≥ 4)) (n26 4 s z i) (n26 4 s z { i with look := take3 i.look s.look, k3 := (s.s3 == 7) })) (n26 4 s z { i with look := take3 i.look s.look, k3 := (s.s3 == 7) }))) := by kernel_rfl
theorem round26_3 (s : Style) (z i : Inherit) : rd26 [.int .i64 3] [cInherit i, cStyle s, cInherit z] = n26 4 s z (made3 s i) := by
  rw [tree26_3, made3, leftR, overR]
  cases s.s3 == 0 <;> cases i.k3 <;> cases decide (s.s3 ≥ 4) <;> cases s.s3 == 3 <;> rfl
theorem tree26_4 (s : Style) (z i : Inherit) : rd26 [.int .i64 4] [cInherit i, cStyle s, cInherit z] = cond (s.s4 == 3) (cond (s.s4 == 0) (n26 5 s z i) (cond i.k4 (cond (!decide (s.s4 ≥ 4)) (n26 5 s z i) (n26 5 s z { i with look := take4 i.look s.look, k4 := true })) (n26 5 s z { i with look := take4 i.look s.look, k4 := true }))) (cond (s.s4 == 0) (n26 5 s z i) (cond i.k4 (cond (!decide (s.s4 ≥ 4)) (n26 5 s z i) (n26 5 s z { i with look := take4 i.look s.look, k4 := (s.s4 == 7) })) (n26 5 s z { i with look := take4 i.look s.look, k4 := (s.s4 == 7) }))) := by kernel_rfl
theorem round26_4 (s : Style) (z i : Inherit) : rd26 [.int .i64 4] [cInherit i, cStyle s, cInherit z] = n26 5 s z (made4 s i) := by
  rw [tree26_4, made4, leftR, overR]
  cases s.s4 == 0 <;> cases i.k4 <;> cases decide (s.s4 ≥ 4) <;> cases s.s4 == 3 <;> rfl
theorem round26_5 (s : Style) (z i : Inherit) : rd26 [.int .i64 5] [cInherit i, cStyle s, cInherit z] = some (.exit 0, [.int .i64 5], [cInherit i, cStyle s, cInherit z]) := by kernel_rfl
end
end Go.Proofs.Ytadjalkkhkkdiaa.st
