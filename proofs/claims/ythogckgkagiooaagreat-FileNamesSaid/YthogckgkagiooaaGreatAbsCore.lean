/-
  The abstract machine: a deterministic evaluator of Go code over an abstract store (own definitions; nothing of the program).
-/
import Derived.WalkKit
namespace Go.Abs

/-! ## A map from numbers -/
inductive Trie (α : Type) where
  | leaf : Trie α
  | node : Option α → Trie α → Trie α → Trie α

def Trie.get {α : Type} : Trie α → Nat → Option α
  | .leaf, _ => none
  | .node v l r, n =>
    match n with
    | 0 => v
    | m + 1 => cond (Nat.beq (Nat.mod m 2) 0) (l.get (Nat.div m 2)) (r.get (Nat.div m 2))

def Trie.single {α : Type} (v : α) : Nat → Nat → Trie α
  | 0, _ => .leaf
  | f + 1, n =>
    match n with
    | 0 => .node (some v) .leaf .leaf
    | m + 1 => cond (Nat.beq (Nat.mod m 2) 0) (.node none (single v f (Nat.div m 2)) .leaf) (.node none .leaf (single v f (Nat.div m 2)))

def Trie.set {α : Type} (v : α) : Trie α → Nat → Trie α
  | .leaf, n => single v (Nat.succ n) n
  | .node x l r, n =>
    match n with
    | 0 => .node (some v) l r
    | m + 1 => cond (Nat.beq (Nat.mod m 2) 0) (.node x (set v l (Nat.div m 2)) r) (.node x l (set v r (Nat.div m 2)))

theorem Trie.get_single {α : Type} (v : α) : ∀ (f n k : Nat), n < f → (single v f n).get k = if k = n then some v else none
  | 0, n, k, h => by omega
  | f + 1, 0, k, _ => by cases k <;> simp [single, get]
  | f + 1, m + 1, k, h => by
    have hd : Nat.div m 2 < f := by have : m / 2 ≤ m := Nat.div_le_self _ _; show m / 2 < f; omega
    have ih := fun k => get_single v f (Nat.div m 2) k hd
    have ed : Nat.div m 2 = m / 2 := rfl
    simp only [single]
    cases hb : Nat.beq (Nat.mod m 2) 0 with
    | true =>
      have h0 : m % 2 = 0 := Nat.eq_of_beq_eq_true hb
      cases k with
      | zero => simp [get]
      | succ k =>
        have edk : Nat.div k 2 = k / 2 := rfl
        simp only [cond_true, get]
        cases hk : Nat.beq (Nat.mod k 2) 0 with
        | true =>
          have hk0 : k % 2 = 0 := Nat.eq_of_beq_eq_true hk
          rw [cond_true, ih, ed, edk]
          by_cases hkm : k = m
          · subst hkm; simp
          · rw [if_neg (by omega), if_neg (by omega)]
        | false =>
          have hk0 : k % 2 ≠ 0 := Nat.ne_of_beq_eq_false hk
          rw [cond_false, if_neg (by intro e; have : k = m := by omega
                                     subst this; exact hk0 h0)]
    | false =>
      have h0 : m % 2 ≠ 0 := Nat.ne_of_beq_eq_false hb
      cases k with
      | zero => simp [get]
      | succ k =>
        have edk : Nat.div k 2 = k / 2 := rfl
        simp only [cond_false, get]
        cases hk : Nat.beq (Nat.mod k 2) 0 with
        | true =>
          have hk0 : k % 2 = 0 := Nat.eq_of_beq_eq_true hk
          rw [cond_true, if_neg (by intro e; have : k = m := by omega
                                    subst this; exact h0 hk0)]
        | false =>
          have hk0 : k % 2 ≠ 0 := Nat.ne_of_beq_eq_false hk
          rw [cond_false, ih, ed, edk]
          by_cases hkm : k = m
          · subst hkm; simp
          · rw [if_neg (by omega), if_neg (by omega)]

theorem Trie.get_set {α : Type} (v : α) : ∀ (t : Trie α) (n k : Nat), (set v t n).get k = if k = n then some v else t.get k
  | .leaf, n, k => by simp [set, get_single v (Nat.succ n) n k (Nat.lt_succ_self n), get]
  | .node x l r, 0, k => by cases k <;> simp [set, get]
  | .node x l r, m + 1, k => by
    have ihl := fun k => get_set v l (Nat.div m 2) k
    have ihr := fun k => get_set v r (Nat.div m 2) k
    have ed : Nat.div m 2 = m / 2 := rfl
    simp only [set]
    cases hb : Nat.beq (Nat.mod m 2) 0 with
    | true =>
      have h0 : m % 2 = 0 := Nat.eq_of_beq_eq_true hb
      cases k with
      | zero => simp [get]
      | succ k =>
        have edk : Nat.div k 2 = k / 2 := rfl
        simp only [cond_true, get]
        cases hk : Nat.beq (Nat.mod k 2) 0 with
        | true =>
          have hk0 : k % 2 = 0 := Nat.eq_of_beq_eq_true hk
          rw [cond_true, cond_true, ihl, ed, edk]
          by_cases hkm : k = m
          · subst hkm; simp
          · rw [if_neg (by omega), if_neg (by omega)]
        | false =>
          have hk0 : k % 2 ≠ 0 := Nat.ne_of_beq_eq_false hk
          rw [cond_false, cond_false, if_neg (by intro e; have : k = m := by omega
                                                 subst this; exact hk0 h0)]
    | false =>
      have h0 : m % 2 ≠ 0 := Nat.ne_of_beq_eq_false hb
      cases k with
      | zero => simp [get]
      | succ k =>
        have edk : Nat.div k 2 = k / 2 := rfl
        simp only [cond_false, get]
        cases hk : Nat.beq (Nat.mod k 2) 0 with
        | true =>
          have hk0 : k % 2 = 0 := Nat.eq_of_beq_eq_true hk
          rw [cond_true, cond_true, if_neg (by intro e; have : k = m := by omega
                                               subst this; exact h0 hk0)]
        | false =>
          have hk0 : k % 2 ≠ 0 := Nat.ne_of_beq_eq_false hk
          rw [cond_false, cond_false, ihr, ed, edk]
          by_cases hkm : k = m
          · subst hkm; simp
          · rw [if_neg (by omega), if_neg (by omega)]

/-! ## The abstract store -/
/- A row: its cells; how many cells an element has; may it be written; 'kin': none: its concrete row ends where it ends; some (family, place): it may share its concrete row with others of the family. -/
inductive AObj where
  | row (cells : List Value) (esz : Nat) (own : Bool) (kin : Option (Nat × Nat))
  | map (es : List (Value × Value))
  | iter (s : List UInt8) (pos : Nat)
  | dead

structure St where
  heap : Trie AObj
  next : Nat
  low : Nat
  fams : Trie (List Nat)

def St.get (A : St) (b : Nat) : Option AObj := A.heap.get b
def St.members (A : St) (fam : Nat) : List Nat := (A.fams.get fam).getD []
def St.new (A : St) (o : AObj) : St := { A with heap := A.heap.set o A.next, next := Nat.succ A.next }
def St.put (A : St) (b : Nat) (o : AObj) : St := { A with heap := A.heap.set o b, low := Nat.min A.low b }
def St.join (A : St) (fam b : Nat) : St := { A with fams := A.fams.set (b :: A.members fam) fam }

/-- do two ranges meet? -/
def meets (lo hi lo' hi' : Nat) : Bool := Nat.blt lo hi' && Nat.blt lo' hi
/-- is the member x of the family one that a write to the range [lo, hi) makes stale? -/
def stale (o : Option AObj) (lo hi : Nat) : Bool :=
  match o with
  | some (.row cs _ _ (some (_, foff))) => meets lo hi foff (foff + cs.length)
  | _ => false
/-- the members of a family but b that meet the range are told no more -/
def St.kill (A : St) (b lo hi : Nat) : List Nat → St
  | [] => A
  | x :: xs => cond (!(Nat.beq x b) && stale (A.get x) lo hi) ((A.put x .dead).kill b lo hi xs) (A.kill b lo hi xs)
def St.killKin (A : St) (b : Nat) (kin : Option (Nat × Nat)) (lo hi : Nat) : St :=
  match kin with
  | none => A
  | some (fam, foff) => A.kill b (foff + lo) (foff + hi) (A.members fam)

def takeN : Nat → List Value → Option (List Value)
  | 0, _ => some []
  | _ + 1, [] => none
  | n + 1, x :: xs => (takeN n xs).map (x :: ·)
def dropN : Nat → List Value → List Value
  | 0, l => l
  | _ + 1, [] => []
  | n + 1, _ :: xs => dropN n xs
/-- the cells from n on written by vs; none where they do not lie -/
def writeN : Nat → List Value → List Value → Option (List Value)
  | 0, l, [] => some l
  | 0, [], _ :: _ => none
  | 0, _ :: l, v :: vs => (writeN 0 l vs).map (v :: ·)
  | _ + 1, [], [] => some []
  | _ + 1, [], _ :: _ => none
  | n + 1, x :: l, vs => (writeN n l vs).map (x :: ·)

def plainAddr (a : Addr) : Bool := a.spot.isNone

def rowCells (A : St) (b : Nat) : Option (List Value) :=
  match A.get b with
  | some (.row cs _ _ _) => some cs
  | _ => none

def St.loadN (A : St) (a : Addr) (n : Nat) : Option (List Value) :=
  cond (plainAddr a) ((rowCells A a.block).bind fun cs => takeN n (dropN a.off cs)) none

/-- a value of one cell (a channel: one that is not known) -/
def scalar : Value → Bool
  | .agg _ | .tuple _ | .chan _ => false
  | _ => true

def St.storeN (A : St) (a : Addr) (vs : List Value) : Option St :=
  cond (plainAddr a && vs.all scalar)
    (match A.get a.block with
    | some (.row cs esz true kin) => (writeN a.off cs vs).map fun cs' => (A.put a.block (.row cs' esz true kin)).killKin a.block kin a.off (a.off + vs.length)
    | _ => none)
    none

/-- a value that is known -/
def known : Value → Bool
  | .chan _ => false
  | _ => true

/-! ## Types -/
def size? (P : Program) (t : TypeId) : Option Nat := (P.info? t).map (·.size)
def bytes? (P : Program) (t : TypeId) : Option Nat := (P.info? t).map (·.bytes)
def zero? (P : Program) (t : TypeId) : Option Value := (P.info? t).bind (·.zero)
def isAggD : TypeDesc → Bool
  | .struct _ | .array _ _ => true
  | _ => false
def agg? (P : Program) (t : TypeId) : Option Bool := (P.underlying t).map isAggD

/-! ## What needs no store -/
def pureRun {α : Type} (P : Program) : Sem α → Option α
  | .pure a => some a
  | .program k => pureRun P (k P)
  | .mark _ k => pureRun P k
  | _ => none

/- holds no address -/
mutual
def flat : Value → Bool
  | .bool _ | .int _ _ | .float _ _ | .complex _ _ _ | .string _ | .pointer none | .slice none _ _ | .map none | .nilFunc | .nilIface => true
  | .agg cs => flatA cs
  | .tuple cs => flatA cs
  | .iface _ v => flat v
  | _ => false
def flatA : Array Value → Bool
  | ⟨l⟩ => flatL l
def flatL : List Value → Bool
  | [] => true
  | v :: vs => flat v && flatL vs
end

/-- a part of a struct's or an array's cells -/
def partOf (P : Program) (t : TypeId) (cs : List Value) (off : Nat) : Option Value :=
  match agg? P t with
  | some true => (size? P t).bind fun n => (takeN n (dropN off cs)).map fun l => .agg ⟨l⟩
  | some false => (dropN off cs).head?
  | none => none

def loadAt (P : Program) (t : TypeId) (A : St) : Value → Option Value
  | .pointer (some a) =>
    match agg? P t with
    | some true => (size? P t).bind fun n => (A.loadN a n).map fun l => .agg ⟨l⟩
    | some false => (A.loadN a 1).bind (·.head?)
    | none => none
  | _ => none

def storeAt (P : Program) (t : TypeId) (A : St) : Value → Value → Option St
  | .pointer (some a), v => cond (decide (some v.cells.size = size? P t)) (A.storeN a v.cells.toList) none
  | _, _ => none

def fillC (place : Nat → Option (Nat × Nat)) (cells : List Value) : List (Nat × Value) → Option (List Value)
  | [] => some cells
  | (i, v) :: rest =>
    match place i with
    | some (off, size) => cond (Nat.beq v.cells.size size && Nat.ble 1 size) ((writeN off cells v.cells.toList).bind fun cs => fillC place cs rest) none
    | none => none

def repeatL (l : List Value) : Nat → List Value
  | 0 => []
  | n + 1 => l ++ repeatL l n

/-- '==' of what is no number and no text -/
def eqV (P : Program) (t : TypeId) (x y : Value) : Option Bool :=
  match P.underlying t, x, y with
  | some (.pointer _), .pointer none, .pointer b => some b.isNone
  | some (.pointer _), .pointer (some _), .pointer none => some false
  | some (.slice _), .slice none _ _, .slice b _ _ => some b.isNone
  | some (.slice _), .slice (some _) _ _, .slice none _ _ => some false
  | some (.map _ _), .map none, .map b => some b.isNone
  | some (.map _ _), .map (some _), .map none => some false
  | some (.func _ _ _), .nilFunc, .nilFunc => some true
  | some (.func _ _ _), .nilFunc, .func _ _ _ => some false
  | some (.func _ _ _), .func _ _ _, .nilFunc => some false
  | _, x, y => cond (flat x && flat y) (pureRun P (Op.equal t x y)) none
def eqable : Value → Bool
  | .bool _ | .pointer _ | .slice _ _ _ | .map _ | .func _ _ _ | .nilFunc | .iface _ _ | .nilIface | .agg _ => true
  | _ => false
/-- what two nil interface values, and structs that may hold them, want -/
def eqSure (P : Program) (t : TypeId) (lit : Bool) (x y : Value) : Bool :=
  match x, y with
  | .nilIface, .nilIface => lit
  | .agg _, .agg _ => !P.eqGuardType P.depth t
  | _, _ => true
def eqFull (P : Program) (t : TypeId) (lit : Bool) (x y : Value) : Option Bool :=
  cond (eqable x && eqable y && eqSure P t lit x y) (eqV P t x y) none

/-! ## The operations -/
/- An operation by what it needs: values alone; the store, to be read; a new block; the store, to be written; a Go function. -/
inductive Ins where
  | pure (f : List Value → Option Value) (xs : List Operand)
  | read (f : St → List Value → Option Value) (xs : List Operand)
  | make (f : List Value → Option (AObj × (Nat → Value))) (xs : List Operand)
  | act (f : St → List Value → Option (Value × St)) (xs : List Operand)
  | call (f : Operand) (args : List Operand)
  | bad

def atNew (n : Nat) : Value := .pointer (some ⟨n, 0, none⟩)
def varObj (v : Value) : AObj := .row v.cells.toList 1 true none

def fMove : List Value → Option Value
  | [x] => some x
  | _ => none
def fPick : List Value → Option Value
  | [.bool t, a, b] => some (cond t a b)
  | _ => none
def fAlloc (P : Program) (t : TypeId) (_ : List Value) : Option (AObj × (Nat → Value)) :=
  (zero? P t).bind fun z => cond (flat z && z.cells.toList.all scalar) (some (varObj z, atNew)) none
def fBox : List Value → Option (AObj × (Nat → Value))
  | [v] => cond (v.cells.toList.all scalar) (some (varObj v, atNew)) none
  | _ => none
def zipIdx : List Nat → List Value → List (Nat × Value)
  | i :: is, v :: vs => (i, v) :: zipIdx is vs
  | _, _ => []
def placesOf (P : Program) (fs : List Field) : Option (List (Nat × Nat)) := fs.mapM fun f => (P.info? f.type).map fun i => (f.offset, i.size)
def strideOf (n i : Nat) : Option (Nat × Nat) := some (i * n, n)
def placeAt (l : List (Nat × Nat)) (i : Nat) : Option (Nat × Nat) := l[i]?
def mkAgg (l : List Value) : Value := .agg ⟨l⟩
def fBuildAt (place : Nat → Option (Nat × Nat)) (z : Value) (is : List Nat) (vs : List Value) : Option Value :=
  cond (flat z && vs.all known) ((fillC place z.cells.toList (zipIdx is vs)).map mkAgg) none
def insBuild (P : Program) (t : TypeId) (is : List Nat) (xs : List Operand) : Ins :=
  match zero? P t, P.underlying t with
  | some z, some (.struct fields) =>
    match placesOf P fields.toList with
    | some l => .pure (fBuildAt (placeAt l) z is) xs
    | none => .bad
  | some z, some (.array _ e) =>
    match size? P e with
    | some n => .pure (fBuildAt (strideOf n) z is) xs
    | none => .bad
  | _, _ => .bad
def fBuildSlice (n : Nat) (z : Value) (len : Nat) (is : List Nat) (vs : List Value) : Option (AObj × (Nat → Value)) :=
  (fillC (strideOf n) (repeatL z.cells.toList len) (zipIdx is vs)).bind fun l =>
    cond (l.all scalar && vs.all known) (some (.row l n true none, fun b => .slice (some ⟨b, 0, none⟩) len len)) none
def insBuildSlice (P : Program) (t : TypeId) (len : Nat) (is : List Nat) (xs : List Operand) : Ins :=
  match P.underlying t with
  | some (.slice e) =>
    match size? P e, zero? P e with
    | some n, some z => cond (Nat.ble (len * n) 16777216 && Nat.beq z.cells.size n && Nat.ble 1 n && flat z) (.make (fBuildSlice n z len is) xs) .bad
    | _, _ => .bad
  | _ => .bad
def fLoad (P : Program) (t : TypeId) (A : St) : List Value → Option Value
  | [a] => loadAt P t A a
  | _ => none
def fStore (P : Program) (t : TypeId) (A : St) : List Value → Option (Value × St)
  | [a, v] => (storeAt P t A a v).map fun B => (undef, B)
  | _ => none
def fNilCheck : List Value → Option Value
  | [.pointer (some a)] => some (.pointer (some a))
  | [.func (.func f) first cap] => some (.func (.func f) first cap)
  | _ => none
def fBin (P : Program) (op : BinOp) (t : TypeId) (lit : Bool) : List Value → Option Value
  | [.int j a, .int k b] => pureRun P (binOp op t (.int j a) (.int k b))
  | [.string a, .string b] => pureRun P (binOp op t (.string a) (.string b))
  | [x, y] =>
    match op with
    | .eql => (eqFull P t lit x y).map .bool
    | .neq => (eqFull P t lit x y).map fun b => .bool !b
    | _ => none
  | _ => none
def isConst : Operand → Bool
  | .const _ => true
  | _ => false
def fUn (P : Program) (op : UnOp) : List Value → Option Value
  | [.bool b] => pureRun P (Op.unary op (.bool b))
  | [.int k n] => pureRun P (Op.unary op (.int k n))
  | _ => none
def fConvert (P : Program) (src dst : TypeId) : List Value → Option Value
  | [.int k n] => match P.underlying dst with
    | some (.int _) => pureRun P (convert src dst (.int k n))
    | _ => none
  | _ => none
def fMakeFunc (fn : Fn) (k : Nat) (vs : List Value) : Option Value :=
  (takeN k vs).map fun first => .func fn ⟨first⟩ ⟨dropN k vs⟩
def addTo (a : Addr) (n : Nat) : Option Value := cond (plainAddr a) (some (.pointer (some ⟨a.block, a.off + n, none⟩))) none
def fFieldAddr (off : Nat) : List Value → Option Value
  | [.pointer (some a)] => addTo a off
  | _ => none
def fField (P : Program) (fd : Field) : List Value → Option Value
  | [.agg cs] => partOf P fd.type cs.toList fd.offset
  | _ => none
def inBounds (i : Int) (len : Nat) : Option Nat :=
  match i with
  | .ofNat n => cond (Nat.blt n len) (some n) none
  | .negSucc _ => none
def fIndexArr (len n : Nat) : List Value → Option Value
  | [.pointer (some a), .int _ i] => (inBounds i len).bind fun i => addTo a (i * n)
  | _ => none
def fIndexSl (n : Nat) : List Value → Option Value
  | [.slice (some a) len _, .int _ i] => (inBounds i len).bind fun i => addTo a (i * n)
  | _ => none
def fIndexAgg (P : Program) (len n : Nat) (e : TypeId) : List Value → Option Value
  | [.agg cs, .int _ i] => (inBounds i len).bind fun i => partOf P e cs.toList (i * n)
  | _ => none
def fIndexStr : List Value → Option Value
  | [.string s, .int _ i] => (inBounds i s.size).bind fun i => (s.data.toList[i]?).map fun b => .int .u8 b.toNat
  | _ => none
def fExtract (i : Nat) : List Value → Option Value
  | [.tuple vs] => vs.toList[i]?
  | _ => none
def fLenSl : List Value → Option Value
  | [.slice _ n _] => some (.int .i64 (Int.ofNat n))
  | _ => none
def fLenStr : List Value → Option Value
  | [.string s] => some (.int .i64 (Int.ofNat s.size))
  | _ => none

/-- what is asked of values that hold no address, and answers one -/
def fPure (P : Program) (s : List Value → Sem Value) (vs : List Value) : Option Value :=
  cond (flatL vs) ((pureRun P (s vs)).bind fun v => cond (flat v) (some v) none) none

def bnd (y : Nat) : Value → Option Nat
  | .int _ i => inBounds i (Nat.succ y)
  | _ => none
/-- the bounds of a slice expression: which of them are given, and their values -/
def bnds (len cap : Nat) (lo hi mx : Bool) (vs : List Value) : Option (Nat × Nat × Nat) :=
  match lo, hi, mx, vs with
  | false, false, false, [] => some (0, len, cap)
  | true, false, false, [l] => (bnd len l).map fun l => (l, len, cap)
  | false, true, false, [h] => (bnd cap h).map fun h => (0, h, cap)
  | true, true, false, [l, h] => (bnd cap h).bind fun h => (bnd h l).map fun l => (l, h, cap)
  | false, true, true, [h, m] => (bnd cap m).bind fun m => (bnd m h).map fun h => (0, h, m)
  | true, true, true, [l, h, m] => (bnd cap m).bind fun m => (bnd m h).bind fun h => (bnd h l).map fun l => (l, h, m)
  | _, _, _, _ => none
def rowEsz (A : St) (b n : Nat) : Bool :=
  match A.get b with
  | some (.row _ esz _ _) => Nat.beq esz n
  | _ => false
def rowLen (A : St) (b : Nat) : Nat :=
  match A.get b with
  | some (.row cs _ _ _) => cs.length
  | _ => 0
def fSliceSl (n : Nat) (lo hi mx : Bool) (A : St) : List Value → Option Value
  | .slice none len cap :: vs => (bnds len cap lo hi mx vs).map fun p => .slice none (p.2.1 - p.1) (p.2.2 - p.1)
  | .slice (some a) len cap :: vs => cond (plainAddr a && rowEsz A a.block n)
      ((bnds len cap lo hi mx vs).map fun p => .slice (some ⟨a.block, a.off + p.1 * n, none⟩) (p.2.1 - p.1) (p.2.2 - p.1)) none
  | _ => none
def fSliceArr (len n : Nat) (lo hi mx : Bool) (A : St) : List Value → Option Value
  | .pointer (some a) :: vs => cond (plainAddr a && rowEsz A a.block n && Nat.ble (a.off + len * n) (rowLen A a.block))
      ((bnds len len lo hi mx vs).map fun p => .slice (some ⟨a.block, a.off + p.1 * n, none⟩) (p.2.1 - p.1) (p.2.2 - p.1)) none
  | _ => none
def fSliceStr (lo hi : Bool) : List Value → Option Value
  | .string s :: vs => (bnds s.size s.size lo hi false vs).map fun p => .string ⟨⟨(s.data.toList.drop p.1).take (p.2.1 - p.1)⟩⟩
  | _ => none
def optL (o : Option Operand) : List Operand :=
  match o with
  | some x => [x]
  | none => []
def insSlice (P : Program) (t : TypeId) (x : Operand) (lo hi mx : Option Operand) : Ins :=
  match P.underlying t with
  | some (.slice e) => match size? P e with
    | some n => cond (Nat.ble 1 n) (.read (fSliceSl n lo.isSome hi.isSome mx.isSome) (x :: (optL lo ++ optL hi ++ optL mx))) .bad
    | none => .bad
  | some (.array len e) => match size? P e with
    | some n => cond (Nat.ble 1 n) (.read (fSliceArr len n lo.isSome hi.isSome mx.isSome) (x :: (optL lo ++ optL hi ++ optL mx))) .bad
    | none => .bad
  | some .string => cond mx.isNone (.pure (fSliceStr lo.isSome hi.isSome) (x :: (optL lo ++ optL hi))) .bad
  | _ => .bad

def fMakeSlice (n b : Nat) (z : Value) : List Value → Option (AObj × (Nat → Value))
  | [.int _ (.ofNat l), .int _ (.ofNat c)] => cond (Nat.ble l c && Nat.ble (b * c) 281474976710656)
      (some (.row (repeatL z.cells.toList c) n true none, fun k => .slice (some ⟨k, 0, none⟩) l c)) none
  | _ => none
def insMakeSlice (P : Program) (t : TypeId) (l c : Operand) : Ins :=
  match P.underlying t with
  | some (.slice e) =>
    match P.info? e with
    | some i => match i.zero with
      | some z => cond (Nat.ble 1 i.size && Nat.ble 1 i.bytes && Nat.beq z.cells.size i.size && flat z && z.cells.toList.all scalar) (.make (fMakeSlice i.size i.bytes z) [l, c]) .bad
      | none => .bad
    | none => .bad
  | _ => .bad

/-- the first k elements of what is appended or copied -/
def firstA (A : St) (n k : Nat) : Value → Option (List Value)
  | .slice (some a) _ _ => A.loadN a (k * n)
  | .slice none _ _ => cond (Nat.beq k 0) (some []) none
  | .string s => cond (Nat.beq n 1) (some ((s.data.toList.take k).map fun b => .int .u8 b.toNat)) none
  | _ => none
def lenA : Value → Option Nat
  | .slice _ n _ => some n
  | .string s => some s.size
  | _ => none
/-- a new row that may be longer than is known, or lie where an old one goes on -/
def St.grow (A : St) (fam foff : Nat) (cs : List Value) (n : Nat) : St := (A.new (.row cs n true (some (fam, foff)))).join fam A.next
def appGrow (A : St) (n sLen need : Nat) (base : Option Addr) (new : List Value) : Option (Value × St) :=
  match base with
  | none => cond (Nat.beq sLen 0) (some (.slice (some ⟨A.next, 0, none⟩) need need, A.grow A.next 0 new n)) none
  | some a =>
    cond (plainAddr a)
      ((A.loadN a (sLen * n)).bind fun old =>
        match A.get a.block with
        | some (.row _ esz own kin) => cond (Nat.beq esz n)
            (match kin with
            | none => cond own (some (.slice (some ⟨A.next, 0, none⟩) need need, A.grow A.next 0 (old ++ new) n)) none
            | some (fam, foff) => cond own (some (.slice (some ⟨A.next, 0, none⟩) need need,
                (A.kill A.next (foff + (a.off + sLen * n)) (foff + (a.off + sLen * n) + new.length) (A.members fam)).grow fam (foff + a.off) (old ++ new) n)) none) none
        | _ => none)
      none
def exactEnd (A : St) (n sCap : Nat) (base : Option Addr) : Bool :=
  match base with
  | none => Nat.beq sCap 0
  | some a => match A.get a.block with
    | some (.row cs _ _ kin) => match kin with
      | none => Nat.beq (a.off + sCap * n) cs.length
      | some _ => true
    | _ => false
def fAppend (n b : Nat) (A : St) : List Value → Option (Value × St)
  | [.slice base sLen sCap, x] =>
    (lenA x).bind fun k =>
      cond (Nat.ble (sLen + k) sCap)
        ((firstA A n k x).bind fun new =>
          match base with
          | none => some (.slice base (sLen + k) sCap, A)
          | some a => cond (plainAddr a) ((A.storeN ⟨a.block, a.off + sLen * n, none⟩ new).map fun B => (.slice base (sLen + k) sCap, B)) none)
        (cond (Nat.ble ((sLen + k + 512) * b) 17592186044416 && Nat.ble (sLen + k) 17592186044416 && exactEnd A n sCap base)
          ((firstA A n k x).bind fun new => appGrow A n sLen (sLen + k) base new) none)
  | _ => none
def isSrc (P : Program) (u : TypeId) : Bool :=
  match P.underlying u with
  | some (.slice _) => true
  | some .string => true
  | _ => false
def insAppend (P : Program) (argTypes : List TypeId) (args : List Operand) : Ins :=
  match argTypes with
  | [t, u] =>
    match P.underlying t with
    | some (.slice e) =>
      match P.info? e with
      | some i => match i.zero with
        | some z => cond (Nat.ble 1 i.size && Nat.beq z.cells.size i.size && isSrc P u) (.act (fAppend i.size i.bytes) args) .bad
        | none => .bad
      | none => .bad
    | _ => .bad
  | _ => .bad
def fCopy (n : Nat) (A : St) : List Value → Option (Value × St)
  | [.slice base dLen _, x] =>
    (lenA x).bind fun k =>
      (firstA A n (Nat.min k dLen) x).bind fun cs =>
        match base with
        | none => some (.int .i64 (Int.ofNat (Nat.min k dLen)), A)
        | some a => (A.storeN a cs).map fun B => (.int .i64 (Int.ofNat (Nat.min k dLen)), B)
  | _ => none
def insCopy (P : Program) (argTypes : List TypeId) (args : List Operand) : Ins :=
  match argTypes with
  | t :: _ =>
    match P.underlying t with
    | some (.slice e) => match size? P e with
      | some n => cond (Nat.ble 1 n) (.act (fCopy n) args) .bad
      | none => .bad
    | _ => .bad
  | _ => .bad
def fIface (t : TypeId) : List Value → Option Value
  | [x] => some (.iface t x)
  | _ => none
def insIface (P : Program) (t : TypeId) (x : Operand) : Ins :=
  match P.underlying t with
  | some (.interface _) => .bad
  | some _ => .pure (fIface t) [x]
  | none => .bad

/-! ### Maps -/
def keysFlat : List (Value × Value) → Bool
  | [] => true
  | e :: es => flat e.1 && keysFlat es
def findNowA (kind : TypeDesc) (k : Value) : List (Value × Value) → Nat → Option (Option (Nat × Value))
  | [], _ => some none
  | e :: es, i =>
    match Instr.sameNow kind k e.1 with
    | some true => some (some (i, e.2))
    | some false => findNowA kind k es (i + 1)
    | none => none
def findAskA (P : Program) (kt : TypeId) (k : Value) : List (Value × Value) → Nat → Option (Option (Nat × Value))
  | [], _ => some none
  | e :: es, i =>
    match pureRun P (Op.equal kt k e.1) with
    | some true => some (some (i, e.2))
    | some false => findAskA P kt k es (i + 1)
    | none => none
def findA (P : Program) (kt : TypeId) (d : TypeDesc) (k : Value) (es : List (Value × Value)) : Option (Option (Nat × Value)) :=
  match findNowA d k es 0 with
  | some r => some r
  | none => findAskA P kt k es 0
/-- a map and a key that can be asked -/
def keyOk (P : Program) (kt : TypeId) (empty : Bool) (k : Value) (es : List (Value × Value)) : Bool :=
  flat k && keysFlat es && (pureRun P (Instr.checkKey empty 10000 kt k)).isSome
def outK (ok : Bool) (v : Value) (b : Bool) : Value := cond ok (.tuple ⟨[v, .bool b]⟩) v
def fLookupIn (P : Program) (kt : TypeId) (d : TypeDesc) (z : Value) (ok : Bool) (k : Value) (es : List (Value × Value)) : Option Value :=
  cond (keyOk P kt es.isEmpty k es)
    ((findA P kt d k es).map fun r => match r with
      | some p => outK ok p.2 true
      | none => outK ok z false)
    none
def fLookup (P : Program) (kt : TypeId) (d : TypeDesc) (z : Value) (ok : Bool) (A : St) : List Value → Option Value
  | [.map none, k] => fLookupIn P kt d z ok k []
  | [.map (some r), k] => match A.get r with
    | some (.map es) => fLookupIn P kt d z ok k es
    | _ => none
  | _ => none
def insLookup (P : Program) (t : TypeId) (x ix : Operand) (ok : Bool) : Ins :=
  match P.underlying t with
  | some (.map kt et) => match P.underlying kt, zero? P et with
    | some d, some z => cond (flat z) (.read (fLookup P kt d z ok) [x, ix]) .bad
    | _, _ => .bad
  | _ => .bad
def keyAt (es : List (Value × Value)) (i : Nat) (k : Value) : Value := ((es[i]?).map (·.1)).getD k
def fMapUpdate (P : Program) (kt : TypeId) (d : TypeDesc) (A : St) : List Value → Option (Value × St)
  | [.map (some r), k, v] => match A.get r with
    | some (.map es) => cond (keyOk P kt false k es)
        ((findA P kt d k es).bind fun q => match q with
          | some p => cond (Instr.sameBits 10000 (keyAt es p.1 k) k) (some (undef, A.put r (.map (es.set p.1 (k, v))))) none
          | none => some (undef, A.put r (.map (es ++ [(k, v)]))))
        none
    | _ => none
  | _ => none
def insMapUpdate (P : Program) (t : TypeId) (m k x : Operand) : Ins :=
  match P.underlying t with
  | some (.map kt _) => match P.underlying kt with
    | some d => .act (fMapUpdate P kt d) [m, k, x]
    | none => .bad
  | _ => .bad
def fMakeMap : List Value → Option (AObj × (Nat → Value))
  | [] => some (.map [], fun n => .map (some n))
  | [.int _ _] => some (.map [], fun n => .map (some n))
  | _ => none
def insMakeMap (P : Program) (t : TypeId) (r : Option Operand) : Ins :=
  match P.underlying t with
  | some (.map _ _) => .make fMakeMap (optL r)
  | _ => .bad
def unitV : Value := .tuple ⟨[]⟩
def fDelete (P : Program) (kt : TypeId) (d : TypeDesc) (A : St) : List Value → Option (Value × St)
  | [.map none, k] => cond (keyOk P kt true k []) (some (unitV, A)) none
  | [.map (some r), k] => match A.get r with
    | some (.map es) => cond (keyOk P kt es.isEmpty k es)
        ((findA P kt d k es).map fun q => match q with
          | some p => (unitV, A.put r (.map (es.eraseIdx p.1)))
          | none => (unitV, A.put r (.map es)))
        none
    | _ => none
  | _ => none
def insDelete (P : Program) (argTypes : List TypeId) (args : List Operand) : Ins :=
  match argTypes with
  | t :: _ => match P.underlying t with
    | some (.map kt _) => match P.underlying kt with
      | some d => .act (fDelete P kt d) args
      | none => .bad
    | _ => .bad
  | _ => .bad
def fLenMap (A : St) : List Value → Option Value
  | [.map none] => some (.int .i64 0)
  | [.map (some r)] => match A.get r with
    | some (.map es) => some (.int .i64 (Int.ofNat es.length))
    | _ => none
  | _ => none
def fClearMap (A : St) : List Value → Option (Value × St)
  | [.map none] => some (unitV, A)
  | [.map (some r)] => match A.get r with
    | some (.map _) => some (unitV, A.put r (.map []))
    | _ => none
  | _ => none
def fClearSl (z : Value) (A : St) : List Value → Option (Value × St)
  | [.slice none _ _] => some (unitV, A)
  | [.slice (some a) n _] => cond (Nat.beq n 0) (some (unitV, A)) ((A.storeN a (repeatL z.cells.toList n)).map fun B => (unitV, B))
  | _ => none
def insClear (P : Program) (argTypes : List TypeId) (args : List Operand) : Ins :=
  match argTypes with
  | [t] => match P.underlying t with
    | some (.map _ _) => .act fClearMap args
    | some (.slice e) => match zero? P e with
      | some z => cond (flat z && Nat.ble 1 z.cells.size) (.act (fClearSl z) args) .bad
      | none => .bad
    | _ => .bad
  | _ => .bad

/-! ### Texts -/
def bytesA : List Value → Option (List UInt8)
  | [] => some []
  | .int .u8 (.ofNat n) :: r => cond (Nat.blt n 256) ((bytesA r).map (UInt8.ofNat n :: ·)) none
  | _ => none
def fBytesStr (A : St) : List Value → Option Value
  | [.slice none _ _] => some (.string ⟨⟨[]⟩⟩)
  | [.slice (some a) n _] => ((A.loadN a n).bind bytesA).map fun l => .string ⟨⟨l⟩⟩
  | _ => none
def byteVals (l : List UInt8) : List Value := l.map fun b => .int .u8 b.toNat
def fStrBytes (A : St) : List Value → Option (Value × St)
  | [.string s] => some (.slice (some ⟨A.next, 0, none⟩) s.size s.size, A.grow A.next 0 (byteVals s.data.toList) 1)
  | _ => none
def isByte (P : Program) (e : TypeId) : Bool :=
  match P.underlying e with
  | some (.int .u8) => true
  | _ => false
def fStrStr : List Value → Option Value
  | [.string s] => some (.string s)
  | _ => none
def insConvert (P : Program) (src dst : TypeId) (x : Operand) : Ins :=
  match P.underlying src, P.underlying dst with
  | some (.slice e), some .string => cond (isByte P e) (.read fBytesStr [x]) .bad
  | some .string, some (.slice e) => cond (isByte P e) (.act fStrBytes [x]) .bad
  | some .string, some .string => .pure fStrStr [x]
  | _, _ => .pure (fConvert P src dst) [x]
def fRange : List Value → Option (AObj × (Nat → Value))
  | [.string s] => some (.iter s.data.toList 0, atNew)
  | _ => none
def insRange (P : Program) (t : TypeId) (x : Operand) : Ins :=
  match P.underlying t with
  | some .string => .make fRange [x]
  | _ => .bad
def fNext (A : St) : List Value → Option (Value × St)
  | [.pointer (some a)] => cond (Nat.beq a.off 0)
    (match A.get a.block with
    | some (.iter s pos) =>
      cond (Nat.blt pos s.length)
        (match Utf8.decode ⟨⟨s⟩⟩ pos with
        | (c, width) => some (.tuple ⟨[.bool true, .int .i64 (Int.ofNat pos), .int .i32 c]⟩, A.put a.block (.iter s (pos + width))))
        (some (.tuple ⟨[.bool false]⟩, A))
    | _ => none) none
  | _ => none

/-! ### slices.Insert, whole -/
def sameRow (A : St) (a b : Addr) : Bool :=
  Nat.beq a.block b.block ||
  match A.get b.block with
  | some (.row _ _ _ none) => false
  | _ => true
def awayFrom (A : St) (a : Addr) : Value → Bool
  | .slice (some b) _ _ => !sameRow A a b
  | .slice none _ _ => true
  | _ => false
def growAt (A : St) (n at_ need : Nat) (a : Addr) (old new : List Value) : Option (Value × St) :=
  match A.get a.block with
  | some (.row _ esz own kin) => cond (Nat.beq esz n && own)
      (match kin with
      | none => some (.slice (some ⟨A.next, 0, none⟩) need need, A.grow A.next 0 (old ++ new) n)
      | some (fam, foff) => some (.slice (some ⟨A.next, 0, none⟩) need need,
          (A.kill A.next (foff + (a.off + at_ * n)) (foff + (a.off + at_ * n) + new.length) (A.members fam)).grow fam (foff + a.off) (old ++ new) n)) none
  | _ => none
def fInsert (n b : Nat) (A : St) : List Value → Option (Value × St)
  | [.slice base sLen sCap, .int .i64 i, x] =>
    (lenA x).bind fun k => (inBounds i (Nat.succ sLen)).bind fun i =>
      cond (Nat.beq k 0) (some (.slice base sLen sCap, A))
      (cond (Nat.beq i sLen) (fAppend n b A [.slice base sLen sCap, x])
        (match base with
        | none => none
        | some a =>
          cond (plainAddr a && awayFrom A a x && Nat.ble ((sLen + k + 512) * b) 17592186044416 && Nat.ble (sLen + k) 17592186044416)
            ((firstA A n k x).bind fun new => (A.loadN a (i * n)).bind fun old => (A.loadN ⟨a.block, a.off + i * n, none⟩ ((sLen - i) * n)).bind fun tail =>
              cond (Nat.ble (sLen + k) sCap)
                ((A.storeN ⟨a.block, a.off + i * n, none⟩ (new ++ tail)).map fun B => (.slice base (sLen + k) sCap, B))
                (cond (exactEnd A n sCap base) (growAt A n i (sLen + k) a old (new ++ tail)) none))
            none))
  | _ => none

def insOfStruct (P : Program) (s : TypeId) (f : Nat) : Option Field :=
  match P.underlying s with
  | some (.struct fields) => fields.toList[f]?
  | _ => none
def insFieldAddr (P : Program) (s : TypeId) (x : Operand) (f : Nat) : Ins :=
  match insOfStruct P s f with
  | some fd => match size? P fd.type with
    | some (_ + 1) => .pure (fFieldAddr fd.offset) [x]
    | _ => .bad
  | none => .bad
def insField (P : Program) (t : TypeId) (x : Operand) (f : Nat) : Ins :=
  match insOfStruct P t f with
  | some fd => .pure (fField P fd) [x]
  | none => .bad
def insIndexAddr (P : Program) (t : TypeId) (x ix : Operand) : Ins :=
  match P.underlying t with
  | some (.array len e) => match size? P e with
    | some n => .pure (fIndexArr len n) [x, ix]
    | none => .bad
  | some (.slice e) => match size? P e with
    | some n => .pure (fIndexSl n) [x, ix]
    | none => .bad
  | _ => .bad
def insIndex (P : Program) (t : TypeId) (x ix : Operand) : Ins :=
  match P.underlying t with
  | some (.array len e) => match size? P e with
    | some n => .pure (fIndexAgg P len n e) [x, ix]
    | none => .bad
  | some .string => .pure fIndexStr [x, ix]
  | _ => .bad
def insLen (P : Program) (argTypes : List TypeId) (args : List Operand) : Ins :=
  match argTypes with
  | [t] => match P.underlying t with
    | some (.slice _) => .pure fLenSl args
    | some .string => .pure fLenStr args
    | some (.map _ _) => .read fLenMap args
    | _ => .bad
  | _ => .bad
def insBuiltin (P : Program) (b : Builtin) (argTypes : List TypeId) (args : List Operand) : Ins :=
  match b with
  | .len => insLen P argTypes args
  | .min => .pure (fPure P fun vs => Builtin.min_ #[] 0 ⟨vs⟩) args
  | .max => .pure (fPure P fun vs => Builtin.max_ #[] 0 ⟨vs⟩) args
  | .append => insAppend P argTypes args
  | .copy => insCopy P argTypes args
  | .delete => insDelete P argTypes args
  | .clear => insClear P argTypes args
  | _ => .bad
def insCall (P : Program) (c : Call) : Ins :=
  match c.callee with
  | .value f => .call f c.args.toList
  | .builtin b => insBuiltin P b c.argTypes.toList c.args.toList
  | .invoke _ _ => .bad

def compile (P : Program) : Op → Ins
  | .move x => .pure fMove [x]
  | .assign x => .pure fMove [x]
  | .pick c a b => .pure fPick [c, a, b]
  | .alloc t => .make (fAlloc P t) []
  | .box _ x => .make fBox [x]
  | .build t parts => insBuild P t (parts.toList.map (·.1)) (parts.toList.map (·.2))
  | .buildSlice t len parts => insBuildSlice P t len (parts.toList.map (·.1)) (parts.toList.map (·.2))
  | .load t a => .read (fLoad P t) [a]
  | .store t a x => .act (fStore P t) [a, x]
  | .nilCheck x => .pure fNilCheck [x]
  | .binOp op t x y _ => .pure (fBin P op t (isConst x || isConst y)) [x, y]
  | .unOp op _ x => .pure (fUn P op) [x]
  | .convert src dst x => insConvert P src dst x
  | .range t x => insRange P t x
  | .next it isString => cond isString (.act fNext [it]) .bad
  | .makeFunc fn first cap => .pure (fMakeFunc fn first.size) (first.toList ++ cap.toList)
  | .fieldAddr s x f => insFieldAddr P s x f
  | .field t x f => insField P t x f
  | .indexAddr t x ix => insIndexAddr P t x ix
  | .index t x ix => insIndex P t x ix
  | .extract t ix => .pure (fExtract ix) [t]
  | .slice t x lo hi mx => insSlice P t x lo hi mx
  | .makeSlice t l c => insMakeSlice P t l c
  | .makeInterface t x => insIface P t x
  | .makeMap t r => insMakeMap P t r
  | .lookup t x ix ok => insLookup P t x ix ok
  | .mapUpdate t m k x => insMapUpdate P t m k x
  | .insert t m k x => insMapUpdate P t m k x
  | .call c => insCall P c
  | _ => .bad

/-! ## Code -/
abbrev Tm := Trie Value
abbrev CallF := FuncId → List Value → St → Option (Value × St)

inductive AExit where
  | normal
  | exit (id : Nat)
  | goto (l : Nat)
  | ret
  deriving DecidableEq

def evA (t : Tm) : Operand → Value
  | .tmp i => (t.get i).getD undef
  | .const v => cond (flat v) v (.chan none)
  | .global _ => .chan none
  | .func f => .func (.func f) #[] #[]

def putT (t : Tm) (dst : Option Tmp) (v : Value) : Tm :=
  match dst with
  | some d => t.set v d
  | none => t

def isWanted (want : Bool) : Option Value → Option Bool
  | some (.bool b) => some (b == want)
  | some (.tuple _) => some false
  | none => some false
  | _ => none
/-- is an operation wanted? (by what the one that it hangs on gave) -/
def wantedA (ops : List Oper) (t : Tm) : Option (Nat × Bool) → Option Bool
  | none => some true
  | some (j, want) => isWanted want (((ops[j]?).bind (·.dst)).bind t.get)

def calleeVal (args : List Value) : Value → Option (FuncId × List Value)
  | .func (.func g) first cap => some (g, first.toList ++ args ++ cap.toList)
  | _ => none

/-- an operation's value, and the store behind it -/
def insV (call : CallF) (t : Tm) (A : St) : Ins → Option (Value × St)
  | .pure f xs => (f (xs.map (evA t))).map fun v => (v, A)
  | .read f xs => (f A (xs.map (evA t))).map fun v => (v, A)
  | .make f xs => (f (xs.map (evA t))).map fun p => (p.2 A.next, A.new p.1)
  | .act f xs => f A (xs.map (evA t))
  | .call f args => (calleeVal (args.map (evA t)) (evA t f)).bind fun p => call p.1 p.2 A
  | .bad => none

def opsV (P : Program) (call : CallF) (all : List Oper) : List Oper → Tm → St → Option (Tm × St)
  | [], t, A => some (t, A)
  | o :: os, t, A =>
    (wantedA all t o.guard).bind fun wd =>
      cond wd ((insV call t A (compile P o.op)).bind fun p => opsV P call all os (putT t o.dst p.1) p.2) (opsV P call all os (putT t o.dst undef) A)

/-! ### A region that draws its order -/
/- What an operation of such a region has done, in the order of the text: nothing of the store; it read; it made a block; it turned the store into another. -/
inductive Did where
  | val
  | read (f : St → List Value → Option Value) (vs : List Value)
  | make (id : Nat) (obj : AObj)
  | act (post : St)
structure Rec where
  i : Nat
  v : Value
  nx : Nat
  did : Did

def binds (e : Edge) : Bool :=
  match e.ground with
  | .textOnly _ => false
  | .gcOnly _ => false
  | _ => true
/-- the operations that each one waits for, as bits -/
def befOne (acc : List Nat) : List Edge → Nat
  | [] => 0
  | e :: es => cond (binds e) (Nat.lor (Nat.lor (Nat.shiftLeft 1 e.on) (acc.getD e.on 0)) (befOne acc es)) (befOne acc es)
def befAll (acc : List Nat) : List Oper → List Nat
  | [] => acc
  | o :: os => befAll (acc ++ [befOne acc o.after.toList]) os
def bef (b : List Nat) (i j : Nat) : Bool := Nat.testBit (b.getD i 0) j
def befE (b : List Nat) (e : Option Nat) (j : Nat) : Bool :=
  match e with
  | some e => bef b e j
  | none => false

def opTmps : List Operand → List Tmp
  | [] => []
  | .tmp t :: xs => t :: opTmps xs
  | _ :: xs => opTmps xs
def insXs : Ins → List Operand
  | .pure _ xs => xs
  | .read _ xs => xs
  | .make _ xs => xs
  | .act _ xs => xs
  | .call f xs => f :: xs
  | .bad => []
def guardTmp (all : List Oper) (o : Oper) : List Tmp :=
  match o.guard with
  | some (j, _) => (((all[j]?).bind (·.dst)).map fun d => [d]).getD []
  | none => []
def looks (P : Program) (all : List Oper) (o : Oper) : List Tmp := guardTmp all o ++ opTmps (insXs (compile P o.op))
def hits (d : Option Tmp) (l : List Tmp) : Bool :=
  match d with
  | some d => l.any (Nat.beq d)
  | none => false
def sameDst (d e : Option Tmp) : Bool :=
  match d, e with
  | some d, some e => Nat.beq d e
  | _, _ => false
/-- do two operations name one temporary that one of them writes? -/
def clash (P : Program) (all : List Oper) (x y : Oper) : Bool := hits x.dst (looks P all y) || hits y.dst (looks P all x) || sameDst x.dst y.dst
def clashes (P : Program) (all : List Oper) (b : List Nat) (i : Nat) (y : Oper) : List Oper → Nat → Bool
  | [], _ => true
  | x :: xs, j => (Nat.ble i j || !clash P all x y || bef b i j) && clashes P all b i y xs (Nat.succ j)
def regionOkFrom (P : Program) (all : List Oper) (b : List Nat) : List Oper → Nat → Bool
  | [], _ => true
  | o :: os, i => o.after.toList.all (fun e => !binds e || Nat.blt e.on i) && clashes P all b i o all 0 && regionOkFrom P all b os (Nat.succ i)
def regionOk (P : Program) (all : List Oper) : Bool := regionOkFrom P all (befAll [] all) all 0

def postOf (A0 : St) (e : Nat) : List Rec → St
  | [] => A0
  | r :: R => match r.did with
    | .act B => cond (Nat.beq r.i e) B (postOf A0 e R)
    | _ => postOf A0 e R
def postE (A0 : St) (R : List Rec) : Option Nat → St
  | some e => postOf A0 e R
  | none => A0
def St.lay (A : St) (id : Nat) (o : AObj) : St := { A with heap := A.heap.set o id }
def commit (sel : Nat → Bool) (A : St) : List Rec → St
  | [] => A
  | r :: R => match r.did with
    | .make id o => cond (sel r.i) ((commit sel A R).lay id o) (commit sel A R)
    | _ => commit sel A R
/-- the store behind the effect e, with the new blocks that sel names and that are not in it yet -/
def viewE (b : List Nat) (A0 : St) (R : List Rec) (e : Option Nat) (sel : Nat → Bool) : St := commit (fun j => sel j && !befE b e j) (postE A0 R e) R
def lastE : List Rec → Option Nat
  | [] => none
  | r :: R => match r.did with
    | .act _ => some r.i
    | _ => lastE R
def nxAt (A0 : St) : List Rec → Nat
  | [] => A0.next
  | r :: _ => r.nx
def St.at (A : St) (n : Nat) : St := { A with next := n }

def recIns (call : CallF) (b : List Nat) (A0 : St) (R : List Rec) (i : Nat) (t : Tm) : Ins → Option Rec
  | .pure f xs => (f (xs.map (evA t))).map fun v => ⟨i, v, nxAt A0 R, .val⟩
  | .read f xs => (f (viewE b A0 R (lastE R) (bef b i)) (xs.map (evA t))).map fun v => ⟨i, v, nxAt A0 R, .read f (xs.map (evA t))⟩
  | .make f xs => (f (xs.map (evA t))).map fun p => ⟨i, p.2 (nxAt A0 R), Nat.succ (nxAt A0 R), .make (nxAt A0 R) p.1⟩
  | .act f xs => (f ((viewE b A0 R (lastE R) (bef b i)).at (nxAt A0 R)) (xs.map (evA t))).bind fun p => cond (Nat.ble (nxAt A0 R) p.2.next) (some ⟨i, p.1, p.2.next, .act p.2⟩) none
  | .call f args => (calleeVal (args.map (evA t)) (evA t f)).bind fun p => (call p.1 p.2 ((viewE b A0 R (lastE R) (bef b i)).at (nxAt A0 R))).bind fun q => cond (Nat.ble (nxAt A0 R) q.2.next) (some ⟨i, q.1, q.2.next, .act q.2⟩) none
  | .bad => none
def recV (P : Program) (call : CallF) (b : List Nat) (all : List Oper) (A0 : St) (R : List Rec) (i : Nat) (t : Tm) (o : Oper) : Option Rec :=
  (wantedA all t o.guard).bind fun wd => cond wd (recIns call b A0 R i t (compile P o.op)) (some ⟨i, undef, nxAt A0 R, .val⟩)
def traceV (P : Program) (call : CallF) (b : List Nat) (all : List Oper) (A0 : St) : List Oper → Nat → List Rec → Tm → Option (List Rec × Tm)
  | [], _, R, t => some (R, t)
  | o :: os, i, R, t => (recV P call b all A0 R i t o).bind fun r => traceV P call b all A0 os (Nat.succ i) (r :: R) (putT t o.dst r.v)

/- two values are one -/
mutual
def sameV : Value → Value → Bool
  | .bool a, .bool b => a == b
  | .int j a, .int k b => decide (j = k) && a == b
  | .float j a, .float k b => decide (j = k) && a == b
  | .complex j a c, .complex k b d => decide (j = k) && a == b && c == d
  | .string a, .string b => decide (a.data.toList = b.data.toList)
  | .pointer a, .pointer b => decide (a = b)
  | .slice a n c, .slice b m d => decide (a = b) && n == m && c == d
  | .map a, .map b => decide (a = b)
  | .func fn f c, .func gn g d => decide (fn = gn) && sameA f g && sameA c d
  | .nilFunc, .nilFunc => true
  | .iface t v, .iface u w => t == u && sameV v w
  | .nilIface, .nilIface => true
  | .agg a, .agg b => sameA a b
  | .tuple a, .tuple b => sameA a b
  | _, _ => false
def sameA : Array Value → Array Value → Bool
  | ⟨l⟩, ⟨m⟩ => sameL l m
def sameL : List Value → List Value → Bool
  | [], [] => true
  | v :: l, w :: m => sameV v w && sameL l m
  | _, _ => false
end
/- a value names no block from n on -/
mutual
def under (n : Nat) : Value → Bool
  | .pointer (some a) => Nat.blt a.block n
  | .slice (some a) _ _ => Nat.blt a.block n
  | .map (some r) => Nat.blt r n
  | .func _ f c => underA n f && underA n c
  | .iface _ v => under n v
  | .agg a => underA n a
  | .tuple a => underA n a
  | _ => true
def underA (n : Nat) : Array Value → Bool
  | ⟨l⟩ => underL n l
def underL (n : Nat) : List Value → Bool
  | [] => true
  | v :: l => under n v && underL n l
end
def sameO (v : Value) : Option Value → Bool
  | some w => sameV w v
  | none => false

/-- may the effect e be the last one when the operation i comes? (those of R that i waits for are done, those that wait for i are not) -/
def mayE (b : List Nat) (i : Nat) (e : Option Nat) : List Rec → Bool
  | [] => true
  | r :: R => (match r.did with
    | .act _ => match e with
      | some e => (!bef b i r.i || Nat.ble r.i e) && (!bef b r.i i || Nat.blt e r.i)
      | none => !bef b i r.i
    | _ => true) && mayE b i e R
def effects : List Rec → List (Option Nat)
  | [] => [none]
  | r :: R => match r.did with
    | .act _ => some r.i :: effects R
    | _ => effects R
def readOk (b : List Nat) (A0 : St) (R : List Rec) (r : Rec) (f : St → List Value → Option Value) (vs : List Value) : List (Option Nat) → Bool
  | [] => true
  | e :: es => cond (mayE b r.i e R) (sameO r.v (f (viewE b A0 R e (bef b r.i)) vs)) true && readOk b A0 R r f vs es
def readsOk (b : List Nat) (A0 : St) (R : List Rec) (es : List (Option Nat)) : List Rec → Bool
  | [] => true
  | r :: rs => (match r.did with
    | .read f vs => under r.nx r.v && readOk b A0 R r f vs es
    | _ => true) && readsOk b A0 R es rs
/-- the effects wait for each other, in the order of the text -/
def chainOk (b : List Nat) : List Rec → Bool
  | [] => true
  | r :: R => (match r.did with
    | .act _ => match lastE R with
      | some e => bef b r.i e
      | none => true
    | _ => true) && chainOk b R
def drawnV (P : Program) (call : CallF) (all : List Oper) (t : Tm) (A : St) : Option (Tm × St) :=
  cond (regionOk P all)
    ((traceV P call (befAll [] all) all A all 0 [] t).bind fun p =>
      cond (chainOk (befAll [] all) p.1 && readsOk (befAll [] all) A p.1 (effects p.1) p.1)
        (some (p.2, (viewE (befAll [] all) A p.1 (lastE p.1) (fun _ => true)).at (nxAt A p.1))) none)
    none

def loopV (body : Tm → St → Option (AExit × Tm × St)) : Nat → Tm → St → Option (AExit × Tm × St)
  | 0, _, _ => none
  | n + 1, t, A =>
    match body t A with
    | some (.normal, t', B) => loopV body n t' B
    | r => r

abbrev Ran := Option (AExit × Tm × St)
def andThenV (r : Ran) (f : Tm → St → Ran) : Ran :=
  match r with
  | some (.normal, t, A) => f t A
  | r => r
/-- a scope: jumps to its labels -/
def scopeV (jump : Nat → Option (Tm → St → Ran)) : Nat → Ran → Ran
  | 0, _ => none
  | n + 1, some (.goto l, t, A) =>
    match jump l with
    | some f => scopeV jump n (f t A)
    | none => some (.goto l, t, A)
  | _ + 1, r => r
mutual
def codeV (P : Program) (call : CallF) (L : Nat) : Code → Tm → St → Ran
  | .skip, t, A => some (.normal, t, A)
  | .label _, t, A => some (.normal, t, A)
  | .ret, t, A => some (.ret, t, A)
  | .exit id, t, A => some (.exit id, t, A)
  | .goto l, t, A => some (.goto l, t, A)
  | .region _ ops false, t, A => (opsV P call ops.toList ops.toList t A).map fun p => (.normal, p)
  | .region _ ops true, t, A => (drawnV P call ops.toList t A).map fun p => (.normal, p)
  | .seq a b, t, A => andThenV (codeV P call L a t A) fun t' B => codeV P call L b t' B
  | .cond c a b, t, A =>
    match evA t c with
    | .bool x => cond x (codeV P call L a t A) (codeV P call L b t A)
    | _ => none
  | .block id body, t, A =>
    match codeV P call L body t A with
    | some (.exit id', t', B) => cond (Nat.beq id' id) (some (.normal, t', B)) (some (.exit id', t', B))
    | r => r
  | .loop body, t, A => loopV (fun t' B => codeV P call L body t' B) L t A
  | .scope body, t, A => scopeV (fun l => fromV P call L body l) L (codeV P call L body t A)
  | .rangeFunc _ _ _ _, _, _ => none
  | .refuse _, _, _ => none
/-- the code behind a label -/
def fromV (P : Program) (call : CallF) (L : Nat) : Code → Nat → Option (Tm → St → Ran)
  | .seq a b, l =>
    match fromV P call L a l with
    | some f => some fun t A => andThenV (f t A) fun t' B => codeV P call L b t' B
    | none => fromV P call L b l
  | .label l', l => cond (l' == l) (some fun t A => some (.normal, t, A)) none
  | .skip, _ => none
  | .ret, _ => none
  | .exit _, _ => none
  | .goto _, _ => none
  | .region _ _ _, _ => none
  | .cond _ _ _, _ => none
  | .block _ _, _ => none
  | .loop _, _ => none
  | .scope _, _ => none
  | .rangeFunc _ _ _ _, _ => none
  | .refuse _, _ => none
end

def argTmps : List Value → Nat → Tm → Tm
  | [], _, t => t
  | v :: vs, i, t => argTmps vs (Nat.succ i) (t.set v i)

def resultsA (P : Program) (A : St) (t : Tm) : List ResultVar → Option (List Value)
  | [] => some []
  | .tmp x :: rs => (resultsA P A t rs).map (evA t (.tmp x) :: ·)
  | .cell a ty :: rs => (loadAt P ty A (evA t (.tmp a))).bind fun v => (resultsA P A t rs).map (v :: ·)

def packResults : List Value → Value
  | [v] => v
  | vs => .tuple ⟨vs⟩

/-- behind a call: if nothing old has turned and the answer names nothing new, the store is the caller's -/
def St.leave (A B : St) (v : Value) : St :=
  cond (flat v && Nat.ble A.next B.low) A { B with low := Nat.min A.low B.low }
def St.enter (A : St) : St := { A with low := A.next }

def bodyV (P : Program) (call : CallF) (L : Nat) (fn : Func) (args : List Value) (A : St) (c : Code) : Option (Value × St) :=
  match codeV P call L c (argTmps args 0 .leaf) A.enter with
  | some (.exit _, _, _) => none
  | some (.goto _, _, _) => none
  | some (_, t, B) => (resultsA P B t fn.results.toList).map fun vs => (packResults vs, A.leave B (packResults vs))
  | none => none

/- functions that are told whole -/
abbrev Told := FuncId → Option (List Value → St → Option (Value × St))
def callV (P : Program) (S : Told) (L : Nat) : Nat → CallF
  | 0, _, _, _ => none
  | n + 1, f, args, A =>
    match S f with
    | some g => g args A
    | none => (P.funcs.toList[f]?).bind fun fn => fn.body.bind fun c => bodyV P (callV P S L n) L fn args A c
def noneTold : Told := fun _ => none
/-- slices.Insert at some types: the function's number, the size of an element in cells and in bytes -/
def insertTold : List (FuncId × Nat × Nat) → Told
  | [], _ => none
  | (g, n, b) :: l, f => cond (Nat.beq f g) (some fun args A => fInsert n b A args) (insertTold l f)

/-! ## What is asked of the program, once -/
def dstOk (n : Nat) (o : Oper) : Bool :=
  match o.dst with
  | some d => Nat.blt d n
  | none => true
def codeOk (n : Nat) : Code → Bool
  | .region _ ops _ => ops.toList.all (dstOk n)
  | .seq a b => codeOk n a && codeOk n b
  | .cond _ a b => codeOk n a && codeOk n b
  | .block _ body => codeOk n body
  | .loop body => codeOk n body
  | .rangeFunc _ _ a b => codeOk n a && codeOk n b
  | .scope body => codeOk n body
  | _ => true
def funcOk (fn : Func) : Bool :=
  match fn.body with
  | some c => codeOk fn.ntmps c && !(fn.name == "runtime.NumGoroutine")
  | none => true

def St.empty : St := { heap := .leaf, next := 0, low := 0, fams := .leaf }
def saysTrue : Option (Value × St) → Bool
  | some (.bool b, _) => b
  | _ => false
end Go.Abs
