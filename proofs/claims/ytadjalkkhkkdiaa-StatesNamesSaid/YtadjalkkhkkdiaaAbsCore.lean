/-
  The abstract machine: a deterministic evaluator of Go code over an abstract store (own definitions; nothing of the program).
-/
import Derived.WalkKit
namespace Go.Abs

/-! ## A map from numbers -/
inductive Trie (α : Type) where
  | leaf : Trie α
  | node : Option α → Trie α → Trie α → Trie α

def Trie.get {α : Type} : Trie α → Nat → Option α
  | .leaf, _ => none
  | .node v l r, n =>
    match n with
    | 0 => v
    | m + 1 => cond (Nat.beq (Nat.mod m 2) 0) (l.get (Nat.div m 2)) (r.get (Nat.div m 2))

def Trie.single {α : Type} (v : α) : Nat → Nat → Trie α
  | 0, _ => .leaf
  | f + 1, n =>
    match n with
    | 0 => .node (some v) .leaf .leaf
    | m + 1 => cond (Nat.beq (Nat.mod m 2) 0) (.node none (single v f (Nat.div m 2)) .leaf) (.node none .leaf (single v f (Nat.div m 2)))

def Trie.set {α : Type} (v : α) : Trie α → Nat → Trie α
  | .leaf, n => single v (Nat.succ n) n
  | .node x l r, n =>
    match n with
    | 0 => .node (some v) l r
    | m + 1 => cond (Nat.beq (Nat.mod m 2) 0) (.node x (set v l (Nat.div m 2)) r) (.node x l (set v r (Nat.div m 2)))

theorem Trie.get_single {α : Type} (v : α) : ∀ (f n k : Nat), n < f → (single v f n).get k = if k = n then some v else none
  | 0, n, k, h => by omega
  | f + 1, 0, k, _ => by cases k <;> simp [single, get]
  | f + 1, m + 1, k, h => by
    have hd : Nat.div m 2 < f := by have : m / 2 ≤ m := Nat.div_le_self _ _; show m / 2 < f; omega
    have ih := fun k => get_single v f (Nat.div m 2) k hd
    have ed : Nat.div m 2 = m / 2 := rfl
    simp only [single]
    cases hb : Nat.beq (Nat.mod m 2) 0 with
    | true =>
      have h0 : m % 2 = 0 := Nat.eq_of_beq_eq_true hb
      cases k with
      | zero => simp [get]
      | succ k =>
        have edk : Nat.div k 2 = k / 2 := rfl
        simp only [cond_true, get]
        cases hk : Nat.beq (Nat.mod k 2) 0 with
        | true =>
          have hk0 : k % 2 = 0 := Nat.eq_of_beq_eq_true hk
          rw [cond_true, ih, ed, edk]
          by_cases hkm : k = m
          · subst hkm; simp
          · rw [if_neg (by omega), if_neg (by omega)]
        | false =>
          have hk0 : k % 2 ≠ 0 := Nat.ne_of_beq_eq_false hk
          rw [cond_false, if_neg (by intro e; have : k = m := by omega
                                     subst this; exact hk0 h0)]
    | false =>
      have h0 : m % 2 ≠ 0 := Nat.ne_of_beq_eq_false hb
      cases k with
      | zero => simp [get]
      | succ k =>
        have edk : Nat.div k 2 = k / 2 := rfl
        simp only [cond_false, get]
        cases hk : Nat.beq (Nat.mod k 2) 0 with
        | true =>
          have hk0 : k % 2 = 0 := Nat.eq_of_beq_eq_true hk
          rw [cond_true, if_neg (by intro e; have : k = m := by omega
                                    subst this; exact h0 hk0)]
        | false =>
          have hk0 : k % 2 ≠ 0 := Nat.ne_of_beq_eq_false hk
          rw [cond_false, ih, ed, edk]
          by_cases hkm : k = m
          · subst hkm; simp
          · rw [if_neg (by omega), if_neg (by omega)]

theorem Trie.get_set {α : Type} (v : α) : ∀ (t : Trie α) (n k : Nat), (set v t n).get k = if k = n then some v else t.get k
  | .leaf, n, k => by simp [set, get_single v (Nat.succ n) n k (Nat.lt_succ_self n), get]
  | .node x l r, 0, k => by cases k <;> simp [set, get]
  | .node x l r, m + 1, k => by
    have ihl := fun k => get_set v l (Nat.div m 2) k
    have ihr := fun k => get_set v r (Nat.div m 2) k
    have ed : Nat.div m 2 = m / 2 := rfl
    simp only [set]
    cases hb : Nat.beq (Nat.mod m 2) 0 with
    | true =>
      have h0 : m % 2 = 0 := Nat.eq_of_beq_eq_true hb
      cases k with
      | zero => simp [get]
      | succ k =>
        have edk : Nat.div k 2 = k / 2 := rfl
        simp only [cond_true, get]
        cases hk : Nat.beq (Nat.mod k 2) 0 with
        | true =>
          have hk0 : k % 2 = 0 := Nat.eq_of_beq_eq_true hk
          rw [cond_true, cond_true, ihl, ed, edk]
          by_cases hkm : k = m
          · subst hkm; simp
          · rw [if_neg (by omega), if_neg (by omega)]
        | false =>
          have hk0 : k % 2 ≠ 0 := Nat.ne_of_beq_eq_false hk
          rw [cond_false, cond_false, if_neg (by intro e; have : k = m := by omega
                                                 subst this; exact hk0 h0)]
    | false =>
      have h0 : m % 2 ≠ 0 := Nat.ne_of_beq_eq_false hb
      cases k with
      | zero => simp [get]
      | succ k =>
        have edk : Nat.div k 2 = k / 2 := rfl
        simp only [cond_false, get]
        cases hk : Nat.beq (Nat.mod k 2) 0 with
        | true =>
          have hk0 : k % 2 = 0 := Nat.eq_of_beq_eq_true hk
          rw [cond_true, cond_true, if_neg (by intro e; have : k = m := by omega
                                               subst this; exact h0 hk0)]
        | false =>
          have hk0 : k % 2 ≠ 0 := Nat.ne_of_beq_eq_false hk
          rw [cond_false, cond_false, ihr, ed, edk]
          by_cases hkm : k = m
          · subst hkm; simp
          · rw [if_neg (by omega), if_neg (by omega)]

/-! ## The abstract store -/
/- A row: its cells; how many cells an element has; may it be written; 'kin': none: its concrete row ends where it ends; some (family, place): it may share its concrete row with others of the family. -/
inductive AObj where
  | row (cells : List Value) (esz : Nat) (own : Bool) (kin : Option (Nat × Nat))
  | map (es : List (Value × Value))
  | iter (s : List UInt8) (pos : Nat)
  | dead

structure St where
  heap : Trie AObj
  next : Nat
  low : Nat
  fams : Trie (List Nat)

def St.get (A : St) (b : Nat) : Option AObj := A.heap.get b
def St.members (A : St) (fam : Nat) : List Nat := (A.fams.get fam).getD []
def St.new (A : St) (o : AObj) : St := { A with heap := A.heap.set o A.next, next := Nat.succ A.next }
def St.put (A : St) (b : Nat) (o : AObj) : St := { A with heap := A.heap.set o b, low := Nat.min A.low b }
def St.join (A : St) (fam b : Nat) : St := { A with fams := A.fams.set (b :: A.members fam) fam }

/-- do two ranges meet? -/
def meets (lo hi lo' hi' : Nat) : Bool := Nat.blt lo hi' && Nat.blt lo' hi
/-- is the member x of the family one that a write to the range [lo, hi) makes stale? -/
def stale (o : Option AObj) (lo hi : Nat) : Bool :=
  match o with
  | some (.row cs _ _ (some (_, foff))) => meets lo hi foff (foff + cs.length)
  | _ => false
/-- the members of a family but b that meet the range are told no more -/
def St.kill (A : St) (b lo hi : Nat) : List Nat → St
  | [] => A
  | x :: xs => cond (!(Nat.beq x b) && stale (A.get x) lo hi) ((A.put x .dead).kill b lo hi xs) (A.kill b lo hi xs)
def St.killKin (A : St) (b : Nat) (kin : Option (Nat × Nat)) (lo hi : Nat) : St :=
  match kin with
  | none => A
  | some (fam, foff) => A.kill b (foff + lo) (foff + hi) (A.members fam)

def takeN : Nat → List Value → Option (List Value)
  | 0, _ => some []
  | _ + 1, [] => none
  | n + 1, x :: xs => (takeN n xs).map (x :: ·)
def dropN : Nat → List Value → List Value
  | 0, l => l
  | _ + 1, [] => []
  | n + 1, _ :: xs => dropN n xs
/-- the cells from n on written by vs; none where they do not lie -/
def writeN : Nat → List Value → List Value → Option (List Value)
  | 0, l, [] => some l
  | 0, [], _ :: _ => none
  | 0, _ :: l, v :: vs => (writeN 0 l vs).map (v :: ·)
  | _ + 1, [], [] => some []
  | _ + 1, [], _ :: _ => none
  | n + 1, x :: l, vs => (writeN n l vs).map (x :: ·)

def plainAddr (a : Addr) : Bool := a.spot.isNone

def rowCells (A : St) (b : Nat) : Option (List Value) :=
  match A.get b with
  | some (.row cs _ _ _) => some cs
  | _ => none

def St.loadN (A : St) (a : Addr) (n : Nat) : Option (List Value) :=
  cond (plainAddr a) ((rowCells A a.block).bind fun cs => takeN n (dropN a.off cs)) none

/-- a value of one cell (a channel: one that is not known) -/
def scalar : Value → Bool
  | .agg _ | .tuple _ | .chan _ => false
  | _ => true

def St.storeN (A : St) (a : Addr) (vs : List Value) : Option St :=
  cond (plainAddr a && vs.all scalar)
    (match A.get a.block with
    | some (.row cs esz true kin) => (writeN a.off cs vs).map fun cs' => (A.put a.block (.row cs' esz true kin)).killKin a.block kin a.off (a.off + vs.length)
    | _ => none)
    none

/-- a value that is known -/
def known : Value → Bool
  | .chan _ => false
  | _ => true

/-! ## Types -/
def size? (P : Program) (t : TypeId) : Option Nat := (P.info? t).map (·.size)
def bytes? (P : Program) (t : TypeId) : Option Nat := (P.info? t).map (·.bytes)
def zero? (P : Program) (t : TypeId) : Option Value := (P.info? t).bind (·.zero)
def isAggD : TypeDesc → Bool
  | .struct _ | .array _ _ => true
  | _ => false
def agg? (P : Program) (t : TypeId) : Option Bool := (P.underlying t).map isAggD

/-! ## What needs no store -/
def pureRun {α : Type} (P : Program) : Sem α → Option α
  | .pure a => some a
  | .program k => pureRun P (k P)
  | .mark _ k => pureRun P k
  | _ => none

/- holds no address -/
mutual
def flat : Value → Bool
  | .bool _ | .int _ _ | .float _ _ | .complex _ _ _ | .string _ | .pointer none | .slice none _ _ | .map none | .nilFunc | .nilIface => true
  | .agg cs => flatA cs
  | .tuple cs => flatA cs
  | .iface _ v => flat v
  | _ => false
def flatA : Array Value → Bool
  | ⟨l⟩ => flatL l
def flatL : List Value → Bool
  | [] => true
  | v :: vs => flat v && flatL vs
end

/-- a part of a struct's or an array's cells -/
def partOf (P : Program) (t : TypeId) (cs : List Value) (off : Nat) : Option Value :=
  match agg? P t with
  | some true => (size? P t).bind fun n => (takeN n (dropN off cs)).map fun l => .agg ⟨l⟩
  | some false => (dropN off cs).head?
  | none => none

def loadAt (P : Program) (t : TypeId) (A : St) : Value → Option Value
  | .pointer (some a) =>
    match agg? P t with
    | some true => (size? P t).bind fun n => (A.loadN a n).map fun l => .agg ⟨l⟩
    | some false => (A.loadN a 1).bind (·.head?)
    | none => none
  | _ => none

def storeAt (P : Program) (t : TypeId) (A : St) : Value → Value → Option St
  | .pointer (some a), v => cond (decide (some v.cells.size = size? P t)) (A.storeN a v.cells.toList) none
  | _, _ => none

def fillC (place : Nat → Option (Nat × Nat)) (cells : List Value) : List (Nat × Value) → Option (List Value)
  | [] => some cells
  | (i, v) :: rest =>
    match place i with
    | some (off, size) => cond (Nat.beq v.cells.size size && Nat.ble 1 size) ((writeN off cells v.cells.toList).bind fun cs => fillC place cs rest) none
    | none => none

def repeatL (l : List Value) : Nat → List Value
  | 0 => []
  | n + 1 => l ++ repeatL l n

/-- '==' of what is no number and no text -/
def eqV (P : Program) (t : TypeId) (x y : Value) : Option Bool :=
  match P.underlying t, x, y with
  | some (.pointer _), .pointer none, .pointer b => some b.isNone
  | some (.pointer _), .pointer (some _), .pointer none => some false
  | some (.slice _), .slice none _ _, .slice b _ _ => some b.isNone
  | some (.slice _), .slice (some _) _ _, .slice none _ _ => some false
  | some (.map _ _), .map none, .map b => some b.isNone
  | some (.map _ _), .map (some _), .map none => some false
  | some (.func _ _ _), .nilFunc, .nilFunc => some true
  | some (.func _ _ _), .nilFunc, .func _ _ _ => some false
  | some (.func _ _ _), .func _ _ _, .nilFunc => some false
  | _, x, y => cond (flat x && flat y) (pureRun P (Op.equal t x y)) none
def eqable : Value → Bool
  | .bool _ | .pointer _ | .slice _ _ _ | .map _ | .func _ _ _ | .nilFunc | .iface _ _ | .nilIface | .agg _ => true
  | _ => false
/-- what two nil interface values, and structs that may hold them, want -/
def eqSure (P : Program) (t : TypeId) (lit : Bool) (x y : Value) : Bool :=
  match x, y with
  | .nilIface, .nilIface => lit
  | .agg _, .agg _ => !P.eqGuardType P.depth t
  | _, _ => true
def eqFull (P : Program) (t : TypeId) (lit : Bool) (x y : Value) : Option Bool :=
  cond (eqable x && eqable y && eqSure P t lit x y) (eqV P t x y) none

/-! ## The operations -/
/- An operation by what it needs: values alone; the store, to be read; a new block; the store, to be written; a Go function. -/
inductive Ins where
  | pure (f : List Value → Option Value) (xs : List Operand)
  | read (f : St → List Value → Option Value) (xs : List Operand)
  | make (f : List Value → Option (AObj × (Nat → Value))) (xs : List Operand)
  | act (f : St → List Value → Option (Value × St)) (xs : List Operand)
  | call (f : Operand) (args : List Operand)
  | bad

def atNew (n : Nat) : Value := .pointer (some ⟨n, 0, none⟩)
def varObj (v : Value) : AObj := .row v.cells.toList 1 true none

def fMove : List Value → Option Value
  | [x] => some x
  | _ => none
def fPick : List Value → Option Value
  | [.bool t, a, b] => some (cond t a b)
  | _ => none
def fAlloc (P : Program) (t : TypeId) (_ : List Value) : Option (AObj × (Nat → Value)) :=
  (zero? P t).bind fun z => cond (flat z && z.cells.toList.all scalar) (some (varObj z, atNew)) none
def fBox : List Value → Option (AObj × (Nat → Value))
  | [v] => cond (v.cells.toList.all scalar) (some (varObj v, atNew)) none
  | _ => none
def zipIdx : List Nat → List Value → List (Nat × Value)
  | i :: is, v :: vs => (i, v) :: zipIdx is vs
  | _, _ => []
def placesOf (P : Program) (fs : List Field) : Option (List (Nat × Nat)) := fs.mapM fun f => (P.info? f.type).map fun i => (f.offset, i.size)
def strideOf (n i : Nat) : Option (Nat × Nat) := some (i * n, n)
def placeAt (l : List (Nat × Nat)) (i : Nat) : Option (Nat × Nat) := l[i]?
def mkAgg (l : List Value) : Value := .agg ⟨l⟩
def fBuildAt (place : Nat → Option (Nat × Nat)) (z : Value) (is : List Nat) (vs : List Value) : Option Value :=
  cond (flat z && vs.all known) ((fillC place z.cells.toList (zipIdx is vs)).map mkAgg) none
def insBuild (P : Program) (t : TypeId) (is : List Nat) (xs : List Operand) : Ins :=
  match zero? P t, P.underlying t with
  | some z, some (.struct fields) =>
    match placesOf P fields.toList with
    | some l => .pure (fBuildAt (placeAt l) z is) xs
    | none => .bad
  | some z, some (.array _ e) =>
    match size? P e with
    | some n => .pure (fBuildAt (strideOf n) z is) xs
    | none => .bad
  | _, _ => .bad
def fBuildSlice (n : Nat) (z : Value) (len : Nat) (is : List Nat) (vs : List Value) : Option (AObj × (Nat → Value)) :=
  (fillC (strideOf n) (repeatL z.cells.toList len) (zipIdx is vs)).bind fun l =>
    cond (l.all scalar && vs.all known) (some (.row l n true none, fun b => .slice (some ⟨b, 0, none⟩) len len)) none
def insBuildSlice (P : Program) (t : TypeId) (len : Nat) (is : List Nat) (xs : List Operand) : Ins :=
  match P.underlying t with
  | some (.slice e) =>
    match size? P e, zero? P e with
    | some n, some z => cond (Nat.ble (len * n) 16777216 && Nat.beq z.cells.size n && Nat.ble 1 n && flat z) (.make (fBuildSlice n z len is) xs) .bad
    | _, _ => .bad
  | _ => .bad
def fLoad (P : Program) (t : TypeId) (A : St) : List Value → Option Value
  | [a] => loadAt P t A a
  | _ => none
def fStore (P : Program) (t : TypeId) (A : St) : List Value → Option (Value × St)
  | [a, v] => (storeAt P t A a v).map fun B => (undef, B)
  | _ => none
def fNilCheck : List Value → Option Value
  | [.pointer (some a)] => some (.pointer (some a))
  | [.func (.func f) first cap] => some (.func (.func f) first cap)
  | _ => none
def fBin (P : Program) (op : BinOp) (t : TypeId) (lit : Bool) : List Value → Option Value
  | [.int j a, .int k b] => pureRun P (binOp op t (.int j a) (.int k b))
  | [.string a, .string b] => pureRun P (binOp op t (.string a) (.string b))
  | [x, y] =>
    match op with
    | .eql => (eqFull P t lit x y).map .bool
    | .neq => (eqFull P t lit x y).map fun b => .bool !b
    | _ => none
  | _ => none
def isConst : Operand → Bool
  | .const _ => true
  | _ => false
def fUn (P : Program) (op : UnOp) : List Value → Option Value
  | [.bool b] => pureRun P (Op.unary op (.bool b))
  | [.int k n] => pureRun P (Op.unary op (.int k n))
  | _ => none
def fConvert (P : Program) (src dst : TypeId) : List Value → Option Value
  | [.int k n] => match P.underlying dst with
    | some (.int _) => pureRun P (convert src dst (.int k n))
    | _ => none
  | _ => none
def fMakeFunc (fn : Fn) (k : Nat) (vs : List Value) : Option Value :=
  (takeN k vs).map fun first => .func fn ⟨first⟩ ⟨dropN k vs⟩
def addTo (a : Addr) (n : Nat) : Option Value := cond (plainAddr a) (some (.pointer (some ⟨a.block, a.off + n, none⟩))) none
def fFieldAddr (off : Nat) : List Value → Option Value
  | [.pointer (some a)] => addTo a off
  | _ => none
def fField (P : Program) (fd : Field) : List Value → Option Value
  | [.agg cs] => partOf P fd.type cs.toList fd.offset
  | _ => none
def inBounds (i : Int) (len : Nat) : Option Nat :=
  match i with
  | .ofNat n => cond (Nat.blt n len) (some n) none
  | .negSucc _ => none
def fIndexArr (len n : Nat) : List Value → Option Value
  | [.pointer (some a), .int _ i] => (inBounds i len).bind fun i => addTo a (i * n)
  | _ => none
def fIndexSl (n : Nat) : List Value → Option Value
  | [.slice (some a) len _, .int _ i] => (inBounds i len).bind fun i => addTo a (i * n)
  | _ => none
def fIndexAgg (P : Program) (len n : Nat) (e : TypeId) : List Value → Option Value
  | [.agg cs, .int _ i] => (inBounds i len).bind fun i => partOf P e cs.toList (i * n)
  | _ => none
def fIndexStr : List Value → Option Value
  | [.string s, .int _ i] => (inBounds i s.size).bind fun i => (s.data.toList[i]?).map fun b => .int .u8 b.toNat
  | _ => none
def fExtract (i : Nat) : List Value → Option Value
  | [.tuple vs] => vs.toList[i]?
  | _ => none
def fLenSl : List Value → Option Value
  | [.slice _ n _] => some (.int .i64 (Int.ofNat n))
  | _ => none
def fLenStr : List Value → Option Value
  | [.string s] => some (.int .i64 (Int.ofNat s.size))
  | _ => none

def insOfStruct (P : Program) (s : TypeId) (f : Nat) : Option Field :=
  match P.underlying s with
  | some (.struct fields) => fields.toList[f]?
  | _ => none
def insFieldAddr (P : Program) (s : TypeId) (x : Operand) (f : Nat) : Ins :=
  match insOfStruct P s f with
  | some fd => match size? P fd.type with
    | some (_ + 1) => .pure (fFieldAddr fd.offset) [x]
    | _ => .bad
  | none => .bad
def insField (P : Program) (t : TypeId) (x : Operand) (f : Nat) : Ins :=
  match insOfStruct P t f with
  | some fd => .pure (fField P fd) [x]
  | none => .bad
def insIndexAddr (P : Program) (t : TypeId) (x ix : Operand) : Ins :=
  match P.underlying t with
  | some (.array len e) => match size? P e with
    | some n => .pure (fIndexArr len n) [x, ix]
    | none => .bad
  | some (.slice e) => match size? P e with
    | some n => .pure (fIndexSl n) [x, ix]
    | none => .bad
  | _ => .bad
def insIndex (P : Program) (t : TypeId) (x ix : Operand) : Ins :=
  match P.underlying t with
  | some (.array len e) => match size? P e with
    | some n => .pure (fIndexAgg P len n e) [x, ix]
    | none => .bad
  | some .string => .pure fIndexStr [x, ix]
  | _ => .bad
def insLen (P : Program) (argTypes : List TypeId) (args : List Operand) : Ins :=
  match argTypes with
  | [t] => match P.underlying t with
    | some (.slice _) => .pure fLenSl args
    | some .string => .pure fLenStr args
    | _ => .bad
  | _ => .bad
def insBuiltin (P : Program) (b : Builtin) (argTypes : List TypeId) (args : List Operand) : Ins :=
  match b with
  | .len => insLen P argTypes args
  | _ => .bad
def insCall (P : Program) (c : Call) : Ins :=
  match c.callee with
  | .value f => .call f c.args.toList
  | .builtin b => insBuiltin P b c.argTypes.toList c.args.toList
  | .invoke _ _ => .bad

def compile (P : Program) : Op → Ins
  | .move x => .pure fMove [x]
  | .assign x => .pure fMove [x]
  | .pick c a b => .pure fPick [c, a, b]
  | .alloc t => .make (fAlloc P t) []
  | .box _ x => .make fBox [x]
  | .build t parts => insBuild P t (parts.toList.map (·.1)) (parts.toList.map (·.2))
  | .buildSlice t len parts => insBuildSlice P t len (parts.toList.map (·.1)) (parts.toList.map (·.2))
  | .load t a => .read (fLoad P t) [a]
  | .store t a x => .act (fStore P t) [a, x]
  | .nilCheck x => .pure fNilCheck [x]
  | .binOp op t x y _ => .pure (fBin P op t (isConst x || isConst y)) [x, y]
  | .unOp op _ x => .pure (fUn P op) [x]
  | .convert src dst x => .pure (fConvert P src dst) [x]
  | .makeFunc fn first cap => .pure (fMakeFunc fn first.size) (first.toList ++ cap.toList)
  | .fieldAddr s x f => insFieldAddr P s x f
  | .field t x f => insField P t x f
  | .indexAddr t x ix => insIndexAddr P t x ix
  | .index t x ix => insIndex P t x ix
  | .extract t ix => .pure (fExtract ix) [t]
  | .call c => insCall P c
  | _ => .bad

/-! ## Code -/
abbrev Tm := Trie Value
abbrev CallF := FuncId → List Value → St → Option (Value × St)

inductive AExit where
  | normal
  | exit (id : Nat)
  | ret
  deriving DecidableEq

def evA (t : Tm) : Operand → Value
  | .tmp i => (t.get i).getD undef
  | .const v => cond (flat v) v (.chan none)
  | .global _ => .chan none
  | .func f => .func (.func f) #[] #[]

def putT (t : Tm) (dst : Option Tmp) (v : Value) : Tm :=
  match dst with
  | some d => t.set v d
  | none => t

def isWanted (want : Bool) : Option Value → Option Bool
  | some (.bool b) => some (b == want)
  | some (.tuple _) => some false
  | none => some false
  | _ => none
/-- is an operation wanted? (by what the one that it hangs on gave) -/
def wantedA (ops : List Oper) (t : Tm) : Option (Nat × Bool) → Option Bool
  | none => some true
  | some (j, want) => isWanted want (((ops[j]?).bind (·.dst)).bind t.get)

def calleeVal (args : List Value) : Value → Option (FuncId × List Value)
  | .func (.func g) first cap => some (g, first.toList ++ args ++ cap.toList)
  | _ => none

/-- an operation's value, and the store behind it -/
def insV (call : CallF) (t : Tm) (A : St) : Ins → Option (Value × St)
  | .pure f xs => (f (xs.map (evA t))).map fun v => (v, A)
  | .read f xs => (f A (xs.map (evA t))).map fun v => (v, A)
  | .make f xs => (f (xs.map (evA t))).map fun p => (p.2 A.next, A.new p.1)
  | .act f xs => f A (xs.map (evA t))
  | .call f args => (calleeVal (args.map (evA t)) (evA t f)).bind fun p => call p.1 p.2 A
  | .bad => none

def opsV (P : Program) (call : CallF) (all : List Oper) : List Oper → Tm → St → Option (Tm × St)
  | [], t, A => some (t, A)
  | o :: os, t, A =>
    (wantedA all t o.guard).bind fun wd =>
      cond wd ((insV call t A (compile P o.op)).bind fun p => opsV P call all os (putT t o.dst p.1) p.2) (opsV P call all os (putT t o.dst undef) A)

def loopV (body : Tm → St → Option (AExit × Tm × St)) : Nat → Tm → St → Option (AExit × Tm × St)
  | 0, _, _ => none
  | n + 1, t, A =>
    match body t A with
    | some (.normal, t', B) => loopV body n t' B
    | r => r

def codeV (P : Program) (call : CallF) (L : Nat) : Code → Tm → St → Option (AExit × Tm × St)
  | .skip, t, A => some (.normal, t, A)
  | .ret, t, A => some (.ret, t, A)
  | .exit id, t, A => some (.exit id, t, A)
  | .region _ ops false, t, A => (opsV P call ops.toList ops.toList t A).map fun p => (.normal, p)
  | .seq a b, t, A =>
    match codeV P call L a t A with
    | some (.normal, t', B) => codeV P call L b t' B
    | r => r
  | .cond c a b, t, A =>
    match evA t c with
    | .bool x => cond x (codeV P call L a t A) (codeV P call L b t A)
    | _ => none
  | .block id body, t, A =>
    match codeV P call L body t A with
    | some (.exit id', t', B) => cond (Nat.beq id' id) (some (.normal, t', B)) (some (.exit id', t', B))
    | r => r
  | .loop body, t, A => loopV (codeV P call L body) L t A
  | _, _, _ => none

def argTmps : List Value → Nat → Tm → Tm
  | [], _, t => t
  | v :: vs, i, t => argTmps vs (Nat.succ i) (t.set v i)

def resultsA (P : Program) (A : St) (t : Tm) : List ResultVar → Option (List Value)
  | [] => some []
  | .tmp x :: rs => (resultsA P A t rs).map (evA t (.tmp x) :: ·)
  | .cell a ty :: rs => (loadAt P ty A (evA t (.tmp a))).bind fun v => (resultsA P A t rs).map (v :: ·)

def packResults : List Value → Value
  | [v] => v
  | vs => .tuple ⟨vs⟩

/-- behind a call: if nothing old has turned and the answer names nothing new, the store is the caller's -/
def St.leave (A B : St) (v : Value) : St :=
  cond (flat v && Nat.ble A.next B.low) A { B with low := Nat.min A.low B.low }
def St.enter (A : St) : St := { A with low := A.next }

def bodyV (P : Program) (call : CallF) (L : Nat) (fn : Func) (args : List Value) (A : St) (c : Code) : Option (Value × St) :=
  match codeV P call L c (argTmps args 0 .leaf) A.enter with
  | some (.exit _, _, _) => none
  | some (_, t, B) => (resultsA P B t fn.results.toList).map fun vs => (packResults vs, A.leave B (packResults vs))
  | none => none

def callV (P : Program) (L : Nat) : Nat → CallF
  | 0, _, _, _ => none
  | n + 1, f, args, A =>
    (P.funcs.toList[f]?).bind fun fn => fn.body.bind fun c => bodyV P (callV P L n) L fn args A c

/-! ## What is asked of the program, once -/
def dstOk (n : Nat) (o : Oper) : Bool :=
  match o.dst with
  | some d => Nat.blt d n
  | none => true
def codeOk (n : Nat) : Code → Bool
  | .region _ ops _ => ops.toList.all (dstOk n)
  | .seq a b => codeOk n a && codeOk n b
  | .cond _ a b => codeOk n a && codeOk n b
  | .block _ body => codeOk n body
  | .loop body => codeOk n body
  | .rangeFunc _ _ a b => codeOk n a && codeOk n b
  | .scope body => codeOk n body
  | _ => true
def funcOk (fn : Func) : Bool :=
  match fn.body with
  | some c => codeOk fn.ntmps c && !(fn.name == "runtime.NumGoroutine")
  | none => true

def St.empty : St := { heap := .leaf, next := 0, low := 0, fams := .leaf }
def saysTrue : Option (Value × St) → Bool
  | some (.bool b, _) => b
  | _ => false
end Go.Abs
