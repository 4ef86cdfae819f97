/-
  The machine K: an evaluator of Go code over values that are trees where nobody writes (own definitions; nothing of the program). It is run by the kernel over open terms.
-/
import Derived.Test.YtjmpheohljeapaaAbsCode
namespace Go.K
open Go Go.Abs
noncomputable section

/-! ## Values -/
/-- what is known of the places behind a tree's end: nothing; there are none; they are the family's -/
inductive Mk where
  | any
  | exact
  | fam (b : Nat)
inductive KV where
  | int (k : IntKind) (n : Int)
  | bool (b : Bool)
  | str (s : ByteArray)
  | agg (cs : List KV)
  | tup (vs : List KV)
  | ts (T : TypeId) (m : Mk) (n : Nat) (es : List KV) (acc : Nat → KV)
  | tp (T Tc : TypeId) (i k : Nat) (es : List KV) (acc : Nat → KV)
  | ptr (b off : Nat)
  | sl (b off len cap : Nat)
  | nilp
  | nilsl
  | nilmap
  | map (b : Nat)
  | fn (f : Fn) (first cap : List KV)
  | nilfn
  | iface (t : TypeId) (v : KV)
  | nilif
  | unk
instance : Inhabited KV := ⟨.unk⟩
inductive KObj where
  | row (cs : List KV) (esz : Nat)
  | map (es : List (KV × KV))
  | fam (top sz : Nat)
  | dead
structure KSt where
  heap : Trie KObj
  next : Nat
def KSt.empty : KSt := ⟨.leaf, 0⟩
def KSt.get (A : KSt) (b : Nat) : Option KObj := A.heap.get b
def KSt.new (A : KSt) (o : KObj) : KSt := ⟨A.heap.set o A.next, Nat.succ A.next⟩
def KSt.put (A : KSt) (b : Nat) (o : KObj) : KSt := ⟨A.heap.set o b, A.next⟩
abbrev KTm := Trie KV
def ofPairs {α : Type} : List (Nat × α) → Trie α
  | [] => .leaf
  | p :: ps => (ofPairs ps).set p.2 p.1

def KV.cells : KV → List KV
  | .agg cs => cs
  | v => [v]
/-- a value of one cell, that is known -/
def one : KV → Bool
  | .agg _ | .tup _ | .unk => false
  | _ => true
def undefK : KV := .tup []

/- what answers an operation: nothing; a value; a value if something is -/
inductive KR (α : Type) where
  | no
  | ok (v : α)
  | chk (c : Bool) (v : α)
def KR.run {α R : Type} (r : KR α) (k : α → Option R) : Option R :=
  KR.rec (motive := fun _ => Option R) none (fun v => k v) (fun c v => Bool.rec (motive := fun _ => Option R) none (k v) c) r
def KR.map {α β : Type} (f : α → β) : KR α → KR β
  | .no => .no
  | .ok v => .ok (f v)
  | .chk c v => .chk c (f v)
def KR.of {α : Type} : Option α → KR α
  | some v => .ok v
  | none => .no

/-! ## Types -/
inductive CK where
  | int (k : IntKind)
  | bool
  | str
  | slice (t : TypeId)
  | other
structure Lay where
  agg : Bool
  ks : List CK
def repeatK {α : Type} (l : List α) : Nat → List α
  | 0 => []
  | n + 1 => l ++ repeatK l n
def layS (f : TypeId → Option Lay) : List Field → Nat → Option (List CK)
  | [], _ => some []
  | fd :: fs, off => cond (Nat.beq fd.offset off) ((f fd.type).bind fun l => (layS f fs (off + l.ks.length)).map fun r => l.ks ++ r) none
/-- a type's cells -/
def lay (P : Program) : Nat → TypeId → Option Lay
  | 0, _ => none
  | n + 1, t => match P.underlying t with
    | some (.int k) => some ⟨false, [.int k]⟩
    | some .bool => some ⟨false, [.bool]⟩
    | some .string => some ⟨false, [.str]⟩
    | some (.slice e) => some ⟨false, [.slice e]⟩
    | some (.struct fs) => (layS (lay P n) fs.toList 0).map fun ks => ⟨true, ks⟩
    | some (.array len e) => (lay P n e).map fun l => ⟨true, repeatK l.ks len⟩
    | some _ => some ⟨false, [.other]⟩
    | none => none
def layF (P : Program) (t : TypeId) : Lay := (lay P 12 t).getD ⟨false, []⟩

def kindOk : CK → KV → Bool
  | .int k, .int k' _ => decide (k = k')
  | .bool, .bool _ => true
  | .str, .str _ => true
  | .slice t, .ts t' .any _ _ _ => Nat.beq t t'
  | _, _ => false
def kindsOk : List CK → List KV → Bool
  | [], [] => true
  | k :: ks, v :: vs => kindOk k v && kindsOk ks vs
  | _, _ => false
/-- an element of a type -/
def elemOk (l : Lay) : KV → Bool
  | .agg cs => l.agg && kindsOk l.ks cs
  | .tup _ => false
  | v => !l.agg && kindsOk l.ks [v]
def elemsOk (l : Lay) : List KV → Bool
  | [] => true
  | e :: es => elemOk l e && elemsOk l es

def intOf : KV → Int
  | .int _ n => n
  | _ => 0
def boolOf : KV → Bool
  | .bool b => b
  | _ => false
def strOf : KV → ByteArray
  | .str s => s
  | _ => ByteArray.empty
def esOf : KV → List KV
  | .ts _ _ _ es _ => es
  | _ => []
def lenOf : KV → Nat
  | .ts _ _ n _ _ => n
  | _ => 0
def accOf : KV → Nat → KV
  | .ts _ _ _ _ acc => acc
  | _ => fun _ => .unk
/-- a cell, by its kind -/
def leaf (c : CK) (v : KV) : KV :=
  CK.rec (motive := fun _ => KV) (fun k => .int k (intOf v)) (.bool (boolOf v)) (.str (strOf v)) (fun t => .ts t .any (lenOf v) (esOf v) (accOf v)) v c
def leaves (e : KV) : List CK → Nat → List KV
  | [], _ => []
  | c :: cs, k => leaf c (e.cells.getD k .unk) :: leaves e cs (Nat.succ k)
def mkV (agg : Bool) (cs : List KV) : KV := Bool.rec (motive := fun _ => KV) (cs.headD .unk) (.agg cs) agg
/-- all cells of a type are of kinds that a tree can hold -/
def plainK : List CK → Bool
  | [] => true
  | .other :: _ => false
  | _ :: cs => plainK cs

/-! ## Flat values -/
mutual
def ofV : Value → KV
  | .bool b => .bool b
  | .int k n => .int k n
  | .string s => .str s
  | .pointer none => .nilp
  | .slice none 0 0 => .nilsl
  | .map none => .nilmap
  | .nilFunc => .nilfn
  | .nilIface => .nilif
  | .agg cs => .agg (ofA cs)
  | .tuple cs => .tup (ofA cs)
  | _ => .unk
def ofA : Array Value → List KV
  | ⟨l⟩ => ofL l
def ofL : List Value → List KV
  | [] => []
  | v :: vs => ofV v :: ofL vs
end

/-! ## The operations -/
abbrev FP := List KV → KR KV
abbrev FR := KSt → List KV → KR KV
abbrev FA := KSt → List KV → KR (KV × KSt)
inductive KIns where
  | pure (f : FP) (xs : List Operand)
  | read (f : FR) (xs : List Operand)
  | act (f : FA) (xs : List Operand)
  | look (f : FP) (xs : List Operand)
  | pcall (g : FuncId) (f : List KV → KR KV) (xs : List Operand)
  | call (f : Operand) (args : List Operand)
  | bad

def kMove : FP
  | [x] => .ok x
  | _ => .no
def kPick : FP
  | [.bool t, .bool a, .bool b] => .ok (.bool (cond t a b))
  | [.bool t, a, b] => .ok (cond t a b)
  | _ => .no
def oneAll : List KV → Bool
  | [] => true
  | v :: vs => one v && oneAll vs
def takeK {α : Type} : Nat → List α → Option (List α)
  | 0, _ => some []
  | _ + 1, [] => none
  | n + 1, x :: xs => (takeK n xs).map (x :: ·)
def dropK {α : Type} : Nat → List α → List α
  | 0, l => l
  | _ + 1, [] => []
  | n + 1, _ :: xs => dropK n xs
def writeK {α : Type} : Nat → List α → List α → Option (List α)
  | 0, l, [] => some l
  | 0, [], _ :: _ => none
  | 0, _ :: l, v :: vs => (writeK 0 l vs).map (v :: ·)
  | _ + 1, [], [] => some []
  | _ + 1, [], _ :: _ => none
  | n + 1, x :: l, vs => (writeK n l vs).map (x :: ·)
def kAllocWith (n : Nat) (z : List KV) : FA := fun A _ => .ok (.ptr A.next 0, A.new (.row z n))
def insAlloc (P : Program) (t : TypeId) : KIns :=
  match zero? P t with
  | some z => cond (flat z && z.cells.toList.all scalar && oneAll (ofV z).cells) (.act (kAllocWith (eszOf P t) (ofV z).cells) []) .bad
  | none => .bad
def kBox (n : Nat) : FA := fun A xs =>
  match xs with
  | [v] => cond (oneAll v.cells) (.ok (.ptr A.next 0, A.new (.row v.cells n))) .no
  | _ => .no
def fillK (place : Nat → Option (Nat × Nat)) : List KV → List (Nat × KV) → Option (List KV)
  | cells, [] => some cells
  | cells, (i, v) :: rest =>
    match place i with
    | some (off, size) => cond (Nat.beq v.cells.length size && Nat.ble 1 size) ((writeK off cells v.cells).bind fun cs => fillK place cs rest) none
    | none => none
def zipK : List Nat → List KV → List (Nat × KV)
  | i :: is, v :: vs => (i, v) :: zipK is vs
  | _, _ => []
def knownK : KV → Bool
  | .unk => false
  | _ => true
def kBuildAt (place : Nat → Option (Nat × Nat)) (z : List KV) (is : List Nat) : FP := fun vs =>
  match fillK place z (zipK is vs) with
  | some cs => cond (vs.all knownK) (.ok (.agg cs)) .no
  | none => .no
def kinsBuild (P : Program) (t : TypeId) (is : List Nat) (xs : List Operand) : KIns :=
  match zero? P t, P.underlying t with
  | some z, some (.struct fields) =>
    match placesOf P fields.toList with
    | some l => cond (flat z && oneAll (ofV z).cells) (.pure (kBuildAt (placeAt l) (ofV z).cells is) xs) .bad
    | none => .bad
  | some z, some (.array _ e) =>
    match size? P e with
    | some n => cond (flat z && oneAll (ofV z).cells) (.pure (kBuildAt (strideOf n) (ofV z).cells is) xs) .bad
    | none => .bad
  | _, _ => .bad
def defAcc0 : Nat → KV := fun _ => .unk
def defAcc (es : List KV) : Nat → KV := fun i => es.getD i .unk
/-- a typed value, as it may lie in a tree -/
def normC (c : CK) (v : KV) : KV :=
  match c, v with
  | .slice t, .nilsl => .ts t .any 0 [] defAcc0
  | .slice t, .ts t' _ n es acc => cond (Nat.beq t t') (.ts t .any n es acc) .unk
  | c, v => cond (kindOk c v) v .unk
def normCs : List CK → List KV → List KV
  | c :: cs, v :: vs => normC c v :: normCs cs vs
  | _, _ => []
def normV (l : Lay) (v : KV) : KV :=
  match v with
  | .agg cs => cond (l.agg && Nat.beq cs.length l.ks.length) (.agg (normCs l.ks cs)) .unk
  | v => cond l.agg .unk (match l.ks with
    | [c] => normC c v
    | _ => .unk)
def setAt (es : List KV) (i : Nat) (v : KV) : List KV :=
  match i, es with
  | 0, _ :: es => v :: es
  | n + 1, e :: es => e :: setAt es n v
  | _, [] => []
def fillE (es : List KV) : List (Nat × KV) → List KV
  | [] => es
  | (i, v) :: rest => fillE (setAt es i v) rest
/-- a literal slice that nobody writes -/
def kBuildTree (l : Lay) (e : TypeId) (z : KV) (len : Nat) (is : List Nat) : FP := fun vs =>
  let es := fillE (repeatK [z] len) ((zipK is vs).map fun p => (p.1, normV l p.2))
  cond (vs.all knownK && elemsOk l (vs.map (normV l)) && elemsOk l es) (.ok (.ts e .exact len es (defAcc es))) .no
def allBelow (n : Nat) : List Nat → Bool
  | [] => true
  | i :: is => Nat.blt i n && allBelow n is
def kinsBuildSlice (P : Program) (t : TypeId) (len : Nat) (is : List Nat) (xs : List Operand) : KIns :=
  match P.underlying t with
  | some (.slice e) =>
    match P.info? e, zero? P e with
    | some i, some z => cond (Nat.ble (len * i.size) 16777216 && Nat.beq z.cells.size i.size && Nat.ble 1 i.size && flat z && Nat.beq (layF P e).ks.length i.size && allBelow len is)
        (.look (kBuildTree (layF P e) e (normV (layF P e) (ofV z)) len is) xs) .bad
    | _, _ => .bad
  | _ => .bad
def rowAt (A : KSt) (b : Nat) : Option (List KV) :=
  match A.get b with
  | some (.row cs _) => some cs
  | _ => none
def kLoad (P : Program) (t : TypeId) : FR := fun A xs =>
  match xs with
  | [.ptr b off] =>
    match agg? P t, size? P t with
    | some ag, some n => match (rowAt A b).bind fun cs => takeK n (dropK off cs) with
      | some l => cond ag (.ok (.agg l)) (match l with | [v] => .ok v | _ => .no)
      | none => .no
    | _, _ => .no
  | [.tp _ Tc i k _ acc] =>
    cond (Nat.beq Tc t && plainK (layF P t).ks && decide (agg? P t = some (layF P t).agg) && decide (size? P t = some (layF P t).ks.length) && ((layF P t).agg || Nat.beq (layF P t).ks.length 1)) (.ok (mkV (layF P t).agg (leaves (acc i) (layF P t).ks k))) .no
  | _ => .no
def kStore (P : Program) (t : TypeId) : FA := fun A xs =>
  match xs with
  | [.ptr b off, v] =>
    cond (decide (some v.cells.length = size? P t) && oneAll v.cells)
      (match A.get b with
      | some (.row cs esz) => match writeK off cs v.cells with
        | some cs' => .ok (undefK, A.put b (.row cs' esz))
        | none => .no
      | _ => .no) .no
  | _ => .no
def kNilCheck : FP
  | [.ptr b off] => .ok (.ptr b off)
  | [.tp T Tc i k es acc] => .ok (.tp T Tc i k es acc)
  | [.fn (.func f) first cap] => .ok (.fn (.func f) first cap)
  | _ => .no
def opI (op : BinOp) (k : IntKind) (a b : Int) : KR KV :=
  match op with
  | .add => .ok (.int k (k.wrap (a + b)))
  | .sub => .ok (.int k (k.wrap (a - b)))
  | .mul => .ok (.int k (k.wrap (a * b)))
  | .eql => .ok (.bool (a == b))
  | .neq => .ok (.bool (a != b))
  | .lss => .ok (.bool (decide (a < b)))
  | .leq => .ok (.bool (decide (a ≤ b)))
  | .gtr => .ok (.bool (decide (a > b)))
  | .geq => .ok (.bool (decide (a ≥ b)))
  | .quo => .chk (!(decide (b = 0))) (.int k (k.wrap (a.tdiv b)))
  | .rem => .chk (!(decide (b = 0))) (.int k (a.tmod b))
  | .and => .ok (.int k (k.wrap (BitVec.ofInt k.bits a &&& BitVec.ofInt k.bits b).toNat))
  | .or => .ok (.int k (k.wrap (BitVec.ofInt k.bits a ||| BitVec.ofInt k.bits b).toNat))
  | .xor => .ok (.int k (k.wrap (BitVec.ofInt k.bits a ^^^ BitVec.ofInt k.bits b).toNat))
  | .andNot => .ok (.int k (k.wrap (BitVec.ofInt k.bits a &&& ~~~ BitVec.ofInt k.bits b).toNat))
  | _ => .no
def opSh (op : BinOp) (k : IntKind) (a b : Int) : KR KV :=
  match op with
  | .shl => .chk (!(decide (b < 0))) (.int k (k.wrap (a * 2 ^ (min b.toNat k.bits))))
  | .shr => .chk (!(decide (b < 0))) (.int k (a.fdiv (2 ^ (min b.toNat k.bits))))
  | _ => .no
def isSh : BinOp → Bool
  | .shl | .shr => true
  | _ => false
/-- '==' of two values that hold no address, by their cells -/
def eqK : KV → KV → Option Bool
  | .int k a, .int k' b => cond (decide (k = k')) (some (a == b)) none
  | .bool a, .bool b => some (a == b)
  | .str a, .str b => some (a == b)
  | _, _ => none
def eqKs : List KV → List KV → Option Bool
  | [], [] => some true
  | x :: xs, y :: ys => match eqK x y, eqKs xs ys with
    | some a, some b => some (a && b)
    | _, _ => none
  | _, _ => none
/-- a type whose '==' asks all cells, each a number, a bool or a text -/
def eqTy (P : Program) : Nat → TypeId → Bool
  | 0, _ => false
  | n + 1, t => (match P.info? t, lay P (n + 1) t with
      | some i, some l => Nat.beq i.size l.ks.length
      | _, _ => false) && match P.underlying t with
    | some (.int _) | some .bool | some .string => true
    | some (.struct fs) => !(P.stoodInHeld t) && fs.toList.all fun f => !(f.name == "_") && eqTy P n f.type
    | some (.array _ e) => eqTy P n e
    | _ => false
def opEq (P : Program) (t : TypeId) (x y : KV) : Option Bool :=
  match x, y with
  | .agg xs, .agg ys => cond ((layF P t).agg && eqTy P 12 t && !(P.eqGuardType P.depth t) && kindsOk (layF P t).ks xs && kindsOk (layF P t).ks ys) (eqKs xs ys) none
  | .bool a, .bool b => match P.underlying t with
    | some .bool => some (a == b)
    | _ => none
  | .nilsl, .nilsl => match P.underlying t with
    | some (.slice _) => some true
    | _ => none
  | .ts _ _ n _ _, .nilsl => match P.underlying t with
    | some (.slice _) => cond (Nat.beq n 0) none (some false)
    | _ => none
  | .nilsl, .ts _ _ n _ _ => match P.underlying t with
    | some (.slice _) => cond (Nat.beq n 0) none (some false)
    | _ => none
  | .nilp, .nilp => match P.underlying t with
    | some (.pointer _) => some true
    | _ => none
  | .ptr _ _, .nilp => match P.underlying t with
    | some (.pointer _) => some false
    | _ => none
  | .nilp, .ptr _ _ => match P.underlying t with
    | some (.pointer _) => some false
    | _ => none
  | _, _ => none
def kBin (P : Program) (op : BinOp) (t : TypeId) : FP
  | [.int j a, .int k b] => cond (isSh op) (opSh op j a b) (cond (decide (j = k)) (opI op j a b) .no)
  | [.str a, .str b] => match op with
    | .eql => .ok (.bool (a.toList == b.toList))
    | .neq => .ok (.bool !(a.toList == b.toList))
    | .lss => .ok (.bool (Op.bytesLess a.toList b.toList))
    | .add => .chk (Nat.ble (a.size + b.size) 9223372036854775807) (.str (a ++ b))
    | _ => .no
  | [x, y] => match op, opEq P t x y with
    | .eql, some b => .ok (.bool b)
    | .neq, some b => .ok (.bool !b)
    | _, _ => .no
  | _ => .no
def kUn (op : UnOp) : FP
  | [.bool b] => match op with
    | .not => .ok (.bool !b)
    | _ => .no
  | [.int k n] => match op with
    | .neg => .ok (.int k (k.wrap (0 - n)))
    | .xor => .ok (.int k (k.wrap (BitVec.ofInt k.bits (if k.signed then -1 else k.max) ^^^ BitVec.ofInt k.bits n).toNat))
    | _ => .no
  | _ => .no
def kConvI (k : IntKind) : FP
  | [.int _ n] => .ok (.int k (k.wrap n))
  | _ => .no
def kStrId : FP
  | [.str s] => .ok (.str s)
  | _ => .no
def byteOf : KV → UInt8
  | .int _ n => UInt8.ofNat n.toNat
  | _ => 0
def inByte : KV → Bool
  | .int .u8 n => decide (0 ≤ n) && decide (n < 256)
  | _ => false
def kBytesStr : FP
  | [.nilsl] => .ok (.str ⟨⟨[]⟩⟩)
  | [.ts _ _ _ es _] => .chk (es.all inByte) (.str ⟨⟨es.map byteOf⟩⟩)
  | _ => .no
def kStrBytes (e : TypeId) : FP
  | [.str s] => .ok (.ts e .any s.size (s.data.toList.map fun b => .int .u8 b.toNat) (fun i => .int .u8 (s.data.toList.getD i 0).toNat))
  | _ => .no
def kinsConvert (P : Program) (src dst : TypeId) (x : Operand) : KIns :=
  match P.underlying src, P.underlying dst with
  | some (.int _), some (.int k) => .pure (kConvI k) [x]
  | some .string, some .string => .pure kStrId [x]
  | some (.slice e), some .string => cond (isByte P e) (.read (fun _ => kBytesStr) [x]) .bad
  | some .string, some (.slice e) => cond (isByte P e) (.look (kStrBytes e) [x]) .bad
  | _, _ => .bad
def kMakeFunc (f : Fn) (k : Nat) : FP := fun vs =>
  match takeK k vs with
  | some first => .ok (.fn f first (dropK k vs))
  | none => .no
def kFieldAddr (s : TypeId) (off : Nat) (ft : TypeId) (good : Bool) : FP
  | [.ptr b o] => .ok (.ptr b (o + off))
  | [.tp T Tc i k es acc] => cond (Nat.beq Tc s && good) (.ok (.tp T ft i (k + off) es acc)) .no
  | _ => .no
def ckEq : CK → CK → Bool
  | .int a, .int b => decide (a = b)
  | .bool, .bool => true
  | .str, .str => true
  | .slice a, .slice b => Nat.beq a b
  | .other, .other => true
  | _, _ => false
def cksEq : List CK → List CK → Bool
  | [], [] => true
  | a :: as, b :: bs => ckEq a b && cksEq as bs
  | _, _ => false
/-- the part's cells are those of its own type -/
def partOk (P : Program) (s : TypeId) (off : Nat) (ft : TypeId) : Bool :=
  match takeK (layF P ft).ks.length (dropK off (layF P s).ks) with
  | some l => cksEq l (layF P ft).ks
  | none => false
def kinsFieldAddr (P : Program) (s : TypeId) (x : Operand) (f : Nat) : KIns :=
  match insOfStruct P s f with
  | some fd => match size? P fd.type with
    | some (_ + 1) => .pure (kFieldAddr s fd.offset fd.type (partOk P s fd.offset fd.type)) [x]
    | _ => .bad
  | none => .bad
def partK (P : Program) (t : TypeId) (cs : List KV) (off : Nat) : Option KV :=
  match agg? P t with
  | some true => (size? P t).bind fun n => (takeK n (dropK off cs)).map fun l => .agg l
  | some false => (dropK off cs).head?
  | none => none
def kField (P : Program) (fd : Field) : FP
  | [.agg cs] => .of (partK P fd.type cs fd.offset)
  | _ => .no
def kinsField (P : Program) (t : TypeId) (x : Operand) (f : Nat) : KIns :=
  match insOfStruct P t f with
  | some fd => .pure (kField P fd) [x]
  | none => .bad
def inR (i : Int) (n : Nat) : Bool := decide (0 ≤ i) && decide (i < (n : Int))
def kIndexArr (P : Program) (t : TypeId) (len n : Nat) (e : TypeId) : FP
  | [.ptr b o, .int _ i] => .chk (inR i len) (.ptr b (o + i.toNat * n))
  | [.tp T Tc j k es acc, .int _ i] => cond (Nat.beq Tc t && cksEq (layF P t).ks (repeatK (layF P e).ks len) && Nat.beq (layF P e).ks.length n) (.chk (inR i len) (.tp T e j (k + i.toNat * n) es acc)) .no
  | _ => .no
def kIndexSl (e n : Nat) (good : Bool) : FP
  | [.sl b o len _, .int _ i] => .chk (inR i len) (.ptr b (o + i.toNat * n))
  | [.ts T _ m es acc, .int _ i] => cond (Nat.beq T e && good) (.chk (inR i m) (.tp T T i.toNat 0 es acc)) .no
  | _ => .no
def kinsIndexAddr (P : Program) (t : TypeId) (x ix : Operand) : KIns :=
  match P.underlying t with
  | some (.array len e) => match size? P e with
    | some n => .pure (kIndexArr P t len n e) [x, ix]
    | none => .bad
  | some (.slice e) => match size? P e with
    | some n => .pure (kIndexSl e n (Nat.beq (layF P e).ks.length n)) [x, ix]
    | none => .bad
  | _ => .bad
def kIndexAgg (P : Program) (len n : Nat) (e : TypeId) : FP
  | [.agg cs, .int _ i] => match partK P e cs (i.toNat * n) with
    | some v => .chk (inR i len) v
    | none => .no
  | _ => .no
def kIndexStr : FP
  | [.str s, .int _ i] => .chk (inR i s.size) (.int .u8 ((s.data.toList.getD i.toNat 0).toNat))
  | _ => .no
def kinsIndex (P : Program) (t : TypeId) (x ix : Operand) : KIns :=
  match P.underlying t with
  | some (.array len e) => match size? P e with
    | some n => .pure (kIndexAgg P len n e) [x, ix]
    | none => .bad
  | some .string => .pure kIndexStr [x, ix]
  | _ => .bad
def nthK {α : Type} : Nat → List α → Option α
  | _, [] => none
  | 0, x :: _ => some x
  | n + 1, _ :: xs => nthK n xs
def kExtract (i : Nat) : FP
  | [.tup vs] => .of (nthK i vs)
  | _ => .no
def kLenSl : FP
  | [.ts _ _ n _ _] => .ok (.int .i64 (n : Int))
  | [.sl _ _ n _] => .ok (.int .i64 (n : Int))
  | [.nilsl] => .ok (.int .i64 0)
  | _ => .no
def kLenStr : FP
  | [.str s] => .ok (.int .i64 (s.size : Int))
  | _ => .no
def kinsLen (P : Program) (argTypes : List TypeId) (args : List Operand) : KIns :=
  match argTypes with
  | [t] => match P.underlying t with
    | some (.slice _) => .pure kLenSl args
    | some .string => .pure kLenStr args
    | _ => .bad
  | _ => .bad
def kMinMax (mx : Bool) : FP
  | [.int j a, .int k b] => cond (decide (j = k)) (.ok (.int j (cond mx (max a b) (min a b)))) .no
  | [.int j a, .int k b, .int l c] => cond (decide (j = k) && decide (j = l)) (.ok (.int j (cond mx (max (max a b) c) (min (min a b) c)))) .no
  | _ => .no
/-- the bounds of a slice expression -/
def bnd2 (len : Nat) (lo hi : Bool) : List KV → Option (Int × Int)
  | [] => cond (lo || hi) none (some (0, len))
  | [.int _ x] => cond (lo && !hi) (some (x, len)) (cond (!lo && hi) (some (0, x)) none)
  | [.int _ x, .int _ y] => cond (lo && hi) (some (x, y)) none
  | _ => none
def kSliceSl (P : Program) (n : Nat) (lo hi : Bool) : FR := fun A xs =>
  match xs with
  | .ts T _ m es acc :: r => match bnd2 m lo hi r with
    | some (x, y) => cond (Nat.beq (layF P T).ks.length n) (.chk (decide (0 ≤ x) && decide (x ≤ y) && decide (y ≤ (m : Int))) (.ts T .any (y.toNat - x.toNat) ((es.drop x.toNat).take (y.toNat - x.toNat)) (fun i => acc (x.toNat + i)))) .no
    | none => .no
  | .sl b o len cap :: r => match A.get b with
    | some (.row _ esz) => match bnd2 len lo hi r with
      | some (x, y) => cond (Nat.beq esz n) (.chk (decide (0 ≤ x) && decide (x ≤ y) && decide (y ≤ (len : Int)) && decide (len ≤ cap)) (.sl b (o + x.toNat * n) (y.toNat - x.toNat) (cap - x.toNat))) .no
      | none => .no
    | _ => .no
  | _ => .no
def kSliceStr (lo hi : Bool) : FP
  | .str s :: r => match bnd2 s.size lo hi r with
    | some (x, y) => .chk (decide (0 ≤ x) && decide (x ≤ y) && decide (y ≤ (s.size : Int))) (.str ⟨⟨(s.data.toList.drop x.toNat).take (y.toNat - x.toNat)⟩⟩)
    | none => .no
  | _ => .no
def kinsSlice (P : Program) (t : TypeId) (x : Operand) (lo hi mx : Option Operand) : KIns :=
  match P.underlying t with
  | some (.slice e) => match size? P e with
    | some n => cond (Nat.ble 1 n && mx.isNone) (.read (kSliceSl P n lo.isSome hi.isSome) (x :: (optL lo ++ optL hi))) .bad
    | none => .bad
  | some .string => cond mx.isNone (.pure (kSliceStr lo.isSome hi.isSome) (x :: (optL lo ++ optL hi))) .bad
  | _ => .bad
/-- append to a tree: is there room for m more behind n, of b bytes each; and is there something to put? -/
def appOk (b n m : Nat) : Bool := Nat.ble ((n + m + 512) * b) 17592186044416 && Nat.ble (n + m) 17592186044416 && (Nat.blt 0 m || Nat.beq n 0)
def topOk (top n : Nat) : Bool := Nat.beq top n
def joinAcc (n : Nat) (f g : Nat → KV) : Nat → KV := fun i => cond (Nat.blt i n) (f i) (g (i - n))
def appPut (e sz b n : Nat) (base : List KV) (ab : Nat → KV) (A : KSt) (f m : Nat) (new : List KV) (an : Nat → KV) (more : Bool) : KR (KV × KSt) :=
  .chk (more && appOk b n m)
    (.ts e (.fam f) (n + m) (base ++ new) (joinAcc n ab an), A.put f (.fam (n + m) sz))
def kAppend (e sz b : Nat) : FA := fun A xs =>
  match xs with
  | [.nilsl, .ts e' _ m new an] => cond (Nat.beq e e') (appPut e sz b 0 [] defAcc0 (A.new (.fam 0 sz)) A.next m new an true) .no
  | [.ts e1 .exact n es ab, .ts e' _ m new an] => cond (Nat.beq e e' && Nat.beq e e1) (appPut e sz b n es ab (A.new (.fam 0 sz)) A.next m new an (Nat.blt 0 m)) .no
  | [.ts e1 (.fam f) n es ab, .ts e' _ m new an] => match A.get f with
    | some (.fam top sz') => cond (Nat.beq e e' && Nat.beq e e1 && Nat.beq sz' sz) (appPut e sz b n es ab A f m new an (topOk top n)) .no
    | _ => .no
  | _ => .no
def kinsAppend (P : Program) (argTypes : List TypeId) (args : List Operand) : KIns :=
  match argTypes with
  | [t, u] =>
    match P.underlying t, P.underlying u with
    | some (.slice e), some (.slice _) =>
      match P.info? e with
      | some i => match i.zero with
        | some z => cond (Nat.ble 1 i.size && Nat.beq z.cells.size i.size && Nat.beq (layF P e).ks.length i.size) (.act (kAppend e i.size i.bytes) args) .bad
        | none => .bad
      | none => .bad
    | _, _ => .bad
  | _ => .bad
def kMakeSlice (n b : Nat) (z : List KV) : FA := fun A xs =>
  match xs with
  | [.int _ l, .int _ c] => .chk (decide (0 ≤ l) && decide (l ≤ c) && Nat.ble (b * c.toNat) 281474976710656) (.sl A.next 0 l.toNat c.toNat, A.new (.row (repeatK z c.toNat) n))
  | _ => .no
def kinsMakeSlice (P : Program) (t : TypeId) (l c : Operand) : KIns :=
  match P.underlying t with
  | some (.slice e) =>
    match P.info? e with
    | some i => match i.zero with
      | some z => cond (Nat.ble 1 i.size && Nat.ble 1 i.bytes && Nat.beq z.cells.size i.size && flat z && z.cells.toList.all scalar && oneAll (ofV z).cells) (.act (kMakeSlice i.size i.bytes (ofV z).cells) [l, c]) .bad
      | none => .bad
    | none => .bad
  | _ => .bad
def kinsBuiltin (P : Program) (b : Builtin) (argTypes : List TypeId) (args : List Operand) : KIns :=
  match b with
  | .len => kinsLen P argTypes args
  | .min => .pure (kMinMax false) args
  | .max => .pure (kMinMax true) args
  | .append => kinsAppend P argTypes args
  | _ => .bad

/-- what a loop comes to -/
inductive Tell where
  | no
  | out (e : AExit) (t : KTm) (A : KSt)
  | br (c : Bool) (x y : Tell)
/- what a run may lean on: pure functions told whole; loops told whole -/
structure Cfg where
  pc : FuncId → Option (List KV → KR KV)
  lp : FuncId → Nat → Option (KTm → KSt → Tell)
def Cfg.none : Cfg := ⟨fun _ => .none, fun _ _ => .none⟩
/-- an element, read cell by cell -/
def elemC (P : Program) (f : KV → KV) (t : TypeId) (e : KV) : KV := mkV (layF P t).agg ((leaves e (layF P t).ks 0).map f)
/-- a typed value in its plain form: a slice's elements are what they read as -/
def canonC (P : Program) (d : Nat) : KV → KV := Nat.rec (motive := fun _ => KV → KV) (fun v => v) (fun _ ih v => match v with
  | .ts t _ n _ acc => .ts t .any n ((List.range n).map fun i => elemC P ih t (acc i)) (fun i => elemC P ih t (acc i))
  | v => v) d
def canonD : Nat := 6
/-- a value of a type in its plain form -/
def canT (P : Program) (t : TypeId) (v : KV) : KV := cond (elemOk (layF P t) (normV (layF P t) v)) (elemC P (canonC P canonD) t (normV (layF P t) v)) .unk
def normArgs (P : Program) : List TypeId → List KV → List KV
  | t :: ts, v :: vs => canT P t v :: normArgs P ts vs
  | _, _ => []
def paramsOf (P : Program) (g : FuncId) : List TypeId := match P.funcs.toList[g]? with
  | some fn => fn.params.toList
  | none => []
def kinsCall (P : Program) (cfg : Cfg) (c : Call) : KIns :=
  match c.callee with
  | .value (.func g) => match cfg.pc g with
    | some F => .pcall g (fun vs => cond (Nat.beq vs.length (paramsOf P g).length) (F (normArgs P (paramsOf P g) vs)) .no) c.args.toList
    | none => .call (.func g) c.args.toList
  | .value f => .call f c.args.toList
  | .builtin b => kinsBuiltin P b c.argTypes.toList c.args.toList
  | .invoke _ _ => .bad
def isYield : Fn → Bool
  | .yield _ => true
  | _ => false
def kcomp (P : Program) (cfg : Cfg) : Op → KIns
  | .move x => .pure kMove [x]
  | .assign x => .pure kMove [x]
  | .pick c a b => .pure kPick [c, a, b]
  | .alloc t => insAlloc P t
  | .box t x => .act (kBox (eszOf P t)) [x]
  | .build t parts => kinsBuild P t (parts.toList.map (·.1)) (parts.toList.map (·.2))
  | .buildSlice t len parts => kinsBuildSlice P t len (parts.toList.map (·.1)) (parts.toList.map (·.2))
  | .load t a => .read (kLoad P t) [a]
  | .store t a x => .act (kStore P t) [a, x]
  | .nilCheck x => .pure kNilCheck [x]
  | .binOp op t x y _ => .pure (kBin P op t) [x, y]
  | .unOp op _ x => .pure (kUn op) [x]
  | .convert src dst x => kinsConvert P src dst x
  | .makeFunc fn first cap => cond (isYield fn) .bad (.pure (kMakeFunc fn first.size) (first.toList ++ cap.toList))
  | .fieldAddr s x f => kinsFieldAddr P s x f
  | .field t x f => kinsField P t x f
  | .indexAddr t x ix => kinsIndexAddr P t x ix
  | .index t x ix => kinsIndex P t x ix
  | .extract t ix => .pure (kExtract ix) [t]
  | .slice t x lo hi mx => kinsSlice P t x lo hi mx
  | .makeSlice t l c => kinsMakeSlice P t l c
  | .call c => kinsCall P cfg c
  | _ => .bad

/-! ## Code -/
def evK (t : KTm) : Operand → KV
  | .tmp i => (t.get i).getD .unk
  | .const v => cond (flat v) (ofV v) .unk
  | .global _ => .unk
  | .func f => .fn (.func f) [] []
def evsK (t : KTm) : List Operand → List KV
  | [] => []
  | x :: xs => evK t x :: evsK t xs
def putK (t : KTm) (dst : Option Tmp) (v : KV) : KTm :=
  match dst with
  | some d => t.set v d
  | none => t
def calleeK (args : List KV) : KV → Option (FuncId × List KV)
  | .fn (.func g) first cap => some (g, first ++ args ++ cap)
  | _ => none
inductive BK where
  | bool (b : Bool)
  | tup
  | no
def boolK : KV → BK
  | .bool b => .bool b
  | .tup _ => .tup
  | _ => .no
section
variable {R : Type}
abbrev ICall (R : Type) := FuncId → List KV → KSt → (KV → KSt → Option R) → Option R
def insK (icall : ICall R) (t : KTm) (A : KSt) (k : KV → KSt → Option R) (ins : KIns) : Option R :=
  KIns.rec (motive := fun _ => Option R)
    (fun f xs => (f (evsK t xs)).run fun v => k v A)
    (fun f xs => (f A (evsK t xs)).run fun v => k v A)
    (fun f xs => (f A (evsK t xs)).run fun p => k p.1 p.2)
    (fun f xs => (f (evsK t xs)).run fun v => k v A)
    (fun _ f xs => (f (evsK t xs)).run fun v => k v A)
    (fun f args => Option.rec (motive := fun _ => Option R) none (fun p => icall p.1 p.2 A k) (calleeK (evsK t args) (evK t f)))
    none ins
/-- an operation that hangs on another one -/
def grdK (t : KTm) (d : Option Tmp) (want : Bool) (yes no : KTm → Option R) : Option R :=
  Option.rec (motive := fun _ => Option R) none (fun d => BK.rec (motive := fun _ => Option R)
    (fun b => Bool.rec (motive := fun _ => Option R)
      (Bool.rec (motive := fun _ => Option R) (yes (t.set (.bool false) d)) (no (t.set (.bool false) d)) want)
      (Bool.rec (motive := fun _ => Option R) (no (t.set (.bool true) d)) (yes (t.set (.bool true) d)) want) b)
    (no t) none (boolK ((t.get d).getD .unk))) d
def stepK (P : Program) (cfg : Cfg) (icall : ICall R) (all : List Oper) (o : Oper) (k : KTm → KSt → Option R) (t : KTm) (A : KSt) : Option R :=
  Option.rec (motive := fun _ => Option R) (insK icall t A (fun v A => k (putK t o.dst v) A) (kcomp P cfg o.op))
    (fun g => grdK t ((all[g.1]?).bind (·.dst)) g.2 (fun t => insK icall t A (fun v A => k (putK t o.dst v) A) (kcomp P cfg o.op)) (fun t => k (putK t o.dst undefK) A)) o.guard
def opsK (P : Program) (cfg : Cfg) (icall : ICall R) (all : List Oper) (k : KTm → KSt → Option R) (os : List Oper) : KTm → KSt → Option R :=
  List.rec (motive := fun _ => KTm → KSt → Option R) k (fun o _ ih => stepK P cfg icall all o ih) os
abbrev KE (R : Type) := AExit → KTm → KSt → Option R
def condK (t : KTm) (c : Operand) (f g : KTm → Option R) : Option R :=
  match c with
  | .tmp d => BK.rec (motive := fun _ => Option R) (fun b => Bool.rec (motive := fun _ => Option R) (g (t.set (.bool false) d)) (f (t.set (.bool true) d)) b) none none (boolK ((t.get d).getD .unk))
  | c => BK.rec (motive := fun _ => Option R) (fun b => Bool.rec (motive := fun _ => Option R) (g t) (f t) b) none none (boolK (evK t c))

/- may a region be run in the order of its text? kinds: 0 asks nothing of the store; 1 reads it; 3 turns it -/
def kindK (i : KIns) : Nat := KIns.rec (motive := fun _ => Nat) (fun _ _ => 0) (fun _ _ => 1) (fun _ _ => 3) (fun _ _ => 0) (fun _ _ _ => 0) (fun _ _ => 9) 9 i
def insOps : KIns → List Operand
  | .pure _ xs => xs
  | .read _ xs => xs
  | .act _ xs => xs
  | .look _ xs => xs
  | .pcall _ _ xs => xs
  | .call f xs => f :: xs
  | .bad => []
def looksK (P : Program) (cfg : Cfg) (all : List Oper) (o : Oper) : List Tmp := guardTmp all o ++ opTmps (insOps (kcomp P cfg o.op))
def clashK (P : Program) (cfg : Cfg) (all : List Oper) (x y : Oper) : Bool := hits x.dst (looksK P cfg all y) || hits y.dst (looksK P cfg all x) || sameDst x.dst y.dst
def meetK (P : Program) (cfg : Cfg) (all : List Oper) (x y : Oper) : Bool :=
  clashK P cfg all x y || (Nat.ble 3 (kindK (kcomp P cfg x.op)) && !(Nat.beq (kindK (kcomp P cfg y.op)) 0)) || (Nat.ble 3 (kindK (kcomp P cfg y.op)) && !(Nat.beq (kindK (kcomp P cfg x.op)) 0))
def meetsK (P : Program) (cfg : Cfg) (all : List Oper) (b : List Nat) (i : Nat) (y : Oper) : List Oper → Nat → Bool
  | [], _ => true
  | x :: xs, j => (Nat.ble i j || !meetK P cfg all x y || bef b i j) && meetsK P cfg all b i y xs (Nat.succ j)
def ordFromK (P : Program) (cfg : Cfg) (all : List Oper) (b : List Nat) : List Oper → Nat → Bool
  | [], _ => true
  | o :: os, i => meetsK P cfg all b i o all 0 && ordFromK P cfg all b os (Nat.succ i)
def ordK (P : Program) (cfg : Cfg) (all : List Oper) : Bool := regionOk P all && all.all (fun o => Nat.ble (kindK (kcomp P cfg o.op)) 3) && ordFromK P cfg all (befAll [] all) all 0
def regionK (P : Program) (cfg : Cfg) (icall : ICall R) (ops : List Oper) (draw : Bool) (k : KTm → KSt → Option R) : KTm → KSt → Option R :=
  Bool.rec (motive := fun _ => KTm → KSt → Option R) (opsK P cfg icall ops k ops) (Bool.rec (motive := fun _ => KTm → KSt → Option R) (fun _ _ => none) (opsK P cfg icall ops k ops) (ordK P cfg ops)) draw
def thenK (k : KE R) (f : KTm → KSt → Option R) : KE R := fun e t A => AExit.rec (motive := fun _ => Option R) (f t A) (fun i => k (.exit i) t A) (fun l => k (.goto l) t A) (k .ret t A) e
def blockK (id : Nat) (k : KE R) : KE R := fun e t A => AExit.rec (motive := fun _ => Option R) (k .normal t A) (fun i => Bool.rec (motive := fun _ => Option R) (k (.exit i) t A) (k .normal t A) (Nat.beq i id)) (fun l => k (.goto l) t A) (k .ret t A) e
def noGotoK (k : KE R) : KE R := fun e t A => AExit.rec (motive := fun _ => Option R) (k .normal t A) (fun i => k (.exit i) t A) (fun _ => none) (k .ret t A) e
def loopK (g : KE R → KTm → KSt → Option R) (k : KE R) (L : Nat) : KTm → KSt → Option R :=
  Nat.rec (motive := fun _ => KTm → KSt → Option R) (fun _ _ => none) (fun _ ih => g (thenK k ih)) L
def Tell.run (k : KE R) (x : Tell) : Option R := Tell.rec (motive := fun _ => Option R) none (fun e t A => k e t A) (fun c _ _ rx ry => Bool.rec (motive := fun _ => Option R) ry rx c) x
def toldK (F : KTm → KSt → Tell) (k : KE R) (t : KTm) (A : KSt) : Option R := (F t A).run k
/-- a piece of code; p: its place in the function -/
def codeK (P : Program) (cfg : Cfg) (icall : ICall R) (L : Nat) (f : FuncId) (c : Code) : Nat → KE R → KTm → KSt → Option R :=
  Code.rec (motive := fun _ => Nat → KE R → KTm → KSt → Option R) (fun _ k t A => k .normal t A)
    (fun _ ops d _ k => regionK P cfg icall ops.toList d (fun t A => k .normal t A))
    (fun _ _ a b p k => a (2 * p) (thenK k fun t A => b (2 * p + 1) k t A))
    (fun c _ _ a b p k t A => condK t c (fun t => a (2 * p) k t A) (fun t => b (2 * p + 1) k t A))
    (fun id _ g p k => g (2 * p) (blockK id k))
    (fun _ g p k => Option.rec (motive := fun _ => KTm → KSt → Option R) (loopK (g (2 * p)) k L) (fun F => toldK F k) (cfg.lp f p))
    (fun _ _ _ _ _ _ _ _ _ _ => none) (fun id _ k t A => k (.exit id) t A) (fun _ g p k => g (2 * p) (noGotoK k)) (fun _ _ k t A => k .normal t A) (fun l _ k t A => k (.goto l) t A) (fun _ k t A => k .ret t A) (fun _ _ _ _ _ => none) c
def argsK : List KV → Nat → KTm → KTm
  | [], _, t => t
  | v :: vs, i, t => argsK vs (Nat.succ i) (t.set v i)
def resK (P : Program) (A : KSt) (t : KTm) : List ResultVar → Option (List KV)
  | [] => some []
  | .tmp x :: rs => (resK P A t rs).map (evK t (.tmp x) :: ·)
  | .cell a ty :: rs => match kLoad P ty A [evK t (.tmp a)] with
    | .ok v => (resK P A t rs).map (v :: ·)
    | _ => none
def packK : List KV → KV
  | [v] => v
  | vs => .tup vs
/-- at a function's end -/
def endK (P : Program) (fn : Func) (k : List KV → KSt → Option R) : KE R := fun e t A =>
  AExit.rec (motive := fun _ => Option R) (Option.rec (motive := fun _ => Option R) none (fun vs => k vs A) (resK P A t fn.results.toList)) (fun _ => none) (fun _ => none) (Option.rec (motive := fun _ => Option R) none (fun vs => k vs A) (resK P A t fn.results.toList)) e
def bodyK (P : Program) (cfg : Cfg) (icall : ICall R) (L : Nat) (f : FuncId) (args : List KV) (A : KSt) (k : List KV → KSt → Option R) : Option R :=
  match P.funcs.toList[f]? with
  | some fn => match fn.body with
    | some c => codeK P cfg icall L f c 1 (endK P fn k) (argsK args 0 .leaf) A
    | none => none
  | none => none
def icallK (P : Program) (cfg : Cfg) (L : Nat) (n : Nat) : ICall R :=
  Nat.rec (motive := fun _ => ICall R) (fun _ _ _ _ => none) (fun _ ih f args A k => bodyK P cfg ih L f args A fun vs B => k (packK vs) B) n
end
/-- results, as they may lie in a tree -/
def typedAll (P : Program) : List TypeId → List KV → List KV
  | t :: ts, v :: vs => canT P t v :: typedAll P ts vs
  | _, _ => []
def resTypes (P : Program) (g : FuncId) : List TypeId := match P.funcs.toList[g]? with
  | some fn => fn.resultTypes.toList
  | none => []
/-- a pure function's run: from an empty store; what it hands back is made trees -/
def pureK (P : Program) (cfg : Cfg) (L n : Nat) (f : FuncId) (args : List KV) : Option KV :=
  bodyK P cfg (icallK P cfg L n) L f args .empty fun vs _ => Bool.rec (motive := fun _ => Option KV) none (some (packK (typedAll P (resTypes P f) vs))) (Nat.beq vs.length (resTypes P f).length)
end
end Go.K
