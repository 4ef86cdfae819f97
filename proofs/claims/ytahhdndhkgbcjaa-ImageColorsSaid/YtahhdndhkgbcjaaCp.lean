/- Part of the proof of ImageColors: a machine that runs the program's code over open terms, shown to be the model's, and the plain models of its functions. No conditions. -/
import Derived.Test.YtahhdndhkgbcjaaBp
section
namespace Go.K
open Go Go.aE
noncomputable section
inductive Mk where
 | any
 | exact
 | bf (b:Nat)
inductive KV where
 | int (k:IntKind) (n:Int)
 | bool (b:Bool)
 | str (s:ByteArray)
 | agg (cs:List KV)
 | jI (vs:List KV)
 | ts (T:TypeId) (m:Mk) (n:Nat) (es:List KV) (acc:Nat→KV)
 | tp (T Tc:TypeId) (i k:Nat) (es:List KV) (acc:Nat→KV)
 | al (T:TypeId) (b o n:Nat)
 | ap (T Tc:TypeId) (b i k:Nat)
 | ptr (b off:Nat)
 | sl (b off len cap:Nat)
 | B4
 | kR
 | yC
 | map (b:Nat)
 | fn (f:Fn) (first cap:List KV)
 | CY
 | iface (t:TypeId) (v:KV)
 | CZ
 | aw
instance:Inhabited KV:=⟨.aw⟩
inductive jt where
 | row (cs:List KV) (bW:Nat)
 | map (es:List (KV×KV))
 | bf (top sz:Nat)
 | arr (v:KV)
 | jH (v:KV)
 | dead
structure ax where
 heap:Trie jt
 next:Nat
def ax.empty:ax:=⟨.leaf,0⟩
def ax.get (A:ax) (b:Nat):Option jt:=A.heap.get b
def ax.new (A:ax) (o:jt):ax:=⟨A.heap.set o A.next,Nat.succ A.next⟩
def ax.put (A:ax) (b:Nat) (o:jt):ax:=⟨A.heap.set o b,A.next⟩
abbrev bA:=Trie KV
def lL {α:Type} : List (Nat×α)→Trie α
 | []=>.leaf
 | p::ps=>(lL ps).set p.2 p.1
def KV.cells:KV→List KV
 | .agg cs=>cs
 | v=>[v]
def one:KV→Bool
 | .agg _ | .jI _ | .aw=>false
 | _=>true
def qS:KV:=.jI []
inductive KR (α:Type) where
 | no
 | ok (v:α)
 | lZ (c:Bool) (v:α)
 | br (c:Bool) (x y:KR α)
def KR.run {α R:Type} (r:KR α) (k:α→Option R):Option R:=
 KR.rec (motive:=fun _=>Option R) none (fun v=>k v) (fun c v=>Bool.rec (motive:=fun _=>Option R) none (k v) c) (fun c _ _ rx ry=>Bool.rec (motive:=fun _=>Option R) ry rx c) r
def KR.map {α β:Type} (f:α→β):KR α→KR β
 | .no=>.no
 | .ok v=>.ok (f v)
 | .lZ c v=>.lZ c (f v)
 | .br c x y=>.br c (x.map f) (y.map f)
def KR.of {α:Type} : Option α→KR α
 | some v=>.ok v
 | none=>.no
inductive CK where
 | int (k:IntKind)
 | bool
 | str
 | slice (t:TypeId)
 | other
structure u6 where
 agg:Bool
 ks:List CK
def dW {α:Type} (l:List α):Nat→List α
 | 0=>[]
 | n+1=>l++dW l n
def JT (f:TypeId→Option u6):List Field→Nat→Option (List CK)
 | [],_=>some []
 | fd::fs,off=>cond (Nat.beq fd.offset off) ((f fd.type).bind fun l=>(JT f fs (off+l.ks.length)).map fun r=>l.ks++r) none
def lay (P:Program):Nat→TypeId→Option u6
 | 0,_=>none
 | n+1,t=>match P.underlying t with
  | some (.int k)=>some ⟨false,[.int k]⟩
  | some .bool=>some ⟨false,[.bool]⟩
  | some .string=>some ⟨false,[.str]⟩
  | some (.slice e)=>some ⟨false,[.slice e]⟩
  | some (.struct fs)=>(JT (lay P n) fs.toList 0).map fun ks=>⟨true,ks⟩
  | some (.array len e)=>(lay P n e).map fun l=>⟨true,dW l.ks len⟩
  | some _=>some ⟨false,[.other]⟩
  | none=>none
def bw (P:Program) (t:TypeId):u6:=(lay P 12 t).getD ⟨false,[]⟩
def kindOk:CK→KV→Bool
 | .int k,.int k' _=>decide (k=k')
 | .bool,.bool _=>true
 | .str,.str _=>true
 | .slice t,.ts t' .any _ _ _=>Nat.beq t t'
 | _,_=>false
def aF:List CK→List KV→Bool
 | [],[]=>true
 | k::ks,v::vs=>kindOk k v&&aF ks vs
 | _,_=>false
def dx (l:u6):KV→Bool
 | .agg cs=>l.agg&&aF l.ks cs
 | .jI _=>false
 | v=>!l.agg&&aF l.ks [v]
def fO (l:u6):List KV→Bool
 | []=>true
 | e::es=>dx l e&&fO l es
def intOf:KV→Int
 | .int _ n=>n
 | _=>0
def nP:KV→Bool
 | .bool b=>b
 | _=>false
def strOf:KV→ByteArray
 | .str s=>s
 | _=>ByteArray.empty
def al0:KV→List KV
 | .ts _ _ _ es _=>es
 | _=>[]
def lenOf:KV→Nat
 | .ts _ _ n _ _=>n
 | _=>0
def aiM:KV→Nat→KV
 | .ts _ _ _ _ acc=>acc
 | _=>fun _=>.aw
def leaf (c:CK) (v:KV):KV:=
 CK.rec (motive:=fun _=>KV) (fun k=>.int k (intOf v)) (.bool (nP v)) (.str (strOf v)) (fun t=>.ts t .any (lenOf v) (al0 v) (aiM v)) v c
def leaves (e:KV):List CK→Nat→List KV
 | [],_=>[]
 | c::cs,k=>leaf c (e.cells.getD k .aw)::leaves e cs (Nat.succ k)
def Jv (agg:Bool) (cs:List KV):KV:=Bool.rec (motive:=fun _=>KV) (cs.headD .aw) (.agg cs) agg
def Hu:List CK→Bool
 | []=>true
 | .other::_=>false
 | _::cs=>Hu cs
mutual
def gP:Value→KV
 | .bool b=>.bool b
 | .int k n=>.int k n
 | .string s=>.str s
 | .pointer none=>.B4
 | .slice none 0 0=>.kR
 | .map none=>.yC
 | .nilFunc=>.CY
 | .nilIface=>.CZ
 | .agg cs=>.agg (ofA cs)
 | .tuple cs=>.jI (ofA cs)
 | _=>.aw
def ofA:Array Value→List KV
 | ⟨l⟩=>ofL l
def ofL:List Value→List KV
 | []=>[]
 | v::vs=>gP v::ofL vs
end
abbrev FP:=List KV→KR KV
abbrev FR:=ax→List KV→KR KV
abbrev FA:=ax→List KV→KR (KV×ax)
inductive p9 where
 | pure (f:FP) (xs:List Operand)
 | read (f:FR) (xs:List Operand)
 | act (f:FA) (xs:List Operand)
 | look (f:FP) (xs:List Operand)
 | zT (g:FuncId) (f:List KV→KR KV) (xs:List Operand)
 | C0 (g:FuncId) (f:List KV→KR KV) (xs:List Operand)
 | call (f:Operand) (args:List Operand)
 | bad
def acp:FP
 | [x]=>.ok x
 | _=>.no
def acq:FP
 | [.bool b]=>.br b (.ok (.bool true)) (.ok (.bool false))
 | [x]=>.ok x
 | _=>.no
def afH:FP
 | [.bool t,.bool a,.bool b]=>.ok (.bool (cond t a b))
 | [.bool t,a,b]=>.ok (cond t a b)
 | _=>.no
def hZ:List KV→Bool
 | []=>true
 | v::vs=>one v&&hZ vs
def uq {α:Type} : Nat→List α→Option (List α)
 | 0,_=>some []
 | _+1,[]=>none
 | n+1,x::xs=>(uq n xs).map (x::·)
def zU {α:Type} : Nat→List α→List α
 | 0,l=>l
 | _+1,[]=>[]
 | n+1,_::xs=>zU n xs
def lh {α:Type} : Nat→List α→List α→Option (List α)
 | 0,l,[]=>some l
 | 0,[],_::_=>none
 | 0,_::l,v::vs=>(lh 0 l vs).map (v::·)
 | _+1,[],[]=>some []
 | _+1,[],_::_=>none
 | n+1,x::l,vs=>(lh n l vs).map (x::·)
def UW (n:Nat) (z:List KV):FA:=fun A _=>.ok (.ptr A.next 0,A.new (.row z n))
def oP (P:Program) (t:TypeId):p9:=
 match pK P t with
 | some z=>cond (flat z&&z.cells.toList.all scalar&&hZ (gP z).cells) (.act (UW (nA P t) (gP z).cells) []) .bad
 | none=>.bad
def zC (n:Nat):FA:=fun A xs=>
 match xs with
 | [v]=>cond (hZ v.cells) (.ok (.ptr A.next 0,A.new (.row v.cells n))) .no
 | _=>.no
def SL (place:Nat→Option (Nat×Nat)):List KV→List (Nat×KV)→Option (List KV)
 | cells,[]=>some cells
 | cells,(i,v)::rest=>
  match place i with
  | some (off,size)=>cond (Nat.beq v.cells.length size&&Nat.ble 1 size) ((lh off cells v.cells).bind fun cs=>SL place cs rest) none
  | none=>none
def yD:List Nat→List KV→List (Nat×KV)
 | i::is,v::vs=>(i,v)::yD is vs
 | _,_=>[]
def u7:KV→Bool
 | .aw=>false
 | _=>true
def LN (place:Nat→Option (Nat×Nat)) (z:List KV) (is:List Nat):FP:=fun vs=>
 match SL place z (yD is vs) with
 | some cs=>cond (vs.all u7) (.ok (.agg cs)) .no
 | none=>.no
def r7 (P:Program) (t:TypeId) (is:List Nat) (xs:List Operand):p9:=
 match pK P t,P.underlying t with
 | some z,some (.struct fields)=>
  match placesOf P fields.toList with
  | some l=>cond (flat z&&hZ (gP z).cells) (.pure (LN (Pw l) (gP z).cells is) xs) .bad
  | none=>.bad
 | some z,some (.array _ e)=>
  match size? P e with
  | some n=>cond (flat z&&hZ (gP z).cells) (.pure (LN (xX n) (gP z).cells is) xs) .bad
  | none=>.bad
 | _,_=>.bad
def ob:Nat→KV:=fun _=>.aw
def r8 (es:List KV):Nat→KV:=fun i=>es.getD i .aw
def mP (c:CK) (v:KV):KV:=
 match c,v with
 | .slice t,.kR=>.ts t .any 0 [] ob
 | .slice t,.ts t' _ n es acc=>cond (Nat.beq t t') (.ts t .any n es acc) .aw
 | c,v=>cond (kindOk c v) v .aw
def yE:List CK→List KV→List KV
 | c::cs,v::vs=>mP c v::yE cs vs
 | _,_=>[]
def gm (l:u6) (v:KV):KV:=
 match v with
 | .agg cs=>cond (l.agg&&Nat.beq cs.length l.ks.length) (.agg (yE l.ks cs)) .aw
 | v=>cond l.agg .aw (match l.ks with
  | [c]=>mP c v
  | _=>.aw)
def setAt (es:List KV) (i:Nat) (v:KV):List KV:=
 match i,es with
 | 0,_::es=>v::es
 | n+1,e::es=>e::setAt es n v
 | _,[]=>[]
def Hv (es:List KV):List (Nat×KV)→List KV
 | []=>es
 | (i,v)::rest=>Hv (setAt es i v) rest
def JU (l:u6) (e:TypeId) (z:KV) (len:Nat) (is:List Nat):FP:=fun vs=>
 let es:=Hv (dW [z] len) ((yD is vs).map fun p=>(p.1,gm l p.2))
 cond (vs.all u7&&fO l (vs.map (gm l))&&fO l es) (.ok (.ts e .exact len es (r8 es))) .no
def CF (n:Nat):List Nat→Bool
 | []=>true
 | i::is=>Nat.blt i n&&CF n is
def Od (n:Nat) (z:List KV) (len:Nat) (is:List Nat):FA:=fun A vs=>
 match SL (xX n) (dW z len) (yD is vs) with
 | some cs=>cond (vs.all u7&&hZ cs) (.ok (.sl A.next 0 len len,A.new (.row cs n))) .no
 | none=>.no
def lj (P:Program) (t:TypeId) (len:Nat) (is:List Nat) (xs:List Operand):p9:=
 match P.underlying t with
 | some (.slice e)=>
  match P.info? e,pK P e with
  | some i,some z=>cond (Nat.ble (len * i.size) 16777216&&Nat.beq z.cells.size i.size&&Nat.ble 1 i.size&&flat z&&Nat.beq (bw P e).ks.length i.size&&CF len is)
    (cond (Hu (bw P e).ks) (.look (JU (bw P e) e (gm (bw P e) (gP z)) len is) xs) (cond (hZ (gP z).cells) (.act (Od i.size (gP z).cells len is) xs) .bad)) .bad
  | _,_=>.bad
 | _=>.bad
def rowAt (A:ax) (b:Nat):Option (List KV):=
 match A.get b with
 | some (.row cs _)=>some cs
 | _=>none
def EN (A:ax) (b:Nat):Option KV:=
 match A.get b with
 | some (.arr v)=>some v
 | some (.jH v)=>some v
 | _=>none
def W8 (P:Program) (t Tc:TypeId):Bool:=Nat.beq Tc t&&Hu (bw P t).ks&&decide (Pv P t=some (bw P t).agg)&&decide (size? P t=some (bw P t).ks.length)&&((bw P t).agg||Nat.beq (bw P t).ks.length 1)
def SM (P:Program) (T:TypeId) (k:Nat) (e:KV) (vs:List KV):Option KV:=(lh k (leaves e (bw P T).ks 0) vs).map fun cs=>Jv (bw P T).agg cs
def r9 (acc:Nat→KV) (i:Nat) (v:KV):Nat→KV:=fun j=>cond (Nat.beq j i) v (acc j)
def agB (T:TypeId) (n i:Nat) (es:List KV) (acc:Nat→KV) (e:KV):KV:=.ts T .any n (setAt es i e) (r9 acc i e)
def SN (P:Program) (t:TypeId):FR:=fun A xs=>
 match xs with
 | [.ptr b off]=>
  match Pv P t,size? P t with
  | some ag,some n=>match (rowAt A b).bind fun cs=>uq n (zU off cs) with
   | some l=>cond ag (.ok (.agg l)) (match l with | [v]=>.ok v | _=>.no)
   | none=>.no
  | _,_=>.no
 | [.tp _ Tc i k _ acc]=>
  cond (W8 P t Tc) (.ok (Jv (bw P t).agg (leaves (acc i) (bw P t).ks k))) .no
 | [.ap T Tc b i k]=>match EN A b with
  | some (.ts T' _ _ _ acc)=>cond (Nat.beq T T'&&W8 P t Tc) (.ok (Jv (bw P t).agg (leaves (acc i) (bw P t).ks k))) .no
  | _=>.no
 | _=>.no
def PT (P:Program) (t:TypeId):FA:=fun A xs=>
 match xs with
 | [.ptr b off,v]=>
  cond (decide (some v.cells.length=size? P t)&&hZ v.cells)
   (match A.get b with
   | some (.row cs bW)=>match lh off cs v.cells with
    | some b8=>.ok (qS,A.put b (.row b8 bW))
    | none=>.no
   | _=>.no) .no
 | [.ap T Tc b i k,v]=>
  match A.get b with
  | some (.arr (.ts T' _ n es acc))=>
   cond (Nat.beq T T'&&Nat.beq Tc t&&dx (bw P t) (gm (bw P t) v)&&decide (size? P t=some (bw P t).ks.length))
    (match SM P T k (acc i) (gm (bw P t) v).cells with
    | some e=>.ok (qS,A.put b (.arr (agB T n i es acc e)))
    | none=>.no) .no
  | _=>.no
 | _=>.no
def XV:FP
 | [.ptr b off]=>.ok (.ptr b off)
 | [.tp T Tc i k es acc]=>.ok (.tp T Tc i k es acc)
 | [.ap T Tc b i k]=>.ok (.ap T Tc b i k)
 | [.fn (.func f) first cap]=>.ok (.fn (.func f) first cap)
 | _=>.no
abbrev al1 (k:IntKind) (a b:Int):Nat:=(BitVec.ofInt k.bits a &&& BitVec.ofInt k.bits b).toNat
abbrev bOr (k:IntKind) (a b:Int):Nat:=(BitVec.ofInt k.bits a ||| BitVec.ofInt k.bits b).toNat
abbrev al2 (k:IntKind) (a b:Int):Nat:=(BitVec.ofInt k.bits a ^^^ BitVec.ofInt k.bits b).toNat
abbrev aiN (k:IntKind) (a b:Int):Nat:=(BitVec.ofInt k.bits a &&& ~~~ BitVec.ofInt k.bits b).toNat
def opI (op:BinOp) (k:IntKind) (a b:Int):KR KV:=
 match op with
 | .add=>.ok (.int k (k.wrap (a+b)))
 | .sub=>.ok (.int k (k.wrap (a - b)))
 | .mul=>.ok (.int k (k.wrap (a * b)))
 | .eql=>.ok (.bool (a==b))
 | .neq=>.ok (.bool (a != b))
 | .lss=>.ok (.bool (decide (a < b)))
 | .leq=>.ok (.bool (decide (a≤b)))
 | .gtr=>.ok (.bool (decide (a > b)))
 | .geq=>.ok (.bool (decide (a ≥ b)))
 | .quo=>.lZ (!(decide (b=0))) (.int k (k.wrap (a.tdiv b)))
 | .rem=>.lZ (!(decide (b=0))) (.int k (a.tmod b))
 | .and=>.ok (.int k (k.wrap (al1 k a b)))
 | .or=>.ok (.int k (k.wrap (bOr k a b)))
 | .xor=>.ok (.int k (k.wrap (al2 k a b)))
 | .andNot=>.ok (.int k (k.wrap (aiN k a b)))
 | _=>.no
def al3 (op:BinOp) (k:IntKind) (a b:Int):KR KV:=
 match op with
 | .shl=>.lZ (!(decide (b < 0))) (.int k (k.wrap (a * 2 ^ (min b.toNat k.bits))))
 | .shr=>.lZ (!(decide (b < 0))) (.int k (a.fdiv (2 ^ (min b.toNat k.bits))))
 | _=>.no
def adR:BinOp→Bool
 | .shl | .shr=>true
 | _=>false
def eqK:KV→KV→Option Bool
 | .int k a,.int k' b=>cond (decide (k=k')) (some (a==b)) none
 | .bool a,.bool b=>some (a==b)
 | .str a,.str b=>some (a==b)
 | _,_=>none
def rT:List KV→List KV→Option Bool
 | [],[]=>some true
 | x::xs,y::ys=>match eqK x y,rT xs ys with
  | some a,some b=>some (a&&b)
  | _,_=>none
 | _,_=>none
def B5 (P:Program):Nat→TypeId→Bool
 | 0,_=>false
 | n+1,t=>(match P.info? t,lay P (n+1) t with
   | some i,some l=>Nat.beq i.size l.ks.length
   | _,_=>false)&&match P.underlying t with
  | some (.int _) | some .bool | some .string=>true
  | some (.struct fs) => !(P.stoodInHeld t) && fs.toList.all fun f => !(f.name == "_") && B5 P n f.type
  | some (.array _ e)=>B5 P n e
  | _=>false
def aiO (P:Program) (t:TypeId) (x y:KV):Option Bool:=
 match x,y with
 | .agg xs,.agg ys=>cond ((bw P t).agg&&B5 P 12 t&&!(P.eqGuardType P.depth t)&&aF (bw P t).ks xs&&aF (bw P t).ks ys) (rT xs ys) none
 | .bool a,.bool b=>match P.underlying t with
  | some .bool=>some (a==b)
  | _=>none
 | .kR,.kR=>match P.underlying t with
  | some (.slice _)=>some true
  | _=>none
 | .ts _ _ n _ _,.kR=>match P.underlying t with
  | some (.slice _)=>cond (Nat.beq n 0) none (some false)
  | _=>none
 | .kR,.ts _ _ n _ _=>match P.underlying t with
  | some (.slice _)=>cond (Nat.beq n 0) none (some false)
  | _=>none
 | .B4,.B4=>match P.underlying t with
  | some (.pointer _)=>some true
  | _=>none
 | .ptr _ _,.B4=>match P.underlying t with
  | some (.pointer _)=>some false
  | _=>none
 | .B4,.ptr _ _=>match P.underlying t with
  | some (.pointer _)=>some false
  | _=>none
 | _,_=>none
def aiP (P:Program) (op:BinOp) (t:TypeId):FP
 | [.int j a,.int k b]=>cond (adR op) (al3 op j a b) (cond (decide (j=k)) (opI op j a b) .no)
 | [.str a,.str b]=>match op with
  | .eql=>.ok (.bool (a.toList==b.toList))
  | .neq=>.ok (.bool !(a.toList==b.toList))
  | .lss=>.ok (.bool (Op.bytesLess a.toList b.toList))
  | .add=>.lZ (Nat.ble (a.size+b.size) 9223372036854775807) (.str (a++b))
  | _=>.no
 | [x,y]=>match op,aiO P t x y with
  | .eql,some b=>.ok (.bool b)
  | .neq,some b=>.ok (.bool !b)
  | _,_=>.no
 | _=>.no
def kUn (op:UnOp):FP
 | [.bool b]=>match op with
  | .not=>.ok (.bool !b)
  | _=>.no
 | [.int k n]=>match op with
  | .neg=>.ok (.int k (k.wrap (0 - n)))
  | .xor=>.ok (.int k (k.wrap (BitVec.ofInt k.bits (if k.signed then -1 else k.max) ^^^ BitVec.ofInt k.bits n).toNat))
  | _=>.no
 | _=>.no
def agC (k:IntKind):FP
 | [.int _ n]=>.ok (.int k (k.wrap n))
 | _=>.no
def agD:FP
 | [.str s]=>.ok (.str s)
 | _=>.no
def byteOf:KV→UInt8
 | .int _ n=>UInt8.ofNat n.toNat
 | _=>0
def agE:KV→Bool
 | .int .u8 n=>decide (0≤n)&&decide (n < 256)
 | _=>false
def Hw:FP
 | [.kR]=>.ok (.str ⟨⟨[]⟩⟩)
 | [.ts _ _ _ es _]=>.lZ (es.all agE) (.str ⟨⟨es.map byteOf⟩⟩)
 | _=>.no
def Oe (e:TypeId):FP
 | [.str s]=>.ok (.ts e .any s.size (s.data.toList.map fun b=>.int .u8 b.toNat) (fun i=>.int .u8 (s.data.toList.getD i 0).toNat))
 | _=>.no
def oo (P:Program) (src dst:TypeId) (x:Operand):p9:=
 match P.underlying src,P.underlying dst with
 | some (.int _),some (.int k)=>.pure (agC k) [x]
 | some .string,some .string=>.pure agD [x]
 | some (.slice e),some .string=>cond (isByte P e) (.read (fun _=>Hw) [x]) .bad
 | some .string,some (.slice e)=>cond (isByte P e) (.look (Oe e) [x]) .bad
 | _,_=>.bad
def Hx (f:Fn) (k:Nat):FP:=fun vs=>
 match uq k vs with
 | some first=>.ok (.fn f first (zU k vs))
 | none=>.no
def UX (s:TypeId) (off:Nat) (ft:TypeId) (vP:Bool):FP
 | [.ptr b o]=>.ok (.ptr b (o+off))
 | [.tp T Tc i k es acc]=>cond (Nat.beq Tc s&&vP) (.ok (.tp T ft i (k+off) es acc)) .no
 | [.ap T Tc b i k]=>cond (Nat.beq Tc s&&vP) (.ok (.ap T ft b i (k+off))) .no
 | _=>.no
def aiQ:CK→CK→Bool
 | .int a,.int b=>decide (a=b)
 | .bool,.bool=>true
 | .str,.str=>true
 | .slice a,.slice b=>Nat.beq a b
 | .other,.other=>true
 | _,_=>false
def zV:List CK→List CK→Bool
 | [],[]=>true
 | a::amI,b::bs=>aiQ a b&&zV amI bs
 | _,_=>false
def W9 (P:Program) (s:TypeId) (off:Nat) (ft:TypeId):Bool:=
 match uq (bw P ft).ks.length (zU off (bw P s).ks) with
 | some l=>zV l (bw P ft).ks
 | none=>false
def mj (P:Program) (s:TypeId) (x:Operand) (f:Nat):p9:=
 match uZ P s f with
 | some fd=>match size? P fd.type with
  | some (_+1)=>.pure (UX s fd.offset fd.type (W9 P s fd.offset fd.type)) [x]
  | _=>.bad
 | none=>.bad
def SP (P:Program) (t:TypeId) (cs:List KV) (off:Nat):Option KV:=
 match Pv P t with
 | some true=>(size? P t).bind fun n=>(uq n (zU off cs)).map fun l=>.agg l
 | some false=>(zU off cs).head?
 | none=>none
def agF (P:Program) (fd:Field):FP
 | [.agg cs]=>.of (SP P fd.type cs fd.offset)
 | _=>.no
def sa (P:Program) (t:TypeId) (x:Operand) (f:Nat):p9:=
 match uZ P t f with
 | some fd=>.pure (agF P fd) [x]
 | none=>.bad
def XW (i:Int) (n:Nat):Bool:=decide (0≤i)&&decide (i < (n:Int))
def agG {α:Type} (i:Int) (f:Nat→KR α) (m:Nat):Nat→KR α:=Nat.rec (motive:=fun _=>Nat→KR α) (fun _=>.no) (fun _ ih j=>.br (decide (i=(j:Int))) (f j) (ih (Nat.succ j))) m
def XX (P:Program) (t:TypeId) (len n:Nat) (e:TypeId):FP
 | [.ptr b o,.int _ i]=>cond (Nat.ble len 8) (agG i (fun j=>.ok (.ptr b (o+j * n))) len 0) (.lZ (XW i len) (.ptr b (o+i.toNat * n)))
 | [.tp T Tc j k es acc,.int _ i]=>cond (Nat.beq Tc t&&zV (bw P t).ks (dW (bw P e).ks len)&&Nat.beq (bw P e).ks.length n) (.lZ (XW i len) (.tp T e j (k+i.toNat * n) es acc)) .no
 | [.ap T Tc b j k,.int _ i]=>cond (Nat.beq Tc t&&zV (bw P t).ks (dW (bw P e).ks len)&&Nat.beq (bw P e).ks.length n) (.lZ (XW i len) (.ap T e b j (k+i.toNat * n))) .no
 | _=>.no
def abo (e n:Nat) (vP:Bool):FP
 | [.sl b o len _,.int _ i]=>.lZ (XW i len) (.ptr b (o+i.toNat * n))
 | [.ts T _ m es acc,.int _ i]=>cond (Nat.beq T e&&vP) (.lZ (XW i m) (.tp T T i.toNat 0 es acc)) .no
 | [.al T b o m,.int _ i]=>cond (Nat.beq T e&&vP) (.lZ (XW i m) (.ap T T b (o+i.toNat) 0)) .no
 | _=>.no
def ml (P:Program) (t:TypeId) (x ix:Operand):p9:=
 match P.underlying t with
 | some (.array len e)=>match size? P e with
  | some n=>.pure (XX P t len n e) [x,ix]
  | none=>.bad
 | some (.slice e)=>match size? P e with
  | some n=>.pure (abo e n (Nat.beq (bw P e).ks.length n)) [x,ix]
  | none=>.bad
 | _=>.bad
def Og (P:Program) (len n:Nat) (e:TypeId):FP
 | [.agg cs,.int _ i]=>cond (Nat.ble len 8) (agG i (fun j=>.of (SP P e cs (j * n))) len 0) (match SP P e cs (i.toNat * n) with
  | some v=>.lZ (XW i len) v
  | none=>.no)
 | _=>.no
def XY:FP
 | [.str s,.int _ i]=>.lZ (XW i s.size) (.int .u8 ((s.data.toList.getD i.toNat 0).toNat))
 | _=>.no
def se (P:Program) (t:TypeId) (x ix:Operand):p9:=
 match P.underlying t with
 | some (.array len e)=>match size? P e with
  | some n=>.pure (Og P len n e) [x,ix]
  | none=>.bad
 | some .string=>.pure XY [x,ix]
 | _=>.bad
def abp {α:Type} : Nat→List α→Option α
 | _,[]=>none
 | 0,x::_=>some x
 | n+1,_::xs=>abp n xs
def abq (i:Nat):FP
 | [.jI vs]=>.of (abp i vs)
 | _=>.no
def agH:FP
 | [.ts _ _ n _ _]=>.ok (.int .i64 (n:Int))
 | [.sl _ _ n _]=>.ok (.int .i64 (n:Int))
 | [.al _ _ _ n]=>.ok (.int .i64 (n:Int))
 | [.kR]=>.ok (.int .i64 0)
 | _=>.no
def adS:FP
 | [.str s]=>.ok (.int .i64 (s.size:Int))
 | _=>.no
def XZ (P:Program) (argTypes:List TypeId) (args:List Operand):p9:=
 match argTypes with
 | [t]=>match P.underlying t with
  | some (.slice _)=>.pure agH args
  | some .string=>.pure adS args
  | _=>.bad
 | _=>.bad
def FM (mx:Bool):FP
 | [.int j a,.int k b]=>cond (decide (j=k)) (.ok (.int j (cond mx (max a b) (min a b)))) .no
 | [.int j a,.int k b,.int l c]=>cond (decide (j=k)&&decide (j=l)) (.ok (.int j (cond mx (max (max a b) c) (min (min a b) c)))) .no
 | _=>.no
def PU (len:Nat) (lo hi:Bool):List KV→Option (Int×Int)
 | []=>cond (lo||hi) none (some (0,len))
 | [.int _ x]=>cond (lo&&!hi) (some (x,len)) (cond (!lo&&hi) (some (0,x)) none)
 | [.int _ x,.int _ y]=>cond (lo&&hi) (some (x,y)) none
 | _=>none
def SQ (P:Program) (n:Nat) (lo hi:Bool):FR:=fun A xs=>
 match xs with
 | .ts T _ m es acc::r=>match PU m lo hi r with
  | some (x,y)=>cond (Nat.beq (bw P T).ks.length n) (.lZ (decide (0≤x)&&decide (x≤y)&&decide (y≤(m:Int))) (.ts T .any (y.toNat - x.toNat) ((es.drop x.toNat).take (y.toNat - x.toNat)) (fun i=>acc (x.toNat+i)))) .no
  | none=>.no
 | .sl b o len cap::r=>match A.get b with
  | some (.row _ bW)=>match PU len lo hi r with
   | some (x,y)=>cond (Nat.beq bW n) (.lZ (decide (0≤x)&&decide (x≤y)&&decide (y≤(len:Int))&&decide (len≤cap)) (.sl b (o+x.toNat * n) (y.toNat - x.toNat) (cap - x.toNat))) .no
   | none=>.no
  | _=>.no
 | .al T b o m::r=>match EN A b with
  | some (.ts T' _ _ _ _)=>match PU m lo hi r with
   | some (x,y)=>cond (Nat.beq (bw P T).ks.length n&&Nat.beq T T') (.lZ (decide (0≤x)&&decide (x≤y)&&decide (y≤(m:Int))) (.al T b (o+x.toNat) (y.toNat - x.toNat))) .no
   | none=>.no
  | _=>.no
 | _=>.no
def Oh (len n:Nat) (lo hi:Bool):FR:=fun A xs=>
 match xs with
 | .ptr b o::r=>match A.get b with
  | some (.row cs bW)=>match PU len lo hi r with
   | some (x,y)=>cond (Nat.beq bW n&&Nat.ble (o+len * n) cs.length) (.lZ (decide (0≤x)&&decide (x≤y)&&decide (y≤(len:Int))) (.sl b (o+x.toNat * n) (y.toNat - x.toNat) (len - x.toNat))) .no
   | none=>.no
  | _=>.no
 | _=>.no
def Oi (lo hi:Bool):FP
 | .str s::r=>match PU s.size lo hi r with
  | some (x,y)=>.lZ (decide (0≤x)&&decide (x≤y)&&decide (y≤(s.size:Int))) (.str ⟨⟨(s.data.toList.drop x.toNat).take (y.toNat - x.toNat)⟩⟩)
  | none=>.no
 | _=>.no
def sf (P:Program) (t:TypeId) (x:Operand) (lo hi mx:Option Operand):p9:=
 match P.underlying t with
 | some (.slice e)=>match size? P e with
  | some n=>cond (Nat.ble 1 n&&mx.isNone) (.read (SQ P n lo.isSome hi.isSome) (x::(fS lo++fS hi))) .bad
  | none=>.bad
 | some (.array len e)=>match size? P e with
  | some n=>cond (Nat.ble 1 n&&mx.isNone) (.read (Oh len n lo.isSome hi.isSome) (x::(fS lo++fS hi))) .bad
  | none=>.bad
 | some .string=>cond mx.isNone (.pure (Oi lo.isSome hi.isSome) (x::(fS lo++fS hi))) .bad
 | _=>.bad
def fI (b n m:Nat):Bool:=Nat.ble ((n+m+512) * b) 17592186044416&&Nat.ble (n+m) 17592186044416&&(Nat.blt 0 m||Nat.beq n 0)
def av (top n:Nat):Bool:=Nat.beq top n
def fw (n:Nat) (f g:Nat→KV):Nat→KV:=fun i=>cond (Nat.blt i n) (f i) (g (i - n))
def PV (e sz b n:Nat) (base:List KV) (ab:Nat→KV) (A:ax) (f m:Nat) (new:List KV) (an:Nat→KV) (more:Bool):KR (KV×ax):=
 .lZ (more&&fI b n m)
  (.ts e (.bf f) (n+m) (base++new) (fw n ab an),A.put f (.bf (n+m) sz))
def JV (e sz b:Nat):FA:=fun A xs=>
 match xs with
 | [.kR,.ts e' _ m new an]=>cond (Nat.beq e e') (PV e sz b 0 [] ob (A.new (.bf 0 sz)) A.next m new an true) .no
 | [.ts e1 .exact n es ab,.ts e' _ m new an]=>cond (Nat.beq e e'&&Nat.beq e e1) (PV e sz b n es ab (A.new (.bf 0 sz)) A.next m new an (Nat.blt 0 m)) .no
 | [.ts e1 (.bf f) n es ab,.ts e' _ m new an]=>match A.get f with
  | some (.bf top sz')=>cond (Nat.beq e e'&&Nat.beq e e1&&Nat.beq sz' sz) (PV e sz b n es ab A f m new an (av top n)) .no
  | _=>.no
 | _=>.no
def acr (A:ax) (T b o n:Nat):Option KV:=
 match EN A b with
 | some (.ts T' _ _ es acc)=>cond (Nat.beq T T') (some (.ts T .any n ((es.drop o).take n) (fun i=>acc (o+i)))) none
 | _=>none
def JW (A:ax) (v:KV):Option KV:=
 match v with
 | .al T b o n=>acr A T b o n
 | .ts T m n es acc=>some (.ts T m n es acc)
 | _=>none
def agI (b n m:Nat):Bool:=Nat.ble ((n+m+512) * b) 17592186044416&&Nat.ble (n+m) 17592186044416
def Xa (e b n:Nat) (base:List KV) (ab:Nat→KV) (A:ax) (m:Nat) (new:List KV) (an:Nat→KV) (more:Bool):KR (KV×ax):=
 .lZ (more&&agI b n m) (.al e A.next 0 (n+m),A.new (.arr (.ts e .any (n+m) (base++new) (fw n ab an))))
def CG (e b:Nat):FA:=fun A xs=>
 match xs with
 | [.kR,.ts e' _ m new an]=>cond (Nat.beq e e') (Xa e b 0 [] ob A m new an true) .no
 | [.al e1 f o n,.ts e' _ m new an]=>match A.get f with
  | some (.arr (.ts e2 _ _ es acc))=>cond (Nat.beq e e'&&Nat.beq e e1&&Nat.beq e e2) (Xa e b n (es.take n) acc (A.put f .dead) m new an (Nat.beq o 0)) .no
  | _=>.no
 | _=>.no
def aiR:KV→Bool
 | .al _ _ _ _=>true
 | _=>false
def FN (e sz b:Nat) (mt:Bool):FA:=fun A xs=>
 match xs with
 | [x,y]=>match JW A y with
  | some y'=>cond (aiR x) (CG e b A [x,y']) (cond mt (CG e b A [x,y']) (JV e sz b A [x,y']))
  | none=>.no
 | _=>.no
def D4 (P:Program) (mt:TypeId→Bool) (argTypes:List TypeId) (args:List Operand):p9:=
 match argTypes with
 | [t,u]=>
  match P.underlying t,P.underlying u with
  | some (.slice e),some (.slice _)=>
   match P.info? e with
   | some i=>match i.zero with
    | some z=>cond (Nat.ble 1 i.size&&Nat.beq z.cells.size i.size&&Nat.beq (bw P e).ks.length i.size) (.act (FN e i.size i.bytes (mt e)) args) .bad
    | none=>.bad
   | none=>.bad
  | _,_=>.bad
 | _=>.bad
def JX (n b:Nat) (z:List KV):FA:=fun A xs=>
 match xs with
 | [.int _ l,.int _ c]=>.lZ (decide (0≤l)&&decide (l≤c)&&Nat.ble (b * c.toNat) 281474976710656) (.sl A.next 0 l.toNat c.toNat,A.new (.row (dW z c.toNat) n))
 | _=>.no
def X0 (A:ax) (v:KV):KV×ax:=
 match v with
 | .al T b o n=>match A.get b with
  | some (.arr (.ts T' m N es acc))=>cond (Nat.beq T T') (.ts T .any n ((es.drop o).take n) (fun i=>acc (o+i)),A.put b (.jH (.ts T' m N es acc))) (.aw,A)
  | some (.jH (.ts T' _ _ es acc))=>cond (Nat.beq T T') (.ts T .any n ((es.drop o).take n) (fun i=>acc (o+i)),A) (.aw,A)
  | _=>(.aw,A)
 | v=>(v,A)
def SR (A:ax):List KV→List KV×ax
 | []=>([],A)
 | v::vs=>((X0 A v).1::(SR (X0 A v).2 vs).1,(SR (X0 A v).2 vs).2)
def abr (A:ax) (v:KV):KV×ax:=
 match v with
 | .agg cs=>(.agg (SR A cs).1,(SR A cs).2)
 | v=>X0 A v
def vQ (A:ax):List KV→List KV×ax
 | []=>([],A)
 | v::vs=>((abr A v).1::(vQ (abr A v).2 vs).1,(vQ (abr A v).2 vs).2)
def SS (T b:Nat) (z:KV):FA:=fun A xs=>
 match xs with
 | [.int _ l,.int _ c]=>.lZ (decide (0≤l)&&decide (l≤c)&&Nat.ble (b * c.toNat) 281474976710656) (.al T A.next 0 l.toNat,A.new (.arr (.ts T .any c.toNat (dW [z] c.toNat) (fun _=>z))))
 | _=>.no
def acs (T b:Nat) (z:KV):FP:=fun xs=>
 match xs with
 | [.int _ l,.int _ c]=>.lZ (decide (0≤l)&&decide (l≤c)&&Nat.ble (b * c.toNat) 281474976710656) (.ts T .any l.toNat (dW [z] l.toNat) (fun _=>z))
 | _=>.no
def ur (P:Program) (mt:TypeId→Bool) (t:TypeId) (l c:Operand):p9:=
 match P.underlying t with
 | some (.slice e)=>
  match P.info? e with
  | some i=>match i.zero with
   | some z=>cond (mt (e+1000000)) (cond (Nat.ble 1 i.size&&Nat.ble 1 i.bytes&&Nat.beq z.cells.size i.size&&flat z&&z.cells.toList.all scalar&&Nat.beq (bw P e).ks.length i.size&&dx (bw P e) (gm (bw P e) (gP z))) (.look (acs e i.bytes (gm (bw P e) (gP z))) [l,c]) .bad) <| cond (mt e) (cond (Nat.ble 1 i.size&&Nat.ble 1 i.bytes&&Nat.beq z.cells.size i.size&&flat z&&z.cells.toList.all scalar&&Nat.beq (bw P e).ks.length i.size&&dx (bw P e) (gm (bw P e) (gP z))) (.act (SS e i.bytes (gm (bw P e) (gP z))) [l,c]) .bad) <| cond (Nat.ble 1 i.size&&Nat.ble 1 i.bytes&&Nat.beq z.cells.size i.size&&flat z&&z.cells.toList.all scalar&&hZ (gP z).cells) (.act (JX i.size i.bytes (gP z).cells) [l,c]) .bad
   | none=>.bad
  | none=>.bad
 | _=>.bad
def yF (es:List KV) (o:Nat) (new:List KV):List KV:=es.take o++new++es.drop (o+new.length)
def kP (o k:Nat) (f g:Nat→KV):Nat→KV:=fun i=>cond (Nat.blt i o) (f i) (cond (Nat.blt i (o+k)) (g (i - o)) (f i))
def afI (e:Nat):FA:=fun A xs=>
 match xs with
 | [.al e1 b o n,y]=>match JW A y,A.get b with
  | some (.ts e' _ m new an),some (.arr (.ts e2 _ N es acc))=>cond (Nat.beq e e'&&Nat.beq e e1&&Nat.beq e e2)
    (.ok (.int .i64 (Nat.min m n:Nat),A.put b (.arr (.ts e .any N (yF es o (new.take (Nat.min m n))) (kP o (Nat.min m n) acc an))))) .no
  | _,_=>.no
 | _=>.no
def LO (P:Program) (argTypes:List TypeId) (args:List Operand):p9:=
 match argTypes with
 | [t,u]=>
  match P.underlying t,P.underlying u with
  | some (.slice e),some (.slice _)=>match size? P e with
   | some n=>cond (Nat.ble 1 n&&Nat.beq (bw P e).ks.length n) (.act (afI e) args) .bad
   | none=>.bad
  | _,_=>.bad
 | _=>.bad
def yG (P:Program) (mt:TypeId→Bool) (b:Builtin) (argTypes:List TypeId) (args:List Operand):p9:=
 match b with
 | .len=>XZ P argTypes args
 | .min=>.pure (FM false) args
 | .max=>.pure (FM true) args
 | .append=>D4 P mt argTypes args
 | .copy=>LO P argTypes args
 | _=>.bad
inductive D5 where
 | no
 | out (e:aq) (t:bA) (A:ax)
 | br (c:Bool) (x y:D5)
inductive tj where
 | no
 | out (v:KV) (A:ax)
 | br (c:Bool) (x y:tj)
structure adT where
 ac:FuncId→Option (List KV→ax→tj)
 mt:TypeId→Bool
 fz:Bool
 eg:Bool
def adT.none:adT:=⟨fun _=>.none,fun _=>false,false,false⟩
structure eK where
 pc:FuncId→Option (List KV→KR KV)
 lp:FuncId→Nat→Option (bA→ax→D5)
 x:adT
def eK.none:eK:=⟨fun _=>.none,fun _ _=>.none,.none⟩
def ay (P:Program) (f:KV→KV) (t:TypeId) (e:KV):KV:=Jv (bw P t).agg ((leaves e (bw P t).ks 0).map f)
def ak (P:Program) (d:Nat):KV→KV:=Nat.rec (motive:=fun _=>KV→KV) (fun v=>v) (fun _ ih v=>match v with
 | .ts t _ n _ acc=>.ts t .any n ((List.range n).map fun i=>ay P ih t (acc i)) (fun i=>ay P ih t (acc i))
 | v=>v) d
def au:Nat:=6
def PW (P:Program) (t:TypeId) (v:KV):KV:=cond (dx (bw P t) (gm (bw P t) v)) (ay P (ak P au) t (gm (bw P t) v)) .aw
def normArgs (P:Program):List TypeId→List KV→List KV
 | t::ts,v::vs=>PW P t v::normArgs P ts vs
 | _,_=>[]
def aJ (P:Program) (g:FuncId):List TypeId:=match P.funcs.toList[g]? with
 | some fn=>fn.params.toList
 | none=>[]
def eK.adU (cfg:eK) (g:FuncId):Bool:=cfg.x.fz||cfg.x.mt (2000000+g)
def lM (P:Program) (cfg:eK) (c:Call):p9:=
 match c.callee with
 | .value (.func g)=>match cfg.pc g with
  | some F=>cond (cfg.adU g) (.C0 g (fun vs=>cond (Nat.beq vs.length (aJ P g).length) (F (normArgs P (aJ P g) vs)) .no) c.args.toList)
    (.zT g (fun vs=>cond (Nat.beq vs.length (aJ P g).length) (F (normArgs P (aJ P g) vs)) .no) c.args.toList)
  | none=>.call (.func g) c.args.toList
 | .value f=>.call f c.args.toList
 | .builtin b=>yG P cfg.x.mt b c.argTypes.toList c.args.toList
 | .invoke _ _=>.bad
def wF:Fn→Bool
 | .yield _=>true
 | _=>false
def bX (P:Program) (cfg:eK):Op→p9
 | .move x=>.pure acp [x]
 | .assign x=>.pure (cond cfg.x.eg acq acp) [x]
 | .pick c a b=>.pure afH [c,a,b]
 | .alloc t=>oP P t
 | .box t x=>.act (zC (nA P t)) [x]
 | .build t parts=>r7 P t (parts.toList.map (·.1)) (parts.toList.map (·.2))
 | .buildSlice t len parts=>lj P t len (parts.toList.map (·.1)) (parts.toList.map (·.2))
 | .load t a=>.read (SN P t) [a]
 | .store t a x=>.act (PT P t) [a,x]
 | .nilCheck x=>.pure XV [x]
 | .binOp op t x y _=>.pure (aiP P op t) [x,y]
 | .unOp op _ x=>.pure (kUn op) [x]
 | .convert src dst x=>oo P src dst x
 | .makeFunc fn first cap=>cond (wF fn) .bad (.pure (Hx fn first.size) (first.toList++cap.toList))
 | .fieldAddr s x f=>mj P s x f
 | .field t x f=>sa P t x f
 | .indexAddr t x ix=>ml P t x ix
 | .index t x ix=>se P t x ix
 | .extract t ix=>.pure (abq ix) [t]
 | .slice t x lo hi mx=>sf P t x lo hi mx
 | .makeSlice t l c=>ur P cfg.x.mt t l c
 | .call c=>lM P cfg c
 | _=>.bad
def kM (t:bA):Operand→KV
 | .tmp i=>(t.get i).getD .aw
 | .const v=>cond (flat v) (gP v) .aw
 | .global _=>.aw
 | .func f=>.fn (.func f) [] []
def lz (t:bA):List Operand→List KV
 | []=>[]
 | x::xs=>kM t x::lz t xs
def o5 (t:bA) (dst:Option Tmp) (v:KV):bA:=
 match dst with
 | some d=>t.set v d
 | none=>t
def C1 (args:List KV):KV→Option (FuncId×List KV)
 | .fn (.func g) first cap=>some (g,first++args++cap)
 | _=>none
inductive BK where
 | bool (b:Bool)
 | jI
 | no
def tl:KV→BK
 | .bool b=>.bool b
 | .jI _=>.jI
 | _=>.no
section
variable {R:Type}
abbrev m9 (R:Type):=FuncId→List KV→ax→(KV→ax→Option R)→Option R
def JY (bz:m9 R) (t:bA) (A:ax) (k:KV→ax→Option R) (ins:p9):Option R:=
 p9.rec (motive:=fun _=>Option R)
  (fun f xs=>(f (lz t xs)).run fun v=>k v A)
  (fun f xs=>(f A (lz t xs)).run fun v=>k v A)
  (fun f xs=>(f A (lz t xs)).run fun p=>k p.1 p.2)
  (fun f xs=>(f (lz t xs)).run fun v=>k v A)
  (fun _ f xs=>(f (lz t xs)).run fun v=>k v A)
  (fun _ f xs=>(f (vQ A (lz t xs)).1).run fun v=>k v (vQ A (lz t xs)).2)
  (fun f args=>Option.rec (motive:=fun _=>Option R) none (fun p=>bz p.1 p.2 A k) (C1 (lz t args) (kM t f)))
  none ins
def adV (t:bA) (d:Option Tmp) (want:Bool) (yes no:bA→Option R):Option R:=
 Option.rec (motive:=fun _=>Option R) none (fun d=>BK.rec (motive:=fun _=>Option R)
  (fun b=>Bool.rec (motive:=fun _=>Option R)
   (Bool.rec (motive:=fun _=>Option R) (yes (t.set (.bool false) d)) (no (t.set (.bool false) d)) want)
   (Bool.rec (motive:=fun _=>Option R) (no (t.set (.bool true) d)) (yes (t.set (.bool true) d)) want) b)
  (no t) none (tl ((t.get d).getD .aw))) d
def xt (P:Program) (cfg:eK) (bz:m9 R) (all:List Oper) (o:Oper) (k:bA→ax→Option R) (t:bA) (A:ax):Option R:=
 Option.rec (motive:=fun _=>Option R) (JY bz t A (fun v A=>k (o5 t o.dst v) A) (bX P cfg o.op))
  (fun g=>adV t ((all[g.1]?).bind (·.dst)) g.2 (fun t=>JY bz t A (fun v A=>k (o5 t o.dst v) A) (bX P cfg o.op)) (fun t=>k (o5 t o.dst qS) A)) o.guard
def rU (P:Program) (cfg:eK) (bz:m9 R) (all:List Oper) (k:bA→ax→Option R) (os:List Oper):bA→ax→Option R:=
 List.rec (motive:=fun _=>bA→ax→Option R) k (fun o _ ih=>xt P cfg bz all o ih) os
abbrev KE (R:Type):=aq→bA→ax→Option R
def acu (t:bA) (c:Operand) (f g:bA→Option R):Option R:=
 match c with
 | .tmp d=>BK.rec (motive:=fun _=>Option R) (fun b=>Bool.rec (motive:=fun _=>Option R) (g (t.set (.bool false) d)) (f (t.set (.bool true) d)) b) none none (tl ((t.get d).getD .aw))
 | c=>BK.rec (motive:=fun _=>Option R) (fun b=>Bool.rec (motive:=fun _=>Option R) (g t) (f t) b) none none (tl (kM t c))
def dC (i:p9):Nat:=p9.rec (motive:=fun _=>Nat) (fun _ _=>0) (fun _ _=>1) (fun _ _=>3) (fun _ _=>0) (fun _ _ _=>0) (fun _ _ _=>3) (fun _ _=>9) 9 i
def Xb:p9→List Operand
 | .pure _ xs=>xs
 | .read _ xs=>xs
 | .act _ xs=>xs
 | .look _ xs=>xs
 | .zT _ _ xs=>xs
 | .C0 _ _ xs=>xs
 | .call f xs=>f::xs
 | .bad=>[]
def mT (P:Program) (cfg:eK) (all:List Oper) (o:Oper):List Tmp:=CC all o++pZ (Xb (bX P cfg o.op))
def sg (P:Program) (cfg:eK) (all:List Oper) (x y:Oper):Bool:=JL x.dst (mT P cfg all y)||JL y.dst (mT P cfg all x)||PB x.dst y.dst
def EO (P:Program) (cfg:eK) (all:List Oper) (x y:Oper):Bool:=
 sg P cfg all x y||(Nat.ble 3 (dC (bX P cfg x.op))&&!(Nat.beq (dC (bX P cfg y.op)) 0))||(Nat.ble 3 (dC (bX P cfg y.op))&&!(Nat.beq (dC (bX P cfg x.op)) 0))
def LP:Op→Bool
 | .alloc _=>true
 | .box _ _=>true
 | .call c=>match c.callee with
  | .builtin .append=>true
  | _=>false
 | _=>false
def PX:Op→Option Operand
 | .store _ a _=>some a
 | _=>none
def agJ:Op→Option Operand
 | .load _ a=>some a
 | _=>none
def uu (i:Nat) (x:Operand):List Oper→Nat→Bool
 | [],_=>true
 | o::os,j=>(Nat.blt j i||!(JL o.dst (pZ [x])))&&uu i x os (Nat.succ j)
def Hy (i:Nat) (x:Option Operand) (all:List Oper):Bool:=
 match x with
 | some x=>uu i x all 0
 | none=>true
def Hz (x y:Oper):Option (Option Operand×Operand):=
 match agJ y.op with
 | some a=>cond (LP x.op) (some (none,a)) (match PX x.op with
  | some a2=>some (some a2,a)
  | none=>none)
 | none=>none
def UY (all:List Oper) (j:Nat) (x:Oper) (i:Nat) (y:Oper):Option (Option Operand×Operand):=
 match Hz x y with
 | some p=>cond (uu i p.2 all 0&&Hy j p.1 all) (some p) none
 | none=>match Hz y x with
  | some p=>cond (uu j p.2 all 0&&Hy i p.1 all) (some p) none
  | none=>none
def FO (t:bA) (nx:Nat) (p:Option Operand×Operand):Bool:=
 match kM t p.2 with
 | .tp _ _ _ _ _ _=>true
 | .ptr b _=>Nat.blt b nx&&(match p.1 with
  | some a2=>(match kM t a2 with
   | .ptr b2 _=>!(Nat.beq b b2)
   | .ap _ _ _ _ _=>true
   | _=>false)
  | none=>true)
 | _=>false
def Oj (t:bA) (nx:Nat) (l:List (Option Operand×Operand)):Bool:=List.rec (motive:=fun _=>Bool) true (fun p _ ih=>Bool.rec false ih (FO t nx p)) l
def A7 (P:Program) (cfg:eK) (all:List Oper) (b:List Nat) (i:Nat) (y:Oper):List Oper→Nat→List (Option Operand×Operand)
 | [],_=>[]
 | x::xs,j=>cond (Nat.ble i j||!EO P cfg all x y||oZ b i j) (A7 P cfg all b i y xs (Nat.succ j)) (match UY all j x i y with
  | some p=>p::A7 P cfg all b i y xs (Nat.succ j)
  | none=>A7 P cfg all b i y xs (Nat.succ j))
def SU (P:Program) (cfg:eK) (all:List Oper) (b:List Nat):List Oper→Nat→List (Option Operand×Operand)
 | [],_=>[]
 | o::os,i=>A7 P cfg all b i o all 0++SU P cfg all b os (Nat.succ i)
def Ol (P:Program) (cfg:eK) (all:List Oper):Bool:=all.all fun o=>!(Nat.ble 3 (dC (bX P cfg o.op)))||LP o.op||(PX o.op).isSome
def EP (P:Program) (cfg:eK) (all:List Oper):List (Option Operand×Operand):=SU P cfg all (eL [] all) all 0
def LQ (P:Program) (cfg:eK) (all:List Oper) (b:List Nat) (i:Nat) (y:Oper):List Oper→Nat→Bool
 | [],_=>true
 | x::xs,j=>(Nat.ble i j||!EO P cfg all x y||oZ b i j||(!sg P cfg all x y&&(UY all j x i y).isSome))&&LQ P cfg all b i y xs (Nat.succ j)
def FQ (P:Program) (cfg:eK) (all:List Oper) (b:List Nat):List Oper→Nat→Bool
 | [],_=>true
 | o::os,i=>LQ P cfg all b i o all 0&&FQ P cfg all b os (Nat.succ i)
def adW (P:Program) (cfg:eK) (all:List Oper):Bool:=FB P all&&all.all (fun o=>Nat.ble (dC (bX P cfg o.op)) 3)&&FQ P cfg all (eL [] all) all 0&&((EP P cfg all).isEmpty||Ol P cfg all)
def gM (o:Oper):Option (TypeId×Tmp):=
 match o.op,o.guard,o.dst with
 | .alloc T,none,some d=>some (T,d)
 | _,_,_=>none
def u9 (d:Tmp):List Oper→Bool
 | []=>false
 | o::os=>(match gM o with
  | some (_,e)=>Nat.beq d e
  | none=>false)||u9 d os
def rh (all:List Oper) (o:Oper):Option (TypeId×Tmp×Operand):=
 match o.op,o.guard,o.dst with
 | .store T (.tmp d) x,none,none=>cond (u9 d all) (some (T,d,x)) none
 | _,_,_=>none
def pL (all:List Oper) (o:Oper):Bool:=(gM o).isSome||(rh all o).isSome
def ri (all:List Oper) (d:Tmp):List Oper→Option (TypeId×Operand)
 | []=>none
 | o::os=>match rh all o with
  | some (T,e,x)=>cond (Nat.beq d e) (some (T,x)) (ri all d os)
  | none=>ri all d os
def FT (i:Nat) (d:Tmp):List Oper→Nat→Bool
 | [],_=>true
 | o::os,j=>(Nat.beq j i||!(JL o.dst [d]))&&FT i d os (Nat.succ j)
def zW (all:List Oper) (i:Nat) (d:Tmp):List Oper→Nat→Bool
 | [],_=>true
 | o::os,j=>(Nat.beq j i||(match rh all o with
  | some (_,e,_)=>!(Nat.beq d e)
  | none=>true))&&zW all i d os (Nat.succ j)
def JZ (all:List Oper):List Oper→Nat→Bool
 | [],_=>true
 | o::os,i=>(match gM o with
  | some (_,d)=>FT i d all 0
  | none=>true)&&(match rh all o with
  | some (_,d,x)=>uu i x all 0&&zW all i d all 0&&u9 d (all.take i)&&!(JL (some d) (pZ [x]))
  | none=>true)&&JZ all os (Nat.succ i)
def CH (P:Program) (cfg:eK) (all:List Oper) (b:List Nat) (i:Nat) (y:Oper):List Oper→Nat→Bool
 | [],_=>true
 | x::xs,j=>(Nat.ble i j||!sg P cfg all x y||oZ b i j)&&CH P cfg all b i y xs (Nat.succ j)
def xZ (P:Program) (cfg:eK) (all:List Oper) (b:List Nat):List Oper→Nat→Bool
 | [],_=>true
 | o::os,i=>CH P cfg all b i o all 0&&xZ P cfg all b os (Nat.succ i)
def FU (o:Oper):Option (Operand×List Operand):=
 match o.op,o.guard with
 | .call c,none=>match c.callee with
  | .value (.tmp d)=>some (.tmp d,c.args.toList)
  | _=>none
 | _,_=>none
def Cf (P:Program) (cfg:eK) (t:bA) (p:Operand×List Operand):p9:=
 match kM t p.1 with
 | .fn (.func g) [] []=>match cfg.pc g with
  | some F=>.zT g (fun vs=>cond (Nat.beq vs.length (aJ P g).length) (F (normArgs P (aJ P g) vs)) .no) p.2
  | none=>.bad
 | _=>.bad
def PY (P:Program) (cfg:eK) (all:List Oper):Bool:=FB P all&&all.all (fun o=>pL all o||Nat.ble (dC (bX P cfg o.op)) 1||(FU o).isSome)&&xZ P cfg all (eL [] all) all 0&&JZ all all 0
def afJ (P:Program) (cfg:eK) (bz:m9 R) (all:List Oper) (o:Oper) (k:bA→ax→Option R) (t:bA) (A:ax):Option R:=
 Bool.rec (motive:=fun _=>Option R) (Option.rec (motive:=fun _=>Option R) (xt P cfg bz all o k t A) (fun p=>JY bz t A (fun v A=>k (o5 t o.dst v) A) (Cf P cfg t p)) (FU o)) (k (o5 t o.dst .aw) A) (pL all o)
def X1 (P:Program) (cfg:eK) (bz:m9 R) (all:List Oper) (k:bA→ax→Option R) (os:List Oper):bA→ax→Option R:=
 List.rec (motive:=fun _=>bA→ax→Option R) k (fun o _ ih=>afJ P cfg bz all o ih) os
def va (P:Program) (all:List Oper) (t:bA) (T:TypeId) (d:Tmp):Option (List KV):=
 match pK P T with
 | some z=>cond (flat z&&z.cells.toList.all scalar&&hZ (gP z).cells&&decide (some (gP z).cells.length=size? P T)) (match ri all d all with
  | some (T',x)=>cond (Nat.beq T T'&&decide (some (kM t x).cells.length=size? P T)&&hZ (kM t x).cells) (some (kM t x).cells) none
  | none=>some (gP z).cells) none
 | none=>none
def UZ (P:Program) (all:List Oper) (t0:bA) (k:bA→ax→Option R) (os:List Oper):bA→ax→Option R:=
 List.rec (motive:=fun _=>bA→ax→Option R) k (fun o _ ih t A=>Option.rec (motive:=fun _=>Option R) (ih t A) (fun p=>
  Option.rec (motive:=fun _=>Option R) none (fun cs=>ih (t.set (.ptr A.next 0) p.2) (A.new (.row cs (nA P p.1)))) (va P all t0 p.1 p.2)) (gM o)) os
def aiS (P:Program) (cfg:eK) (o:Oper):Bool:=
 match bX P cfg o.op with
 | .call _ _=>true
 | _=>false
def abt (P:Program) (cfg:eK):List Oper→Nat→Option Nat
 | [],_=>none
 | o::os,i=>cond (aiS P cfg o) (some i) (abt P cfg os (Nat.succ i))
def FV (P:Program) (cfg:eK) (b:List Nat) (i:Nat):List Oper→Nat→Bool
 | [],_=>true
 | q::os,j=>cond (Nat.beq j i) true (cond (Nat.blt j i) (cond (Nat.beq (dC (bX P cfg q.op)) 0) true (oZ b i j)) (oZ b j i))&&FV P cfg b i os (Nat.succ j)
def FW (P:Program) (cfg:eK) (b:List Nat) (all:List Oper):List Oper→Nat→Bool
 | [],_=>true
 | o::os,i=>cond (Nat.ble (dC (bX P cfg o.op)) 1) true (FV P cfg b i all 0)&&FW P cfg b all os (Nat.succ i)
def HA (P:Program) (cfg:eK) (all:List Oper):Bool:=
 match abt P cfg all 0 with
 | some _=>FB P all&&xZ P cfg all (eL [] all) all 0&&FW P cfg (eL [] all) all all 0
 | none=>false
def X2 (P:Program) (cfg:eK) (bz:m9 R) (ops:List Oper) (draw:Bool) (k:bA→ax→Option R):bA→ax→Option R:=
 Bool.rec (motive:=fun _=>bA→ax→Option R) (rU P cfg bz ops k ops) (Bool.rec (motive:=fun _=>bA→ax→Option R)
  (Bool.rec (motive:=fun _=>bA→ax→Option R)
   (Bool.rec (motive:=fun _=>bA→ax→Option R) (fun _ _=>none) (X1 P cfg bz ops (fun t A=>UZ P ops t k ops t A) ops) (PY P cfg ops))
   (rU P cfg bz ops k ops) (HA P cfg ops))
  (fun t A=>rU P cfg bz ops (fun t' A'=>Bool.rec (motive:=fun _=>Option R) none (k t' A') (Oj t' A.next (EP P cfg ops))) ops t A) (adW P cfg ops)) draw
def acv (k:KE R) (f:bA→ax→Option R):KE R:=fun e t A=>aq.rec (motive:=fun _=>Option R) (f t A) (fun i=>k (.exit i) t A) (fun l=>k (.goto l) t A) (k .ret t A) e
def agK (id:Nat) (k:KE R):KE R:=fun e t A=>aq.rec (motive:=fun _=>Option R) (k .normal t A) (fun i=>Bool.rec (motive:=fun _=>Option R) (k (.exit i) t A) (k .normal t A) (Nat.beq i id)) (fun l=>k (.goto l) t A) (k .ret t A) e
def X3 (k:KE R):KE R:=fun e t A=>aq.rec (motive:=fun _=>Option R) (k .normal t A) (fun i=>k (.exit i) t A) (fun _=>none) (k .ret t A) e
def SV (g:KE R→bA→ax→Option R) (k:KE R) (L:Nat):bA→ax→Option R:=
 Nat.rec (motive:=fun _=>bA→ax→Option R) (fun _ _=>none) (fun _ ih=>g (acv k ih)) L
def tj.run (k:KV→ax→Option R) (x:tj):Option R:=tj.rec (motive:=fun _=>Option R) none (fun v A=>k v A) (fun c _ _ rx ry=>Bool.rec (motive:=fun _=>Option R) ry rx c) x
def D5.run (k:KE R) (x:D5):Option R:=D5.rec (motive:=fun _=>Option R) none (fun e t A=>k e t A) (fun c _ _ rx ry=>Bool.rec (motive:=fun _=>Option R) ry rx c) x
def afK (F:bA→ax→D5) (k:KE R) (t:bA) (A:ax):Option R:=(F t A).run k
def pM (P:Program) (cfg:eK) (bz:m9 R) (L:Nat) (f:FuncId) (c:Code):Nat→KE R→bA→ax→Option R:=
 Code.rec (motive:=fun _=>Nat→KE R→bA→ax→Option R) (fun _ k t A=>k .normal t A)
  (fun _ ops d _ k=>X2 P cfg bz ops.toList d (fun t A=>k .normal t A))
  (fun _ _ a b p k=>a (2 * p) (acv k fun t A=>b (2 * p+1) k t A))
  (fun c _ _ a b p k t A=>acu t c (fun t=>a (2 * p) k t A) (fun t=>b (2 * p+1) k t A))
  (fun id _ g p k=>g (2 * p) (agK id k))
  (fun _ g p k=>Option.rec (motive:=fun _=>bA→ax→Option R) (SV (g (2 * p)) k L) (fun F=>afK F k) (cfg.lp f p))
  (fun _ _ _ _ _ _ _ _ _ _=>none) (fun id _ k t A=>k (.exit id) t A) (fun _ g p k=>g (2 * p) (X3 k)) (fun _ _ k t A=>k .normal t A) (fun l _ k t A=>k (.goto l) t A) (fun _ k t A=>k .ret t A) (fun _ _ _ _ _=>none) c
def nC:List KV→Nat→bA→bA
 | [],_,t=>t
 | v::vs,i,t=>nC vs (Nat.succ i) (t.set v i)
def FX (P:Program) (A:ax) (t:bA):List ResultVar→Option (List KV)
 | []=>some []
 | .tmp x::rs=>(FX P A t rs).map (kM t (.tmp x)::·)
 | .cell a ty::rs=>match SN P ty A [kM t (.tmp a)] with
  | .ok v=>(FX P A t rs).map (v::·)
  | _=>none
def C2:List KV→KV
 | [v]=>v
 | vs=>.jI vs
def adX (P:Program) (fn:Func) (k:List KV→ax→Option R):KE R:=fun e t A=>
 aq.rec (motive:=fun _=>Option R) (Option.rec (motive:=fun _=>Option R) none (fun vs=>k vs A) (FX P A t fn.results.toList)) (fun _=>none) (fun _=>none) (Option.rec (motive:=fun _=>Option R) none (fun vs=>k vs A) (FX P A t fn.results.toList)) e
def SW (P:Program) (cfg:eK) (bz:m9 R) (L:Nat) (f:FuncId) (args:List KV) (A:ax) (k:List KV→ax→Option R):Option R:=
 match P.funcs.toList[f]? with
 | some fn=>match fn.body with
  | some c=>pM P cfg bz L f c 1 (adX P fn k) (nC args 0 .leaf) A
  | none=>none
 | none=>none
def D6 (P:Program) (cfg:eK) (L:Nat) (n:Nat):m9 R:=
 Nat.rec (motive:=fun _=>m9 R) (fun _ _ _ _=>none) (fun _ ih f args A k=>
  Bool.rec (motive:=fun _=>Option R) none (Option.rec (motive:=fun _=>Option R) (SW P cfg ih L f args A fun vs B=>k (C2 vs) B) (fun F=>tj.run k (F args A)) (cfg.x.ac f)) (Nat.blt f yB)) n
end
def vb (P:Program):List TypeId→List KV→List KV
 | t::ts,v::vs=>PW P t v::vb P ts vs
 | _,_=>[]
def rj (P:Program) (g:FuncId):List TypeId:=match P.funcs.toList[g]? with
 | some fn=>fn.resultTypes.toList
 | none=>[]
def dp (P:Program) (cfg:eK) (L n:Nat) (f:FuncId) (args:List KV):Option KV:=
 SW P cfg (D6 P cfg L n) L f args .empty fun vs A=>Bool.rec (motive:=fun _=>Option KV) none (some (C2 (vb P (rj P f) (vQ A vs).1))) (Nat.beq vs.length (rj P f).length)
end
end Go.K
end
section
namespace Go.K
open Go Go.aE
structure adY where
 cs:List Value
 bW:Nat
 own:Bool
 bQ:Option (Nat×Nat)
structure Env where
 κ:Nat→Option Nat
 z:Nat→Option adY
 φ:Nat→Option Nat
 α:Nat→Option (Nat×Nat×Nat)
structure Env.le (E E' : Env):Prop where
 α:∀ b p,E.α b=some p→E'.α b=some p
 κ:∀ b x,E.κ b=some x→E'.κ b=some x
 z:∀ b r,E.z b=some r→E'.z b=some r
 φ:∀ b g,E.φ b=some g→E'.φ b=some g
theorem Env.le_refl (E:Env):E.le E:=⟨fun _ _ h=>h,fun _ _ h=>h,fun _ _ h=>h,fun _ _ h=>h⟩
theorem Env.le_trans {E F G:Env} (h:E.le F) (k:F.le G):E.le G:=⟨fun b p e=>k.α b p (h.α b p e),fun b x e=>k.κ b x (h.κ b x e),fun b x e=>k.z b x (h.z b x e),fun b x e=>k.φ b x (h.φ b x e)⟩
def od (sz off:Nat) (cs es:List Value):Prop:=∀ (i:Nat) (x:Value),es[i]? = some x→x.cells.size=sz∧∀ (k:Nat) (y:Value),x.cells[k]? = some y→cs[off+i * sz+k]? = some y
def Xc (E:Env) (sz:Nat) (a:Option Addr) (n:Nat) (es:List Value):Prop:=
 (a=none∧n=0)∨∃ b off r,a=some ⟨b,off,none⟩∧E.z b=some r∧r.bW=sz∧od sz off r.cs es
def LR (E:Env) (sz:Nat) (a:Option Addr) (n cap:Nat):Mk→Prop
 | .any=>True
 | .exact=>cap=n∧∀ b off,a=some ⟨b,off,none⟩→∃ r,E.z b=some r∧r.own=true∧r.bQ=none∧off+cap * sz=r.cs.length
 | .bf f=>cap=n∧((n=0∧a=none)∨∃ b r g,a=some ⟨b,0,none⟩∧E.z b=some r∧r.own=true∧E.φ f=some g∧r.bQ=some (g,0)∧r.cs.length=n * sz)
structure iX (P:Program) (T:TypeId) (n:Nat) (es:List KV) (acc:Nat→KV):Prop where
 len:n=es.length
 acc:∀ i,i < n→acc i=es.getD i .aw
 typed:fO (bw P T) es=true
def bg (P:Program) (T:TypeId):Nat:=(bw P T).ks.length
def adZ (P:Program) (E:Env) (T:TypeId) (m:Mk) (n:Nat) (bq:List Value) (v:Value):Prop:=
 ∃ a cap,v = .slice a n cap∧n≤cap∧Xc E (bg P T) a n bq∧LR E (bg P T) a n cap m
structure Xd (P:Program) (T Tc:TypeId) (k:Nat):Prop where
 is:∀ m c,(bw P Tc).ks[m]? = some c→(bw P T).ks[k+m]? = some c
def ad0 (P:Program) (E:Env) (T Tc:TypeId) (i k:Nat) (es:List KV) (bq:List Value) (v:Value):Prop:=
 i < es.length∧Xd P T Tc k∧∃ b off r,v = .pointer (some ⟨b,off+i * bg P T+k,none⟩)∧E.z b=some r∧od (bg P T) off r.cs bq
def U0 (P:Program) (E:Env) (T:TypeId) (b o n:Nat) (v:Value):Prop:=
 (n=0∧o=0∧v = .slice none 0 0)∨∃ x L N c,E.α b=some (x,L,N)∧v = .slice (some ⟨x,o * bg P T,none⟩) n c∧n≤c∧o+n≤N∧(o+c) * bg P T=L
def abu (P:Program) (E:Env) (T Tc:TypeId) (b i k:Nat) (v:Value):Prop:=
 ∃ x L N,E.α b=some (x,L,N)∧Xd P T Tc k∧i < N∧v = .pointer (some ⟨x,i * bg P T+k,none⟩)
mutual
def VK (P:Program) (E:Env):KV→Value→Prop
 | .int k n,v=>v = .int k n
 | .bool b,v=>v = .bool b
 | .str s,v=>v = .string s
 | .agg cs,v=>∃ l,v = .agg ⟨l⟩∧bd P E cs l
 | .jI cs,v=>∃ l,v = .tuple ⟨l⟩∧bd P E cs l
 | .ts T m n es acc,v=>iX P T n es acc∧∃ bq,bd P E es bq∧adZ P E T m n bq v
 | .tp T Tc i k es acc,v=>iX P T es.length es acc∧∃ bq,bd P E es bq∧ad0 P E T Tc i k es bq v
 | .al T b o n,v=>U0 P E T b o n v
 | .ap T Tc b i k,v=>abu P E T Tc b i k v
 | .ptr b off,v=>∃ x,E.κ b=some x∧v = .pointer (some ⟨x,off,none⟩)
 | .sl b off n c,v=>∃ x,E.κ b=some x∧v = .slice (some ⟨x,off,none⟩) n c
 | .B4,v=>v = .pointer none
 | .kR,v=>v = .slice none 0 0
 | .yC,v=>v = .map none
 | .map b,v=>∃ x,E.κ b=some x∧v = .map (some x)
 | .fn f first cap,v=>∃ l m,v = .func f ⟨l⟩ ⟨m⟩∧bd P E first l∧bd P E cap m
 | .CY,v=>v = .nilFunc
 | .iface t x,v=>∃ y,v = .iface t y∧VK P E x y
 | .CZ,v=>v = .nilIface
 | .aw,_=>True
def bd (P:Program) (E:Env):List KV→List Value→Prop
 | [],l=>l = []
 | x::xs,l=>∃ y ys,l=y::ys∧VK P E x y∧bd P E xs ys
end
variable {P:Program} {E E' : Env}
theorem LR.mono (h:E.le E') {sz:Nat} {a:Option Addr} {n cap:Nat} {m:Mk} (k:LR E sz a n cap m):LR E' sz a n cap m:=by
 cases m with
 | any=>trivial
 | exact=>exact ⟨k.1,fun b off e=>by obtain ⟨r,h1,h2⟩:=k.2 b off e; exact ⟨r,h.z _ _ h1,h2⟩⟩
 | bf f=>
  refine ⟨k.1,k.2.imp id ?_⟩
  rintro ⟨b,r,g,h1,h2,h3,h4,h5⟩
  exact ⟨b,r,g,h1,h.z _ _ h2,h3,h.φ _ _ h4,h5⟩
theorem Xc.mono (h:E.le E') {sz:Nat} {a:Option Addr} {n:Nat} {es:List Value} (k:Xc E sz a n es):Xc E' sz a n es:=by
 refine k.imp id ?_
 rintro ⟨b,off,r,h1,h2,h3⟩
 exact ⟨b,off,r,h1,h.z _ _ h2,h3⟩
theorem adZ.mono (h:E.le E') {T:TypeId} {m:Mk} {n:Nat} {es:List Value} {v:Value} (k:adZ P E T m n es v):adZ P E' T m n es v:=by
 obtain ⟨a,cap,h1,h2,h3,h4⟩:=k
 exact ⟨a,cap,h1,h2,h3.mono h,h4.mono h⟩
theorem ad0.mono (h:E.le E') {T Tc:TypeId} {i k:Nat} {es:List KV} {bq:List Value} {v:Value} (q:ad0 P E T Tc i k es bq v):ad0 P E' T Tc i k es bq v:=by
 obtain ⟨h1,h2,b,off,r,h3,h4,h5⟩:=q
 exact ⟨h1,h2,b,off,r,h3,h.z _ _ h4,h5⟩
theorem U0.mono (h:E.le E') {T:TypeId} {b o n:Nat} {v:Value} (q:U0 P E T b o n v):U0 P E' T b o n v:=by
 refine q.imp id ?_
 rintro ⟨x,L,N,c,h1,h2⟩
 exact ⟨x,L,N,c,h.α _ _ h1,h2⟩
theorem abu.mono (h:E.le E') {T Tc:TypeId} {b i k:Nat} {v:Value} (q:abu P E T Tc b i k v):abu P E' T Tc b i k v:=by
 obtain ⟨x,L,N,h1,h2⟩:=q
 exact ⟨x,L,N,h.α _ _ h1,h2⟩
mutual
theorem VK.mono (h:E.le E'):∀ {v:KV} {v' : Value},VK P E v v'→VK P E' v v'
 | .int k n,v,q=>q
 | .bool b,v,q=>q
 | .str s,v,q=>q
 | .agg cs,v,q=>by
  simp only [VK] at q ⊢
  obtain ⟨l,e,q⟩:=q
  exact ⟨l,e,bd.mono h q⟩
 | .jI cs,v,q=>by
  simp only [VK] at q ⊢
  obtain ⟨l,e,q⟩:=q
  exact ⟨l,e,bd.mono h q⟩
 | .ts T m n es acc,v,q=>by
  simp only [VK] at q ⊢
  obtain ⟨t,l,q,k⟩:=q
  exact ⟨t,l,bd.mono h q,k.mono h⟩
 | .tp T Tc i k es acc,v,q=>by
  simp only [VK] at q ⊢
  obtain ⟨t,l,q,k⟩:=q
  exact ⟨t,l,bd.mono h q,k.mono h⟩
 | .al T b o n,v,q=>by
  simp only [VK] at q ⊢
  exact q.mono h
 | .ap T Tc b i k,v,q=>by
  simp only [VK] at q ⊢
  exact q.mono h
 | .ptr b off,v,q=>by
  simp only [VK] at q ⊢
  obtain ⟨x,e,q⟩:=q
  exact ⟨x,h.κ _ _ e,q⟩
 | .sl b off n c,v,q=>by
  simp only [VK] at q ⊢
  obtain ⟨x,e,q⟩:=q
  exact ⟨x,h.κ _ _ e,q⟩
 | .B4,v,q=>q
 | .kR,v,q=>q
 | .yC,v,q=>q
 | .map b,v,q=>by
  simp only [VK] at q ⊢
  obtain ⟨x,e,q⟩:=q
  exact ⟨x,h.κ _ _ e,q⟩
 | .fn f first cap,v,q=>by
  simp only [VK] at q ⊢
  obtain ⟨l,m,e,q1,q2⟩:=q
  exact ⟨l,m,e,bd.mono h q1,bd.mono h q2⟩
 | .CY,v,q=>q
 | .iface t x,v,q=>by
  simp only [VK] at q ⊢
  obtain ⟨y,e,q⟩:=q
  exact ⟨y,e,VK.mono h q⟩
 | .CZ,v,q=>q
 | .aw,v,q=>q
theorem bd.mono (h:E.le E'):∀ {v:List KV} {v' : List Value},bd P E v v'→bd P E' v v'
 | [],_,q=>q
 | x::xs,_,q=>by
  simp only [bd] at q ⊢
  obtain ⟨y,ys,e,q1,q2⟩:=q
  exact ⟨y,ys,e,VK.mono h q1,bd.mono h q2⟩
end
theorem bd.nil:bd P E [] []:=by simp [bd]
theorem bd.cons {x:KV} {y:Value} {xs:List KV} {ys:List Value} (h:VK P E x y) (k:bd P E xs ys):bd P E (x::xs) (y::ys):=by
 simp only [bd]; exact ⟨y,ys,rfl,h,k⟩
theorem bd.ck {l:List Value} (h:bd P E [] l):l = []:=by simpa [bd] using h
theorem bd.cons_inv {x:KV} {xs:List KV} {l:List Value} (h:bd P E (x::xs) l):∃ y ys,l=y::ys∧VK P E x y∧bd P E xs ys:=by simpa [bd] using h
theorem bd.eX {x:KV} {l:List Value} (h:bd P E [x] l):∃ y,l = [y]∧VK P E x y:=by
 obtain ⟨y,ys,rfl,h1,h2⟩:=h.cons_inv
 rw [h2.ck]; exact ⟨y,rfl,h1⟩
theorem bd.kS {x y:KV} {l:List Value} (h:bd P E [x,y] l):∃ x' y',l = [x',y']∧VK P E x x'∧VK P E y y':=by
 obtain ⟨a,ys,rfl,h1,h2⟩:=h.cons_inv
 obtain ⟨b,rfl,h3⟩:=h2.eX
 exact ⟨a,b,rfl,h1,h3⟩
theorem bd.Om {x y u:KV} {l:List Value} (h:bd P E [x,y,u] l):∃ x' y' u',l = [x',y',u']∧VK P E x x'∧VK P E y y'∧VK P E u u':=by
 obtain ⟨a,ys,rfl,h1,h2⟩:=h.cons_inv
 obtain ⟨b,c,rfl,h3,h4⟩:=h2.kS
 exact ⟨a,b,c,rfl,h1,h3,h4⟩
theorem bd.length:∀ {l:List KV} {l' : List Value},bd P E l l'→l'.length=l.length
 | [],l',h=>by rw [h.ck]; rfl
 | x::xs,l',h=>by
  obtain ⟨y,ys,rfl,_,k⟩:=h.cons_inv
  simp [bd.length k]
theorem bd.get:∀ {l:List KV} {l' : List Value} {i:Nat} {v:KV},bd P E l l'→l[i]? = some v→∃ v',l'[i]? = some v'∧VK P E v v'
 | [],_,_,_,_,e=>by simp at e
 | x::xs,l',i,v,h,e=>by
  obtain ⟨y,ys,rfl,yw,k⟩:=h.cons_inv
  cases i with
  | zero=>simp at e; subst e; exact ⟨y,rfl,yw⟩
  | succ i=>simp at e; simpa using bd.get k e
theorem bd.append:∀ {a:List KV} {a' : List Value} {b:List KV} {b' : List Value},bd P E a a'→bd P E b b'→bd P E (a++b) (a'++b')
 | [],a',b,b',h,k=>by rw [h.ck]; exact k
 | x::xs,a',b,b',h,k=>by
  obtain ⟨y,ys,rfl,yw,m⟩:=h.cons_inv
  exact .cons yw (bd.append m k)
theorem bd.take:∀ (n:Nat) {l:List KV} {l' : List Value},bd P E l l'→bd P E (l.take n) (l'.take n)
 | 0,_,_,_=>by simp [bd.nil]
 | n+1,[],l',h=>by rw [h.ck]; simp [bd.nil]
 | n+1,x::xs,l',h=>by
  obtain ⟨y,ys,rfl,yw,k⟩:=h.cons_inv
  simpa using bd.cons yw (bd.take n k)
theorem bd.drop:∀ (n:Nat) {l:List KV} {l' : List Value},bd P E l l'→bd P E (l.drop n) (l'.drop n)
 | 0,_,_,h=>by simpa using h
 | n+1,[],l',h=>by rw [h.ck]; simp [bd.nil]
 | n+1,x::xs,l',h=>by
  obtain ⟨y,ys,rfl,_,k⟩:=h.cons_inv
  simpa using bd.drop n k
theorem LS {α:Type} : ∀ {n:Nat} {l r:List α},uq n l=some r→r=l.take n∧n≤l.length
 | 0,l,r,h=>by simp [uq] at h; subst h; simp
 | n+1,[],r,h=>by simp [uq] at h
 | n+1,x::xs,r,h=>by
  simp only [uq,Option.map_eq_some_iff] at h
  obtain ⟨q,hq,rfl⟩:=h
  obtain ⟨rfl,hn⟩:=LS hq
  exact ⟨by simp,by simpa using hn⟩
theorem FY {α:Type} : ∀ (n:Nat) (l:List α),zU n l=l.drop n
 | 0,l=>rfl
 | n+1,[]=>rfl
 | n+1,x::xs=>by simp [zU,FY n xs]
theorem FZ:∀ {n:Nat} {l:List Value},n≤l.length→takeN n l=some (l.take n)
 | 0,l,_=>rfl
 | n+1,[],h=>by simp at h
 | n+1,x::xs,h=>by rw [UL,FZ (n:=n) (l:=xs) (by simpa using h)]; rfl
theorem bd.uq {n k:Nat} {l r:List KV} {l' : List Value} (h:bd P E l l') (e:uq n (zU k l)=some r):∃ r',takeN n (CO k l')=some r'∧bd P E r r'∧r' = (l'.drop k).take n:=by
 obtain ⟨rfl,hn⟩:=LS e
 rw [FY] at hn ⊢
 have hl:=h.length
 rw [qY]
 refine ⟨_,FZ ?_,(h.drop k).take n,rfl⟩
 simp only [List.length_drop] at hn ⊢
 omega
theorem bd.lh:∀ {n:Nat} {l:List KV} {l' : List Value} {vs r:List KV} {cR:List Value},lh n l vs=some r→bd P E l l'→bd P E vs cR→∃ r',hX n l' cR=some r'∧bd P E r r'
 | 0,l,l',[],r,cR,h,hl,hv=>by simp [K.lh] at h; subst h; rw [hv.ck]; exact ⟨l',xo l',hl⟩
 | 0,[],l',_::_,r,cR,h,hl,hv=>by simp [K.lh] at h
 | 0,x::l,l',v::vs,r,cR,h,hl,hv=>by
  obtain ⟨y,ys,rfl,_,k⟩:=hl.cons_inv
  obtain ⟨u,us,rfl,h1,h2⟩:=hv.cons_inv
  simp only [K.lh,Option.map_eq_some_iff] at h
  obtain ⟨q,hq,rfl⟩:=h
  obtain ⟨r',e,hr⟩:=bd.lh hq k h2
  exact ⟨u::r',by simp [uf,e],.cons h1 hr⟩
 | n+1,[],l',[],r,cR,h,hl,hv=>by simp [K.lh] at h; subst h; rw [hl.ck,hv.ck]; exact ⟨[],rfl,.nil⟩
 | n+1,[],l',_::_,r,cR,h,hl,hv=>by simp [K.lh] at h
 | n+1,x::l,l',vs,r,cR,h,hl,hv=>by
  obtain ⟨y,ys,rfl,h1,k⟩:=hl.cons_inv
  simp only [K.lh,Option.map_eq_some_iff] at h
  obtain ⟨q,hq,rfl⟩:=h
  obtain ⟨r',e,hr⟩:=bd.lh hq k hv
  exact ⟨y::r',by simp [qB,e],.cons h1 hr⟩
theorem bd.PC:∀ {l:List KV} {l' : List Value},l'.length=l.length→(∀ (i:Nat) (v:KV) (v' : Value),l[i]? = some v→l'[i]? = some v'→VK P E v v')→bd P E l l'
 | [],l',h,_=>by cases l' <;> simp_all [bd.nil]
 | x::xs,l',h,k=>by
  cases l' with
  | nil=>simp at h
  | cons y ys=>exact .cons (k 0 x y rfl rfl) (bd.PC (by simpa using h) fun i v v' e e'=>k (i+1) v v' (by simpa using e) (by simpa using e'))
theorem VK.dv {k:IntKind} {n:Int} {v:Value} (h:VK P E (.int k n) v):v = .int k n:=by simpa [VK] using h
theorem VK.ga {b:Bool} {v:Value} (h:VK P E (.bool b) v):v = .bool b:=by simpa [VK] using h
theorem VK.rl {s:ByteArray} {v:Value} (h:VK P E (.str s) v):v = .string s:=by simpa [VK] using h
theorem VK.mh {cs:List KV} {v:Value} (h:VK P E (.agg cs) v):∃ l,v = .agg ⟨l⟩∧bd P E cs l:=by simpa [VK] using h
theorem VK.J0 {cs:List KV} {v:Value} (h:VK P E (.jI cs) v):∃ l,v = .tuple ⟨l⟩∧bd P E cs l:=by simpa [VK] using h
theorem VK.iL {b off:Nat} {v:Value} (h:VK P E (.ptr b off) v):∃ x,E.κ b=some x∧v = .pointer (some ⟨x,off,none⟩):=by simpa [VK] using h
theorem VK.LU {b off n c:Nat} {v:Value} (h:VK P E (.sl b off n c) v):∃ x,E.κ b=some x∧v = .slice (some ⟨x,off,none⟩) n c:=by simpa [VK] using h
theorem VK.D7 {f:Fn} {a b:List KV} {v:Value} (h:VK P E (.fn f a b) v):∃ l m,v = .func f ⟨l⟩ ⟨m⟩∧bd P E a l∧bd P E b m:=by simpa [VK] using h
theorem VK.mm {T:TypeId} {m:Mk} {n:Nat} {es:List KV} {acc:Nat→KV} {v:Value} (h:VK P E (.ts T m n es acc) v):iX P T n es acc∧∃ bq,bd P E es bq∧adZ P E T m n bq v:=by simpa [VK] using h
theorem VK.HB {T Tc:TypeId} {i k:Nat} {es:List KV} {acc:Nat→KV} {v:Value} (h:VK P E (.tp T Tc i k es acc) v):iX P T es.length es acc∧∃ bq,bd P E es bq∧ad0 P E T Tc i k es bq v:=by simpa [VK] using h
theorem VK.vc {T:TypeId} {b o n:Nat} {v:Value} (h:VK P E (.al T b o n) v):U0 P E T b o n v:=by simpa [VK] using h
theorem VK.D8 {T Tc:TypeId} {b i k:Nat} {v:Value} (h:VK P E (.ap T Tc b i k) v):abu P E T Tc b i k v:=by simpa [VK] using h
theorem VK.MW {T:TypeId} {b o n:Nat} {v:Value} (h:U0 P E T b o n v):VK P E (.al T b o n) v:=by simpa [VK] using h
theorem VK.aiT {T Tc:TypeId} {b i k:Nat} {v:Value} (h:abu P E T Tc b i k v):VK P E (.ap T Tc b i k) v:=by simpa [VK] using h
theorem U0.slice {T:TypeId} {b o n:Nat} {v:Value} (h:U0 P E T b o n v):∃ a c,v = .slice a n c:=by
 rcases h with ⟨rfl,_,rfl⟩ | ⟨x,L,N,c,_,rfl,_⟩
 ·exact ⟨_,_,rfl⟩
 ·exact ⟨_,_,rfl⟩
theorem VK.nX {v:Value} (h:VK P E .kR v):v = .slice none 0 0:=by simpa [VK] using h
theorem VK.LV {v:Value} (h:VK P E .B4 v):v = .pointer none:=by simpa [VK] using h
theorem VK.mkInt {k:IntKind} {n:Int} : VK P E (.int k n) (.int k n):=by simp [VK]
theorem VK.sh {b:Bool} : VK P E (.bool b) (.bool b):=by simp [VK]
theorem VK.mkStr {s:ByteArray} : VK P E (.str s) (.string s):=by simp [VK]
theorem VK.oX {cs:List KV} {l:List Value} (h:bd P E cs l):VK P E (.agg cs) (.agg ⟨l⟩):=by simp only [VK]; exact ⟨l,rfl,h⟩
theorem VK.X4 {cs:List KV} {l:List Value} (h:bd P E cs l):VK P E (.jI cs) (.tuple ⟨l⟩):=by simp only [VK]; exact ⟨l,rfl,h⟩
theorem VK.xp {b x off:Nat} (h:E.κ b=some x):VK P E (.ptr b off) (.pointer (some ⟨x,off,none⟩)):=by simp only [VK]; exact ⟨x,h,rfl⟩
theorem VK.agL {b x off n c:Nat} (h:E.κ b=some x):VK P E (.sl b off n c) (.slice (some ⟨x,off,none⟩) n c):=by simp only [VK]; exact ⟨x,h,rfl⟩
theorem VK.ad1 {f:Fn} {a b:List KV} {l m:List Value} (h:bd P E a l) (k:bd P E b m):VK P E (.fn f a b) (.func f ⟨l⟩ ⟨m⟩):=by simp only [VK]; exact ⟨l,m,rfl,h,k⟩
theorem VK.undef:VK P E qS undef:=VK.X4 .nil
theorem VK.rm {v:Value} : VK P E .aw v:=by simp [VK]
theorem VK.cells {v:KV} {v' : Value} (h:VK P E v v') (hu:u7 v=true):bd P E v.cells v'.cells.toList:=by
 cases v with
 | agg cs=>obtain ⟨l,rfl,q⟩:=h.mh; exact q
 | int k n=>have:=h.dv; subst this; exact .cons h .nil
 | bool b=>have:=h.ga; subst this; exact .cons h .nil
 | str b=>have:=h.rl; subst this; exact .cons h .nil
 | jI cs=>have q:=h; obtain ⟨l,rfl,_⟩:=h.J0; exact .cons q .nil
 | ts T m n es acc=>have q:=h; obtain ⟨_,_,_,a,cap,rfl,_⟩:=h.mm; exact .cons q .nil
 | tp T Tc i k es acc=>have q:=h; obtain ⟨_,_,_,_,_,b,off,r,rfl,_⟩:=h.HB; exact .cons q .nil
 | al T b o n=>have q:=h; obtain ⟨a,c,rfl⟩:=h.vc.slice; exact .cons q .nil
 | ap T Tc b i k=>have q:=h; obtain ⟨x,L,N,_,_,_,rfl⟩:=h.D8; exact .cons q .nil
 | ptr b off=>have q:=h; obtain ⟨x,_,rfl⟩:=h.iL; exact .cons q .nil
 | sl b off n c=>have q:=h; obtain ⟨x,_,rfl⟩:=h.LU; exact .cons q .nil
 | B4=>have q:=h; simp only [VK] at h; subst h; exact .cons q .nil
 | kR=>have q:=h; simp only [VK] at h; subst h; exact .cons q .nil
 | yC=>have q:=h; simp only [VK] at h; subst h; exact .cons q .nil
 | map b=>have q:=h; simp only [VK] at h; obtain ⟨x,_,rfl⟩:=h; exact .cons q .nil
 | fn f a b=>have q:=h; obtain ⟨l,m,rfl,_⟩:=h.D7; exact .cons q .nil
 | CY=>have q:=h; simp only [VK] at h; subst h; exact .cons q .nil
 | iface t x=>have q:=h; simp only [VK] at h; obtain ⟨y,rfl,_⟩:=h; exact .cons q .nil
 | CZ=>have q:=h; simp only [VK] at h; subst h; exact .cons q .nil
 | aw=>simp [u7] at hu
theorem VK.scalar {v:KV} {v' : Value} (h:VK P E v v') (ho:one v=true):aE.scalar v' = true:=by
 cases v with
 | agg cs=>simp [one] at ho
 | jI cs=>simp [one] at ho
 | aw=>simp [one] at ho
 | int k n=>have:=h.dv; subst this; rfl
 | bool b=>have:=h.ga; subst this; rfl
 | str b=>have:=h.rl; subst this; rfl
 | ts T m n es acc=>obtain ⟨_,_,_,a,cap,rfl,_⟩:=h.mm; rfl
 | tp T Tc i k es acc=>obtain ⟨_,_,_,_,_,b,off,r,rfl,_⟩:=h.HB; rfl
 | al T b o n=>obtain ⟨a,c,rfl⟩:=h.vc.slice; rfl
 | ap T Tc b i k=>obtain ⟨x,L,N,_,_,_,rfl⟩:=h.D8; rfl
 | ptr b off=>obtain ⟨x,_,rfl⟩:=h.iL; rfl
 | sl b off n c=>obtain ⟨x,_,rfl⟩:=h.LU; rfl
 | B4=>simp only [VK] at h; subst h; rfl
 | kR=>simp only [VK] at h; subst h; rfl
 | yC=>simp only [VK] at h; subst h; rfl
 | map b=>simp only [VK] at h; obtain ⟨x,_,rfl⟩:=h; rfl
 | fn f a b=>obtain ⟨l,m,rfl,_⟩:=h.D7; rfl
 | CY=>simp only [VK] at h; subst h; rfl
 | iface t x=>simp only [VK] at h; obtain ⟨y,rfl,_⟩:=h; rfl
 | CZ=>simp only [VK] at h; subst h; rfl
theorem bd.scalar:∀ {l:List KV} {l' : List Value},bd P E l l'→hZ l=true→∀ v∈l',aE.scalar v=true
 | [],l',h,_,v,hv=>by rw [h.ck] at hv; simp at hv
 | x::xs,l',h,ho,v,hv=>by
  obtain ⟨y,ys,rfl,h1,h2⟩:=h.cons_inv
  simp only [hZ,Bool.and_eq_true] at ho
  rcases List.mem_cons.1 hv with rfl | hv
  ·exact h1.scalar ho.1
  ·exact bd.scalar h2 ho.2 v hv
theorem wG {v:KV} (h:hZ v.cells=true):u7 v=true:=by
 cases v <;> first | rfl | simp [KV.cells,hZ,one] at h
mutual
theorem VK.gP:∀ (v:Value),VK P E (gP v) v
 | .bool b=>by simp [K.gP,VK]
 | .int k n=>by simp [K.gP,VK]
 | .string s=>by simp [K.gP,VK]
 | .pointer none=>by simp [K.gP,VK]
 | .pointer (some a)=>by simp [K.gP,VK]
 | .slice none 0 0=>by simp [K.gP,VK]
 | .slice none 0 (n+1)=>by simp [K.gP,VK]
 | .slice none (n+1) c=>by simp [K.gP,VK]
 | .slice (some a) n c=>by simp [K.gP,VK]
 | .map none=>by simp [K.gP,VK]
 | .map (some r)=>by simp [K.gP,VK]
 | .nilFunc=>by simp [K.gP,VK]
 | .nilIface=>by simp [K.gP,VK]
 | .agg cs=>by
  obtain ⟨l⟩:=cs
  simp only [K.gP,ofA]
  exact .oX (bd.ofL l)
 | .tuple cs=>by
  obtain ⟨l⟩:=cs
  simp only [K.gP,ofA]
  exact .X4 (bd.ofL l)
 | .float _ _=>by simp [K.gP,VK]
 | .complex _ _ _=>by simp [K.gP,VK]
 | .chan _=>by simp [K.gP,VK]
 | .func _ _ _=>by simp [K.gP,VK]
 | .iface _ _=>by simp [K.gP,VK]
theorem bd.ofL:∀ (l:List Value),bd P E (ofL l) l
 | []=>.nil
 | v::vs=>.cons (VK.gP v) (bd.ofL vs)
end
theorem zX {z:Value} (h:hZ (gP z).cells=true):bd P E (gP z).cells z.cells.toList:=(VK.gP z).cells (wG h)
def Cg (E:Env) (A:ax):Prop:=∀ b c g tb sb tc sc,A.get b=some (.bf tb sb)→A.get c=some (.bf tc sc)→E.φ b=some g→E.φ c=some g→b=c
def AR (A:ax) (E:Env) (x:Nat):Prop:=∃ b v L N,A.get b=some (.arr v)∧E.α b=some (x,L,N)
def AF (A:ax) (E:Env) (B:St) (g:Nat):Prop:=∃ b v x L N cs e own k,A.get b=some (.arr v)∧E.α b=some (x,L,N)∧B.get x=some (.row cs e own (some (g,k)))
def AT (A:ax) (E:Env) (B:St) (y:Nat):Prop:=AR A E y∨∃ g,AF A E B g∧y∈B.members g
def X5 (P:Program) (E:Env) (B:St) (b:Nat) (v:KV):Prop:=∃ T N es acc,v = .ts T .any N es acc∧iX P T N es acc∧1≤bg P T∧
 ((N=0∧E.α b=none)∨∃ x cs bQ bq,E.α b=some (x,cs.length,N)∧B.get x=some (.row cs (bg P T) true bQ)∧bd P E es bq∧od (bg P T) 0 cs bq)
def PZ (P:Program) (E:Env) (b:Nat) (v:KV):Prop:=∃ T N es acc,v = .ts T .any N es acc∧iX P T N es acc∧1≤bg P T∧
 ((N=0∧E.α b=none)∨∃ x r bq,E.α b=some (x,r.cs.length,N)∧E.z x=some r∧r.bW=bg P T∧bd P E es bq∧od (bg P T) 0 r.cs bq)
theorem X5.mono (h:E.le E') {B B' : St} {b:Nat} {v:KV} (qa:E'.α b=E.α b) (hB:∀ x L N,E.α b=some (x,L,N)→B'.get x=B.get x) (q:X5 P E B b v):X5 P E' B' b v:=by
 obtain ⟨T,N,es,acc,h1,h2,h3,h4⟩:=q
 refine ⟨T,N,es,acc,h1,h2,h3,?_⟩
 rcases h4 with ⟨h4,h5⟩ | ⟨x,cs,bQ,bq,h4,h5,h6,h7⟩
 ·exact .inl ⟨h4,by rw [qa]; exact h5⟩
 ·exact .inr ⟨x,cs,bQ,bq,by rw [qa]; exact h4,by rw [hB _ _ _ h4]; exact h5,h6.mono h,h7⟩
theorem PZ.mono (h:E.le E') {b:Nat} {v:KV} (qa:E'.α b=E.α b) (q:PZ P E b v):PZ P E' b v:=by
 obtain ⟨T,N,es,acc,h1,h2,h3,h4⟩:=q
 refine ⟨T,N,es,acc,h1,h2,h3,?_⟩
 rcases h4 with ⟨h4,h5⟩ | ⟨x,r,bq,h4,h5,h6,h7,h8⟩
 ·exact .inl ⟨h4,by rw [qa]; exact h5⟩
 ·exact .inr ⟨x,r,bq,by rw [qa]; exact h4,h.z _ _ h5,h6,h7.mono h,h8⟩
structure HC (P:Program) (E:Env) (A:ax) (B:St):Prop where
 arr:∀ b v,A.get b=some (.arr v)→X5 P E B b v
 jH:∀ b v,A.get b=some (.jH v)→PZ P E b v
 z:∀ x,AR A E x→E.z x=none∧∀ c,E.κ c≠some x
 inj:∀ b c v u x L N L' N',A.get b=some (.arr v)→A.get c=some (.arr u)→E.α b=some (x,L,N)→E.α c=some (x,L',N')→b=c
 tu:∀ b c v u x y L N L' N' cs e own g k b8 e' o6 k',A.get b=some (.arr v)→A.get c=some (.arr u)→E.α b=some (x,L,N)→E.α c=some (y,L',N')→B.get x=some (.row cs e own (some (g,k)))→B.get y=some (.row b8 e' o6 (some (g,k')))→b=c
 X6:∀ b x,E.κ b=some x→E.α b=none
 lE:∀ b p,E.α b=some p→b < A.next
 gV:∀ b x L N,E.α b=some (x,L,N)→x < B.next
 rV:∀ b v x L N cs e own g k,A.get b=some (.arr v)→E.α b=some (x,L,N)→B.get x=some (.row cs e own (some (g,k)))→g < B.next∧(∀ f,E.φ f≠some g)∧∀ y∈B.members g,y≠x→E.z y=none∧¬ AR A E y∧∀ c,E.κ c≠some y
 nk:∀ b v,A.get b=some (.arr v)→b < A.next∧E.κ b=none
structure fK (P:Program) (E:Env) (A:ax) (B:St):Prop where
 row:∀ b cs bW,A.get b=some (.row cs bW)→∃ x b8,E.κ b=some x∧B.get x=some (.row b8 bW true none)∧bd P E cs b8
 bf:∀ b top sz,A.get b=some (.bf top sz)→(top=0∧E.φ b=none)∨∃ g,E.φ b=some g∧0 < top∧∀ x∈B.members g,∀ cs e own f k,B.get x=some (.row cs e own (some (f,k)))→k=0∧cs.length≤top * sz
 z:∀ b r,E.z b=some r→B.get b=some (.row r.cs r.bW r.own r.bQ)
 apart:∀ b x,E.κ b=some x→E.z x=none
 inj:∀ b c x,E.κ b=some x→E.κ c=some x→b=c
 jJ:Cg E A
 lE:∀ b x,E.κ b=some x→b < A.next
 na:∀ b g,E.φ b=some g→b < A.next
 live:∀ b o,A.get b=some o→b < A.next
 gV:∀ b x,E.κ b=some x→x < B.next
 nm:∀ b r,E.z b=some r→b < B.next
 kd:∀ b g,E.φ b=some g→g < B.next
 fresh:∀ g,B.next≤g→B.members g = []
 mem:∀ g x,x∈B.members g→x < B.next
 ar:HC P E A B
structure Ev (P:Program) (base:Nat) (E:Env) (A:ax) (B:St) (ρ:aW) (w:World) (E' : Env) (A' : ax) (B' : St) (aX:aW) (w' : World):Prop where
 jr:fK P E' A' B'
 fN:l7 base ρ B w aX B' w'
 le:E.le E'
 next:A.next≤A'.next
 mg:∀ x,x < B.next→(∀ b,E.κ b≠some x)→¬ AT A E B x→B'.get x=B.get x
 new:∀ b x,E'.κ b=some x→E.κ b=some x∨B.next≤x
 sR:∀ b r,E'.z b=some r→E.z b=some r∨AR A E b∨B.next≤b
 sS:∀ b g,E'.φ b=some g→(∃ c,E.φ c=some g)∨B.next≤g
 pN:∀ g,g < B.next→(∀ b,E.φ b≠some g)→¬ AF A E B g→B'.members g=B.members g
 mQ:∀ x,AR A' E' x→AR A E x∨B.next≤x
 nb:∀ g,AF A' E' B' g→AF A E B g∨B.next≤g
 uv:∀ g y,y∈B'.members g→y∈B.members g∨B.next≤y
 nY:∀ y,AT A' E' B' y→AT A E B y∨B.next≤y
 rows:∀ y,y < B.next→∀ cs e own bQ,B'.get y=some (.row cs e own bQ)→∃ mf,B.get y=some (.row mf e own bQ)∧mf.length=cs.length
theorem Ev.refl {base:Nat} {A:ax} {B:St} {ρ:aW} {w:World} (h:fK P E A B) (s:uj ρ B base w):Ev P base E A B ρ w E A B ρ w:=
 ⟨h,.refl s,Env.le_refl _,Nat.le_refl _,fun _ _ _ _=>rfl,fun _ _ h=>.inl h,fun _ _ h=>.inl h,fun _ _ h=>.inl ⟨_,h⟩,fun _ _ _ _=>rfl,fun _ h=>.inl h,fun _ h=>.inl h,fun _ _ h=>.inl h,fun _ h=>.inl h,fun _ _ cs _ _ _ h=>⟨cs,h,rfl⟩⟩
theorem Ev.trans {base:Nat} {E1 E2 E3:Env} {A1 A2 A3:ax} {B1 B2 B3:St} {mI uw ρ3:aW} {w1 w2 w3:World} (h:Ev P base E1 A1 B1 mI w1 E2 A2 B2 uw w2) (k:Ev P base E2 A2 B2 uw w2 E3 A3 B3 ρ3 w3) :
  Ev P base E1 A1 B1 mI w1 E3 A3 B3 ρ3 w3 where
 jr:=k.jr
 fN:=h.fN.trans k.fN
 le:=Env.le_trans h.le k.le
 next:=Nat.le_trans h.next k.next
 mg x hx hn ha:=by
  refine (k.mg x (Nat.lt_of_lt_of_le hx h.fN.next) (fun b e=>?_) fun q=>?_).trans (h.mg x hx hn ha)
  ·rcases h.new b x e with e | e
   ·exact hn b e
   ·omega
  ·rcases h.nY x q with e | e
   ·exact ha e
   ·omega
 new b x e:=by
  rcases k.new b x e with e | e
  ·rcases h.new b x e with e | e
   ·exact .inl e
   ·exact .inr e
  ·have:=h.fN.next; exact .inr (by omega)
 sR b r e:=by
  rcases k.sR b r e with e | e | e
  ·exact h.sR b r e
  ·exact .inr (h.mQ b e)
  ·have:=h.fN.next; exact .inr (.inr (by omega))
 sS b g e:=by
  rcases k.sS b g e with ⟨c,e⟩ | e
  ·exact h.sS c g e
  ·have:=h.fN.next; exact .inr (by omega)
 pN g hg hn ha:=by
  refine (k.pN g (Nat.lt_of_lt_of_le hg h.fN.next) (fun b e=>?_) fun q=>?_).trans (h.pN g hg hn ha)
  ·rcases h.sS b g e with ⟨c,e⟩ | e
   ·exact hn c e
   ·omega
  ·rcases h.nb g q with e | e
   ·exact ha e
   ·omega
 mQ x e:=by
  rcases k.mQ x e with e | e
  ·exact h.mQ x e
  ·have:=h.fN.next; exact .inr (by omega)
 nb g e:=by
  rcases k.nb g e with e | e
  ·exact h.nb g e
  ·have:=h.fN.next; exact .inr (by omega)
 uv g y e:=by
  rcases k.uv g y e with e | e
  ·exact h.uv g y e
  ·have:=h.fN.next; exact .inr (by omega)
 nY y e:=by
  rcases k.nY y e with e | e
  ·exact h.nY y e
  ·have:=h.fN.next; exact .inr (by omega)
 rows y hy cs e own bQ q:=by
  obtain ⟨c1,h1,h2⟩:=k.rows y (Nat.lt_of_lt_of_le hy h.fN.next) cs e own bQ q
  obtain ⟨c0,h3,h4⟩:=h.rows y hy c1 e own bQ h1
  exact ⟨c0,h3,h4.trans h2⟩
@[simp] theorem ax.b9 (A:ax) (b:Nat) (o:jt) (x:Nat):(A.put b o).get x=if x=b then some o else A.get x:=by simp [ax.put,ax.get,Trie.n8]
@[simp] theorem ax.du (A:ax) (o:jt) (x:Nat):(A.new o).get x=if x=A.next then some o else A.get x:=by simp [ax.new,ax.get,Trie.n8]
@[simp] theorem ax.qZ (A:ax) (b:Nat) (o:jt):(A.put b o).next=A.next:=rfl
@[simp] theorem ax.cq (A:ax) (o:jt):(A.new o).next=A.next+1:=rfl
theorem Cg.put {A:ax} (h:Cg E A) {b:Nat} {o:jt} (ho:(∀ t s,o≠.bf t s)∨E.φ b=none):Cg E (A.put b o):=by
 intro x y g tx sx ty sy hx hy ex ey
 have key:∀ {z t s},(A.put b o).get z=some (.bf t s)→E.φ z=some g→A.get z=some (.bf t s):=by
  intro z t s hz ez
  rw [ax.b9] at hz
  split at hz
  ·rename_i e
   simp at hz
   rcases ho with ho | ho
   ·exact absurd hz (ho t s)
   ·rw [e,ho] at ez; simp at ez
  ·exact hz
 exact h x y g tx sx ty sy (key hx ex) (key hy ey) ex ey
theorem Cg.new {A:ax} (h:Cg E A) {o:jt} (ho:(∀ t s,o≠.bf t s)∨E.φ A.next=none):Cg E (A.new o):=by
 intro x y g tx sx ty sy hx hy ex ey
 have key:∀ {z t s},(A.new o).get z=some (.bf t s)→E.φ z=some g→A.get z=some (.bf t s):=by
  intro z t s hz ez
  rw [ax.du] at hz
  split at hz
  ·rename_i e
   simp at hz
   rcases ho with ho | ho
   ·exact absurd hz (ho t s)
   ·rw [e,ho] at ez; simp at ez
  ·exact hz
 exact h x y g tx sx ty sy (key hx ex) (key hy ey) ex ey
structure KJ (P:Program) (E:Env) (A:ax) (B:St) (ρ:aW) (base:Nat) (w:World):Prop where
 k:fK P E A B
 s:uj ρ B base w
theorem Ev.kj {base:Nat} {E1 E2:Env} {A1 A2:ax} {B1 B2:St} {mI uw:aW} {w1 w2:World} (h:Ev P base E1 A1 B1 mI w1 E2 A2 B2 uw w2):KJ P E2 A2 B2 uw base w2:=⟨h.jr,h.fN.jr⟩
def VC (P:Program) (E:Env) (ρ:aW) (v:KV) (v' : Value):Prop:=∃ u,VK P E v u∧VR ρ u v'
theorem VC.mono {ρ aX:aW} {v:KV} {v' : Value} (h:VC P E ρ v v') (k:E.le E') (m:ρ.le aX):VC P E' aX v v':=by
 obtain ⟨u,h1,h2⟩:=h
 exact ⟨u,h1.mono k,h2.mono m⟩
theorem VC.aw {ρ:aW} {v' : Value} : VC P E ρ .aw v':=⟨.chan none,.rm,by simp [VR]⟩
theorem VC.undef {ρ:aW} : VC P E ρ qS undef:=⟨_,.undef,VR.undef⟩
end Go.K
end
section
namespace Go.K
open Go Go.aE
variable {P:Program} {E:Env}
def aZ {α:Type} (r:KR α) (v:α):Prop:=
 match r with
 | .no=>False
 | .ok u=>u=v
 | .lZ c u=>c=true∧u=v
 | .br c x y=>(c=true∧aZ x v)∨(c=false∧aZ y v)
theorem KR.x3 {α R:Type} {k:α→Option R} {x:R} : ∀ {r:KR α},r.run k=some x→∃ v,aZ r v∧k v=some x:=by
 intro r h
 match r,h with
 | .no,h=>exact absurd h (by simp [KR.run])
 | .ok v,h=>exact ⟨v,rfl,h⟩
 | .lZ c v,h=>
  cases c with
  | false=>exact absurd h (by simp [KR.run])
  | true=>exact ⟨v,⟨rfl,rfl⟩,h⟩
 | .br c x y,h=>
  cases c with
  | false=>obtain ⟨v,h1,h2⟩:=KR.x3 (r:=y) (k:=k) h; exact ⟨v,.inr ⟨rfl,h1⟩,h2⟩
  | true=>obtain ⟨v,h1,h2⟩:=KR.x3 (r:=x) (k:=k) h; exact ⟨v,.inl ⟨rfl,h1⟩,h2⟩
theorem aZ.at {α:Type} {i:Int} {f:Nat→KR α} {v:α} : ∀ {m j:Nat},aZ (agG i f m j) v→∃ k,j≤k∧k < j+m∧i=(k:Int)∧aZ (f k) v
 | 0,j,h=>h.elim
 | m+1,j,h=>by
  rcases h with ⟨h1,h2⟩ | ⟨_,h2⟩
  ·exact ⟨j,Nat.le_refl j,by omega,of_decide_eq_true h1,h2⟩
  ·obtain ⟨k,h3,h4,h5,h6⟩:=aZ.at (m:=m) (j:=j+1) h2
   exact ⟨k,by omega,by omega,h5,h6⟩
theorem aZ.of {α:Type} {o:Option α} {v:α} (h:aZ (KR.of o) v):o=some v:=by
 cases o with
 | none=>exact h.elim
 | some u=>have h:u=v:=h; rw [h]
theorem aZ.cond {α:Type} {c:Bool} {r:KR α} {v:α} (h:aZ (cond c r .no) v):c=true∧aZ r v:=by
 cases c with
 | false=>exact h.elim
 | true=>exact ⟨rfl,h⟩
theorem HD {α:Type} {c:Bool} {r:Option α} {v:α} (h:cond c r none=some v):c=true∧r=some v:=by
 cases c with
 | false=>simp at h
 | true=>exact ⟨rfl,h⟩
def ux (P:Program) (f:FP) (g:List Value→Option Value):Prop:=
 ∀ (E:Env) (vs:List KV) (us:List Value) (v:KV),bd P E vs us→aZ (f vs) v→∃ u,g us=some u∧VK P E v u
theorem ad2:ux P acp G9:=by
 intro E vs us v h hg
 match vs,hg with
 | [x],hg=>
  obtain ⟨y,rfl,h1⟩:=h.eX
  have hg:x=v:=hg
  subst hg
  exact ⟨y,rfl,h1⟩
theorem ahB:ux P acq G9:=by
 intro E vs us v h hg
 match vs,hg with
 | [.bool b],hg=>
  obtain ⟨y,rfl,h1⟩:=h.eX
  have hb:v = .bool b:=by
   rcases hg with ⟨rfl,h2⟩ | ⟨rfl,h2⟩
   ·exact (show KV.bool true=v from h2).symm
   ·exact (show KV.bool false=v from h2).symm
  subst hb
  exact ⟨_,rfl,h1⟩
 | [x],hg=>
  have key:v=x:=by
   cases x <;> first | exact (show _=v from hg).symm | skip
   rcases hg with ⟨rfl,h2⟩ | ⟨rfl,h2⟩
   ·exact (show KV.bool true=v from h2).symm
   ·exact (show KV.bool false=v from h2).symm
  subst key
  obtain ⟨y,rfl,h1⟩:=h.eX
  exact ⟨_,rfl,h1⟩
theorem ahC {b:Bool} : ux P (cond b acq acp) G9:=by
 cases b with
 | true=>exact ahB
 | false=>exact ad2
theorem aiU:ux P afH aca:=by
 intro E vs us v h hg
 match vs,hg with
 | [.bool t,.bool a,.bool b],hg=>
  obtain ⟨x,y,z,rfl,h1,h2,h3⟩:=h.Om
  have:=h1.ga; subst this
  have:=h2.ga; subst this
  have:=h3.ga; subst this
  have hg:KV.bool (cond t a b)=v:=hg
  subst hg
  exact ⟨_,rfl,by cases t <;> exact .sh⟩
 | [.bool t,a,b],hg=>
  obtain ⟨x,y,z,rfl,h1,h2,h3⟩:=h.Om
  have:=h1.ga; subst this
  refine ⟨_,rfl,?_⟩
  have hg:v=cond t a b∨∃ p q,a = .bool p∧b = .bool q∧v = .bool (cond t p q):=by
   unfold afH at hg
   split at hg
   ·rename_i t' a' b' e
    simp at e
    obtain ⟨rfl,rfl,rfl⟩:=e
    exact .inr ⟨_,_,rfl,rfl,hg.symm⟩
   ·rename_i t' a' b' _ e
    simp at e
    obtain ⟨rfl,rfl,rfl⟩:=e
    exact .inl hg.symm
   ·exact hg.elim
  rcases hg with rfl | ⟨p,q,rfl,rfl,rfl⟩
  ·cases t
   ·exact h3
   ·exact h2
  ·have:=h2.ga; subst this
   have:=h3.ga; subst this
   cases t <;> exact .sh
theorem SX {v:KV} {u:Value} (h:VK P E v u) (hk:u7 v=true):aE.known u=true:=by
 cases v with
 | agg cs=>obtain ⟨l,rfl,q⟩:=h.mh; rfl
 | int k n=>have:=h.dv; subst this; rfl
 | bool b=>have:=h.ga; subst this; rfl
 | str b=>have:=h.rl; subst this; rfl
 | jI cs=>obtain ⟨l,rfl,_⟩:=h.J0; rfl
 | ts T m n es acc=>obtain ⟨_,_,_,a,cap,rfl,_⟩:=h.mm; rfl
 | tp T Tc i k es acc=>obtain ⟨_,_,_,_,_,b,off,r,rfl,_⟩:=h.HB; rfl
 | al T b o n=>obtain ⟨a,c,rfl⟩:=h.vc.slice; rfl
 | ap T Tc b i k=>obtain ⟨x,L,N,_,_,_,rfl⟩:=h.D8; rfl
 | ptr b off=>obtain ⟨x,_,rfl⟩:=h.iL; rfl
 | sl b off n c=>obtain ⟨x,_,rfl⟩:=h.LU; rfl
 | B4=>simp only [VK] at h; subst h; rfl
 | kR=>simp only [VK] at h; subst h; rfl
 | yC=>simp only [VK] at h; subst h; rfl
 | map b=>simp only [VK] at h; obtain ⟨x,_,rfl⟩:=h; rfl
 | fn f a b=>obtain ⟨l,m,rfl,_⟩:=h.D7; rfl
 | CY=>simp only [VK] at h; subst h; rfl
 | iface t x=>simp only [VK] at h; obtain ⟨y,rfl,_⟩:=h; rfl
 | CZ=>simp only [VK] at h; subst h; rfl
 | aw=>simp [u7] at hk
theorem J1 {v:KV} {u:Value} (h:VK P E v u) (hk:u7 v=true):u.cells.size=v.cells.length:=by
 have:=(h.cells hk).length
 simpa using this
theorem X7 {place:Nat→Option (Nat×Nat)} : ∀ {ps:List (Nat×KV)} {qs:List (Nat×Value)} {cs r:List KV} {b8:List Value},ps.map (·.1)=qs.map (·.1)→bd P E (ps.map (·.2)) (qs.map (·.2))→(∀ p∈ps,u7 p.2=true)→
  bd P E cs b8→SL place cs ps=some r→∃ r',yq place b8 qs=some r'∧bd P E r r'
 | [],[],cs,r,b8,_,_,_,h,e=>by simp [SL] at e; subst e; exact ⟨b8,rfl,h⟩
 | [],_::_,_,_,_,e,_,_,_,_=>by simp at e
 | _::_,[],_,_,_,e,_,_,_,_=>by simp at e
 | (i,v)::ps,(j,u)::qs,cs,r,b8,e1,e2,hk,h,e=>by
  simp only [List.map_cons,List.cons.injEq] at e1
  obtain ⟨rfl,e1⟩:=e1
  obtain ⟨y,ys,e3,h1,h2⟩:=e2.cons_inv
  simp only [List.map_cons,List.cons.injEq] at e3
  obtain ⟨rfl,rfl⟩:=e3
  have hkv:u7 v=true:=hk (i,v) (by simp)
  simp only [SL] at e
  simp only [yq]
  split at e
  ·rename_i off size hp
   rw [hp]
   obtain ⟨hc,e⟩:=HD e
   obtain ⟨oq,e4,e5⟩:=Option.bind_eq_some_iff.1 e
   obtain ⟨r1,e6,h3⟩:=bd.lh e4 h (h1.cells hkv)
   obtain ⟨r',e7,h4⟩:=X7 e1 h2 (fun p hp=>hk p (by simp [hp])) h3 e5
   refine ⟨r',?_,h4⟩
   simp only
   rw [J1 h1 hkv,hc,cond_true,e6]
   exact e7
  ·simp at e
theorem X8:∀ (is:List Nat) {vs:List KV} {us:List Value},bd P E vs us→(yD is vs).map (·.1)=(zipIdx is us).map (·.1)∧bd P E ((yD is vs).map (·.2)) ((zipIdx is us).map (·.2))
 | [],_,_,_=>by simp [yD,zipIdx,bd.nil]
 | i::is,[],us,h=>by rw [h.ck]; simp [yD,zipIdx,bd.nil]
 | i::is,v::vs,us,h=>by
  obtain ⟨y,ys,rfl,h1,h2⟩:=h.cons_inv
  obtain ⟨h3,h4⟩:=X8 is h2
  exact ⟨by simp [yD,zipIdx,h3],by simpa [yD,zipIdx] using bd.cons h1 h4⟩
theorem X9:∀ (is:List Nat) (vs:List KV),∀ p∈yD is vs,p.2∈vs
 | [],_,p,h=>by simp [yD] at h
 | i::is,[],p,h=>by simp [yD] at h
 | i::is,v::vs,p,h=>by
  simp only [yD,List.mem_cons] at h
  rcases h with rfl | h
  ·simp
  ·simp [X9 is vs p h]
theorem HF:∀ {vs:List KV} {us:List Value},bd P E vs us→vs.all u7=true→us.all aE.known=true
 | [],us,h,_=>by rw [h.ck]; rfl
 | v::vs,us,h,k=>by
  obtain ⟨y,ys,rfl,h1,h2⟩:=h.cons_inv
  simp only [List.all_cons,Bool.and_eq_true] at k ⊢
  exact ⟨SX h1 k.1,HF h2 k.2⟩
theorem abv {place:Nat→Option (Nat×Nat)} {z:Value} {is:List Nat} (hz:flat z=true) (h1:hZ (gP z).cells=true):ux P (LN place (gP z).cells is) (zN place z is):=by
 intro E vs us v h hg
 unfold LN at hg
 split at hg
 ·rename_i cs hf
  obtain ⟨hk,hg⟩:=hg.cond
  have hg:KV.agg cs=v:=hg
  subst hg
  obtain ⟨h2,h3⟩:=X8 is h
  obtain ⟨r',e,hr⟩:=X7 h2 h3 (fun p hp=>by have:=X9 is vs p hp; exact List.all_eq_true.1 hk _ this) (zX (P:=P) (E:=E) h1) hf
  refine ⟨.agg ⟨r'⟩,?_,.oX hr⟩
  unfold zN
  rw [hz,HF h hk]
  simp [e,oX]
 ·exact hg.elim
theorem akq:ux P XV Hc:=by
 intro E vs us v h hg
 match vs,hg with
 | [.ptr b off],hg=>
  obtain ⟨y,rfl,h1⟩:=h.eX
  have hg:KV.ptr b off=v:=hg
  subst hg
  have q:=h1
  obtain ⟨x,e,rfl⟩:=h1.iL
  exact ⟨_,rfl,q⟩
 | [.tp T Tc i k es acc],hg=>
  obtain ⟨y,rfl,h1⟩:=h.eX
  have hg:KV.tp T Tc i k es acc=v:=hg
  subst hg
  have q:=h1
  obtain ⟨_,_,_,_,_,b,off,r,rfl,_⟩:=h1.HB
  exact ⟨_,rfl,q⟩
 | [.ap T Tc b i k],hg=>
  obtain ⟨y,rfl,h1⟩:=h.eX
  have hg:KV.ap T Tc b i k=v:=hg
  subst hg
  have q:=h1
  obtain ⟨x,L,N,_,_,_,rfl⟩:=h1.D8
  exact ⟨_,rfl,q⟩
 | [.fn (.func f) a b],hg=>
  obtain ⟨y,rfl,h1⟩:=h.eX
  have hg:KV.fn (.func f) a b=v:=hg
  subst hg
  have q:=h1
  obtain ⟨l,m,rfl,_⟩:=h1.D7
  exact ⟨_,rfl,q⟩
theorem J2 {s ft:TypeId} {off:Nat} (h:W9 P s off ft=true):∀ m c,(bw P ft).ks[m]? = some c→(bw P s).ks[off+m]? = some c:=by
 unfold W9 at h
 have key:∀ (a b:List CK),zV a b=true→a=b:=by
  intro a
  induction a with
  | nil=>intro b hb; cases b <;> simp_all [zV]
  | cons x xs ih=>
   intro b hb
   cases b with
   | nil=>simp [zV] at hb
   | cons y ys=>
    simp only [zV,Bool.and_eq_true] at hb
    rw [ih ys hb.2]
    congr 1
    cases x <;> cases y <;> simp_all [aiQ]
 split at h
 ·rename_i l e
  obtain ⟨rfl,hl⟩:=LS e
  have:=key _ _ h
  intro m c hm
  rw [← this,List.getElem?_take] at hm
  split at hm
  ·rwa [FY,List.getElem?_drop] at hm
  ·simp at hm
 ·simp at h
theorem aaJ {s ft:TypeId} {off:Nat} {vP:Bool} (Ya:vP=W9 P s off ft):ux P (UX s off ft vP) (JI off):=by
 intro E vs us v h hg
 match vs,hg with
 | [.ptr b o],hg=>
  obtain ⟨y,rfl,h1⟩:=h.eX
  have hg:KV.ptr b (o+off)=v:=hg
  subst hg
  obtain ⟨x,e,rfl⟩:=h1.iL
  exact ⟨_,rfl,.xp e⟩
 | [.tp T Tc i k es acc],hg=>
  obtain ⟨y,rfl,h1⟩:=h.eX
  obtain ⟨hc,hg⟩:=aZ.cond hg
  have hg:KV.tp T ft i (k+off) es acc=v:=hg
  subst hg
  simp only [Bool.and_eq_true] at hc
  have:=Nat.eq_of_beq_eq_true hc.1
  subst this
  obtain ⟨ht,bq,h2,hi,hw,b,o,r,rfl,h4,h5⟩:=h1.HB
  refine ⟨_,rfl,?_⟩
  simp only [VK]
  refine ⟨ht,bq,h2,hi,⟨fun m c hm=>?_⟩,b,o,r,by simp only [Value.pointer.injEq,Option.some.injEq,Addr.mk.injEq,and_true,true_and]; omega,h4,h5⟩
  have hp:=J2 (Ya ▸ hc.2) m c hm
  have:=hw.is _ _ hp
  rwa [show k+(off+m)=k+off+m by omega] at this
 | [.ap T Tc b i k],hg=>
  obtain ⟨y,rfl,h1⟩:=h.eX
  obtain ⟨hc,hg⟩:=aZ.cond hg
  have hg:KV.ap T ft b i (k+off)=v:=hg
  subst hg
  simp only [Bool.and_eq_true] at hc
  have:=Nat.eq_of_beq_eq_true hc.1
  subst this
  obtain ⟨x,L,N,h2,hw,hi,rfl⟩:=h1.D8
  refine ⟨_,rfl,.aiT ⟨x,L,N,h2,⟨fun m c hm=>?_⟩,hi,by simp only [Value.pointer.injEq,Option.some.injEq,Addr.mk.injEq,and_true,true_and]; omega⟩⟩
  have hp:=J2 (Ya ▸ hc.2) m c hm
  have:=hw.is _ _ hp
  rwa [show k+(off+m)=k+off+m by omega] at this
theorem ad3 {t:TypeId} {cs:List KV} {b8:List Value} {off:Nat} {v:KV} (h:bd P E cs b8) (e:SP P t cs off=some v):∃ u,partOf P t b8 off=some u∧VK P E v u:=by
 unfold SP at e
 unfold partOf
 split at e
 ·rename_i ha
  rw [ha]
  obtain ⟨n,hn,e⟩:=Option.bind_eq_some_iff.1 e
  obtain ⟨l,hl,rfl⟩:=Option.map_eq_some_iff.1 e
  obtain ⟨r,hr,hv,_⟩:=h.uq hl
  exact ⟨.agg ⟨r⟩,by simp [hn,hr],.oX hv⟩
 ·rename_i ha
  rw [ha]
  rw [FY] at e
  have hd:=h.drop off
  cases hc:cs.drop off with
  | nil=>rw [hc] at e; simp at e
  | cons x xs=>
   rw [hc] at e hd
   simp at e
   subst e
   obtain ⟨y,ys,e2,h1,_⟩:=hd.cons_inv
   exact ⟨y,by simp [qY,e2],h1⟩
 ·simp at e
theorem ahD {fd:Field} : ux P (agF P fd) (acb P fd):=by
 intro E vs us v h hg
 match vs,hg with
 | [.agg cs],hg=>
  obtain ⟨y,rfl,h1⟩:=h.eX
  obtain ⟨l,rfl,h2⟩:=h1.mh
  exact ad3 h2 hg.of
theorem x4 {i:Int} {n:Nat} (h:XW i n=true):∃ m,i = .ofNat m∧m < n∧i.toNat=m:=by
 simp only [XW,Bool.and_eq_true,decide_eq_true_eq] at h
 obtain ⟨m,rfl⟩:=Int.eq_ofNat_of_zero_le h.1
 exact ⟨m,rfl,by omega,rfl⟩
theorem ot {m n:Nat} (h:m < n):kN (.ofNat m) n=some m:=by
 have:Nat.blt m n=true:=by rw [Nat.blt_eq]; exact h
 simp [kN,this]
theorem aZ.lZ {α:Type} {c:Bool} {u v:α} (h:aZ (.lZ c u) v):c=true∧u=v:=h
theorem U3 {t e:TypeId} {len n m:Nat} (hq:zV (bw P t).ks (dW (bw P e).ks len)=true) (hn:(bw P e).ks.length=n) (hm:m < len):∀ a c,(bw P e).ks[a]? = some c→(bw P t).ks[m * n+a]? = some c:=by
 intro a c ha
 have key:∀ (l:List CK) (si m a:Nat) (c:CK),m < si→l[a]? = some c→(dW l si)[m * l.length+a]? = some c:=by
  intro l si
  induction si with
  | zero=>intro m a c hm; omega
  | succ si ih=>
   intro m a c hm hl
   have bU:a < l.length:=(List.getElem?_eq_some_iff.1 hl).1
   cases m with
   | zero=>simp only [dW,Nat.zero_mul,Nat.zero_add]; rw [List.getElem?_append_left bU]; exact hl
   | succ m=>
    simp only [dW]
    rw [List.getElem?_append_right (by rw [Nat.succ_mul]; omega),show (m+1) * l.length+a - l.length=m * l.length+a by rw [Nat.succ_mul]; omega]
    exact ih m a c (by omega) hl
 have al4:∀ (a b:List CK),zV a b=true→a=b:=by
  intro a
  induction a with
  | nil=>intro b hb; cases b <;> simp_all [zV]
  | cons x xs ih=>
   intro b hb
   cases b with
   | nil=>simp [zV] at hb
   | cons y ys=>
    simp only [zV,Bool.and_eq_true] at hb
    rw [ih ys hb.2]
    congr 1
    cases x <;> cases y <;> simp_all [aiQ]
 have h6:=key (bw P e).ks len m a c hm ha
 rw [← al4 _ _ hq,hn] at h6
 exact h6
theorem acw {t e:TypeId} {len n:Nat} : ux P (XX P t len n e) (NZ len n):=by
 intro E vs us v h hg
 match vs,hg with
 | [.ptr b o,.int k i],hg=>
  have hg:aZ (cond (Nat.ble len 8) (agG i (fun j=>.ok (.ptr b (o+j * n))) len 0) (.lZ (XW i len) (.ptr b (o+i.toNat * n)))) v:=hg
  obtain ⟨x,y,rfl,h1,h2⟩:=h.kS
  obtain ⟨x,e,rfl⟩:=h1.iL
  have:=h2.dv; subst this
  have key:∃ m:Nat,i=(m:Int)∧m < len∧v = .ptr b (o+m * n):=by
   cases hb:Nat.ble len 8 with
   | true=>rw [hb,cond_true] at hg; obtain ⟨m,_,h3,h4,h5⟩:=aZ.at hg; exact ⟨m,h4,by omega,(show KV.ptr b (o+m * n)=v from h5).symm⟩
   | false=>rw [hb,cond_false] at hg; obtain ⟨hc,rfl⟩:=aZ.lZ hg; obtain ⟨m,rfl,hm,Oo⟩:=x4 hc; exact ⟨m,rfl,hm,by rw [Oo]⟩
  obtain ⟨m,rfl,hm,rfl⟩:=key
  refine ⟨_,?_,.xp e⟩
  show (kN (.ofNat m) len).bind _=_
  rw [ot hm]; rfl
 | [.tp T Tc j k es acc,.int q i],hg=>
  obtain ⟨x,y,rfl,h1,h2⟩:=h.kS
  obtain ⟨sQ,hg⟩:=aZ.cond hg
  obtain ⟨hc,rfl⟩:=aZ.lZ hg
  have:=h2.dv; subst this
  obtain ⟨m,rfl,hm,Oo⟩:=x4 hc
  rw [Oo]
  simp only [Bool.and_eq_true] at sQ
  have:=Nat.eq_of_beq_eq_true sQ.1.1
  subst this
  have hn:(bw P e).ks.length=n:=Nat.eq_of_beq_eq_true sQ.2
  obtain ⟨ht,bq,h3,hi,hw,b,o,r,rfl,h4,h5⟩:=h1.HB
  refine ⟨_,by (show (kN (.ofNat m) len).bind _=_); rw [ot hm]; rfl,?_⟩
  simp only [VK]
  refine ⟨ht,bq,h3,hi,⟨fun a c ha=>?_⟩,b,o,r,by simp only [Value.pointer.injEq,Option.some.injEq,Addr.mk.injEq,and_true,true_and]; omega,h4,h5⟩
  have h6:=U3 sQ.1.2 hn hm a c ha
  have:=hw.is _ _ h6
  rwa [show k+(m * n+a)=k+m * n+a by omega] at this
 | [.ap T Tc b j k,.int q i],hg=>
  obtain ⟨x,y,rfl,h1,h2⟩:=h.kS
  obtain ⟨sQ,hg⟩:=aZ.cond hg
  obtain ⟨hc,rfl⟩:=aZ.lZ hg
  have:=h2.dv; subst this
  obtain ⟨m,rfl,hm,Oo⟩:=x4 hc
  rw [Oo]
  simp only [Bool.and_eq_true] at sQ
  have:=Nat.eq_of_beq_eq_true sQ.1.1
  subst this
  have hn:(bw P e).ks.length=n:=Nat.eq_of_beq_eq_true sQ.2
  obtain ⟨x,L,N,h3,hw,hi,rfl⟩:=h1.D8
  refine ⟨_,by (show (kN (.ofNat m) len).bind _=_); rw [ot hm]; rfl,.aiT ⟨x,L,N,h3,⟨fun a c ha=>?_⟩,hi,by simp only [Value.pointer.injEq,Option.some.injEq,Addr.mk.injEq,and_true,true_and]; omega⟩⟩
  have h6:=U3 sQ.1.2 hn hm a c ha
  have:=hw.is _ _ h6
  rwa [show k+(m * n+a)=k+m * n+a by omega] at this
theorem ad4 {e n:Nat} {vP:Bool} (Ya:vP=Nat.beq (bw P e).ks.length n):ux P (abo e n vP) (Su n):=by
 intro E vs us v h hg
 match vs,hg with
 | [.sl b o len cap,.int k i],hg=>
  obtain ⟨x,y,rfl,h1,h2⟩:=h.kS
  obtain ⟨hc,rfl⟩:=aZ.lZ hg
  obtain ⟨x,e,rfl⟩:=h1.LU
  have:=h2.dv; subst this
  obtain ⟨m,rfl,hm,Oo⟩:=x4 hc
  rw [Oo]
  exact ⟨_,by (show (kN (.ofNat m) len).bind _=_); rw [ot hm]; rfl,.xp e⟩
 | [.ts T mk len es acc,.int q i],hg=>
  obtain ⟨x,y,rfl,h1,h2⟩:=h.kS
  obtain ⟨sQ,hg⟩:=aZ.cond hg
  obtain ⟨hc,rfl⟩:=aZ.lZ hg
  have:=h2.dv; subst this
  obtain ⟨m,rfl,hm,Oo⟩:=x4 hc
  rw [Oo]
  simp only [Bool.and_eq_true] at sQ
  have:=Nat.eq_of_beq_eq_true sQ.1
  subst this
  have hn:(bw P T).ks.length=n:=Nat.eq_of_beq_eq_true (Ya ▸ sQ.2)
  obtain ⟨ht,bq,h3,a,cap,rfl,h4,h5,h6⟩:=h1.mm
  rcases h5 with ⟨_,h0⟩ | ⟨b,off,r,rfl,h7,h8,h9⟩
  ·omega
  ·refine ⟨_,by (show (kN (.ofNat m) len).bind _=_); rw [ot hm]; rfl,?_⟩
   have hl:=ht.len
   simp only [VK]
   refine ⟨⟨rfl,fun i hi=>ht.acc i (by omega),ht.typed⟩,bq,h3,by omega,⟨fun a c ha=>by simpa using ha⟩,b,off,r,?_,h7,h9⟩
   simp only [bg,hn,Value.pointer.injEq,Option.some.injEq,Addr.mk.injEq,and_true,true_and]
   omega
 | [.al T b o len,.int q i],hg=>
  obtain ⟨x,y,rfl,h1,h2⟩:=h.kS
  obtain ⟨sQ,hg⟩:=aZ.cond hg
  obtain ⟨hc,rfl⟩:=aZ.lZ hg
  have:=h2.dv; subst this
  obtain ⟨m,rfl,hm,Oo⟩:=x4 hc
  rw [Oo]
  simp only [Bool.and_eq_true] at sQ
  have:=Nat.eq_of_beq_eq_true sQ.1
  subst this
  have hn:(bw P T).ks.length=n:=Nat.eq_of_beq_eq_true (Ya ▸ sQ.2)
  rcases h1.vc with ⟨h0,_⟩ | ⟨x,L,N,c,h3,rfl,h4,h5,h6⟩
  ·omega
  ·refine ⟨_,by (show (kN (.ofNat m) len).bind _=_); rw [ot hm]; rfl,.aiT ⟨x,L,N,h3,⟨fun a c ha=>by simpa using ha⟩,by omega,?_⟩⟩
   simp only [bg,hn,Value.pointer.injEq,Option.some.injEq,Addr.mk.injEq,and_true,true_and]
   rw [Nat.add_mul]; omega
theorem acx {len n:Nat} {e:TypeId} : ux P (Og P len n e) (N1 P len n e):=by
 intro E vs us v h hg
 match vs,hg with
 | [.agg cs,.int k i],hg=>
  obtain ⟨x,y,rfl,h1,h2⟩:=h.kS
  obtain ⟨l,rfl,h3⟩:=h1.mh
  have:=h2.dv; subst this
  simp only [Og] at hg
  have key:∃ m:Nat,i=(m:Int)∧m < len∧SP P e cs (m * n)=some v:=by
   cases hb:Nat.ble len 8 with
   | true=>rw [hb,cond_true] at hg; obtain ⟨m,_,h3,h4,h5⟩:=aZ.at hg; exact ⟨m,h4,by omega,aZ.of h5⟩
   | false=>
    rw [hb,cond_false] at hg
    split at hg
    ·rename_i u hu
     obtain ⟨hc,rfl⟩:=aZ.lZ hg
     obtain ⟨m,rfl,hm,Oo⟩:=x4 hc
     rw [Oo] at hu
     exact ⟨m,rfl,hm,hu⟩
    ·exact hg.elim
  obtain ⟨m,rfl,hm,hu⟩:=key
  obtain ⟨w,h4,h5⟩:=ad3 h3 hu
  exact ⟨w,by (show (kN (.ofNat m) len).bind _=_); rw [ot hm]; exact h4,h5⟩
theorem acy:ux P XY N3:=by
 intro E vs us v h hg
 match vs,hg with
 | [.str s,.int k i],hg=>
  obtain ⟨x,y,rfl,h1,h2⟩:=h.kS
  have:=h1.rl; subst this
  have:=h2.dv; subst this
  obtain ⟨hc,rfl⟩:=aZ.lZ hg
  obtain ⟨m,rfl,hm,Oo⟩:=x4 hc
  rw [Oo]
  have hl:m < s.data.toList.length:=by simpa using hm
  refine ⟨.int .u8 (s.data.toList.getD m 0).toNat,?_,.mkInt⟩
  show (kN (.ofNat m) s.size).bind _=_
  rw [ot hm]
  show (s.data.toList[m]?).map _=_
  simp [List.getD,List.getElem?_eq_getElem hl]
theorem Yb {α:Type} : ∀ (n:Nat) (l:List α),abp n l=l[n]?
 | n,[]=>by cases n <;> rfl
 | 0,x::_=>rfl
 | n+1,_::xs=>by simp [abp,Yb n xs]
theorem ad5 {i:Nat} : ux P (abq i) (Fu i):=by
 intro E vs us v h hg
 match vs,hg with
 | [.jI ws],hg=>
  obtain ⟨y,rfl,h1⟩:=h.eX
  obtain ⟨l,rfl,h2⟩:=h1.J0
  have:=hg.of
  rw [Yb] at this
  obtain ⟨u,h3,h4⟩:=h2.get this
  exact ⟨u,by simpa [Fu] using h3,h4⟩
theorem ahE:ux P agH WZ:=by
 intro E vs us v h hg
 match vs,hg with
 | [.ts T m n es acc],hg=>
  obtain ⟨y,rfl,h1⟩:=h.eX
  obtain ⟨_,_,_,a,cap,rfl,_⟩:=h1.mm
  have hg:KV.int .i64 n=v:=hg
  subst hg
  exact ⟨_,rfl,.mkInt⟩
 | [.sl b o n c],hg=>
  obtain ⟨y,rfl,h1⟩:=h.eX
  obtain ⟨x,_,rfl⟩:=h1.LU
  have hg:KV.int .i64 n=v:=hg
  subst hg
  exact ⟨_,rfl,.mkInt⟩
 | [.al T b o n],hg=>
  obtain ⟨y,rfl,h1⟩:=h.eX
  obtain ⟨a,c,rfl⟩:=h1.vc.slice
  have hg:KV.int .i64 n=v:=hg
  subst hg
  exact ⟨_,rfl,.mkInt⟩
 | [.kR],hg=>
  obtain ⟨y,rfl,h1⟩:=h.eX
  have:=h1.nX; subst this
  have hg:KV.int .i64 0=v:=hg
  subst hg
  exact ⟨_,rfl,.mkInt⟩
theorem afL:ux P adS Px:=by
 intro E vs us v h hg
 match vs,hg with
 | [.str s],hg=>
  obtain ⟨y,rfl,h1⟩:=h.eX
  have:=h1.rl; subst this
  have hg:KV.int .i64 s.size=v:=hg
  subst hg
  exact ⟨_,rfl,.mkInt⟩
theorem ahF:ux P agD Xu:=by
 intro E vs us v h hg
 match vs,hg with
 | [.str s],hg=>
  obtain ⟨y,rfl,h1⟩:=h.eX
  have:=h1.rl; subst this
  have hg:KV.str s=v:=hg
  subst hg
  exact ⟨_,rfl,.mkStr⟩
theorem acz {f:Fn} {k:Nat} : ux P (Hx f k) (CQ f k):=by
 intro E vs us v h hg
 unfold Hx at hg
 split at hg
 ·rename_i l hl
  have hg:KV.fn f l (zU k vs)=v:=hg
  subst hg
  have r5:uq k (zU 0 vs)=some l:=hl
  obtain ⟨r,h1,h2,_⟩:=h.uq r5
  have h1:takeN k us=some r:=h1
  refine ⟨_,by simp [CQ,h1]; rfl,.ad1 h2 ?_⟩
  rw [FY,qY]
  exact h.drop k
 ·exact hg.elim
theorem ahG {src dst:TypeId} {k k' : IntKind} (h2:P.underlying dst=some (.int k)) (h3:P.underlying src=some (.int k')):ux P (agC k) (Ft P src dst):=by
 intro E vs us v h hg
 match vs,hg with
 | [.int j n],hg=>
  obtain ⟨y,rfl,h1⟩:=h.eX
  have:=h1.dv; subst this
  have hg:KV.int k (k.wrap n)=v:=hg
  subst hg
  refine ⟨.int k (k.wrap n),?_,.mkInt⟩
  simp only [Ft,h2]
  simp [convert,underlying,program,Bind.bind,Sem.bind,dt,h2,h3,Conv.intToInt,Pure.pure]
end Go.K
end
section
namespace Go.K
open Go Go.aE
variable {P:Program} {E:Env}
theorem eY {α β:Type} : ∀ {s:Sem α} {f:α→Sem β} {a:α},dt P s=some a→dt P (s >>= f)=dt P (f a)
 | .pure x,f,a,h=>by simp [dt] at h; subst h; rfl
 | .program k,f,a,h=>by
  have:=eY (s:=k P) (f:=f) (a:=a) (by simpa [dt] using h)
  exact this
 | .mark m k,f,a,h=>by
  have:=eY (s:=k) (f:=f) (a:=a) (by simpa [dt] using h)
  exact this
 | .load ..,_,_,h | .store ..,_,_,h | .new ..,_,_,h | .shape ..,_,_,h | .freeze ..,_,_,h | .frozen ..,_,_,h | .getObj ..,_,_,h
 | .setObj ..,_,_,h | .choose ..,_,_,h | .sys ..,_,_,h | .halt ..,_,_,h=>by simp [dt] at h
theorem C3 {α β:Type} {init stop:β} {B:α→β→Sem (ForInStep β)} {g:α→Bool} : ∀ {l:List α},(∀ x∈l,dt P (B x init)=some (if g x=true then .yield init else .done stop))→
  dt P (forIn l init B)=some (if l.all g=true then init else stop)
 | [],_=>rfl
 | x::l,h=>by
  have hx:=h x (by simp)
  rw [List.forIn_cons,eY hx]
  cases hg:g x with
  | true=>
   simp only [if_true]
   rw [C3 fun y hy=>h y (by simp [hy])]
   simp [hg]
  | false=>simp [hg]; rfl
theorem vV {t:TypeId} {d:TypeDesc} (h:P.underlying t=some d):dt P (underlying t)=some d:=by
 simp [underlying,program,Bind.bind,Sem.bind,dt,h,Pure.pure]
theorem P0 {t:TypeId} {i:TypeInfo} (h:P.info? t=some i):dt P (typeInfo t)=some i:=by
 simp [typeInfo,program,Bind.bind,Sem.bind,dt,h,Pure.pure]
theorem cw {α:Type} (a:α):dt P (pure a)=some a:=rfl
theorem IG {t:TypeId} {i:TypeInfo} (h:P.info? t=some i):dt P (sizeOf t)=some i.size:=by
 unfold sizeOf
 rw [eY (P0 h)]
 rfl
theorem Yc {n:Nat} {t:TypeId} {L:u6} (h:lay P n t=some L):∃ d,P.underlying t=some d∧L.agg=WY d∧(L.agg=false→L.ks.length=1):=by
 cases n with
 | zero=>simp [lay] at h
 | succ n=>
  simp only [lay] at h
  split at h <;> rename_i hu
  ·simp at h; subst h; exact ⟨_,hu,rfl,fun _=>rfl⟩
  ·simp at h; subst h; exact ⟨_,hu,rfl,fun _=>rfl⟩
  ·simp at h; subst h; exact ⟨_,hu,rfl,fun _=>rfl⟩
  ·simp at h; subst h; exact ⟨_,hu,rfl,fun _=>rfl⟩
  ·obtain ⟨ks,_,rfl⟩:=Option.map_eq_some_iff.1 h; exact ⟨_,hu,rfl,fun h=>by simp at h⟩
  ·obtain ⟨ks,_,rfl⟩:=Option.map_eq_some_iff.1 h; exact ⟨_,hu,rfl,fun h=>by simp at h⟩
  ·rename_i d h1 h2 h3 h4 h5 h6
   simp at h; subst h
   refine ⟨_,hu,?_,fun _=>rfl⟩
   cases d <;> first | rfl | simp_all
  ·simp at h
def yH (agg:Bool) (l:List Value):Value:=cond agg (.agg ⟨l⟩) (l.headD undef)
theorem MX {n:Nat} {t:TypeId} {L:u6} {i:TypeInfo} {cs:Array Value} {off:Nat} (h:lay P n t=some L) (hi:P.info? t=some i) (hs:i.size=L.ks.length) (hl:off+L.ks.length≤cs.size) :
  dt P (part t cs off)=some (yH L.agg ((cs.toList.drop off).take L.ks.length)):=by
 obtain ⟨d,hu,ha,h1⟩:=Yc h
 have al5:dt P (isAgg t)=some (WY d):=by
  unfold isAgg
  rw [eY (vV hu)]
  cases d <;> rfl
 unfold part
 rw [eY al5]
 cases hd:WY d with
 | true=>
  rw [hd] at ha
  simp only [if_true]
  rw [eY (IG hi)]
  simp only [cw,ha,yH,cond_true,hs]
  congr 2
  apply Array.ext'
  simp
 | false=>
  rw [hd] at ha
  have h1:=h1 ha
  have bU:off < cs.size:=by omega
  simp only [Bool.false_eq_true,if_false]
  rw [Array.getElem?_eq_getElem bU]
  simp only [cw,ha,yH,cond_false,h1]
  congr 1
  have:cs.toList.drop off=cs.toList[off]::cs.toList.drop (off+1):=List.drop_eq_getElem_cons (by simpa using bU)
  rw [this]
  simp
theorem Qa:∀ {xs ys:List KV} {b:Bool},rT xs ys=some b→xs.length=ys.length
 | [],[],_,_=>rfl
 | [],_::_,_,h=>by simp [rT] at h
 | _::_,[],_,h=>by simp [rT] at h
 | x::xs,y::ys,b,h=>by
  simp only [rT] at h
  split at h
  ·rename_i h2; simp [Qa h2]
  ·simp at h
theorem x5:∀ (n:Nat) {xs ys:List KV} {b:Bool},rT xs ys=some b→∃ b1 b2,rT (xs.take n) (ys.take n)=some b1∧rT (xs.drop n) (ys.drop n)=some b2∧b=(b1&&b2)
 | 0,xs,ys,b,h=>⟨true,b,by simp [rT],by simpa using h,by simp⟩
 | n+1,[],[],b,h=>by simp [rT] at h; subst h; exact ⟨true,true,by simp [rT],by simp [rT],rfl⟩
 | n+1,[],_::_,b,h=>by simp [rT] at h
 | n+1,_::_,[],b,h=>by simp [rT] at h
 | n+1,x::xs,y::ys,b,h=>by
  simp only [rT] at h
  split at h
  ·rename_i a c h1 h2
   simp at h
   obtain ⟨b1,b2,h3,h4,h5⟩:=x5 n h2
   refine ⟨a&&b1,b2,by simp [rT,h1,h3],by simpa using h4,?_⟩
   rw [← h,h5,Bool.and_assoc]
  ·simp at h
def zY (xs ys:List KV) (off n:Nat):Bool:=(rT ((xs.drop off).take n) ((ys.drop off).take n)).getD false
theorem abw {xs ys:List KV} {b:Bool} (h:rT xs ys=some b) (off n:Nat):rT ((xs.drop off).take n) ((ys.drop off).take n)=some (zY xs ys off n):=by
 obtain ⟨_,_,_,h2,_⟩:=x5 off h
 obtain ⟨b1,_,h3,_,_⟩:=x5 n h2
 unfold zY
 rw [h3]; rfl
theorem sT:∀ {a b:List CK} {xs:List KV},aF (a++b) xs=true→aF a (xs.take a.length)=true∧aF b (xs.drop a.length)=true
 | [],b,xs,h=>by simpa [aF] using h
 | c::a,b,[],h=>by simp [aF] at h
 | c::a,b,x::xs,h=>by
  simp only [List.cons_append,aF,Bool.and_eq_true] at h
  obtain ⟨h1,h2⟩:=sT h.2
  simp [aF,h.1,h1,h2]
theorem pT:∀ {a:List CK} {xs:List KV},aF a xs=true→xs.length=a.length
 | [],[],_=>rfl
 | [],_::_,h=>by simp [aF] at h
 | _::_,[],h=>by simp [aF] at h
 | c::a,x::xs,h=>by
  simp only [aF,Bool.and_eq_true] at h
  simp [pT h.2]
theorem Yd {lf:TypeId→Option u6} {xs ys:List KV} {b:Bool} (he:rT xs ys=some b):∀ {fs:List Field} {off:Nat} {ks:List CK},JT lf fs off=some ks→aF ks (xs.drop off)=true→aF ks (ys.drop off)=true→off+ks.length=xs.length→
  (∀ f∈fs,∃ L,lf f.type=some L∧f.offset+L.ks.length≤xs.length∧aF L.ks ((xs.drop f.offset).take L.ks.length)=true∧aF L.ks ((ys.drop f.offset).take L.ks.length)=true)∧
  rT (xs.drop off) (ys.drop off)=some (fs.all fun f=>zY xs ys f.offset (((lf f.type).map (·.ks.length)).getD 0))
 | [],off,ks,h,_,_,hl=>by
  simp [JT] at h
  subst h
  have h1:xs.drop off = []:=by simp at hl; simp; omega
  have h2:ys.drop off = []:=by have:=Qa he; simp at hl; simp; omega
  refine ⟨by simp,?_⟩
  rw [h1,h2]; rfl
 | f::fs,off,ks,h,hk,vU,hl=>by
  simp only [JT] at h
  obtain ⟨IE,h⟩:=HD h
  have IE:=Nat.eq_of_beq_eq_true IE
  obtain ⟨L,h1,h⟩:=Option.bind_eq_some_iff.1 h
  obtain ⟨r,h2,rfl⟩:=Option.map_eq_some_iff.1 h
  obtain ⟨k1,k2⟩:=sT hk
  obtain ⟨k1',k2'⟩:=sT vU
  rw [List.drop_drop] at k2 k2'
  simp only [List.length_append] at hl
  obtain ⟨h3,h4⟩:=Yd he h2 k2 k2' (by omega)
  refine ⟨fun g hg=>?_,?_⟩
  ·rcases List.mem_cons.1 hg with rfl | hg
   ·exact ⟨L,h1,by omega,by rw [IE]; exact k1,by rw [IE]; exact k1'⟩
   ·exact h3 g hg
  ·obtain ⟨_,_,_,h5,_⟩:=x5 off he
   obtain ⟨c1,c2,h6,h7,h8⟩:=x5 L.ks.length h5
   rw [List.drop_drop,List.drop_drop] at h7
   rw [h4] at h7
   simp at h7
   have h9:=abw he off L.ks.length
   rw [h6] at h9
   simp at h9
   rw [h5,h8]
   simp only [List.all_cons,h1,Option.map_some,Option.getD_some,IE,← h9]
   rw [← h7]
theorem BC {α:Type} (l:List α):∀ n,(dW l n).length=n * l.length
 | 0=>by simp [dW]
 | n+1=>by rw [dW,List.length_append,BC l n,Nat.succ_mul]; omega
theorem Ye {xs ys:List KV} {l:List CK} : ∀ {len off:Nat} {b:Bool},rT (xs.drop off) (ys.drop off)=some b→aF (dW l len) (xs.drop off)=true→aF (dW l len) (ys.drop off)=true→
  (∀ i,i < len→aF l ((xs.drop (off+i * l.length)).take l.length)=true∧aF l ((ys.drop (off+i * l.length)).take l.length)=true)∧
  rT (xs.drop off) (ys.drop off)=some ((List.range' 0 len).all fun i=>zY xs ys (off+i * l.length) l.length)
 | 0,off,b,h,hk,vU=>by
  have h1:xs.drop off = []:=by have:=pT hk; simp only [dW,List.length_nil] at this; exact List.length_eq_zero_iff.1 this
  have h2:ys.drop off = []:=by have:=pT vU; simp only [dW,List.length_nil] at this; exact List.length_eq_zero_iff.1 this
  refine ⟨fun i hi=>by omega,?_⟩
  rw [h1,h2]; rfl
 | len+1,off,b,h,hk,vU=>by
  obtain ⟨c1,c2,h1,h2,h3⟩:=x5 l.length h
  rw [List.drop_drop,List.drop_drop] at h2
  obtain ⟨k1,k2⟩:=sT (a:=l) (b:=dW l len) hk
  obtain ⟨k1',k2'⟩:=sT (a:=l) (b:=dW l len) vU
  rw [List.drop_drop] at k2 k2'
  obtain ⟨h5,h4⟩:=Ye (len:=len) (off:=off+l.length) h2 k2 k2'
  refine ⟨fun i hi=>?_,?_⟩
  ·cases i with
   | zero=>simpa using ⟨k1,k1'⟩
   | succ i=>
    have:=h5 i (by omega)
    rwa [show off+l.length+i * l.length=off+(i+1) * l.length by rw [Nat.succ_mul]; omega] at this
  rw [h2] at h4
  simp at h4
  have hw:zY xs ys off l.length=c1:=by unfold zY; rw [h1]; rfl
  rw [h,h3]
  rw [List.range'_succ]
  simp only [List.all_cons,Nat.zero_mul,Nat.add_zero,hw,Nat.zero_add]
  congr 2
  rw [h4]
  have:List.range' 1 len=(List.range' 0 len).map (1 + ·):=by rw [List.map_add_range']
  rw [this,List.all_map]
  apply congrArg (fun f=>List.all (List.range' 0 len) f)
  funext i
  simp only [Function.comp]
  congr 1
  rw [Nat.add_mul]; omega
theorem ad6:∀ (n d:Nat) (t:TypeId) (L:u6) (cx cy:List KV) (xs ys:List Value) (b:Bool),B5 P n t=true→lay P n t=some L→n≤d→bd P E cx xs→bd P E cy ys→aF L.ks cx=true→aF L.ks cy=true→
  rT cx cy=some b→dt P (Op.equalIn d t (yH L.agg xs) (yH L.agg ys))=some b
 | 0,_,_,_,_,_,_,_,_,h,_,_,_,_,_,_,_=>by simp [B5] at h
 | n+1,0,_,_,_,_,_,_,_,_,_,h,_,_,_,_,_=>by omega
 | n+1,d+1,t,L,cx,cy,xs,ys,b,h,hL,hd,hx,hy,hkx,hky,he=>by
  have hl:=pT hkx
  have hly:=pT hky
  have hlx' : xs.length=L.ks.length:=by rw [hx.length,hl]
  have hly' : ys.length=L.ks.length:=by rw [hy.length,hly]
  have agM:∀ s,B5 P n s=true→∃ i l,P.info? s=some i∧lay P n s=some l∧i.size=l.ks.length:=by
   intro s hs
   cases n with
   | zero=>simp [B5] at hs
   | succ n=>
    simp only [B5,Bool.and_eq_true] at hs
    have h1:=hs.1
    split at h1
    ·rename_i i l e1 e2
     exact ⟨i,l,e1,e2,Nat.eq_of_beq_eq_true h1⟩
    ·simp at h1
  have II:∀ (s:TypeId) (l:u6) (i:TypeInfo) (off:Nat),B5 P n s=true→lay P n s=some l→P.info? s=some i→i.size=l.ks.length→off+l.ks.length≤cx.length→
    aF l.ks ((cx.drop off).take l.ks.length)=true→aF l.ks ((cy.drop off).take l.ks.length)=true→
    (do
     let u ← part s ⟨xs⟩ off
     let v ← part s ⟨ys⟩ off
     Op.equalIn d s u v:Sem Bool)=(do
     let u ← part s ⟨xs⟩ off
     let v ← part s ⟨ys⟩ off
     Op.equalIn d s u v)∧dt P (part s ⟨xs⟩ off)=some (yH l.agg ((xs.drop off).take l.ks.length))∧dt P (part s ⟨ys⟩ off)=some (yH l.agg ((ys.drop off).take l.ks.length))∧
    dt P (Op.equalIn d s (yH l.agg ((xs.drop off).take l.ks.length)) (yH l.agg ((ys.drop off).take l.ks.length)))=some (zY cx cy off l.ks.length):=by
   intro s l i off h1 h2 h3 h4 h5 h6 h7
   refine ⟨rfl,?_,?_,?_⟩
   ·exact MX h2 h3 h4 (by simp; omega)
   ·exact MX h2 h3 h4 (by simp; omega)
   ·exact ad6 n d s l _ _ _ _ _ h1 h2 (by omega) ((hx.drop off).take _) ((hy.drop off).take _) h6 h7 (abw he off _)
  simp only [B5,Bool.and_eq_true] at h
  have h2:=h.2
  obtain ⟨dd,hu,ha,h1⟩:=Yc hL
  rw [hu] at h2
  unfold Op.equalIn
  rw [eY (vV hu)]
  simp only [lay,hu] at hL
  have Qb:∀ c,L.ks = [c]→∃ x y u v,cx = [x]∧cy = [y]∧xs = [u]∧ys = [v]∧VK P E x u∧VK P E y v∧eqK x y=some b∧kindOk c x=true∧kindOk c y=true:=by
   intro c hc
   rw [hc] at hl hly hkx hky
   match cx,cy,hl,hly with
   | [x],[y],_,_=>
    obtain ⟨u,rfl,h2⟩:=hx.eX
    obtain ⟨v,rfl,h3⟩:=hy.eX
    refine ⟨x,y,u,v,rfl,rfl,rfl,rfl,h2,h3,?_,by simpa [aF] using hkx,by simpa [aF] using hky⟩
    simp only [rT] at he
    split at he
    ·rename_i a c h4 h5
     simp at h5
     subst h5
     simpa [h4] using he
    ·simp at he
  cases dd with
  | int k=>
   simp at hL
   subst hL
   obtain ⟨x,y,u,v,rfl,rfl,rfl,rfl,h3,h4,h5,h6,h7⟩:=Qb _ rfl
   cases x <;> simp [kindOk] at h6
   cases y <;> simp [kindOk] at h7
   subst h6 h7
   have:=h3.dv; subst this
   have:=h4.dv; subst this
   simp [eqK] at h5
   subst h5
   simp [yH,cw]
  | bool=>
   simp at hL
   subst hL
   obtain ⟨x,y,u,v,rfl,rfl,rfl,rfl,h3,h4,h5,h6,h7⟩:=Qb _ rfl
   cases x <;> simp [kindOk] at h6
   cases y <;> simp [kindOk] at h7
   have:=h3.ga; subst this
   have:=h4.ga; subst this
   simp [eqK] at h5
   subst h5
   simp [yH,cw]
  | string=>
   simp at hL
   subst hL
   obtain ⟨x,y,u,v,rfl,rfl,rfl,rfl,h3,h4,h5,h6,h7⟩:=Qb _ rfl
   cases x <;> simp [kindOk] at h6
   cases y <;> simp [kindOk] at h7
   have:=h3.rl; subst this
   have:=h4.rl; subst this
   simp [eqK] at h5
   subst h5
   simp [yH,cw]
  | struct fs=>
   simp only [Option.map_eq_some_iff] at hL
   obtain ⟨ks,rf,rfl⟩:=hL
   simp only [Bool.and_eq_true,Bool.not_eq_true'] at h2
   obtain ⟨h3,h4⟩:=Yd he rf (by simpa using hkx) (by simpa using hky) (by simpa using hl.symm)
   simp only [List.drop_zero] at h4
   rw [he] at h4
   simp only [Option.some.injEq] at h4
   simp only [yH,cond_true]
   rw [eY (a:=P) (by simp [program,dt])]
   simp only [h2.1,Bool.false_eq_true,if_false]
   rw [← Array.forIn_toList]
   rw [eY (C3 (g:=fun f=>zY cx cy f.offset (((lay P n f.type).map (·.ks.length)).getD 0)) (stop:=(some false,())) fun f hf=>?_)]
   ·rw [h4]
    cases (fs.toList.all fun f=>zY cx cy f.offset (((lay P n f.type).map (·.ks.length)).getD 0)) <;> rfl
   ·have h5:=List.all_eq_true.1 h2.2 f hf
    simp only [Bool.and_eq_true,Bool.not_eq_true',beq_eq_false_iff_ne] at h5
    rw [if_pos h5.1]
    obtain ⟨l,h6,h7,h8,h9⟩:=h3 f hf
    obtain ⟨i,l',e1,e2,e3⟩:=agM _ h5.2
    rw [h6] at e2
    simp at e2
    subst e2
    obtain ⟨_,w1,w2,w3⟩:=II _ l i f.offset h5.2 h6 e1 e3 h7 h8 h9
    rw [eY w1,eY w2,eY w3]
    simp only [h6,Option.map_some,Option.getD_some]
    cases zY cx cy f.offset l.ks.length <;> rfl
  | array len e=>
   simp only [Option.map_eq_some_iff] at hL
   obtain ⟨l,JP,rfl⟩:=hL
   obtain ⟨h3,h4⟩:=Ye (xs:=cx) (ys:=cy) (l:=l.ks) (len:=len) (off:=0) (by simpa using he) (by simpa using hkx) (by simpa using hky)
   simp only [List.drop_zero,Nat.zero_add] at h3 h4
   rw [he] at h4
   simp only [Option.some.injEq] at h4
   obtain ⟨i,l',e1,e2,e3⟩:=agM _ h2
   rw [JP] at e2
   simp at e2
   subst e2
   simp only [yH,cond_true]
   rw [eY (IG e1)]
   rw [Std.Legacy.Range.forIn_eq_forIn_range']
   rw [show List.range' [:len].start [:len].size [:len].step=List.range' 0 len from by simp [Std.Legacy.Range.size]]
   rw [eY (C3 (g:=fun i=>zY cx cy (i * l.ks.length) l.ks.length) (stop:=(some false,())) fun j hj=>?_)]
   ·rw [h4]
    cases ((List.range' 0 len).all fun i=>zY cx cy (i * l.ks.length) l.ks.length) <;> rfl
   ·have nW:j < len:=by simpa using hj
    obtain ⟨k1,k2⟩:=h3 j nW
    have hle:j * l.ks.length+l.ks.length≤cx.length:=by
     rw [hl]
     simp only [BC]
     rw [← Nat.succ_mul]
     exact Nat.mul_le_mul_right _ nW
    obtain ⟨_,w1,w2,w3⟩:=II _ l i (j * l.ks.length) h2 JP e1 e3 hle k1 k2
    rw [e3]
    rw [eY w1,eY w2,eY w3]
    cases zY cx cy (j * l.ks.length) l.ks.length <;> rfl
  | _=>simp at h2
theorem J3:∀ {ks:List CK} {cs:List KV} {l:List Value},aF ks cs=true→bd P E cs l→(∀ t,CK.slice t ∉ ks)→ug l=true
 | [],[],l,_,h,_=>by rw [h.ck]; rfl
 | [],_::_,_,h,_,_=>by simp [aF] at h
 | _::_,[],_,h,_,_=>by simp [aF] at h
 | c::ks,v::cs,l,h,hv,hn=>by
  obtain ⟨y,ys,rfl,h1,h2⟩:=hv.cons_inv
  simp only [aF,Bool.and_eq_true] at h
  have:=J3 h.2 h2 (fun t ht=>hn t (by simp [ht]))
  simp only [ug,this,Bool.and_true]
  cases c with
  | int k=>cases v <;> simp [kindOk] at h; have:=h1.dv; subst this; rfl
  | bool=>cases v <;> simp [kindOk] at h; have:=h1.ga; subst this; rfl
  | str=>cases v <;> simp [kindOk] at h; have:=h1.rl; subst this; rfl
  | slice t=>exact absurd (by simp) (hn t)
  | other=>cases v <;> simp [kindOk] at h
theorem J4:∀ (n:Nat) (t:TypeId) (L:u6),B5 P n t=true→lay P n t=some L→∀ u,CK.slice u ∉ L.ks
 | 0,_,_,h,_,_=>by simp [B5] at h
 | n+1,t,L,h,hL,u=>by
  simp only [B5,Bool.and_eq_true] at h
  have h2:=h.2
  obtain ⟨dd,hu,_,_⟩:=Yc hL
  rw [hu] at h2
  simp only [lay,hu] at hL
  cases dd with
  | int k=>simp at hL; subst hL; simp
  | bool=>simp at hL; subst hL; simp
  | string=>simp at hL; subst hL; simp
  | struct fs=>
   simp only [Option.map_eq_some_iff] at hL
   obtain ⟨ks,rf,rfl⟩:=hL
   simp only [Bool.and_eq_true,List.all_eq_true] at h2
   have key:∀ (l:List Field) (off:Nat) (ks:List CK),JT (lay P n) l off=some ks→(∀ f∈l,B5 P n f.type=true)→CK.slice u ∉ ks:=by
    intro l
    induction l with
    | nil=>intro off ks h _; simp [JT] at h; subst h; simp
    | cons f l ih=>
     intro off ks h hf
     simp only [JT] at h
     obtain ⟨_,h⟩:=HD h
     obtain ⟨L',h5,h⟩:=Option.bind_eq_some_iff.1 h
     obtain ⟨r,h6,rfl⟩:=Option.map_eq_some_iff.1 h
     rw [List.mem_append]
     rintro (h7 | h7)
     ·exact J4 n _ _ (hf f (by simp)) h5 u h7
     ·exact ih _ _ h6 (fun g hg=>hf g (by simp [hg])) h7
   exact key _ _ _ rf fun f hf=>(h2.2 f hf).2
  | array len e=>
   simp only [Option.map_eq_some_iff] at hL
   obtain ⟨l,JP,rfl⟩:=hL
   have:=J4 n e l h2 JP u
   have key:∀ m,CK.slice u ∉ dW l.ks m:=by
    intro m
    induction m with
    | zero=>simp [dW]
    | succ m ih=>simp only [dW,List.mem_append,not_or]; exact ⟨this,ih⟩
   exact key _
  | _=>simp at h2
theorem afM {t:TypeId} (h:B5 P 12 t=true):lay P 12 t=some (bw P t):=by
 simp only [B5,Bool.and_eq_true] at h
 have h1:=h.1
 unfold bw
 split at h1
 ·rename_i i l e1 e2; rw [e2]; rfl
 ·simp at h1
theorem ad7 {t:TypeId} {x y:KV} {b:Bool} {lit:Bool} {u v:Value} (hx:VK P E x u) (hy:VK P E y v) (h:aiO P t x y=some b):pY P t lit u v=some b:=by
 unfold aiO at h
 split at h
 ·rename_i xs ys
  obtain ⟨hc,h⟩:=HD h
  simp only [Bool.and_eq_true,Bool.not_eq_true'] at hc
  obtain ⟨⟨⟨⟨ha,h1⟩,h2⟩,h3⟩,h4⟩:=hc
  obtain ⟨l,rfl,hl⟩:=hx.mh
  obtain ⟨m,rfl,hm⟩:=hy.mh
  have hL:=afM h1
  have hns:=J4 12 t _ h1 hL
  have hfx:flat (.agg ⟨l⟩)=true:=J3 h3 hl hns
  have hfy:flat (.agg ⟨m⟩)=true:=J3 h4 hm hns
  have hs:=ad6 12 Op.maxDepth t (bw P t) xs ys l m b h1 hL (by unfold Op.maxDepth; omega) hl hm h3 h4 h
  rw [ha] at hs
  have hs:dt P (Op.equal t (.agg ⟨l⟩) (.agg ⟨m⟩))=some b:=hs
  unfold pY
  simp only [kc,wZ,h2,Bool.not_false,Bool.and_self,cond_true]
  unfold Xp
  split <;> simp_all
 ·rename_i a c
  split at h
  ·rename_i hu
   simp at h
   subst h
   have:=hx.ga; subst this
   have:=hy.ga; subst this
   have:dt P (Op.equal t (.bool a) (.bool c))=some (a==c):=by
    unfold Op.equal Op.maxDepth Op.equalIn
    rw [eY (vV hu)]
    rfl
   unfold pY
   simp only [kc,wZ,Bool.and_self,cond_true]
   unfold Xp
   split <;> simp_all [flat]
  ·simp at h
 ·split at h
  ·rename_i e hu
   simp at h
   subst h
   have:=hx.nX; subst this
   have:=hy.nX; subst this
   simp [pY,kc,wZ,Xp,hu]
  ·simp at h
 ·rename_i T m n es acc
  split at h
  ·rename_i e hu
   cases hn:Nat.beq n 0 with
   | true=>rw [hn] at h; simp at h
   | false=>
    rw [hn] at h
    simp at h
    subst h
    have:=hy.nX; subst this
    obtain ⟨_,bq,_,a,cap,rfl,_,hb,_⟩:=hx.mm
    rcases hb with ⟨_,h0⟩ | ⟨b,off,r,rfl,_⟩
    ·subst h0; simp at hn
    ·simp [pY,kc,wZ,Xp,hu]
  ·simp at h
 ·rename_i T m n es acc
  split at h
  ·rename_i e hu
   cases hn:Nat.beq n 0 with
   | true=>rw [hn] at h; simp at h
   | false=>
    rw [hn] at h
    simp at h
    subst h
    have:=hx.nX; subst this
    obtain ⟨_,bq,_,a,cap,rfl,_,hb,_⟩:=hy.mm
    rcases hb with ⟨_,h0⟩ | ⟨b,off,r,rfl,_⟩
    ·subst h0; simp at hn
    ·simp [pY,kc,wZ,Xp,hu]
  ·simp at h
 ·split at h
  ·rename_i e hu
   simp at h
   subst h
   have:=hx.LV; subst this
   have:=hy.LV; subst this
   simp [pY,kc,wZ,Xp,hu]
  ·simp at h
 ·split at h
  ·rename_i e hu
   simp at h
   subst h
   have:=hy.LV; subst this
   obtain ⟨x,_,rfl⟩:=hx.iL
   simp [pY,kc,wZ,Xp,hu]
  ·simp at h
 ·split at h
  ·rename_i e hu
   simp at h
   subst h
   have:=hx.LV; subst this
   obtain ⟨x,_,rfl⟩:=hy.iL
   simp [pY,kc,wZ,Xp,hu]
  ·simp at h
 ·simp at h
theorem akr {op:BinOp} {t:TypeId} {lit:Bool} : ux P (aiP P op t) (qW P op t lit):=by
 intro E vs us w h hg
 unfold aiP at hg
 split at hg
 ·rename_i j a k b
  obtain ⟨x,y,rfl,h1,h2⟩:=h.kS
  have:=h1.dv; subst this
  have:=h2.dv; subst this
  cases hs:adR op with
  | true=>
   rw [hs,cond_true] at hg
   cases op <;> simp [adR] at hs
   ·obtain ⟨hc,rfl⟩:=aZ.lZ hg
    simp only [Bool.not_eq_true',decide_eq_false_iff_not] at hc
    exact ⟨_,by simp [qW,binOp,Op.shift,hc,cw],.mkInt⟩
   ·obtain ⟨hc,rfl⟩:=aZ.lZ hg
    simp only [Bool.not_eq_true',decide_eq_false_iff_not] at hc
    exact ⟨_,by simp [qW,binOp,Op.shift,hc,cw],.mkInt⟩
  | false=>
   rw [hs,cond_false] at hg
   obtain ⟨hjk,hz⟩:=hg.cond
   clear hg
   simp only [decide_eq_true_eq] at hjk
   subst hjk
   cases op with
   | shl=>simp [adR] at hs
   | shr=>simp [adR] at hs
   | quo=>
    obtain ⟨hc,rfl⟩:=aZ.lZ hz
    simp only [Bool.not_eq_true',decide_eq_false_iff_not] at hc
    exact ⟨_,by simp [qW,binOp,Op.intDiv,hc,cw],.mkInt⟩
   | rem=>
    obtain ⟨hc,rfl⟩:=aZ.lZ hz
    simp only [Bool.not_eq_true',decide_eq_false_iff_not] at hc
    exact ⟨_,by simp [qW,binOp,Op.intDiv,hc,cw],.mkInt⟩
   | add=>have hz:KV.int _ _=w:=hz; subst hz; exact ⟨_,by simp [qW,binOp,Op.intArith,cw],.mkInt⟩
   | sub=>have hz:KV.int _ _=w:=hz; subst hz; exact ⟨_,by simp [qW,binOp,Op.intArith,cw],.mkInt⟩
   | mul=>have hz:KV.int _ _=w:=hz; subst hz; exact ⟨_,by simp [qW,binOp,Op.intArith,cw],.mkInt⟩
   | and=>have hz:KV.int _ _=w:=hz; subst hz; exact ⟨_,by simp [qW,binOp,Op.intBits,cw],.mkInt⟩
   | or=>have hz:KV.int _ _=w:=hz; subst hz; exact ⟨_,by simp [qW,binOp,Op.intBits,cw],.mkInt⟩
   | xor=>have hz:KV.int _ _=w:=hz; subst hz; exact ⟨_,by simp [qW,binOp,Op.intBits,cw],.mkInt⟩
   | andNot=>have hz:KV.int _ _=w:=hz; subst hz; exact ⟨_,by simp [qW,binOp,Op.intBits,cw],.mkInt⟩
   | eql=>have hz:KV.bool _=w:=hz; subst hz; exact ⟨_,by simp [qW,binOp,Op.intCmp,cw],.sh⟩
   | neq=>have hz:KV.bool _=w:=hz; subst hz; exact ⟨_,by simp [qW,binOp,Op.intCmp,cw],.sh⟩
   | lss=>have hz:KV.bool _=w:=hz; subst hz; exact ⟨_,by simp [qW,binOp,Op.intCmp,cw],.sh⟩
   | leq=>have hz:KV.bool _=w:=hz; subst hz; exact ⟨_,by simp [qW,binOp,Op.intCmp,cw],.sh⟩
   | gtr=>have hz:KV.bool _=w:=hz; subst hz; exact ⟨_,by simp [qW,binOp,Op.intCmp,cw],.sh⟩
   | geq=>have hz:KV.bool _=w:=hz; subst hz; exact ⟨_,by simp [qW,binOp,Op.intCmp,cw],.sh⟩
 ·rename_i a b
  obtain ⟨x,y,rfl,h1,h2⟩:=h.kS
  have:=h1.rl; subst this
  have:=h2.rl; subst this
  split at hg
  ·have hg:KV.bool _=w:=hg; subst hg; exact ⟨_,by simp [qW,binOp,Op.stringOp,cw],.sh⟩
  ·have hg:KV.bool _=w:=hg; subst hg; exact ⟨_,by simp [qW,binOp,Op.stringOp,cw],.sh⟩
  ·have hg:KV.bool _=w:=hg; subst hg; exact ⟨_,by simp [qW,binOp,Op.stringOp,cw],.sh⟩
  ·obtain ⟨hc,rfl⟩:=aZ.lZ hg
   have hc:=Nat.le_of_ble_eq_true hc
   have hn : ¬ (((a.size+b.size:Nat):Int) > IntKind.i64.max):=by
    have:IntKind.i64.max=9223372036854775807:=by decide
    rw [this]; omega
   refine ⟨.string (a++b),?_,.mkStr⟩
   simp only [qW,binOp,Op.stringOp]
   rw [if_neg hn]
   rfl
  ·exact hg.elim
 ·rename_i x y hn1 hn2
  obtain ⟨u,v,rfl,h1,h2⟩:=h.kS
  split at hg
  ·rename_i b he
   have hg:KV.bool b=w:=hg
   subst hg
   have:=ad7 (lit:=lit) h1 h2 he
   refine ⟨.bool b,?_,.sh⟩
   unfold qW
   split
   ·rename_i e; simp at e; obtain ⟨rfl,rfl⟩:=e; simp [pY,kc] at this
   ·rename_i e; simp at e; obtain ⟨rfl,rfl⟩:=e; simp [pY,kc] at this
   ·rename_i e; simp at e; obtain ⟨rfl,rfl⟩:=e; simp [this]
   ·rename_i e; exact absurd rfl (e _ _)
  ·rename_i b he
   have hg:KV.bool (!b)=w:=hg
   subst hg
   have:=ad7 (lit:=lit) h1 h2 he
   refine ⟨.bool !b,?_,.sh⟩
   unfold qW
   split
   ·rename_i e; simp at e; obtain ⟨rfl,rfl⟩:=e; simp [pY,kc] at this
   ·rename_i e; simp at e; obtain ⟨rfl,rfl⟩:=e; simp [pY,kc] at this
   ·rename_i e; simp at e; obtain ⟨rfl,rfl⟩:=e; simp [this]
   ·rename_i e; exact absurd rfl (e _ _)
  ·exact hg.elim
 ·exact hg.elim
theorem alq {op:UnOp} : ux P (kUn op) (fUn P op):=by
 intro E vs us w h hg
 unfold kUn at hg
 split at hg
 ·rename_i b
  obtain ⟨y,rfl,h1⟩:=h.eX
  have:=h1.ga; subst this
  split at hg
  ·have hg:KV.bool (!b)=w:=hg
   subst hg
   exact ⟨_,by simp [fUn,Op.unary,cw],.sh⟩
  ·exact hg.elim
 ·rename_i k n
  obtain ⟨y,rfl,h1⟩:=h.eX
  have:=h1.dv; subst this
  split at hg
  ·have hg:KV.int _ _=w:=hg
   subst hg
   exact ⟨.int k (k.wrap (0 - n)),by simp [fUn,Op.unary,Op.intArith,cw],.mkInt⟩
  ·have hg:KV.int _ _=w:=hg
   subst hg
   exact ⟨_,by simp [fUn,Op.unary,Op.intBits,cw],.mkInt⟩
  ·exact hg.elim
 ·exact hg.elim
theorem Yf {mx:Bool} : ux P (FM mx) (Hd P fun vs=>cond mx (Builtin.max_ #[] 0 ⟨vs⟩) (Builtin.min_ #[] 0 ⟨vs⟩)):=by
 intro E vs us w h hg
 unfold FM at hg
 split at hg
 ·rename_i j a k b
  obtain ⟨x,y,rfl,h1,h2⟩:=h.kS
  have:=h1.dv; subst this
  have:=h2.dv; subst this
  obtain ⟨hjk,hz⟩:=hg.cond
  clear hg
  simp only [decide_eq_true_eq] at hjk
  subst hjk
  have hz:KV.int _ _=w:=hz
  subst hz
  refine ⟨_,?_,.mkInt⟩
  cases mx
  ·simp [Hd,ug,flat,Builtin.min_,Builtin.min2,cw]
   omega
  ·simp [Hd,ug,flat,Builtin.max_,Builtin.max2,cw]
   omega
 ·rename_i j a k b l c
  obtain ⟨x,y,z,rfl,h1,h2,h3⟩:=h.Om
  have:=h1.dv; subst this
  have:=h2.dv; subst this
  have:=h3.dv; subst this
  obtain ⟨hjk,hz⟩:=hg.cond
  clear hg
  simp only [Bool.and_eq_true,decide_eq_true_eq] at hjk
  obtain ⟨rfl,rfl⟩:=hjk
  have hz:KV.int _ _=w:=hz
  subst hz
  refine ⟨_,?_,.mkInt⟩
  cases mx
  ·show some (Value.int j (if c < (if b < a then b else a) then c else (if b < a then b else a)))=some (Value.int j (min (min a b) c))
   congr 2
   split <;> split at * <;> omega
  ·show some (Value.int j (if c > (if b > a then b else a) then c else (if b > a then b else a)))=some (Value.int j (max (max a b) c))
   congr 2
   split <;> split at * <;> omega
 ·exact hg.elim
end Go.K
end
