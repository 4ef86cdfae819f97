/- Part of the proof of ImageLeaves: a machine that runs the program's code over open terms, shown to be the model's, and the plain models of its functions. No conditions. -/
import Derived.Test.YtahhdndhkgbcjaaBp
section
namespace Go.K
open Go Go.aE
noncomputable section
inductive Mk where
 | any
 | exact
 | bc (b:Nat)
inductive KV where
 | int (k:IntKind) (n:Int)
 | bool (b:Bool)
 | str (s:ByteArray)
 | agg (cs:List KV)
 | kk (vs:List KV)
 | ts (T:TypeId) (m:Mk) (n:Nat) (es:List KV) (acc:Nat→KV)
 | tp (T Tc:TypeId) (i k:Nat) (es:List KV) (acc:Nat→KV)
 | al (T:TypeId) (b o n:Nat)
 | ap (T Tc:TypeId) (b i k:Nat)
 | ptr (b off:Nat)
 | sl (b off len cap:Nat)
 | Ch
 | lk
 | yP
 | map (b:Nat)
 | fn (f:Fn) (first cap:List KV)
 | Df
 | iface (t:TypeId) (v:KV)
 | Dg
 | aw
instance:Inhabited KV:=⟨.aw⟩
inductive jA where
 | row (cs:List KV) (bU:Nat)
 | map (es:List (KV×KV))
 | bc (top sz:Nat)
 | arr (v:KV)
 | jO (v:KV)
 | dead
structure ax where
 heap:Trie jA
 next:Nat
def ax.empty:ax:=⟨.leaf,0⟩
def ax.get (A:ax) (b:Nat):Option jA:=A.heap.get b
def ax.new (A:ax) (o:jA):ax:=⟨A.heap.set o A.next,Nat.succ A.next⟩
def ax.put (A:ax) (b:Nat) (o:jA):ax:=⟨A.heap.set o b,A.next⟩
abbrev bz:=Trie KV
def lX {α:Type} : List (Nat×α)→Trie α
 | []=>.leaf
 | p::ps=>(lX ps).set p.2 p.1
def KV.cells:KV→List KV
 | .agg cs=>cs
 | v=>[v]
def one:KV→Bool
 | .agg _ | .kk _ | .aw=>false
 | _=>true
def rp:KV:=.kk []
inductive KR (α:Type) where
 | no
 | ok (v:α)
 | mj (c:Bool) (v:α)
 | br (c:Bool) (x y:KR α)
def KR.run {α R:Type} (r:KR α) (k:α→Option R):Option R:=
 KR.rec (motive:=fun _=>Option R) none (fun v=>k v) (fun c v=>Bool.rec (motive:=fun _=>Option R) none (k v) c) (fun c _ _ rx ry=>Bool.rec (motive:=fun _=>Option R) ry rx c) r
def KR.map {α β:Type} (f:α→β):KR α→KR β
 | .no=>.no
 | .ok v=>.ok (f v)
 | .mj c v=>.mj c (f v)
 | .br c x y=>.br c (x.map f) (y.map f)
def KR.of {α:Type} : Option α→KR α
 | some v=>.ok v
 | none=>.no
inductive CK where
 | int (k:IntKind)
 | bool
 | str
 | slice (t:TypeId)
 | other
structure vi where
 agg:Bool
 ks:List CK
def dV {α:Type} (l:List α):Nat→List α
 | 0=>[]
 | n+1=>l++dV l n
def Kw (f:TypeId→Option vi):List Field→Nat→Option (List CK)
 | [],_=>some []
 | fd::fs,off=>cond (Nat.beq fd.offset off) ((f fd.type).bind fun l=>(Kw f fs (off+l.ks.length)).map fun r=>l.ks++r) none
def lay (P:Program):Nat→TypeId→Option vi
 | 0,_=>none
 | n+1,t=>match P.underlying t with
  | some (.int k)=>some ⟨false,[.int k]⟩
  | some .bool=>some ⟨false,[.bool]⟩
  | some .string=>some ⟨false,[.str]⟩
  | some (.slice e)=>some ⟨false,[.slice e]⟩
  | some (.struct fs)=>(Kw (lay P n) fs.toList 0).map fun ks=>⟨true,ks⟩
  | some (.array len e)=>(lay P n e).map fun l=>⟨true,dV l.ks len⟩
  | some _=>some ⟨false,[.other]⟩
  | none=>none
def bt (P:Program) (t:TypeId):vi:=(lay P 12 t).getD ⟨false,[]⟩
def kindOk:CK→KV→Bool
 | .int k,.int k' _=>decide (k=k')
 | .bool,.bool _=>true
 | .str,.str _=>true
 | .slice t,.ts t' .any _ _ _=>Nat.beq t t'
 | _,_=>false
def aF:List CK→List KV→Bool
 | [],[]=>true
 | k::ks,v::vs=>kindOk k v&&aF ks vs
 | _,_=>false
def dv (l:vi):KV→Bool
 | .agg cs=>l.agg&&aF l.ks cs
 | .kk _=>false
 | v=>!l.agg&&aF l.ks [v]
def fQ (l:vi):List KV→Bool
 | []=>true
 | e::es=>dv l e&&fQ l es
def intOf:KV→Int
 | .int _ n=>n
 | _=>0
def ql:KV→Bool
 | .bool b=>b
 | _=>false
def strOf:KV→ByteArray
 | .str s=>s
 | _=>ByteArray.empty
def am3:KV→List KV
 | .ts _ _ _ es _=>es
 | _=>[]
def lenOf:KV→Nat
 | .ts _ _ n _ _=>n
 | _=>0
def ajH:KV→Nat→KV
 | .ts _ _ _ _ acc=>acc
 | _=>fun _=>.aw
def leaf (c:CK) (v:KV):KV:=
 CK.rec (motive:=fun _=>KV) (fun k=>.int k (intOf v)) (.bool (ql v)) (.str (strOf v)) (fun t=>.ts t .any (lenOf v) (am3 v) (ajH v)) v c
def leaves (e:KV):List CK→Nat→List KV
 | [],_=>[]
 | c::cs,k=>leaf c (e.cells.getD k .aw)::leaves e cs (Nat.succ k)
def J8 (agg:Bool) (cs:List KV):KV:=Bool.rec (motive:=fun _=>KV) (cs.headD .aw) (.agg cs) agg
def H4:List CK→Bool
 | []=>true
 | .other::_=>false
 | _::cs=>H4 cs
mutual
def gS:Value→KV
 | .bool b=>.bool b
 | .int k n=>.int k n
 | .string s=>.str s
 | .pointer none=>.Ch
 | .slice none 0 0=>.lk
 | .map none=>.yP
 | .nilFunc=>.Df
 | .nilIface=>.Dg
 | .agg cs=>.agg (ofA cs)
 | .tuple cs=>.kk (ofA cs)
 | _=>.aw
def ofA:Array Value→List KV
 | ⟨l⟩=>ofL l
def ofL:List Value→List KV
 | []=>[]
 | v::vs=>gS v::ofL vs
end
abbrev FP:=List KV→KR KV
abbrev FR:=ax→List KV→KR KV
abbrev FA:=ax→List KV→KR (KV×ax)
inductive qm where
 | pure (f:FP) (xs:List Operand)
 | read (f:FR) (xs:List Operand)
 | act (f:FA) (xs:List Operand)
 | look (f:FP) (xs:List Operand)
 | Ae (g:FuncId) (f:List KV→KR KV) (xs:List Operand)
 | Dh (g:FuncId) (f:List KV→KR KV) (xs:List Operand)
 | call (f:Operand) (args:List Operand)
 | bad
def adm:FP
 | [x]=>.ok x
 | _=>.no
def adn:FP
 | [.bool b]=>.br b (.ok (.bool true)) (.ok (.bool false))
 | [x]=>.ok x
 | _=>.no
def agE:FP
 | [.bool t,.bool a,.bool b]=>.ok (.bool (cond t a b))
 | [.bool t,a,b]=>.ok (cond t a b)
 | _=>.no
def ig:List KV→Bool
 | []=>true
 | v::vs=>one v&&ig vs
def uF {α:Type} : Nat→List α→Option (List α)
 | 0,_=>some []
 | _+1,[]=>none
 | n+1,x::xs=>(uF n xs).map (x::·)
def Af {α:Type} : Nat→List α→List α
 | 0,l=>l
 | _+1,[]=>[]
 | n+1,_::xs=>Af n xs
def lD {α:Type} : Nat→List α→List α→Option (List α)
 | 0,l,[]=>some l
 | 0,[],_::_=>none
 | 0,_::l,v::vs=>(lD 0 l vs).map (v::·)
 | _+1,[],[]=>some []
 | _+1,[],_::_=>none
 | n+1,x::l,vs=>(lD n l vs).map (x::·)
def VL (n:Nat) (z:List KV):FA:=fun A _=>.ok (.ptr A.next 0,A.new (.row z n))
def oZ (P:Program) (t:TypeId):qm:=
 match pb P t with
 | some z=>cond (flat z&&z.cells.toList.all scalar&&ig (gS z).cells) (.act (VL (nN P t) (gS z).cells) []) .bad
 | none=>.bad
def zS (n:Nat):FA:=fun A xs=>
 match xs with
 | [v]=>cond (ig v.cells) (.ok (.ptr A.next 0,A.new (.row v.cells n))) .no
 | _=>.no
def TI (place:Nat→Option (Nat×Nat)):List KV→List (Nat×KV)→Option (List KV)
 | cells,[]=>some cells
 | cells,(i,v)::rest=>
  match place i with
  | some (off,size)=>cond (Nat.beq v.cells.length size&&Nat.ble 1 size) ((lD off cells v.cells).bind fun cs=>TI place cs rest) none
  | none=>none
def yQ:List Nat→List KV→List (Nat×KV)
 | i::is,v::vs=>(i,v)::yQ is vs
 | _,_=>[]
def vj:KV→Bool
 | .aw=>false
 | _=>true
def Mv (place:Nat→Option (Nat×Nat)) (z:List KV) (is:List Nat):FP:=fun vs=>
 match TI place z (yQ is vs) with
 | some cs=>cond (vs.all vj) (.ok (.agg cs)) .no
 | none=>.no
def sB (P:Program) (t:TypeId) (is:List Nat) (xs:List Operand):qm:=
 match pb P t,P.underlying t with
 | some z,some (.struct fields)=>
  match placesOf P fields.toList with
  | some l=>cond (flat z&&ig (gS z).cells) (.pure (Mv (Qr l) (gS z).cells is) xs) .bad
  | none=>.bad
 | some z,some (.array _ e)=>
  match size? P e with
  | some n=>cond (flat z&&ig (gS z).cells) (.pure (Mv (x9 n) (gS z).cells is) xs) .bad
  | none=>.bad
 | _,_=>.bad
def ot:Nat→KV:=fun _=>.aw
def rq (es:List KV):Nat→KV:=fun i=>es.getD i .aw
def m6 (c:CK) (v:KV):KV:=
 match c,v with
 | .slice t,.lk=>.ts t .any 0 [] ot
 | .slice t,.ts t' _ n es acc=>cond (Nat.beq t t') (.ts t .any n es acc) .aw
 | c,v=>cond (kindOk c v) v .aw
def yR:List CK→List KV→List KV
 | c::cs,v::vs=>m6 c v::yR cs vs
 | _,_=>[]
def gu (l:vi) (v:KV):KV:=
 match v with
 | .agg cs=>cond (l.agg&&Nat.beq cs.length l.ks.length) (.agg (yR l.ks cs)) .aw
 | v=>cond l.agg .aw (match l.ks with
  | [c]=>m6 c v
  | _=>.aw)
def setAt (es:List KV) (i:Nat) (v:KV):List KV:=
 match i,es with
 | 0,_::es=>v::es
 | n+1,e::es=>e::setAt es n v
 | _,[]=>[]
def H5 (es:List KV):List (Nat×KV)→List KV
 | []=>es
 | (i,v)::rest=>H5 (setAt es i v) rest
def Kx (l:vi) (e:TypeId) (z:KV) (len:Nat) (is:List Nat):FP:=fun vs=>
 let es:=H5 (dV [z] len) ((yQ is vs).map fun p=>(p.1,gu l p.2))
 cond (vs.all vj&&fQ l (vs.map (gu l))&&fQ l es) (.ok (.ts e .exact len es (rq es))) .no
def CU (n:Nat):List Nat→Bool
 | []=>true
 | i::is=>Nat.blt i n&&CU n is
def O1 (n:Nat) (z:List KV) (len:Nat) (is:List Nat):FA:=fun A vs=>
 match TI (x9 n) (dV z len) (yQ is vs) with
 | some cs=>cond (vs.all vj&&ig cs) (.ok (.sl A.next 0 len len,A.new (.row cs n))) .no
 | none=>.no
def lE (P:Program) (t:TypeId) (len:Nat) (is:List Nat) (xs:List Operand):qm:=
 match P.underlying t with
 | some (.slice e)=>
  match P.info? e,pb P e with
  | some i,some z=>cond (Nat.ble (len * i.size) 16777216&&Nat.beq z.cells.size i.size&&Nat.ble 1 i.size&&flat z&&Nat.beq (bt P e).ks.length i.size&&CU len is)
    (cond (H4 (bt P e).ks) (.look (Kx (bt P e) e (gu (bt P e) (gS z)) len is) xs) (cond (ig (gS z).cells) (.act (O1 i.size (gS z).cells len is) xs) .bad)) .bad
  | _,_=>.bad
 | _=>.bad
def rowAt (A:ax) (b:Nat):Option (List KV):=
 match A.get b with
 | some (.row cs _)=>some cs
 | _=>none
def Fi (A:ax) (b:Nat):Option KV:=
 match A.get b with
 | some (.arr v)=>some v
 | some (.jO v)=>some v
 | _=>none
def XW (P:Program) (t Tc:TypeId):Bool:=Nat.beq Tc t&&H4 (bt P t).ks&&decide (Qq P t=some (bt P t).agg)&&decide (size? P t=some (bt P t).ks.length)&&((bt P t).agg||Nat.beq (bt P t).ks.length 1)
def TJ (P:Program) (T:TypeId) (k:Nat) (e:KV) (vs:List KV):Option KV:=(lD k (leaves e (bt P T).ks 0) vs).map fun cs=>J8 (bt P T).agg cs
def sC (acc:Nat→KV) (i:Nat) (v:KV):Nat→KV:=fun j=>cond (Nat.beq j i) v (acc j)
def ahB (T:TypeId) (n i:Nat) (es:List KV) (acc:Nat→KV) (e:KV):KV:=.ts T .any n (setAt es i e) (sC acc i e)
def TK (P:Program) (t:TypeId):FR:=fun A xs=>
 match xs with
 | [.ptr b off]=>
  match Qq P t,size? P t with
  | some ag,some n=>match (rowAt A b).bind fun cs=>uF n (Af off cs) with
   | some l=>cond ag (.ok (.agg l)) (match l with | [v]=>.ok v | _=>.no)
   | none=>.no
  | _,_=>.no
 | [.tp _ Tc i k _ acc]=>
  cond (XW P t Tc) (.ok (J8 (bt P t).agg (leaves (acc i) (bt P t).ks k))) .no
 | [.ap T Tc b i k]=>match Fi A b with
  | some (.ts T' _ _ _ acc)=>cond (Nat.beq T T'&&XW P t Tc) (.ok (J8 (bt P t).agg (leaves (acc i) (bt P t).ks k))) .no
  | _=>.no
 | _=>.no
def QO (P:Program) (t:TypeId):FA:=fun A xs=>
 match xs with
 | [.ptr b off,v]=>
  cond (decide (some v.cells.length=size? P t)&&ig v.cells)
   (match A.get b with
   | some (.row cs bU)=>match lD off cs v.cells with
    | some b8=>.ok (rp,A.put b (.row b8 bU))
    | none=>.no
   | _=>.no) .no
 | [.ap T Tc b i k,v]=>
  match A.get b with
  | some (.arr (.ts T' _ n es acc))=>
   cond (Nat.beq T T'&&Nat.beq Tc t&&dv (bt P t) (gu (bt P t) v)&&decide (size? P t=some (bt P t).ks.length))
    (match TJ P T k (acc i) (gu (bt P t) v).cells with
    | some e=>.ok (rp,A.put b (.arr (ahB T n i es acc e)))
    | none=>.no) .no
  | _=>.no
 | _=>.no
def YL:FP
 | [.ptr b off]=>.ok (.ptr b off)
 | [.tp T Tc i k es acc]=>.ok (.tp T Tc i k es acc)
 | [.ap T Tc b i k]=>.ok (.ap T Tc b i k)
 | [.fn (.func f) first cap]=>.ok (.fn (.func f) first cap)
 | _=>.no
abbrev am4 (k:IntKind) (a b:Int):Nat:=(BitVec.ofInt k.bits a &&& BitVec.ofInt k.bits b).toNat
abbrev bOr (k:IntKind) (a b:Int):Nat:=(BitVec.ofInt k.bits a ||| BitVec.ofInt k.bits b).toNat
abbrev am5 (k:IntKind) (a b:Int):Nat:=(BitVec.ofInt k.bits a ^^^ BitVec.ofInt k.bits b).toNat
abbrev ajI (k:IntKind) (a b:Int):Nat:=(BitVec.ofInt k.bits a &&& ~~~ BitVec.ofInt k.bits b).toNat
def opI (op:BinOp) (k:IntKind) (a b:Int):KR KV:=
 match op with
 | .add=>.ok (.int k (k.wrap (a+b)))
 | .sub=>.ok (.int k (k.wrap (a - b)))
 | .mul=>.ok (.int k (k.wrap (a * b)))
 | .eql=>.ok (.bool (a==b))
 | .neq=>.ok (.bool (a != b))
 | .lss=>.ok (.bool (decide (a < b)))
 | .leq=>.ok (.bool (decide (a≤b)))
 | .gtr=>.ok (.bool (decide (a > b)))
 | .geq=>.ok (.bool (decide (a ≥ b)))
 | .quo=>.mj (!(decide (b=0))) (.int k (k.wrap (a.tdiv b)))
 | .rem=>.mj (!(decide (b=0))) (.int k (a.tmod b))
 | .and=>.ok (.int k (k.wrap (am4 k a b)))
 | .or=>.ok (.int k (k.wrap (bOr k a b)))
 | .xor=>.ok (.int k (k.wrap (am5 k a b)))
 | .andNot=>.ok (.int k (k.wrap (ajI k a b)))
 | _=>.no
def am6 (op:BinOp) (k:IntKind) (a b:Int):KR KV:=
 match op with
 | .shl=>.mj (!(decide (b < 0))) (.int k (k.wrap (a * 2 ^ (min b.toNat k.bits))))
 | .shr=>.mj (!(decide (b < 0))) (.int k (a.fdiv (2 ^ (min b.toNat k.bits))))
 | _=>.no
def aeN:BinOp→Bool
 | .shl | .shr=>true
 | _=>false
def eqK:KV→KV→Option Bool
 | .int k a,.int k' b=>cond (decide (k=k')) (some (a==b)) none
 | .bool a,.bool b=>some (a==b)
 | .str a,.str b=>some (a==b)
 | _,_=>none
def si:List KV→List KV→Option Bool
 | [],[]=>some true
 | x::xs,y::ys=>match eqK x y,si xs ys with
  | some a,some b=>some (a&&b)
  | _,_=>none
 | _,_=>none
def Ci (P:Program):Nat→TypeId→Bool
 | 0,_=>false
 | n+1,t=>(match P.info? t,lay P (n+1) t with
   | some i,some l=>Nat.beq i.size l.ks.length
   | _,_=>false)&&match P.underlying t with
  | some (.int _) | some .bool | some .string=>true
  | some (.struct fs) => !(P.stoodInHeld t) && fs.toList.all fun f => !(f.name == "_") && Ci P n f.type
  | some (.array _ e)=>Ci P n e
  | _=>false
def ajJ (P:Program) (t:TypeId) (x y:KV):Option Bool:=
 match x,y with
 | .agg xs,.agg ys=>cond ((bt P t).agg&&Ci P 12 t&&!(P.eqGuardType P.depth t)&&aF (bt P t).ks xs&&aF (bt P t).ks ys) (si xs ys) none
 | .bool a,.bool b=>match P.underlying t with
  | some .bool=>some (a==b)
  | _=>none
 | .lk,.lk=>match P.underlying t with
  | some (.slice _)=>some true
  | _=>none
 | .ts _ _ n _ _,.lk=>match P.underlying t with
  | some (.slice _)=>cond (Nat.beq n 0) none (some false)
  | _=>none
 | .lk,.ts _ _ n _ _=>match P.underlying t with
  | some (.slice _)=>cond (Nat.beq n 0) none (some false)
  | _=>none
 | .Ch,.Ch=>match P.underlying t with
  | some (.pointer _)=>some true
  | _=>none
 | .ptr _ _,.Ch=>match P.underlying t with
  | some (.pointer _)=>some false
  | _=>none
 | .Ch,.ptr _ _=>match P.underlying t with
  | some (.pointer _)=>some false
  | _=>none
 | _,_=>none
def ajK (P:Program) (op:BinOp) (t:TypeId):FP
 | [.int j a,.int k b]=>cond (aeN op) (am6 op j a b) (cond (decide (j=k)) (opI op j a b) .no)
 | [.str a,.str b]=>match op with
  | .eql=>.ok (.bool (a.toList==b.toList))
  | .neq=>.ok (.bool !(a.toList==b.toList))
  | .lss=>.ok (.bool (Op.bytesLess a.toList b.toList))
  | .add=>.mj (Nat.ble (a.size+b.size) 9223372036854775807) (.str (a++b))
  | _=>.no
 | [x,y]=>match op,ajJ P t x y with
  | .eql,some b=>.ok (.bool b)
  | .neq,some b=>.ok (.bool !b)
  | _,_=>.no
 | _=>.no
def kUn (op:UnOp):FP
 | [.bool b]=>match op with
  | .not=>.ok (.bool !b)
  | _=>.no
 | [.int k n]=>match op with
  | .neg=>.ok (.int k (k.wrap (0 - n)))
  | .xor=>.ok (.int k (k.wrap (BitVec.ofInt k.bits (if k.signed then -1 else k.max) ^^^ BitVec.ofInt k.bits n).toNat))
  | _=>.no
 | _=>.no
def ahC (k:IntKind):FP
 | [.int _ n]=>.ok (.int k (k.wrap n))
 | _=>.no
def ahD:FP
 | [.str s]=>.ok (.str s)
 | _=>.no
def byteOf:KV→UInt8
 | .int _ n=>UInt8.ofNat n.toNat
 | _=>0
def ahE:KV→Bool
 | .int .u8 n=>decide (0≤n)&&decide (n < 256)
 | _=>false
def H6:FP
 | [.lk]=>.ok (.str ⟨⟨[]⟩⟩)
 | [.ts _ _ _ es _]=>.mj (es.all ahE) (.str ⟨⟨es.map byteOf⟩⟩)
 | _=>.no
def O2 (e:TypeId):FP
 | [.str s]=>.ok (.ts e .any s.size (s.data.toList.map fun b=>.int .u8 b.toNat) (fun i=>.int .u8 (s.data.toList.getD i 0).toNat))
 | _=>.no
def oB (P:Program) (src dst:TypeId) (x:Operand):qm:=
 match P.underlying src,P.underlying dst with
 | some (.int _),some (.int k)=>.pure (ahC k) [x]
 | some .string,some .string=>.pure ahD [x]
 | some (.slice e),some .string=>cond (isByte P e) (.read (fun _=>H6) [x]) .bad
 | some .string,some (.slice e)=>cond (isByte P e) (.look (O2 e) [x]) .bad
 | _,_=>.bad
def H7 (f:Fn) (k:Nat):FP:=fun vs=>
 match uF k vs with
 | some first=>.ok (.fn f first (Af k vs))
 | none=>.no
def VM (s:TypeId) (off:Nat) (ft:TypeId) (vZ:Bool):FP
 | [.ptr b o]=>.ok (.ptr b (o+off))
 | [.tp T Tc i k es acc]=>cond (Nat.beq Tc s&&vZ) (.ok (.tp T ft i (k+off) es acc)) .no
 | [.ap T Tc b i k]=>cond (Nat.beq Tc s&&vZ) (.ok (.ap T ft b i (k+off))) .no
 | _=>.no
def ajL:CK→CK→Bool
 | .int a,.int b=>decide (a=b)
 | .bool,.bool=>true
 | .str,.str=>true
 | .slice a,.slice b=>Nat.beq a b
 | .other,.other=>true
 | _,_=>false
def Ag:List CK→List CK→Bool
 | [],[]=>true
 | a::anQ,b::bs=>ajL a b&&Ag anQ bs
 | _,_=>false
def XX (P:Program) (s:TypeId) (off:Nat) (ft:TypeId):Bool:=
 match uF (bt P ft).ks.length (Af off (bt P s).ks) with
 | some l=>Ag l (bt P ft).ks
 | none=>false
def mG (P:Program) (s:TypeId) (x:Operand) (f:Nat):qm:=
 match ve P s f with
 | some fd=>match size? P fd.type with
  | some (_+1)=>.pure (VM s fd.offset fd.type (XX P s fd.offset fd.type)) [x]
  | _=>.bad
 | none=>.bad
def TL (P:Program) (t:TypeId) (cs:List KV) (off:Nat):Option KV:=
 match Qq P t with
 | some true=>(size? P t).bind fun n=>(uF n (Af off cs)).map fun l=>.agg l
 | some false=>(Af off cs).head?
 | none=>none
def ahF (P:Program) (fd:Field):FP
 | [.agg cs]=>.of (TL P fd.type cs fd.offset)
 | _=>.no
def sD (P:Program) (t:TypeId) (x:Operand) (f:Nat):qm:=
 match ve P t f with
 | some fd=>.pure (ahF P fd) [x]
 | none=>.bad
def YM (i:Int) (n:Nat):Bool:=decide (0≤i)&&decide (i < (n:Int))
def ahG {α:Type} (i:Int) (f:Nat→KR α) (m:Nat):Nat→KR α:=Nat.rec (motive:=fun _=>Nat→KR α) (fun _=>.no) (fun _ ih j=>.br (decide (i=(j:Int))) (f j) (ih (Nat.succ j))) m
def YN (P:Program) (t:TypeId) (len n:Nat) (e:TypeId):FP
 | [.ptr b o,.int _ i]=>cond (Nat.ble len 8) (ahG i (fun j=>.ok (.ptr b (o+j * n))) len 0) (.mj (YM i len) (.ptr b (o+i.toNat * n)))
 | [.tp T Tc j k es acc,.int _ i]=>cond (Nat.beq Tc t&&Ag (bt P t).ks (dV (bt P e).ks len)&&Nat.beq (bt P e).ks.length n) (.mj (YM i len) (.tp T e j (k+i.toNat * n) es acc)) .no
 | [.ap T Tc b j k,.int _ i]=>cond (Nat.beq Tc t&&Ag (bt P t).ks (dV (bt P e).ks len)&&Nat.beq (bt P e).ks.length n) (.mj (YM i len) (.ap T e b j (k+i.toNat * n))) .no
 | _=>.no
def acf (e n:Nat) (vZ:Bool):FP
 | [.sl b o len _,.int _ i]=>.mj (YM i len) (.ptr b (o+i.toNat * n))
 | [.ts T _ m es acc,.int _ i]=>cond (Nat.beq T e&&vZ) (.mj (YM i m) (.tp T T i.toNat 0 es acc)) .no
 | [.al T b o m,.int _ i]=>cond (Nat.beq T e&&vZ) (.mj (YM i m) (.ap T T b (o+i.toNat) 0)) .no
 | _=>.no
def mH (P:Program) (t:TypeId) (x ix:Operand):qm:=
 match P.underlying t with
 | some (.array len e)=>match size? P e with
  | some n=>.pure (YN P t len n e) [x,ix]
  | none=>.bad
 | some (.slice e)=>match size? P e with
  | some n=>.pure (acf e n (Nat.beq (bt P e).ks.length n)) [x,ix]
  | none=>.bad
 | _=>.bad
def O3 (P:Program) (len n:Nat) (e:TypeId):FP
 | [.agg cs,.int _ i]=>cond (Nat.ble len 8) (ahG i (fun j=>.of (TL P e cs (j * n))) len 0) (match TL P e cs (i.toNat * n) with
  | some v=>.mj (YM i len) v
  | none=>.no)
 | _=>.no
def YO:FP
 | [.str s,.int _ i]=>.mj (YM i s.size) (.int .u8 ((s.data.toList.getD i.toNat 0).toNat))
 | _=>.no
def sE (P:Program) (t:TypeId) (x ix:Operand):qm:=
 match P.underlying t with
 | some (.array len e)=>match size? P e with
  | some n=>.pure (O3 P len n e) [x,ix]
  | none=>.bad
 | some .string=>.pure YO [x,ix]
 | _=>.bad
def acg {α:Type} : Nat→List α→Option α
 | _,[]=>none
 | 0,x::_=>some x
 | n+1,_::xs=>acg n xs
def ach (i:Nat):FP
 | [.kk vs]=>.of (acg i vs)
 | _=>.no
def ahH:FP
 | [.ts _ _ n _ _]=>.ok (.int .i64 (n:Int))
 | [.sl _ _ n _]=>.ok (.int .i64 (n:Int))
 | [.al _ _ _ n]=>.ok (.int .i64 (n:Int))
 | [.lk]=>.ok (.int .i64 0)
 | _=>.no
def aeO:FP
 | [.str s]=>.ok (.int .i64 (s.size:Int))
 | _=>.no
def YP (P:Program) (argTypes:List TypeId) (args:List Operand):qm:=
 match argTypes with
 | [t]=>match P.underlying t with
  | some (.slice _)=>.pure ahH args
  | some .string=>.pure aeO args
  | _=>.bad
 | _=>.bad
def Gj (mx:Bool):FP
 | [.int j a,.int k b]=>cond (decide (j=k)) (.ok (.int j (cond mx (max a b) (min a b)))) .no
 | [.int j a,.int k b,.int l c]=>cond (decide (j=k)&&decide (j=l)) (.ok (.int j (cond mx (max (max a b) c) (min (min a b) c)))) .no
 | _=>.no
def QP (len:Nat) (lo hi:Bool):List KV→Option (Int×Int)
 | []=>cond (lo||hi) none (some (0,len))
 | [.int _ x]=>cond (lo&&!hi) (some (x,len)) (cond (!lo&&hi) (some (0,x)) none)
 | [.int _ x,.int _ y]=>cond (lo&&hi) (some (x,y)) none
 | _=>none
def TM (P:Program) (n:Nat) (lo hi:Bool):FR:=fun A xs=>
 match xs with
 | .ts T _ m es acc::r=>match QP m lo hi r with
  | some (x,y)=>cond (Nat.beq (bt P T).ks.length n) (.mj (decide (0≤x)&&decide (x≤y)&&decide (y≤(m:Int))) (.ts T .any (y.toNat - x.toNat) ((es.drop x.toNat).take (y.toNat - x.toNat)) (fun i=>acc (x.toNat+i)))) .no
  | none=>.no
 | .sl b o len cap::r=>match A.get b with
  | some (.row _ bU)=>match QP len lo hi r with
   | some (x,y)=>cond (Nat.beq bU n) (.mj (decide (0≤x)&&decide (x≤y)&&decide (y≤(len:Int))&&decide (len≤cap)) (.sl b (o+x.toNat * n) (y.toNat - x.toNat) (cap - x.toNat))) .no
   | none=>.no
  | _=>.no
 | .al T b o m::r=>match Fi A b with
  | some (.ts T' _ _ _ _)=>match QP m lo hi r with
   | some (x,y)=>cond (Nat.beq (bt P T).ks.length n&&Nat.beq T T') (.mj (decide (0≤x)&&decide (x≤y)&&decide (y≤(m:Int))) (.al T b (o+x.toNat) (y.toNat - x.toNat))) .no
   | none=>.no
  | _=>.no
 | _=>.no
def O4 (len n:Nat) (lo hi:Bool):FR:=fun A xs=>
 match xs with
 | .ptr b o::r=>match A.get b with
  | some (.row cs bU)=>match QP len lo hi r with
   | some (x,y)=>cond (Nat.beq bU n&&Nat.ble (o+len * n) cs.length) (.mj (decide (0≤x)&&decide (x≤y)&&decide (y≤(len:Int))) (.sl b (o+x.toNat * n) (y.toNat - x.toNat) (len - x.toNat))) .no
   | none=>.no
  | _=>.no
 | _=>.no
def O5 (lo hi:Bool):FP
 | .str s::r=>match QP s.size lo hi r with
  | some (x,y)=>.mj (decide (0≤x)&&decide (x≤y)&&decide (y≤(s.size:Int))) (.str ⟨⟨(s.data.toList.drop x.toNat).take (y.toNat - x.toNat)⟩⟩)
  | none=>.no
 | _=>.no
def sF (P:Program) (t:TypeId) (x:Operand) (lo hi mx:Option Operand):qm:=
 match P.underlying t with
 | some (.slice e)=>match size? P e with
  | some n=>cond (Nat.ble 1 n&&mx.isNone) (.read (TM P n lo.isSome hi.isSome) (x::(fV lo++fV hi))) .bad
  | none=>.bad
 | some (.array len e)=>match size? P e with
  | some n=>cond (Nat.ble 1 n&&mx.isNone) (.read (O4 len n lo.isSome hi.isSome) (x::(fV lo++fV hi))) .bad
  | none=>.bad
 | some .string=>cond mx.isNone (.pure (O5 lo.isSome hi.isSome) (x::(fV lo++fV hi))) .bad
 | _=>.bad
def fe (b n m:Nat):Bool:=Nat.ble ((n+m+512) * b) 17592186044416&&Nat.ble (n+m) 17592186044416&&(Nat.blt 0 m||Nat.beq n 0)
def av (top n:Nat):Bool:=Nat.beq top n
def ff (n:Nat) (f g:Nat→KV):Nat→KV:=fun i=>cond (Nat.blt i n) (f i) (g (i - n))
def QQ (e sz b n:Nat) (base:List KV) (ab:Nat→KV) (A:ax) (f m:Nat) (new:List KV) (an:Nat→KV) (more:Bool):KR (KV×ax):=
 .mj (more&&fe b n m)
  (.ts e (.bc f) (n+m) (base++new) (ff n ab an),A.put f (.bc (n+m) sz))
def Ky (e sz b:Nat):FA:=fun A xs=>
 match xs with
 | [.lk,.ts e' _ m new an]=>cond (Nat.beq e e') (QQ e sz b 0 [] ot (A.new (.bc 0 sz)) A.next m new an true) .no
 | [.ts e1 .exact n es ab,.ts e' _ m new an]=>cond (Nat.beq e e'&&Nat.beq e e1) (QQ e sz b n es ab (A.new (.bc 0 sz)) A.next m new an (Nat.blt 0 m)) .no
 | [.ts e1 (.bc f) n es ab,.ts e' _ m new an]=>match A.get f with
  | some (.bc top sz')=>cond (Nat.beq e e'&&Nat.beq e e1&&Nat.beq sz' sz) (QQ e sz b n es ab A f m new an (av top n)) .no
  | _=>.no
 | _=>.no
def ado (A:ax) (T b o n:Nat):Option KV:=
 match Fi A b with
 | some (.ts T' _ _ es acc)=>cond (Nat.beq T T') (some (.ts T .any n ((es.drop o).take n) (fun i=>acc (o+i)))) none
 | _=>none
def Kz (A:ax) (v:KV):Option KV:=
 match v with
 | .al T b o n=>ado A T b o n
 | .ts T m n es acc=>some (.ts T m n es acc)
 | _=>none
def ahI (b n m:Nat):Bool:=Nat.ble ((n+m+512) * b) 17592186044416&&Nat.ble (n+m) 17592186044416
def XY (e b n:Nat) (base:List KV) (ab:Nat→KV) (A:ax) (m:Nat) (new:List KV) (an:Nat→KV) (more:Bool):KR (KV×ax):=
 .mj (more&&ahI b n m) (.al e A.next 0 (n+m),A.new (.arr (.ts e .any (n+m) (base++new) (ff n ab an))))
def CV (e b:Nat):FA:=fun A xs=>
 match xs with
 | [.lk,.ts e' _ m new an]=>cond (Nat.beq e e') (XY e b 0 [] ot A m new an true) .no
 | [.al e1 f o n,.ts e' _ m new an]=>match A.get f with
  | some (.arr (.ts e2 _ _ es acc))=>cond (Nat.beq e e'&&Nat.beq e e1&&Nat.beq e e2) (XY e b n (es.take n) acc (A.put f .dead) m new an (Nat.beq o 0)) .no
  | _=>.no
 | _=>.no
def ajM:KV→Bool
 | .al _ _ _ _=>true
 | _=>false
def Gk (e sz b:Nat) (mt:Bool):FA:=fun A xs=>
 match xs with
 | [x,y]=>match Kz A y with
  | some y'=>cond (ajM x) (CV e b A [x,y']) (cond mt (CV e b A [x,y']) (Ky e sz b A [x,y']))
  | none=>.no
 | _=>.no
def Ej (P:Program) (mt:TypeId→Bool) (argTypes:List TypeId) (args:List Operand):qm:=
 match argTypes with
 | [t,u]=>
  match P.underlying t,P.underlying u with
  | some (.slice e),some (.slice _)=>
   match P.info? e with
   | some i=>match i.zero with
    | some z=>cond (Nat.ble 1 i.size&&Nat.beq z.cells.size i.size&&Nat.beq (bt P e).ks.length i.size) (.act (Gk e i.size i.bytes (mt e)) args) .bad
    | none=>.bad
   | none=>.bad
  | _,_=>.bad
 | _=>.bad
def KA (n b:Nat) (z:List KV):FA:=fun A xs=>
 match xs with
 | [.int _ l,.int _ c]=>.mj (decide (0≤l)&&decide (l≤c)&&Nat.ble (b * c.toNat) 281474976710656) (.sl A.next 0 l.toNat c.toNat,A.new (.row (dV z c.toNat) n))
 | _=>.no
def YQ (A:ax) (v:KV):KV×ax:=
 match v with
 | .al T b o n=>match A.get b with
  | some (.arr (.ts T' m N es acc))=>cond (Nat.beq T T') (.ts T .any n ((es.drop o).take n) (fun i=>acc (o+i)),A.put b (.jO (.ts T' m N es acc))) (.aw,A)
  | some (.jO (.ts T' _ _ es acc))=>cond (Nat.beq T T') (.ts T .any n ((es.drop o).take n) (fun i=>acc (o+i)),A) (.aw,A)
  | _=>(.aw,A)
 | v=>(v,A)
def TN (A:ax):List KV→List KV×ax
 | []=>([],A)
 | v::vs=>((YQ A v).1::(TN (YQ A v).2 vs).1,(TN (YQ A v).2 vs).2)
def aci (A:ax) (v:KV):KV×ax:=
 match v with
 | .agg cs=>(.agg (TN A cs).1,(TN A cs).2)
 | v=>YQ A v
def v7 (A:ax):List KV→List KV×ax
 | []=>([],A)
 | v::vs=>((aci A v).1::(v7 (aci A v).2 vs).1,(v7 (aci A v).2 vs).2)
def TP (T b:Nat) (z:KV):FA:=fun A xs=>
 match xs with
 | [.int _ l,.int _ c]=>.mj (decide (0≤l)&&decide (l≤c)&&Nat.ble (b * c.toNat) 281474976710656) (.al T A.next 0 l.toNat,A.new (.arr (.ts T .any c.toNat (dV [z] c.toNat) (fun _=>z))))
 | _=>.no
def adp (T b:Nat) (z:KV):FP:=fun xs=>
 match xs with
 | [.int _ l,.int _ c]=>.mj (decide (0≤l)&&decide (l≤c)&&Nat.ble (b * c.toNat) 281474976710656) (.ts T .any l.toNat (dV [z] l.toNat) (fun _=>z))
 | _=>.no
def uG (P:Program) (mt:TypeId→Bool) (t:TypeId) (l c:Operand):qm:=
 match P.underlying t with
 | some (.slice e)=>
  match P.info? e with
  | some i=>match i.zero with
   | some z=>cond (mt (e+1000000)) (cond (Nat.ble 1 i.size&&Nat.ble 1 i.bytes&&Nat.beq z.cells.size i.size&&flat z&&z.cells.toList.all scalar&&Nat.beq (bt P e).ks.length i.size&&dv (bt P e) (gu (bt P e) (gS z))) (.look (adp e i.bytes (gu (bt P e) (gS z))) [l,c]) .bad) <| cond (mt e) (cond (Nat.ble 1 i.size&&Nat.ble 1 i.bytes&&Nat.beq z.cells.size i.size&&flat z&&z.cells.toList.all scalar&&Nat.beq (bt P e).ks.length i.size&&dv (bt P e) (gu (bt P e) (gS z))) (.act (TP e i.bytes (gu (bt P e) (gS z))) [l,c]) .bad) <| cond (Nat.ble 1 i.size&&Nat.ble 1 i.bytes&&Nat.beq z.cells.size i.size&&flat z&&z.cells.toList.all scalar&&ig (gS z).cells) (.act (KA i.size i.bytes (gS z).cells) [l,c]) .bad
   | none=>.bad
  | none=>.bad
 | _=>.bad
def yS (es:List KV) (o:Nat) (new:List KV):List KV:=es.take o++new++es.drop (o+new.length)
def la (o k:Nat) (f g:Nat→KV):Nat→KV:=fun i=>cond (Nat.blt i o) (f i) (cond (Nat.blt i (o+k)) (g (i - o)) (f i))
def agF (e:Nat):FA:=fun A xs=>
 match xs with
 | [.al e1 b o n,y]=>match Kz A y,A.get b with
  | some (.ts e' _ m new an),some (.arr (.ts e2 _ N es acc))=>cond (Nat.beq e e'&&Nat.beq e e1&&Nat.beq e e2)
    (.ok (.int .i64 (Nat.min m n:Nat),A.put b (.arr (.ts e .any N (yS es o (new.take (Nat.min m n))) (la o (Nat.min m n) acc an))))) .no
  | _,_=>.no
 | _=>.no
def Mw (P:Program) (argTypes:List TypeId) (args:List Operand):qm:=
 match argTypes with
 | [t,u]=>
  match P.underlying t,P.underlying u with
  | some (.slice e),some (.slice _)=>match size? P e with
   | some n=>cond (Nat.ble 1 n&&Nat.beq (bt P e).ks.length n) (.act (agF e) args) .bad
   | none=>.bad
  | _,_=>.bad
 | _=>.bad
def yT (P:Program) (mt:TypeId→Bool) (b:Builtin) (argTypes:List TypeId) (args:List Operand):qm:=
 match b with
 | .len=>YP P argTypes args
 | .min=>.pure (Gj false) args
 | .max=>.pure (Gj true) args
 | .append=>Ej P mt argTypes args
 | .copy=>Mw P argTypes args
 | _=>.bad
inductive Ek where
 | no
 | out (e:ak) (t:bz) (A:ax)
 | br (c:Bool) (x y:Ek)
inductive tI where
 | no
 | out (v:KV) (A:ax)
 | br (c:Bool) (x y:tI)
structure aeP where
 ac:FuncId→Option (List KV→ax→tI)
 mt:TypeId→Bool
 fz:Bool
 eg:Bool
def aeP.none:aeP:=⟨fun _=>.none,fun _=>false,false,false⟩
structure eJ where
 pc:FuncId→Option (List KV→KR KV)
 lp:FuncId→Nat→Option (bz→ax→Ek)
 x:aeP
def eJ.none:eJ:=⟨fun _=>.none,fun _ _=>.none,.none⟩
def ay (P:Program) (f:KV→KV) (t:TypeId) (e:KV):KV:=J8 (bt P t).agg ((leaves e (bt P t).ks 0).map f)
def aj (P:Program) (d:Nat):KV→KV:=Nat.rec (motive:=fun _=>KV→KV) (fun v=>v) (fun _ ih v=>match v with
 | .ts t _ n _ acc=>.ts t .any n ((List.range n).map fun i=>ay P ih t (acc i)) (fun i=>ay P ih t (acc i))
 | v=>v) d
def aq:Nat:=6
def QR (P:Program) (t:TypeId) (v:KV):KV:=cond (dv (bt P t) (gu (bt P t) v)) (ay P (aj P aq) t (gu (bt P t) v)) .aw
def normArgs (P:Program):List TypeId→List KV→List KV
 | t::ts,v::vs=>QR P t v::normArgs P ts vs
 | _,_=>[]
def aJ (P:Program) (g:FuncId):List TypeId:=match P.funcs.toList[g]? with
 | some fn=>fn.params.toList
 | none=>[]
def eJ.aeQ (cfg:eJ) (g:FuncId):Bool:=cfg.x.fz||cfg.x.mt (2000000+g)
def lY (P:Program) (cfg:eJ) (c:Call):qm:=
 match c.callee with
 | .value (.func g)=>match cfg.pc g with
  | some F=>cond (cfg.aeQ g) (.Dh g (fun vs=>cond (Nat.beq vs.length (aJ P g).length) (F (normArgs P (aJ P g) vs)) .no) c.args.toList)
    (.Ae g (fun vs=>cond (Nat.beq vs.length (aJ P g).length) (F (normArgs P (aJ P g) vs)) .no) c.args.toList)
  | none=>.call (.func g) c.args.toList
 | .value f=>.call f c.args.toList
 | .builtin b=>yT P cfg.x.mt b c.argTypes.toList c.args.toList
 | .invoke _ _=>.bad
def wP:Fn→Bool
 | .yield _=>true
 | _=>false
def bW (P:Program) (cfg:eJ):Op→qm
 | .move x=>.pure adm [x]
 | .assign x=>.pure (cond cfg.x.eg adn adm) [x]
 | .pick c a b=>.pure agE [c,a,b]
 | .alloc t=>oZ P t
 | .box t x=>.act (zS (nN P t)) [x]
 | .build t parts=>sB P t (parts.toList.map (·.1)) (parts.toList.map (·.2))
 | .buildSlice t len parts=>lE P t len (parts.toList.map (·.1)) (parts.toList.map (·.2))
 | .load t a=>.read (TK P t) [a]
 | .store t a x=>.act (QO P t) [a,x]
 | .nilCheck x=>.pure YL [x]
 | .binOp op t x y _=>.pure (ajK P op t) [x,y]
 | .unOp op _ x=>.pure (kUn op) [x]
 | .convert src dst x=>oB P src dst x
 | .makeFunc fn first cap=>cond (wP fn) .bad (.pure (H7 fn first.size) (first.toList++cap.toList))
 | .fieldAddr s x f=>mG P s x f
 | .field t x f=>sD P t x f
 | .indexAddr t x ix=>mH P t x ix
 | .index t x ix=>sE P t x ix
 | .extract t ix=>.pure (ach ix) [t]
 | .slice t x lo hi mx=>sF P t x lo hi mx
 | .makeSlice t l c=>uG P cfg.x.mt t l c
 | .call c=>lY P cfg c
 | _=>.bad
def kW (t:bz):Operand→KV
 | .tmp i=>(t.get i).getD .aw
 | .const v=>cond (flat v) (gS v) .aw
 | .global _=>.aw
 | .func f=>.fn (.func f) [] []
def lM (t:bz):List Operand→List KV
 | []=>[]
 | x::xs=>kW t x::lM t xs
def pj (t:bz) (dst:Option Tmp) (v:KV):bz:=
 match dst with
 | some d=>t.set v d
 | none=>t
def Di (args:List KV):KV→Option (FuncId×List KV)
 | .fn (.func g) first cap=>some (g,first++args++cap)
 | _=>none
inductive BK where
 | bool (b:Bool)
 | kk
 | no
def tJ:KV→BK
 | .bool b=>.bool b
 | .kk _=>.kk
 | _=>.no
section
variable {R:Type}
abbrev np (R:Type):=FuncId→List KV→ax→(KV→ax→Option R)→Option R
def KB (bw:np R) (t:bz) (A:ax) (k:KV→ax→Option R) (ins:qm):Option R:=
 qm.rec (motive:=fun _=>Option R)
  (fun f xs=>(f (lM t xs)).run fun v=>k v A)
  (fun f xs=>(f A (lM t xs)).run fun v=>k v A)
  (fun f xs=>(f A (lM t xs)).run fun p=>k p.1 p.2)
  (fun f xs=>(f (lM t xs)).run fun v=>k v A)
  (fun _ f xs=>(f (lM t xs)).run fun v=>k v A)
  (fun _ f xs=>(f (v7 A (lM t xs)).1).run fun v=>k v (v7 A (lM t xs)).2)
  (fun f args=>Option.rec (motive:=fun _=>Option R) none (fun p=>bw p.1 p.2 A k) (Di (lM t args) (kW t f)))
  none ins
def aeR (t:bz) (d:Option Tmp) (want:Bool) (yes no:bz→Option R):Option R:=
 Option.rec (motive:=fun _=>Option R) none (fun d=>BK.rec (motive:=fun _=>Option R)
  (fun b=>Bool.rec (motive:=fun _=>Option R)
   (Bool.rec (motive:=fun _=>Option R) (yes (t.set (.bool false) d)) (no (t.set (.bool false) d)) want)
   (Bool.rec (motive:=fun _=>Option R) (no (t.set (.bool true) d)) (yes (t.set (.bool true) d)) want) b)
  (no t) none (tJ ((t.get d).getD .aw))) d
def xB (P:Program) (cfg:eJ) (bw:np R) (all:List Oper) (o:Oper) (k:bz→ax→Option R) (t:bz) (A:ax):Option R:=
 Option.rec (motive:=fun _=>Option R) (KB bw t A (fun v A=>k (pj t o.dst v) A) (bW P cfg o.op))
  (fun g=>aeR t ((all[g.1]?).bind (·.dst)) g.2 (fun t=>KB bw t A (fun v A=>k (pj t o.dst v) A) (bW P cfg o.op)) (fun t=>k (pj t o.dst rp) A)) o.guard
def sj (P:Program) (cfg:eJ) (bw:np R) (all:List Oper) (k:bz→ax→Option R) (os:List Oper):bz→ax→Option R:=
 List.rec (motive:=fun _=>bz→ax→Option R) k (fun o _ ih=>xB P cfg bw all o ih) os
abbrev KE (R:Type):=ak→bz→ax→Option R
def adq (t:bz) (c:Operand) (f g:bz→Option R):Option R:=
 match c with
 | .tmp d=>BK.rec (motive:=fun _=>Option R) (fun b=>Bool.rec (motive:=fun _=>Option R) (g (t.set (.bool false) d)) (f (t.set (.bool true) d)) b) none none (tJ ((t.get d).getD .aw))
 | c=>BK.rec (motive:=fun _=>Option R) (fun b=>Bool.rec (motive:=fun _=>Option R) (g t) (f t) b) none none (tJ (kW t c))
def dA (i:qm):Nat:=qm.rec (motive:=fun _=>Nat) (fun _ _=>0) (fun _ _=>1) (fun _ _=>3) (fun _ _=>0) (fun _ _ _=>0) (fun _ _ _=>3) (fun _ _=>9) 9 i
def XZ:qm→List Operand
 | .pure _ xs=>xs
 | .read _ xs=>xs
 | .act _ xs=>xs
 | .look _ xs=>xs
 | .Ae _ _ xs=>xs
 | .Dh _ _ xs=>xs
 | .call f xs=>f::xs
 | .bad=>[]
def na (P:Program) (cfg:eJ) (all:List Oper) (o:Oper):List Tmp:=CS all o++qi (XZ (bW P cfg o.op))
def sG (P:Program) (cfg:eJ) (all:List Oper) (x y:Oper):Bool:=Kp x.dst (na P cfg all y)||Kp y.dst (na P cfg all x)||Qw x.dst y.dst
def Fj (P:Program) (cfg:eJ) (all:List Oper) (x y:Oper):Bool:=
 sG P cfg all x y||(Nat.ble 3 (dA (bW P cfg x.op))&&!(Nat.beq (dA (bW P cfg y.op)) 0))||(Nat.ble 3 (dA (bW P cfg y.op))&&!(Nat.beq (dA (bW P cfg x.op)) 0))
def Mx:Op→Bool
 | .alloc _=>true
 | .box _ _=>true
 | .call c=>match c.callee with
  | .builtin .append=>true
  | _=>false
 | _=>false
def QS:Op→Option Operand
 | .store _ a _=>some a
 | _=>none
def ahJ:Op→Option Operand
 | .load _ a=>some a
 | _=>none
def uH (i:Nat) (x:Operand):List Oper→Nat→Bool
 | [],_=>true
 | o::os,j=>(Nat.blt j i||!(Kp o.dst (qi [x])))&&uH i x os (Nat.succ j)
def H8 (i:Nat) (x:Option Operand) (all:List Oper):Bool:=
 match x with
 | some x=>uH i x all 0
 | none=>true
def H9 (x y:Oper):Option (Option Operand×Operand):=
 match ahJ y.op with
 | some a=>cond (Mx x.op) (some (none,a)) (match QS x.op with
  | some a2=>some (some a2,a)
  | none=>none)
 | none=>none
def VN (all:List Oper) (j:Nat) (x:Oper) (i:Nat) (y:Oper):Option (Option Operand×Operand):=
 match H9 x y with
 | some p=>cond (uH i p.2 all 0&&H8 j p.1 all) (some p) none
 | none=>match H9 y x with
  | some p=>cond (uH j p.2 all 0&&H8 i p.1 all) (some p) none
  | none=>none
def Gl (t:bz) (nx:Nat) (p:Option Operand×Operand):Bool:=
 match kW t p.2 with
 | .tp _ _ _ _ _ _=>true
 | .ptr b _=>Nat.blt b nx&&(match p.1 with
  | some a2=>(match kW t a2 with
   | .ptr b2 _=>!(Nat.beq b b2)
   | .ap _ _ _ _ _=>true
   | _=>false)
  | none=>true)
 | _=>false
def O6 (t:bz) (nx:Nat) (l:List (Option Operand×Operand)):Bool:=List.rec (motive:=fun _=>Bool) true (fun p _ ih=>Bool.rec false ih (Gl t nx p)) l
def Bk (P:Program) (cfg:eJ) (all:List Oper) (b:List Nat) (i:Nat) (y:Oper):List Oper→Nat→List (Option Operand×Operand)
 | [],_=>[]
 | x::xs,j=>cond (Nat.ble i j||!Fj P cfg all x y||pf b i j) (Bk P cfg all b i y xs (Nat.succ j)) (match VN all j x i y with
  | some p=>p::Bk P cfg all b i y xs (Nat.succ j)
  | none=>Bk P cfg all b i y xs (Nat.succ j))
def TQ (P:Program) (cfg:eJ) (all:List Oper) (b:List Nat):List Oper→Nat→List (Option Operand×Operand)
 | [],_=>[]
 | o::os,i=>Bk P cfg all b i o all 0++TQ P cfg all b os (Nat.succ i)
def O7 (P:Program) (cfg:eJ) (all:List Oper):Bool:=all.all fun o=>!(Nat.ble 3 (dA (bW P cfg o.op)))||Mx o.op||(QS o.op).isSome
def Fk (P:Program) (cfg:eJ) (all:List Oper):List (Option Operand×Operand):=TQ P cfg all (eK [] all) all 0
def Mz (P:Program) (cfg:eJ) (all:List Oper) (b:List Nat) (i:Nat) (y:Oper):List Oper→Nat→Bool
 | [],_=>true
 | x::xs,j=>(Nat.ble i j||!Fj P cfg all x y||pf b i j||(!sG P cfg all x y&&(VN all j x i y).isSome))&&Mz P cfg all b i y xs (Nat.succ j)
def Gm (P:Program) (cfg:eJ) (all:List Oper) (b:List Nat):List Oper→Nat→Bool
 | [],_=>true
 | o::os,i=>Mz P cfg all b i o all 0&&Gm P cfg all b os (Nat.succ i)
def aeS (P:Program) (cfg:eJ) (all:List Oper):Bool:=F9 P all&&all.all (fun o=>Nat.ble (dA (bW P cfg o.op)) 3)&&Gm P cfg all (eK [] all) all 0&&((Fk P cfg all).isEmpty||O7 P cfg all)
def gQ (o:Oper):Option (TypeId×Tmp):=
 match o.op,o.guard,o.dst with
 | .alloc T,none,some d=>some (T,d)
 | _,_,_=>none
def vk (d:Tmp):List Oper→Bool
 | []=>false
 | o::os=>(match gQ o with
  | some (_,e)=>Nat.beq d e
  | none=>false)||vk d os
def rI (all:List Oper) (o:Oper):Option (TypeId×Tmp×Operand):=
 match o.op,o.guard,o.dst with
 | .store T (.tmp d) x,none,none=>cond (vk d all) (some (T,d,x)) none
 | _,_,_=>none
def pY (all:List Oper) (o:Oper):Bool:=(gQ o).isSome||(rI all o).isSome
def rJ (all:List Oper) (d:Tmp):List Oper→Option (TypeId×Operand)
 | []=>none
 | o::os=>match rI all o with
  | some (T,e,x)=>cond (Nat.beq d e) (some (T,x)) (rJ all d os)
  | none=>rJ all d os
def Gn (i:Nat) (d:Tmp):List Oper→Nat→Bool
 | [],_=>true
 | o::os,j=>(Nat.beq j i||!(Kp o.dst [d]))&&Gn i d os (Nat.succ j)
def Ah (all:List Oper) (i:Nat) (d:Tmp):List Oper→Nat→Bool
 | [],_=>true
 | o::os,j=>(Nat.beq j i||(match rI all o with
  | some (_,e,_)=>!(Nat.beq d e)
  | none=>true))&&Ah all i d os (Nat.succ j)
def KC (all:List Oper):List Oper→Nat→Bool
 | [],_=>true
 | o::os,i=>(match gQ o with
  | some (_,d)=>Gn i d all 0
  | none=>true)&&(match rI all o with
  | some (_,d,x)=>uH i x all 0&&Ah all i d all 0&&vk d (all.take i)&&!(Kp (some d) (qi [x]))
  | none=>true)&&KC all os (Nat.succ i)
def CW (P:Program) (cfg:eJ) (all:List Oper) (b:List Nat) (i:Nat) (y:Oper):List Oper→Nat→Bool
 | [],_=>true
 | x::xs,j=>(Nat.ble i j||!sG P cfg all x y||pf b i j)&&CW P cfg all b i y xs (Nat.succ j)
def yb (P:Program) (cfg:eJ) (all:List Oper) (b:List Nat):List Oper→Nat→Bool
 | [],_=>true
 | o::os,i=>CW P cfg all b i o all 0&&yb P cfg all b os (Nat.succ i)
def Gp (o:Oper):Option (Operand×List Operand):=
 match o.op,o.guard with
 | .call c,none=>match c.callee with
  | .value (.tmp d)=>some (.tmp d,c.args.toList)
  | _=>none
 | _,_=>none
def Cu (P:Program) (cfg:eJ) (t:bz) (p:Operand×List Operand):qm:=
 match kW t p.1 with
 | .fn (.func g) [] []=>match cfg.pc g with
  | some F=>.Ae g (fun vs=>cond (Nat.beq vs.length (aJ P g).length) (F (normArgs P (aJ P g) vs)) .no) p.2
  | none=>.bad
 | _=>.bad
def QT (P:Program) (cfg:eJ) (all:List Oper):Bool:=F9 P all&&all.all (fun o=>pY all o||Nat.ble (dA (bW P cfg o.op)) 1||(Gp o).isSome)&&yb P cfg all (eK [] all) all 0&&KC all all 0
def agG (P:Program) (cfg:eJ) (bw:np R) (all:List Oper) (o:Oper) (k:bz→ax→Option R) (t:bz) (A:ax):Option R:=
 Bool.rec (motive:=fun _=>Option R) (Option.rec (motive:=fun _=>Option R) (xB P cfg bw all o k t A) (fun p=>KB bw t A (fun v A=>k (pj t o.dst v) A) (Cu P cfg t p)) (Gp o)) (k (pj t o.dst .aw) A) (pY all o)
def YR (P:Program) (cfg:eJ) (bw:np R) (all:List Oper) (k:bz→ax→Option R) (os:List Oper):bz→ax→Option R:=
 List.rec (motive:=fun _=>bz→ax→Option R) k (fun o _ ih=>agG P cfg bw all o ih) os
def vl (P:Program) (all:List Oper) (t:bz) (T:TypeId) (d:Tmp):Option (List KV):=
 match pb P T with
 | some z=>cond (flat z&&z.cells.toList.all scalar&&ig (gS z).cells&&decide (some (gS z).cells.length=size? P T)) (match rJ all d all with
  | some (T',x)=>cond (Nat.beq T T'&&decide (some (kW t x).cells.length=size? P T)&&ig (kW t x).cells) (some (kW t x).cells) none
  | none=>some (gS z).cells) none
 | none=>none
def VO (P:Program) (all:List Oper) (t0:bz) (k:bz→ax→Option R) (os:List Oper):bz→ax→Option R:=
 List.rec (motive:=fun _=>bz→ax→Option R) k (fun o _ ih t A=>Option.rec (motive:=fun _=>Option R) (ih t A) (fun p=>
  Option.rec (motive:=fun _=>Option R) none (fun cs=>ih (t.set (.ptr A.next 0) p.2) (A.new (.row cs (nN P p.1)))) (vl P all t0 p.1 p.2)) (gQ o)) os
def ajN (P:Program) (cfg:eJ) (o:Oper):Bool:=
 match bW P cfg o.op with
 | .call _ _=>true
 | _=>false
def acj (P:Program) (cfg:eJ):List Oper→Nat→Option Nat
 | [],_=>none
 | o::os,i=>cond (ajN P cfg o) (some i) (acj P cfg os (Nat.succ i))
def Gq (P:Program) (cfg:eJ) (b:List Nat) (i:Nat):List Oper→Nat→Bool
 | [],_=>true
 | q::os,j=>cond (Nat.beq j i) true (cond (Nat.blt j i) (cond (Nat.beq (dA (bW P cfg q.op)) 0) true (pf b i j)) (pf b j i))&&Gq P cfg b i os (Nat.succ j)
def Gr (P:Program) (cfg:eJ) (b:List Nat) (all:List Oper):List Oper→Nat→Bool
 | [],_=>true
 | o::os,i=>cond (Nat.ble (dA (bW P cfg o.op)) 1) true (Gq P cfg b i all 0)&&Gr P cfg b all os (Nat.succ i)
def Ia (P:Program) (cfg:eJ) (all:List Oper):Bool:=
 match acj P cfg all 0 with
 | some _=>F9 P all&&yb P cfg all (eK [] all) all 0&&Gr P cfg (eK [] all) all all 0
 | none=>false
def YS (P:Program) (cfg:eJ) (bw:np R) (ops:List Oper) (draw:Bool) (k:bz→ax→Option R):bz→ax→Option R:=
 Bool.rec (motive:=fun _=>bz→ax→Option R) (sj P cfg bw ops k ops) (Bool.rec (motive:=fun _=>bz→ax→Option R)
  (Bool.rec (motive:=fun _=>bz→ax→Option R)
   (Bool.rec (motive:=fun _=>bz→ax→Option R) (fun _ _=>none) (YR P cfg bw ops (fun t A=>VO P ops t k ops t A) ops) (QT P cfg ops))
   (sj P cfg bw ops k ops) (Ia P cfg ops))
  (fun t A=>sj P cfg bw ops (fun t' A'=>Bool.rec (motive:=fun _=>Option R) none (k t' A') (O6 t' A.next (Fk P cfg ops))) ops t A) (aeS P cfg ops)) draw
def adr (k:KE R) (f:bz→ax→Option R):KE R:=fun e t A=>ak.rec (motive:=fun _=>Option R) (f t A) (fun i=>k (.exit i) t A) (fun l=>k (.goto l) t A) (k .ret t A) e
def ahK (id:Nat) (k:KE R):KE R:=fun e t A=>ak.rec (motive:=fun _=>Option R) (k .normal t A) (fun i=>Bool.rec (motive:=fun _=>Option R) (k (.exit i) t A) (k .normal t A) (Nat.beq i id)) (fun l=>k (.goto l) t A) (k .ret t A) e
def YT (k:KE R):KE R:=fun e t A=>ak.rec (motive:=fun _=>Option R) (k .normal t A) (fun i=>k (.exit i) t A) (fun _=>none) (k .ret t A) e
def TR (g:KE R→bz→ax→Option R) (k:KE R) (L:Nat):bz→ax→Option R:=
 Nat.rec (motive:=fun _=>bz→ax→Option R) (fun _ _=>none) (fun _ ih=>g (adr k ih)) L
def tI.run (k:KV→ax→Option R) (x:tI):Option R:=tI.rec (motive:=fun _=>Option R) none (fun v A=>k v A) (fun c _ _ rx ry=>Bool.rec (motive:=fun _=>Option R) ry rx c) x
def Ek.run (k:KE R) (x:Ek):Option R:=Ek.rec (motive:=fun _=>Option R) none (fun e t A=>k e t A) (fun c _ _ rx ry=>Bool.rec (motive:=fun _=>Option R) ry rx c) x
def agH (F:bz→ax→Ek) (k:KE R) (t:bz) (A:ax):Option R:=(F t A).run k
def pZ (P:Program) (cfg:eJ) (bw:np R) (L:Nat) (f:FuncId) (c:Code):Nat→KE R→bz→ax→Option R:=
 Code.rec (motive:=fun _=>Nat→KE R→bz→ax→Option R) (fun _ k t A=>k .normal t A)
  (fun _ ops d _ k=>YS P cfg bw ops.toList d (fun t A=>k .normal t A))
  (fun _ _ a b p k=>a (2 * p) (adr k fun t A=>b (2 * p+1) k t A))
  (fun c _ _ a b p k t A=>adq t c (fun t=>a (2 * p) k t A) (fun t=>b (2 * p+1) k t A))
  (fun id _ g p k=>g (2 * p) (ahK id k))
  (fun _ g p k=>Option.rec (motive:=fun _=>bz→ax→Option R) (TR (g (2 * p)) k L) (fun F=>agH F k) (cfg.lp f p))
  (fun _ _ _ _ _ _ _ _ _ _=>none) (fun id _ k t A=>k (.exit id) t A) (fun _ g p k=>g (2 * p) (YT k)) (fun _ _ k t A=>k .normal t A) (fun l _ k t A=>k (.goto l) t A) (fun _ k t A=>k .ret t A) (fun _ _ _ _ _=>none) c
def nQ:List KV→Nat→bz→bz
 | [],_,t=>t
 | v::vs,i,t=>nQ vs (Nat.succ i) (t.set v i)
def Gs (P:Program) (A:ax) (t:bz):List ResultVar→Option (List KV)
 | []=>some []
 | .tmp x::rs=>(Gs P A t rs).map (kW t (.tmp x)::·)
 | .cell a ty::rs=>match TK P ty A [kW t (.tmp a)] with
  | .ok v=>(Gs P A t rs).map (v::·)
  | _=>none
def Dj:List KV→KV
 | [v]=>v
 | vs=>.kk vs
def aeT (P:Program) (fn:Func) (k:List KV→ax→Option R):KE R:=fun e t A=>
 ak.rec (motive:=fun _=>Option R) (Option.rec (motive:=fun _=>Option R) none (fun vs=>k vs A) (Gs P A t fn.results.toList)) (fun _=>none) (fun _=>none) (Option.rec (motive:=fun _=>Option R) none (fun vs=>k vs A) (Gs P A t fn.results.toList)) e
def TS (P:Program) (cfg:eJ) (bw:np R) (L:Nat) (f:FuncId) (args:List KV) (A:ax) (k:List KV→ax→Option R):Option R:=
 match P.funcs.toList[f]? with
 | some fn=>match fn.body with
  | some c=>pZ P cfg bw L f c 1 (aeT P fn k) (nQ args 0 .leaf) A
  | none=>none
 | none=>none
def El (P:Program) (cfg:eJ) (L:Nat) (n:Nat):np R:=
 Nat.rec (motive:=fun _=>np R) (fun _ _ _ _=>none) (fun _ ih f args A k=>
  Bool.rec (motive:=fun _=>Option R) none (Option.rec (motive:=fun _=>Option R) (TS P cfg ih L f args A fun vs B=>k (Dj vs) B) (fun F=>tI.run k (F args A)) (cfg.x.ac f)) (Nat.blt f yB)) n
end
def vm (P:Program):List TypeId→List KV→List KV
 | t::ts,v::vs=>QR P t v::vm P ts vs
 | _,_=>[]
def rK (P:Program) (g:FuncId):List TypeId:=match P.funcs.toList[g]? with
 | some fn=>fn.resultTypes.toList
 | none=>[]
def dm (P:Program) (cfg:eJ) (L n:Nat) (f:FuncId) (args:List KV):Option KV:=
 TS P cfg (El P cfg L n) L f args .empty fun vs A=>Bool.rec (motive:=fun _=>Option KV) none (some (Dj (vm P (rK P f) (v7 A vs).1))) (Nat.beq vs.length (rK P f).length)
end
end Go.K
end
section
namespace Go.K
open Go Go.aE
structure aeU where
 cs:List Value
 bU:Nat
 own:Bool
 bP:Option (Nat×Nat)
structure Env where
 κ:Nat→Option Nat
 z:Nat→Option aeU
 φ:Nat→Option Nat
 α:Nat→Option (Nat×Nat×Nat)
structure Env.le (E E' : Env):Prop where
 α:∀ b p,E.α b=some p→E'.α b=some p
 κ:∀ b x,E.κ b=some x→E'.κ b=some x
 z:∀ b r,E.z b=some r→E'.z b=some r
 φ:∀ b g,E.φ b=some g→E'.φ b=some g
theorem Env.le_refl (E:Env):E.le E:=⟨fun _ _ h=>h,fun _ _ h=>h,fun _ _ h=>h,fun _ _ h=>h⟩
theorem Env.le_trans {E F G:Env} (h:E.le F) (k:F.le G):E.le G:=⟨fun b p e=>k.α b p (h.α b p e),fun b x e=>k.κ b x (h.κ b x e),fun b x e=>k.z b x (h.z b x e),fun b x e=>k.φ b x (h.φ b x e)⟩
def ou (sz off:Nat) (cs es:List Value):Prop:=∀ (i:Nat) (x:Value),es[i]? = some x→x.cells.size=sz∧∀ (k:Nat) (y:Value),x.cells[k]? = some y→cs[off+i * sz+k]? = some y
def X0 (E:Env) (sz:Nat) (a:Option Addr) (n:Nat) (es:List Value):Prop:=
 (a=none∧n=0)∨∃ b off r,a=some ⟨b,off,none⟩∧E.z b=some r∧r.bU=sz∧ou sz off r.cs es
def MA (E:Env) (sz:Nat) (a:Option Addr) (n cap:Nat):Mk→Prop
 | .any=>True
 | .exact=>cap=n∧∀ b off,a=some ⟨b,off,none⟩→∃ r,E.z b=some r∧r.own=true∧r.bP=none∧off+cap * sz=r.cs.length
 | .bc f=>cap=n∧((n=0∧a=none)∨∃ b r g,a=some ⟨b,0,none⟩∧E.z b=some r∧r.own=true∧E.φ f=some g∧r.bP=some (g,0)∧r.cs.length=n * sz)
structure jg (P:Program) (T:TypeId) (n:Nat) (es:List KV) (acc:Nat→KV):Prop where
 len:n=es.length
 acc:∀ i,i < n→acc i=es.getD i .aw
 typed:fQ (bt P T) es=true
def bd (P:Program) (T:TypeId):Nat:=(bt P T).ks.length
def aeV (P:Program) (E:Env) (T:TypeId) (m:Mk) (n:Nat) (bp:List Value) (v:Value):Prop:=
 ∃ a cap,v = .slice a n cap∧n≤cap∧X0 E (bd P T) a n bp∧MA E (bd P T) a n cap m
structure X1 (P:Program) (T Tc:TypeId) (k:Nat):Prop where
 is:∀ m c,(bt P Tc).ks[m]? = some c→(bt P T).ks[k+m]? = some c
def aeW (P:Program) (E:Env) (T Tc:TypeId) (i k:Nat) (es:List KV) (bp:List Value) (v:Value):Prop:=
 i < es.length∧X1 P T Tc k∧∃ b off r,v = .pointer (some ⟨b,off+i * bd P T+k,none⟩)∧E.z b=some r∧ou (bd P T) off r.cs bp
def VP (P:Program) (E:Env) (T:TypeId) (b o n:Nat) (v:Value):Prop:=
 (n=0∧o=0∧v = .slice none 0 0)∨∃ x L N c,E.α b=some (x,L,N)∧v = .slice (some ⟨x,o * bd P T,none⟩) n c∧n≤c∧o+n≤N∧(o+c) * bd P T=L
def ack (P:Program) (E:Env) (T Tc:TypeId) (b i k:Nat) (v:Value):Prop:=
 ∃ x L N,E.α b=some (x,L,N)∧X1 P T Tc k∧i < N∧v = .pointer (some ⟨x,i * bd P T+k,none⟩)
mutual
def VK (P:Program) (E:Env):KV→Value→Prop
 | .int k n,v=>v = .int k n
 | .bool b,v=>v = .bool b
 | .str s,v=>v = .string s
 | .agg cs,v=>∃ l,v = .agg ⟨l⟩∧bb P E cs l
 | .kk cs,v=>∃ l,v = .tuple ⟨l⟩∧bb P E cs l
 | .ts T m n es acc,v=>jg P T n es acc∧∃ bp,bb P E es bp∧aeV P E T m n bp v
 | .tp T Tc i k es acc,v=>jg P T es.length es acc∧∃ bp,bb P E es bp∧aeW P E T Tc i k es bp v
 | .al T b o n,v=>VP P E T b o n v
 | .ap T Tc b i k,v=>ack P E T Tc b i k v
 | .ptr b off,v=>∃ x,E.κ b=some x∧v = .pointer (some ⟨x,off,none⟩)
 | .sl b off n c,v=>∃ x,E.κ b=some x∧v = .slice (some ⟨x,off,none⟩) n c
 | .Ch,v=>v = .pointer none
 | .lk,v=>v = .slice none 0 0
 | .yP,v=>v = .map none
 | .map b,v=>∃ x,E.κ b=some x∧v = .map (some x)
 | .fn f first cap,v=>∃ l m,v = .func f ⟨l⟩ ⟨m⟩∧bb P E first l∧bb P E cap m
 | .Df,v=>v = .nilFunc
 | .iface t x,v=>∃ y,v = .iface t y∧VK P E x y
 | .Dg,v=>v = .nilIface
 | .aw,_=>True
def bb (P:Program) (E:Env):List KV→List Value→Prop
 | [],l=>l = []
 | x::xs,l=>∃ y ys,l=y::ys∧VK P E x y∧bb P E xs ys
end
variable {P:Program} {E E' : Env}
theorem MA.mono (h:E.le E') {sz:Nat} {a:Option Addr} {n cap:Nat} {m:Mk} (k:MA E sz a n cap m):MA E' sz a n cap m:=by
 cases m with
 | any=>trivial
 | exact=>exact ⟨k.1,fun b off e=>by obtain ⟨r,h1,h2⟩:=k.2 b off e; exact ⟨r,h.z _ _ h1,h2⟩⟩
 | bc f=>
  refine ⟨k.1,k.2.imp id ?_⟩
  rintro ⟨b,r,g,h1,h2,h3,h4,h5⟩
  exact ⟨b,r,g,h1,h.z _ _ h2,h3,h.φ _ _ h4,h5⟩
theorem X0.mono (h:E.le E') {sz:Nat} {a:Option Addr} {n:Nat} {es:List Value} (k:X0 E sz a n es):X0 E' sz a n es:=by
 refine k.imp id ?_
 rintro ⟨b,off,r,h1,h2,h3⟩
 exact ⟨b,off,r,h1,h.z _ _ h2,h3⟩
theorem aeV.mono (h:E.le E') {T:TypeId} {m:Mk} {n:Nat} {es:List Value} {v:Value} (k:aeV P E T m n es v):aeV P E' T m n es v:=by
 obtain ⟨a,cap,h1,h2,h3,h4⟩:=k
 exact ⟨a,cap,h1,h2,h3.mono h,h4.mono h⟩
theorem aeW.mono (h:E.le E') {T Tc:TypeId} {i k:Nat} {es:List KV} {bp:List Value} {v:Value} (q:aeW P E T Tc i k es bp v):aeW P E' T Tc i k es bp v:=by
 obtain ⟨h1,h2,b,off,r,h3,h4,h5⟩:=q
 exact ⟨h1,h2,b,off,r,h3,h.z _ _ h4,h5⟩
theorem VP.mono (h:E.le E') {T:TypeId} {b o n:Nat} {v:Value} (q:VP P E T b o n v):VP P E' T b o n v:=by
 refine q.imp id ?_
 rintro ⟨x,L,N,c,h1,h2⟩
 exact ⟨x,L,N,c,h.α _ _ h1,h2⟩
theorem ack.mono (h:E.le E') {T Tc:TypeId} {b i k:Nat} {v:Value} (q:ack P E T Tc b i k v):ack P E' T Tc b i k v:=by
 obtain ⟨x,L,N,h1,h2⟩:=q
 exact ⟨x,L,N,h.α _ _ h1,h2⟩
mutual
theorem VK.mono (h:E.le E'):∀ {v:KV} {v' : Value},VK P E v v'→VK P E' v v'
 | .int k n,v,q=>q
 | .bool b,v,q=>q
 | .str s,v,q=>q
 | .agg cs,v,q=>by
  simp only [VK] at q ⊢
  obtain ⟨l,e,q⟩:=q
  exact ⟨l,e,bb.mono h q⟩
 | .kk cs,v,q=>by
  simp only [VK] at q ⊢
  obtain ⟨l,e,q⟩:=q
  exact ⟨l,e,bb.mono h q⟩
 | .ts T m n es acc,v,q=>by
  simp only [VK] at q ⊢
  obtain ⟨t,l,q,k⟩:=q
  exact ⟨t,l,bb.mono h q,k.mono h⟩
 | .tp T Tc i k es acc,v,q=>by
  simp only [VK] at q ⊢
  obtain ⟨t,l,q,k⟩:=q
  exact ⟨t,l,bb.mono h q,k.mono h⟩
 | .al T b o n,v,q=>by
  simp only [VK] at q ⊢
  exact q.mono h
 | .ap T Tc b i k,v,q=>by
  simp only [VK] at q ⊢
  exact q.mono h
 | .ptr b off,v,q=>by
  simp only [VK] at q ⊢
  obtain ⟨x,e,q⟩:=q
  exact ⟨x,h.κ _ _ e,q⟩
 | .sl b off n c,v,q=>by
  simp only [VK] at q ⊢
  obtain ⟨x,e,q⟩:=q
  exact ⟨x,h.κ _ _ e,q⟩
 | .Ch,v,q=>q
 | .lk,v,q=>q
 | .yP,v,q=>q
 | .map b,v,q=>by
  simp only [VK] at q ⊢
  obtain ⟨x,e,q⟩:=q
  exact ⟨x,h.κ _ _ e,q⟩
 | .fn f first cap,v,q=>by
  simp only [VK] at q ⊢
  obtain ⟨l,m,e,q1,q2⟩:=q
  exact ⟨l,m,e,bb.mono h q1,bb.mono h q2⟩
 | .Df,v,q=>q
 | .iface t x,v,q=>by
  simp only [VK] at q ⊢
  obtain ⟨y,e,q⟩:=q
  exact ⟨y,e,VK.mono h q⟩
 | .Dg,v,q=>q
 | .aw,v,q=>q
theorem bb.mono (h:E.le E'):∀ {v:List KV} {v' : List Value},bb P E v v'→bb P E' v v'
 | [],_,q=>q
 | x::xs,_,q=>by
  simp only [bb] at q ⊢
  obtain ⟨y,ys,e,q1,q2⟩:=q
  exact ⟨y,ys,e,VK.mono h q1,bb.mono h q2⟩
end
theorem bb.nil:bb P E [] []:=by simp [bb]
theorem bb.cons {x:KV} {y:Value} {xs:List KV} {ys:List Value} (h:VK P E x y) (k:bb P E xs ys):bb P E (x::xs) (y::ys):=by
 simp only [bb]; exact ⟨y,ys,rfl,h,k⟩
theorem bb.cl {l:List Value} (h:bb P E [] l):l = []:=by simpa [bb] using h
theorem bb.cons_inv {x:KV} {xs:List KV} {l:List Value} (h:bb P E (x::xs) l):∃ y ys,l=y::ys∧VK P E x y∧bb P E xs ys:=by simpa [bb] using h
theorem bb.eW {x:KV} {l:List Value} (h:bb P E [x] l):∃ y,l = [y]∧VK P E x y:=by
 obtain ⟨y,ys,rfl,h1,h2⟩:=h.cons_inv
 rw [h2.cl]; exact ⟨y,rfl,h1⟩
theorem bb.ll {x y:KV} {l:List Value} (h:bb P E [x,y] l):∃ x' y',l = [x',y']∧VK P E x x'∧VK P E y y':=by
 obtain ⟨a,ys,rfl,h1,h2⟩:=h.cons_inv
 obtain ⟨b,rfl,h3⟩:=h2.eW
 exact ⟨a,b,rfl,h1,h3⟩
theorem bb.O8 {x y u:KV} {l:List Value} (h:bb P E [x,y,u] l):∃ x' y' u',l = [x',y',u']∧VK P E x x'∧VK P E y y'∧VK P E u u':=by
 obtain ⟨a,ys,rfl,h1,h2⟩:=h.cons_inv
 obtain ⟨b,c,rfl,h3,h4⟩:=h2.ll
 exact ⟨a,b,c,rfl,h1,h3,h4⟩
theorem bb.length:∀ {l:List KV} {l' : List Value},bb P E l l'→l'.length=l.length
 | [],l',h=>by rw [h.cl]; rfl
 | x::xs,l',h=>by
  obtain ⟨y,ys,rfl,_,k⟩:=h.cons_inv
  simp [bb.length k]
theorem bb.get:∀ {l:List KV} {l' : List Value} {i:Nat} {v:KV},bb P E l l'→l[i]? = some v→∃ v',l'[i]? = some v'∧VK P E v v'
 | [],_,_,_,_,e=>by simp at e
 | x::xs,l',i,v,h,e=>by
  obtain ⟨y,ys,rfl,yJ,k⟩:=h.cons_inv
  cases i with
  | zero=>simp at e; subst e; exact ⟨y,rfl,yJ⟩
  | succ i=>simp at e; simpa using bb.get k e
theorem bb.append:∀ {a:List KV} {a' : List Value} {b:List KV} {b' : List Value},bb P E a a'→bb P E b b'→bb P E (a++b) (a'++b')
 | [],a',b,b',h,k=>by rw [h.cl]; exact k
 | x::xs,a',b,b',h,k=>by
  obtain ⟨y,ys,rfl,yJ,m⟩:=h.cons_inv
  exact .cons yJ (bb.append m k)
theorem bb.take:∀ (n:Nat) {l:List KV} {l' : List Value},bb P E l l'→bb P E (l.take n) (l'.take n)
 | 0,_,_,_=>by simp [bb.nil]
 | n+1,[],l',h=>by rw [h.cl]; simp [bb.nil]
 | n+1,x::xs,l',h=>by
  obtain ⟨y,ys,rfl,yJ,k⟩:=h.cons_inv
  simpa using bb.cons yJ (bb.take n k)
theorem bb.drop:∀ (n:Nat) {l:List KV} {l' : List Value},bb P E l l'→bb P E (l.drop n) (l'.drop n)
 | 0,_,_,h=>by simpa using h
 | n+1,[],l',h=>by rw [h.cl]; simp [bb.nil]
 | n+1,x::xs,l',h=>by
  obtain ⟨y,ys,rfl,_,k⟩:=h.cons_inv
  simpa using bb.drop n k
theorem MB {α:Type} : ∀ {n:Nat} {l r:List α},uF n l=some r→r=l.take n∧n≤l.length
 | 0,l,r,h=>by simp [uF] at h; subst h; simp
 | n+1,[],r,h=>by simp [uF] at h
 | n+1,x::xs,r,h=>by
  simp only [uF,Option.map_eq_some_iff] at h
  obtain ⟨q,hq,rfl⟩:=h
  obtain ⟨rfl,hn⟩:=MB hq
  exact ⟨by simp,by simpa using hn⟩
theorem Gt {α:Type} : ∀ (n:Nat) (l:List α),Af n l=l.drop n
 | 0,l=>rfl
 | n+1,[]=>rfl
 | n+1,x::xs=>by simp [Af,Gt n xs]
theorem Gu:∀ {n:Nat} {l:List Value},n≤l.length→takeN n l=some (l.take n)
 | 0,l,_=>rfl
 | n+1,[],h=>by simp at h
 | n+1,x::xs,h=>by rw [VA,Gu (n:=n) (l:=xs) (by simpa using h)]; rfl
theorem bb.uF {n k:Nat} {l r:List KV} {l' : List Value} (h:bb P E l l') (e:uF n (Af k l)=some r):∃ r',takeN n (C4 k l')=some r'∧bb P E r r'∧r' = (l'.drop k).take n:=by
 obtain ⟨rfl,hn⟩:=MB e
 rw [Gt] at hn ⊢
 have hl:=h.length
 rw [rD]
 refine ⟨_,Gu ?_,(h.drop k).take n,rfl⟩
 simp only [List.length_drop] at hn ⊢
 omega
theorem bb.lD:∀ {n:Nat} {l:List KV} {l' : List Value} {vs r:List KV} {cS:List Value},lD n l vs=some r→bb P E l l'→bb P E vs cS→∃ r',ic n l' cS=some r'∧bb P E r r'
 | 0,l,l',[],r,cS,h,hl,hv=>by simp [K.lD] at h; subst h; rw [hv.cl]; exact ⟨l',xx l',hl⟩
 | 0,[],l',_::_,r,cS,h,hl,hv=>by simp [K.lD] at h
 | 0,x::l,l',v::vs,r,cS,h,hl,hv=>by
  obtain ⟨y,ys,rfl,_,k⟩:=hl.cons_inv
  obtain ⟨u,us,rfl,h1,h2⟩:=hv.cons_inv
  simp only [K.lD,Option.map_eq_some_iff] at h
  obtain ⟨q,hq,rfl⟩:=h
  obtain ⟨r',e,hr⟩:=bb.lD hq k h2
  exact ⟨u::r',by simp [ux,e],.cons h1 hr⟩
 | n+1,[],l',[],r,cS,h,hl,hv=>by simp [K.lD] at h; subst h; rw [hl.cl,hv.cl]; exact ⟨[],rfl,.nil⟩
 | n+1,[],l',_::_,r,cS,h,hl,hv=>by simp [K.lD] at h
 | n+1,x::l,l',vs,r,cS,h,hl,hv=>by
  obtain ⟨y,ys,rfl,h1,k⟩:=hl.cons_inv
  simp only [K.lD,Option.map_eq_some_iff] at h
  obtain ⟨q,hq,rfl⟩:=h
  obtain ⟨r',e,hr⟩:=bb.lD hq k hv
  exact ⟨y::r',by simp [qS,e],.cons h1 hr⟩
theorem bb.Qx:∀ {l:List KV} {l' : List Value},l'.length=l.length→(∀ (i:Nat) (v:KV) (v' : Value),l[i]? = some v→l'[i]? = some v'→VK P E v v')→bb P E l l'
 | [],l',h,_=>by cases l' <;> simp_all [bb.nil]
 | x::xs,l',h,k=>by
  cases l' with
  | nil=>simp at h
  | cons y ys=>exact .cons (k 0 x y rfl rfl) (bb.Qx (by simpa using h) fun i v v' e e'=>k (i+1) v v' (by simpa using e) (by simpa using e'))
theorem VK.dt {k:IntKind} {n:Int} {v:Value} (h:VK P E (.int k n) v):v = .int k n:=by simpa [VK] using h
theorem VK.gf {b:Bool} {v:Value} (h:VK P E (.bool b) v):v = .bool b:=by simpa [VK] using h
theorem VK.rL {s:ByteArray} {v:Value} (h:VK P E (.str s) v):v = .string s:=by simpa [VK] using h
theorem VK.mD {cs:List KV} {v:Value} (h:VK P E (.agg cs) v):∃ l,v = .agg ⟨l⟩∧bb P E cs l:=by simpa [VK] using h
theorem VK.KD {cs:List KV} {v:Value} (h:VK P E (.kk cs) v):∃ l,v = .tuple ⟨l⟩∧bb P E cs l:=by simpa [VK] using h
theorem VK.iW {b off:Nat} {v:Value} (h:VK P E (.ptr b off) v):∃ x,E.κ b=some x∧v = .pointer (some ⟨x,off,none⟩):=by simpa [VK] using h
theorem VK.MC {b off n c:Nat} {v:Value} (h:VK P E (.sl b off n c) v):∃ x,E.κ b=some x∧v = .slice (some ⟨x,off,none⟩) n c:=by simpa [VK] using h
theorem VK.Em {f:Fn} {a b:List KV} {v:Value} (h:VK P E (.fn f a b) v):∃ l m,v = .func f ⟨l⟩ ⟨m⟩∧bb P E a l∧bb P E b m:=by simpa [VK] using h
theorem VK.mI {T:TypeId} {m:Mk} {n:Nat} {es:List KV} {acc:Nat→KV} {v:Value} (h:VK P E (.ts T m n es acc) v):jg P T n es acc∧∃ bp,bb P E es bp∧aeV P E T m n bp v:=by simpa [VK] using h
theorem VK.Ib {T Tc:TypeId} {i k:Nat} {es:List KV} {acc:Nat→KV} {v:Value} (h:VK P E (.tp T Tc i k es acc) v):jg P T es.length es acc∧∃ bp,bb P E es bp∧aeW P E T Tc i k es bp v:=by simpa [VK] using h
theorem VK.vo {T:TypeId} {b o n:Nat} {v:Value} (h:VK P E (.al T b o n) v):VP P E T b o n v:=by simpa [VK] using h
theorem VK.En {T Tc:TypeId} {b i k:Nat} {v:Value} (h:VK P E (.ap T Tc b i k) v):ack P E T Tc b i k v:=by simpa [VK] using h
theorem VK.NH {T:TypeId} {b o n:Nat} {v:Value} (h:VP P E T b o n v):VK P E (.al T b o n) v:=by simpa [VK] using h
theorem VK.ajO {T Tc:TypeId} {b i k:Nat} {v:Value} (h:ack P E T Tc b i k v):VK P E (.ap T Tc b i k) v:=by simpa [VK] using h
theorem VP.slice {T:TypeId} {b o n:Nat} {v:Value} (h:VP P E T b o n v):∃ a c,v = .slice a n c:=by
 rcases h with ⟨rfl,_,rfl⟩ | ⟨x,L,N,c,_,rfl,_⟩
 ·exact ⟨_,_,rfl⟩
 ·exact ⟨_,_,rfl⟩
theorem VK.ob {v:Value} (h:VK P E .lk v):v = .slice none 0 0:=by simpa [VK] using h
theorem VK.MD {v:Value} (h:VK P E .Ch v):v = .pointer none:=by simpa [VK] using h
theorem VK.mkInt {k:IntKind} {n:Int} : VK P E (.int k n) (.int k n):=by simp [VK]
theorem VK.sH {b:Bool} : VK P E (.bool b) (.bool b):=by simp [VK]
theorem VK.mkStr {s:ByteArray} : VK P E (.str s) (.string s):=by simp [VK]
theorem VK.pd {cs:List KV} {l:List Value} (h:bb P E cs l):VK P E (.agg cs) (.agg ⟨l⟩):=by simp only [VK]; exact ⟨l,rfl,h⟩
theorem VK.YU {cs:List KV} {l:List Value} (h:bb P E cs l):VK P E (.kk cs) (.tuple ⟨l⟩):=by simp only [VK]; exact ⟨l,rfl,h⟩
theorem VK.xy {b x off:Nat} (h:E.κ b=some x):VK P E (.ptr b off) (.pointer (some ⟨x,off,none⟩)):=by simp only [VK]; exact ⟨x,h,rfl⟩
theorem VK.ahL {b x off n c:Nat} (h:E.κ b=some x):VK P E (.sl b off n c) (.slice (some ⟨x,off,none⟩) n c):=by simp only [VK]; exact ⟨x,h,rfl⟩
theorem VK.aeX {f:Fn} {a b:List KV} {l m:List Value} (h:bb P E a l) (k:bb P E b m):VK P E (.fn f a b) (.func f ⟨l⟩ ⟨m⟩):=by simp only [VK]; exact ⟨l,m,rfl,h,k⟩
theorem VK.undef:VK P E rp undef:=VK.YU .nil
theorem VK.rM {v:Value} : VK P E .aw v:=by simp [VK]
theorem VK.cells {v:KV} {v' : Value} (h:VK P E v v') (hu:vj v=true):bb P E v.cells v'.cells.toList:=by
 cases v with
 | agg cs=>obtain ⟨l,rfl,q⟩:=h.mD; exact q
 | int k n=>have:=h.dt; subst this; exact .cons h .nil
 | bool b=>have:=h.gf; subst this; exact .cons h .nil
 | str b=>have:=h.rL; subst this; exact .cons h .nil
 | kk cs=>have q:=h; obtain ⟨l,rfl,_⟩:=h.KD; exact .cons q .nil
 | ts T m n es acc=>have q:=h; obtain ⟨_,_,_,a,cap,rfl,_⟩:=h.mI; exact .cons q .nil
 | tp T Tc i k es acc=>have q:=h; obtain ⟨_,_,_,_,_,b,off,r,rfl,_⟩:=h.Ib; exact .cons q .nil
 | al T b o n=>have q:=h; obtain ⟨a,c,rfl⟩:=h.vo.slice; exact .cons q .nil
 | ap T Tc b i k=>have q:=h; obtain ⟨x,L,N,_,_,_,rfl⟩:=h.En; exact .cons q .nil
 | ptr b off=>have q:=h; obtain ⟨x,_,rfl⟩:=h.iW; exact .cons q .nil
 | sl b off n c=>have q:=h; obtain ⟨x,_,rfl⟩:=h.MC; exact .cons q .nil
 | Ch=>have q:=h; simp only [VK] at h; subst h; exact .cons q .nil
 | lk=>have q:=h; simp only [VK] at h; subst h; exact .cons q .nil
 | yP=>have q:=h; simp only [VK] at h; subst h; exact .cons q .nil
 | map b=>have q:=h; simp only [VK] at h; obtain ⟨x,_,rfl⟩:=h; exact .cons q .nil
 | fn f a b=>have q:=h; obtain ⟨l,m,rfl,_⟩:=h.Em; exact .cons q .nil
 | Df=>have q:=h; simp only [VK] at h; subst h; exact .cons q .nil
 | iface t x=>have q:=h; simp only [VK] at h; obtain ⟨y,rfl,_⟩:=h; exact .cons q .nil
 | Dg=>have q:=h; simp only [VK] at h; subst h; exact .cons q .nil
 | aw=>simp [vj] at hu
theorem VK.scalar {v:KV} {v' : Value} (h:VK P E v v') (ho:one v=true):aE.scalar v' = true:=by
 cases v with
 | agg cs=>simp [one] at ho
 | kk cs=>simp [one] at ho
 | aw=>simp [one] at ho
 | int k n=>have:=h.dt; subst this; rfl
 | bool b=>have:=h.gf; subst this; rfl
 | str b=>have:=h.rL; subst this; rfl
 | ts T m n es acc=>obtain ⟨_,_,_,a,cap,rfl,_⟩:=h.mI; rfl
 | tp T Tc i k es acc=>obtain ⟨_,_,_,_,_,b,off,r,rfl,_⟩:=h.Ib; rfl
 | al T b o n=>obtain ⟨a,c,rfl⟩:=h.vo.slice; rfl
 | ap T Tc b i k=>obtain ⟨x,L,N,_,_,_,rfl⟩:=h.En; rfl
 | ptr b off=>obtain ⟨x,_,rfl⟩:=h.iW; rfl
 | sl b off n c=>obtain ⟨x,_,rfl⟩:=h.MC; rfl
 | Ch=>simp only [VK] at h; subst h; rfl
 | lk=>simp only [VK] at h; subst h; rfl
 | yP=>simp only [VK] at h; subst h; rfl
 | map b=>simp only [VK] at h; obtain ⟨x,_,rfl⟩:=h; rfl
 | fn f a b=>obtain ⟨l,m,rfl,_⟩:=h.Em; rfl
 | Df=>simp only [VK] at h; subst h; rfl
 | iface t x=>simp only [VK] at h; obtain ⟨y,rfl,_⟩:=h; rfl
 | Dg=>simp only [VK] at h; subst h; rfl
theorem bb.scalar:∀ {l:List KV} {l' : List Value},bb P E l l'→ig l=true→∀ v∈l',aE.scalar v=true
 | [],l',h,_,v,hv=>by rw [h.cl] at hv; simp at hv
 | x::xs,l',h,ho,v,hv=>by
  obtain ⟨y,ys,rfl,h1,h2⟩:=h.cons_inv
  simp only [ig,Bool.and_eq_true] at ho
  rcases List.mem_cons.1 hv with rfl | hv
  ·exact h1.scalar ho.1
  ·exact bb.scalar h2 ho.2 v hv
theorem wQ {v:KV} (h:ig v.cells=true):vj v=true:=by
 cases v <;> first | rfl | simp [KV.cells,ig,one] at h
mutual
theorem VK.gS:∀ (v:Value),VK P E (gS v) v
 | .bool b=>by simp [K.gS,VK]
 | .int k n=>by simp [K.gS,VK]
 | .string s=>by simp [K.gS,VK]
 | .pointer none=>by simp [K.gS,VK]
 | .pointer (some a)=>by simp [K.gS,VK]
 | .slice none 0 0=>by simp [K.gS,VK]
 | .slice none 0 (n+1)=>by simp [K.gS,VK]
 | .slice none (n+1) c=>by simp [K.gS,VK]
 | .slice (some a) n c=>by simp [K.gS,VK]
 | .map none=>by simp [K.gS,VK]
 | .map (some r)=>by simp [K.gS,VK]
 | .nilFunc=>by simp [K.gS,VK]
 | .nilIface=>by simp [K.gS,VK]
 | .agg cs=>by
  obtain ⟨l⟩:=cs
  simp only [K.gS,ofA]
  exact .pd (bb.ofL l)
 | .tuple cs=>by
  obtain ⟨l⟩:=cs
  simp only [K.gS,ofA]
  exact .YU (bb.ofL l)
 | .float _ _=>by simp [K.gS,VK]
 | .complex _ _ _=>by simp [K.gS,VK]
 | .chan _=>by simp [K.gS,VK]
 | .func _ _ _=>by simp [K.gS,VK]
 | .iface _ _=>by simp [K.gS,VK]
theorem bb.ofL:∀ (l:List Value),bb P E (ofL l) l
 | []=>.nil
 | v::vs=>.cons (VK.gS v) (bb.ofL vs)
end
theorem Ai {z:Value} (h:ig (gS z).cells=true):bb P E (gS z).cells z.cells.toList:=(VK.gS z).cells (wQ h)
def Cv (E:Env) (A:ax):Prop:=∀ b c g tb sb tc sc,A.get b=some (.bc tb sb)→A.get c=some (.bc tc sc)→E.φ b=some g→E.φ c=some g→b=c
def AR (A:ax) (E:Env) (x:Nat):Prop:=∃ b v L N,A.get b=some (.arr v)∧E.α b=some (x,L,N)
def AF (A:ax) (E:Env) (B:St) (g:Nat):Prop:=∃ b v x L N cs e own k,A.get b=some (.arr v)∧E.α b=some (x,L,N)∧B.get x=some (.row cs e own (some (g,k)))
def AT (A:ax) (E:Env) (B:St) (y:Nat):Prop:=AR A E y∨∃ g,AF A E B g∧y∈B.members g
def YV (P:Program) (E:Env) (B:St) (b:Nat) (v:KV):Prop:=∃ T N es acc,v = .ts T .any N es acc∧jg P T N es acc∧1≤bd P T∧
 ((N=0∧E.α b=none)∨∃ x cs bP bp,E.α b=some (x,cs.length,N)∧B.get x=some (.row cs (bd P T) true bP)∧bb P E es bp∧ou (bd P T) 0 cs bp)
def QU (P:Program) (E:Env) (b:Nat) (v:KV):Prop:=∃ T N es acc,v = .ts T .any N es acc∧jg P T N es acc∧1≤bd P T∧
 ((N=0∧E.α b=none)∨∃ x r bp,E.α b=some (x,r.cs.length,N)∧E.z x=some r∧r.bU=bd P T∧bb P E es bp∧ou (bd P T) 0 r.cs bp)
theorem YV.mono (h:E.le E') {B B' : St} {b:Nat} {v:KV} (qn:E'.α b=E.α b) (hB:∀ x L N,E.α b=some (x,L,N)→B'.get x=B.get x) (q:YV P E B b v):YV P E' B' b v:=by
 obtain ⟨T,N,es,acc,h1,h2,h3,h4⟩:=q
 refine ⟨T,N,es,acc,h1,h2,h3,?_⟩
 rcases h4 with ⟨h4,h5⟩ | ⟨x,cs,bP,bp,h4,h5,h6,h7⟩
 ·exact .inl ⟨h4,by rw [qn]; exact h5⟩
 ·exact .inr ⟨x,cs,bP,bp,by rw [qn]; exact h4,by rw [hB _ _ _ h4]; exact h5,h6.mono h,h7⟩
theorem QU.mono (h:E.le E') {b:Nat} {v:KV} (qn:E'.α b=E.α b) (q:QU P E b v):QU P E' b v:=by
 obtain ⟨T,N,es,acc,h1,h2,h3,h4⟩:=q
 refine ⟨T,N,es,acc,h1,h2,h3,?_⟩
 rcases h4 with ⟨h4,h5⟩ | ⟨x,r,bp,h4,h5,h6,h7,h8⟩
 ·exact .inl ⟨h4,by rw [qn]; exact h5⟩
 ·exact .inr ⟨x,r,bp,by rw [qn]; exact h4,h.z _ _ h5,h6,h7.mono h,h8⟩
structure Ic (P:Program) (E:Env) (A:ax) (B:St):Prop where
 arr:∀ b v,A.get b=some (.arr v)→YV P E B b v
 jO:∀ b v,A.get b=some (.jO v)→QU P E b v
 z:∀ x,AR A E x→E.z x=none∧∀ c,E.κ c≠some x
 inj:∀ b c v u x L N L' N',A.get b=some (.arr v)→A.get c=some (.arr u)→E.α b=some (x,L,N)→E.α c=some (x,L',N')→b=c
 tN:∀ b c v u x y L N L' N' cs e own g k b8 e' pk k',A.get b=some (.arr v)→A.get c=some (.arr u)→E.α b=some (x,L,N)→E.α c=some (y,L',N')→B.get x=some (.row cs e own (some (g,k)))→B.get y=some (.row b8 e' pk (some (g,k')))→b=c
 YW:∀ b x,E.κ b=some x→E.α b=none
 lQ:∀ b p,E.α b=some p→b < A.next
 hH:∀ b x L N,E.α b=some (x,L,N)→x < B.next
 sk:∀ b v x L N cs e own g k,A.get b=some (.arr v)→E.α b=some (x,L,N)→B.get x=some (.row cs e own (some (g,k)))→g < B.next∧(∀ f,E.φ f≠some g)∧∀ y∈B.members g,y≠x→E.z y=none∧¬ AR A E y∧∀ c,E.κ c≠some y
 nk:∀ b v,A.get b=some (.arr v)→b < A.next∧E.κ b=none
structure fK (P:Program) (E:Env) (A:ax) (B:St):Prop where
 row:∀ b cs bU,A.get b=some (.row cs bU)→∃ x b8,E.κ b=some x∧B.get x=some (.row b8 bU true none)∧bb P E cs b8
 bc:∀ b top sz,A.get b=some (.bc top sz)→(top=0∧E.φ b=none)∨∃ g,E.φ b=some g∧0 < top∧∀ x∈B.members g,∀ cs e own f k,B.get x=some (.row cs e own (some (f,k)))→k=0∧cs.length≤top * sz
 z:∀ b r,E.z b=some r→B.get b=some (.row r.cs r.bU r.own r.bP)
 apart:∀ b x,E.κ b=some x→E.z x=none
 inj:∀ b c x,E.κ b=some x→E.κ c=some x→b=c
 jP:Cv E A
 lQ:∀ b x,E.κ b=some x→b < A.next
 nq:∀ b g,E.φ b=some g→b < A.next
 live:∀ b o,A.get b=some o→b < A.next
 hH:∀ b x,E.κ b=some x→x < B.next
 nD:∀ b r,E.z b=some r→b < B.next
 kr:∀ b g,E.φ b=some g→g < B.next
 fresh:∀ g,B.next≤g→B.members g = []
 mem:∀ g x,x∈B.members g→x < B.next
 ar:Ic P E A B
structure Ev (P:Program) (base:Nat) (E:Env) (A:ax) (B:St) (ρ:aW) (w:World) (E' : Env) (A' : ax) (B' : St) (aX:aW) (w' : World):Prop where
 jy:fK P E' A' B'
 fP:ml base ρ B w aX B' w'
 le:E.le E'
 next:A.next≤A'.next
 mC:∀ x,x < B.next→(∀ b,E.κ b≠some x)→¬ AT A E B x→B'.get x=B.get x
 new:∀ b x,E'.κ b=some x→E.κ b=some x∨B.next≤x
 tg:∀ b r,E'.z b=some r→E.z b=some r∨AR A E b∨B.next≤b
 th:∀ b g,E'.φ b=some g→(∃ c,E.φ c=some g)∨B.next≤g
 p0:∀ g,g < B.next→(∀ b,E.φ b≠some g)→¬ AF A E B g→B'.members g=B.members g
 m7:∀ x,AR A' E' x→AR A E x∨B.next≤x
 ns:∀ g,AF A' E' B' g→AF A E B g∨B.next≤g
 uI:∀ g y,y∈B'.members g→y∈B.members g∨B.next≤y
 od:∀ y,AT A' E' B' y→AT A E B y∨B.next≤y
 rows:∀ y,y < B.next→∀ cs e own bP,B'.get y=some (.row cs e own bP)→∃ mB,B.get y=some (.row mB e own bP)∧mB.length=cs.length
theorem Ev.refl {base:Nat} {A:ax} {B:St} {ρ:aW} {w:World} (h:fK P E A B) (s:uB ρ B base w):Ev P base E A B ρ w E A B ρ w:=
 ⟨h,.refl s,Env.le_refl _,Nat.le_refl _,fun _ _ _ _=>rfl,fun _ _ h=>.inl h,fun _ _ h=>.inl h,fun _ _ h=>.inl ⟨_,h⟩,fun _ _ _ _=>rfl,fun _ h=>.inl h,fun _ h=>.inl h,fun _ _ h=>.inl h,fun _ h=>.inl h,fun _ _ cs _ _ _ h=>⟨cs,h,rfl⟩⟩
theorem Ev.trans {base:Nat} {E1 E2 E3:Env} {A1 A2 A3:ax} {B1 B2 B3:St} {mX uJ ρ3:aW} {w1 w2 w3:World} (h:Ev P base E1 A1 B1 mX w1 E2 A2 B2 uJ w2) (k:Ev P base E2 A2 B2 uJ w2 E3 A3 B3 ρ3 w3) :
  Ev P base E1 A1 B1 mX w1 E3 A3 B3 ρ3 w3 where
 jy:=k.jy
 fP:=h.fP.trans k.fP
 le:=Env.le_trans h.le k.le
 next:=Nat.le_trans h.next k.next
 mC x hx hn ha:=by
  refine (k.mC x (Nat.lt_of_lt_of_le hx h.fP.next) (fun b e=>?_) fun q=>?_).trans (h.mC x hx hn ha)
  ·rcases h.new b x e with e | e
   ·exact hn b e
   ·omega
  ·rcases h.od x q with e | e
   ·exact ha e
   ·omega
 new b x e:=by
  rcases k.new b x e with e | e
  ·rcases h.new b x e with e | e
   ·exact .inl e
   ·exact .inr e
  ·have:=h.fP.next; exact .inr (by omega)
 tg b r e:=by
  rcases k.tg b r e with e | e | e
  ·exact h.tg b r e
  ·exact .inr (h.m7 b e)
  ·have:=h.fP.next; exact .inr (.inr (by omega))
 th b g e:=by
  rcases k.th b g e with ⟨c,e⟩ | e
  ·exact h.th c g e
  ·have:=h.fP.next; exact .inr (by omega)
 p0 g hg hn ha:=by
  refine (k.p0 g (Nat.lt_of_lt_of_le hg h.fP.next) (fun b e=>?_) fun q=>?_).trans (h.p0 g hg hn ha)
  ·rcases h.th b g e with ⟨c,e⟩ | e
   ·exact hn c e
   ·omega
  ·rcases h.ns g q with e | e
   ·exact ha e
   ·omega
 m7 x e:=by
  rcases k.m7 x e with e | e
  ·exact h.m7 x e
  ·have:=h.fP.next; exact .inr (by omega)
 ns g e:=by
  rcases k.ns g e with e | e
  ·exact h.ns g e
  ·have:=h.fP.next; exact .inr (by omega)
 uI g y e:=by
  rcases k.uI g y e with e | e
  ·exact h.uI g y e
  ·have:=h.fP.next; exact .inr (by omega)
 od y e:=by
  rcases k.od y e with e | e
  ·exact h.od y e
  ·have:=h.fP.next; exact .inr (by omega)
 rows y hy cs e own bP q:=by
  obtain ⟨c1,h1,h2⟩:=k.rows y (Nat.lt_of_lt_of_le hy h.fP.next) cs e own bP q
  obtain ⟨c0,h3,h4⟩:=h.rows y hy c1 e own bP h1
  exact ⟨c0,h3,h4.trans h2⟩
@[simp] theorem ax.cd (A:ax) (b:Nat) (o:jA) (x:Nat):(A.put b o).get x=if x=b then some o else A.get x:=by simp [ax.put,ax.get,Trie.om]
@[simp] theorem ax.dr (A:ax) (o:jA) (x:Nat):(A.new o).get x=if x=A.next then some o else A.get x:=by simp [ax.new,ax.get,Trie.om]
@[simp] theorem ax.rE (A:ax) (b:Nat) (o:jA):(A.put b o).next=A.next:=rfl
@[simp] theorem ax.cr (A:ax) (o:jA):(A.new o).next=A.next+1:=rfl
theorem Cv.put {A:ax} (h:Cv E A) {b:Nat} {o:jA} (ho:(∀ t s,o≠.bc t s)∨E.φ b=none):Cv E (A.put b o):=by
 intro x y g tx sx ty sy hx hy ex ey
 have key:∀ {z t s},(A.put b o).get z=some (.bc t s)→E.φ z=some g→A.get z=some (.bc t s):=by
  intro z t s hz ez
  rw [ax.cd] at hz
  split at hz
  ·rename_i e
   simp at hz
   rcases ho with ho | ho
   ·exact absurd hz (ho t s)
   ·rw [e,ho] at ez; simp at ez
  ·exact hz
 exact h x y g tx sx ty sy (key hx ex) (key hy ey) ex ey
theorem Cv.new {A:ax} (h:Cv E A) {o:jA} (ho:(∀ t s,o≠.bc t s)∨E.φ A.next=none):Cv E (A.new o):=by
 intro x y g tx sx ty sy hx hy ex ey
 have key:∀ {z t s},(A.new o).get z=some (.bc t s)→E.φ z=some g→A.get z=some (.bc t s):=by
  intro z t s hz ez
  rw [ax.dr] at hz
  split at hz
  ·rename_i e
   simp at hz
   rcases ho with ho | ho
   ·exact absurd hz (ho t s)
   ·rw [e,ho] at ez; simp at ez
  ·exact hz
 exact h x y g tx sx ty sy (key hx ex) (key hy ey) ex ey
structure KJ (P:Program) (E:Env) (A:ax) (B:St) (ρ:aW) (base:Nat) (w:World):Prop where
 k:fK P E A B
 s:uB ρ B base w
theorem Ev.kj {base:Nat} {E1 E2:Env} {A1 A2:ax} {B1 B2:St} {mX uJ:aW} {w1 w2:World} (h:Ev P base E1 A1 B1 mX w1 E2 A2 B2 uJ w2):KJ P E2 A2 B2 uJ base w2:=⟨h.jy,h.fP.jy⟩
def VC (P:Program) (E:Env) (ρ:aW) (v:KV) (v' : Value):Prop:=∃ u,VK P E v u∧VR ρ u v'
theorem VC.mono {ρ aX:aW} {v:KV} {v' : Value} (h:VC P E ρ v v') (k:E.le E') (m:ρ.le aX):VC P E' aX v v':=by
 obtain ⟨u,h1,h2⟩:=h
 exact ⟨u,h1.mono k,h2.mono m⟩
theorem VC.aw {ρ:aW} {v' : Value} : VC P E ρ .aw v':=⟨.chan none,.rM,by simp [VR]⟩
theorem VC.undef {ρ:aW} : VC P E ρ rp undef:=⟨_,.undef,VR.undef⟩
end Go.K
end
section
namespace Go.K
open Go Go.aE
variable {P:Program} {E:Env}
def a5 {α:Type} (r:KR α) (v:α):Prop:=
 match r with
 | .no=>False
 | .ok u=>u=v
 | .mj c u=>c=true∧u=v
 | .br c x y=>(c=true∧a5 x v)∨(c=false∧a5 y v)
theorem KR.yc {α R:Type} {k:α→Option R} {x:R} : ∀ {r:KR α},r.run k=some x→∃ v,a5 r v∧k v=some x:=by
 intro r h
 match r,h with
 | .no,h=>exact absurd h (by simp [KR.run])
 | .ok v,h=>exact ⟨v,rfl,h⟩
 | .mj c v,h=>
  cases c with
  | false=>exact absurd h (by simp [KR.run])
  | true=>exact ⟨v,⟨rfl,rfl⟩,h⟩
 | .br c x y,h=>
  cases c with
  | false=>obtain ⟨v,h1,h2⟩:=KR.yc (r:=y) (k:=k) h; exact ⟨v,.inr ⟨rfl,h1⟩,h2⟩
  | true=>obtain ⟨v,h1,h2⟩:=KR.yc (r:=x) (k:=k) h; exact ⟨v,.inl ⟨rfl,h1⟩,h2⟩
theorem a5.at {α:Type} {i:Int} {f:Nat→KR α} {v:α} : ∀ {m j:Nat},a5 (ahG i f m j) v→∃ k,j≤k∧k < j+m∧i=(k:Int)∧a5 (f k) v
 | 0,j,h=>h.elim
 | m+1,j,h=>by
  rcases h with ⟨h1,h2⟩ | ⟨_,h2⟩
  ·exact ⟨j,Nat.le_refl j,by omega,of_decide_eq_true h1,h2⟩
  ·obtain ⟨k,h3,h4,h5,h6⟩:=a5.at (m:=m) (j:=j+1) h2
   exact ⟨k,by omega,by omega,h5,h6⟩
theorem a5.of {α:Type} {o:Option α} {v:α} (h:a5 (KR.of o) v):o=some v:=by
 cases o with
 | none=>exact h.elim
 | some u=>have h:u=v:=h; rw [h]
theorem a5.cond {α:Type} {c:Bool} {r:KR α} {v:α} (h:a5 (cond c r .no) v):c=true∧a5 r v:=by
 cases c with
 | false=>exact h.elim
 | true=>exact ⟨rfl,h⟩
theorem Ie {α:Type} {c:Bool} {r:Option α} {v:α} (h:cond c r none=some v):c=true∧r=some v:=by
 cases c with
 | false=>simp at h
 | true=>exact ⟨rfl,h⟩
def uK (P:Program) (f:FP) (g:List Value→Option Value):Prop:=
 ∀ (E:Env) (vs:List KV) (us:List Value) (v:KV),bb P E vs us→a5 (f vs) v→∃ u,g us=some u∧VK P E v u
theorem aeY:uK P adm HI:=by
 intro E vs us v h hg
 match vs,hg with
 | [x],hg=>
  obtain ⟨y,rfl,h1⟩:=h.eW
  have hg:x=v:=hg
  subst hg
  exact ⟨y,rfl,h1⟩
theorem aiC:uK P adn HI:=by
 intro E vs us v h hg
 match vs,hg with
 | [.bool b],hg=>
  obtain ⟨y,rfl,h1⟩:=h.eW
  have hb:v = .bool b:=by
   rcases hg with ⟨rfl,h2⟩ | ⟨rfl,h2⟩
   ·exact (show KV.bool true=v from h2).symm
   ·exact (show KV.bool false=v from h2).symm
  subst hb
  exact ⟨_,rfl,h1⟩
 | [x],hg=>
  have key:v=x:=by
   cases x <;> first | exact (show _=v from hg).symm | skip
   rcases hg with ⟨rfl,h2⟩ | ⟨rfl,h2⟩
   ·exact (show KV.bool true=v from h2).symm
   ·exact (show KV.bool false=v from h2).symm
  subst key
  obtain ⟨y,rfl,h1⟩:=h.eW
  exact ⟨_,rfl,h1⟩
theorem aiD {b:Bool} : uK P (cond b adn adm) HI:=by
 cases b with
 | true=>exact aiC
 | false=>exact aeY
theorem ajP:uK P agE ac7:=by
 intro E vs us v h hg
 match vs,hg with
 | [.bool t,.bool a,.bool b],hg=>
  obtain ⟨x,y,z,rfl,h1,h2,h3⟩:=h.O8
  have:=h1.gf; subst this
  have:=h2.gf; subst this
  have:=h3.gf; subst this
  have hg:KV.bool (cond t a b)=v:=hg
  subst hg
  exact ⟨_,rfl,by cases t <;> exact .sH⟩
 | [.bool t,a,b],hg=>
  obtain ⟨x,y,z,rfl,h1,h2,h3⟩:=h.O8
  have:=h1.gf; subst this
  refine ⟨_,rfl,?_⟩
  have hg:v=cond t a b∨∃ p q,a = .bool p∧b = .bool q∧v = .bool (cond t p q):=by
   unfold agE at hg
   split at hg
   ·rename_i t' a' b' e
    simp at e
    obtain ⟨rfl,rfl,rfl⟩:=e
    exact .inr ⟨_,_,rfl,rfl,hg.symm⟩
   ·rename_i t' a' b' _ e
    simp at e
    obtain ⟨rfl,rfl,rfl⟩:=e
    exact .inl hg.symm
   ·exact hg.elim
  rcases hg with rfl | ⟨p,q,rfl,rfl,rfl⟩
  ·cases t
   ·exact h3
   ·exact h2
  ·have:=h2.gf; subst this
   have:=h3.gf; subst this
   cases t <;> exact .sH
theorem TT {v:KV} {u:Value} (h:VK P E v u) (hk:vj v=true):aE.known u=true:=by
 cases v with
 | agg cs=>obtain ⟨l,rfl,q⟩:=h.mD; rfl
 | int k n=>have:=h.dt; subst this; rfl
 | bool b=>have:=h.gf; subst this; rfl
 | str b=>have:=h.rL; subst this; rfl
 | kk cs=>obtain ⟨l,rfl,_⟩:=h.KD; rfl
 | ts T m n es acc=>obtain ⟨_,_,_,a,cap,rfl,_⟩:=h.mI; rfl
 | tp T Tc i k es acc=>obtain ⟨_,_,_,_,_,b,off,r,rfl,_⟩:=h.Ib; rfl
 | al T b o n=>obtain ⟨a,c,rfl⟩:=h.vo.slice; rfl
 | ap T Tc b i k=>obtain ⟨x,L,N,_,_,_,rfl⟩:=h.En; rfl
 | ptr b off=>obtain ⟨x,_,rfl⟩:=h.iW; rfl
 | sl b off n c=>obtain ⟨x,_,rfl⟩:=h.MC; rfl
 | Ch=>simp only [VK] at h; subst h; rfl
 | lk=>simp only [VK] at h; subst h; rfl
 | yP=>simp only [VK] at h; subst h; rfl
 | map b=>simp only [VK] at h; obtain ⟨x,_,rfl⟩:=h; rfl
 | fn f a b=>obtain ⟨l,m,rfl,_⟩:=h.Em; rfl
 | Df=>simp only [VK] at h; subst h; rfl
 | iface t x=>simp only [VK] at h; obtain ⟨y,rfl,_⟩:=h; rfl
 | Dg=>simp only [VK] at h; subst h; rfl
 | aw=>simp [vj] at hk
theorem KF {v:KV} {u:Value} (h:VK P E v u) (hk:vj v=true):u.cells.size=v.cells.length:=by
 have:=(h.cells hk).length
 simpa using this
theorem YX {place:Nat→Option (Nat×Nat)} : ∀ {ps:List (Nat×KV)} {qs:List (Nat×Value)} {cs r:List KV} {b8:List Value},ps.map (·.1)=qs.map (·.1)→bb P E (ps.map (·.2)) (qs.map (·.2))→(∀ p∈ps,vj p.2=true)→
  bb P E cs b8→TI place cs ps=some r→∃ r',yF place b8 qs=some r'∧bb P E r r'
 | [],[],cs,r,b8,_,_,_,h,e=>by simp [TI] at e; subst e; exact ⟨b8,rfl,h⟩
 | [],_::_,_,_,_,e,_,_,_,_=>by simp at e
 | _::_,[],_,_,_,e,_,_,_,_=>by simp at e
 | (i,v)::ps,(j,u)::qs,cs,r,b8,e1,e2,hk,h,e=>by
  simp only [List.map_cons,List.cons.injEq] at e1
  obtain ⟨rfl,e1⟩:=e1
  obtain ⟨y,ys,e3,h1,h2⟩:=e2.cons_inv
  simp only [List.map_cons,List.cons.injEq] at e3
  obtain ⟨rfl,rfl⟩:=e3
  have hkv:vj v=true:=hk (i,v) (by simp)
  simp only [TI] at e
  simp only [yF]
  split at e
  ·rename_i off size hp
   rw [hp]
   obtain ⟨hc,e⟩:=Ie e
   obtain ⟨oC,e4,e5⟩:=Option.bind_eq_some_iff.1 e
   obtain ⟨r1,e6,h3⟩:=bb.lD e4 h (h1.cells hkv)
   obtain ⟨r',e7,h4⟩:=YX e1 h2 (fun p hp=>hk p (by simp [hp])) h3 e5
   refine ⟨r',?_,h4⟩
   simp only
   rw [KF h1 hkv,hc,cond_true,e6]
   exact e7
  ·simp at e
theorem YY:∀ (is:List Nat) {vs:List KV} {us:List Value},bb P E vs us→(yQ is vs).map (·.1)=(zipIdx is us).map (·.1)∧bb P E ((yQ is vs).map (·.2)) ((zipIdx is us).map (·.2))
 | [],_,_,_=>by simp [yQ,zipIdx,bb.nil]
 | i::is,[],us,h=>by rw [h.cl]; simp [yQ,zipIdx,bb.nil]
 | i::is,v::vs,us,h=>by
  obtain ⟨y,ys,rfl,h1,h2⟩:=h.cons_inv
  obtain ⟨h3,h4⟩:=YY is h2
  exact ⟨by simp [yQ,zipIdx,h3],by simpa [yQ,zipIdx] using bb.cons h1 h4⟩
theorem YZ:∀ (is:List Nat) (vs:List KV),∀ p∈yQ is vs,p.2∈vs
 | [],_,p,h=>by simp [yQ] at h
 | i::is,[],p,h=>by simp [yQ] at h
 | i::is,v::vs,p,h=>by
  simp only [yQ,List.mem_cons] at h
  rcases h with rfl | h
  ·simp
  ·simp [YZ is vs p h]
theorem Ig:∀ {vs:List KV} {us:List Value},bb P E vs us→vs.all vj=true→us.all aE.known=true
 | [],us,h,_=>by rw [h.cl]; rfl
 | v::vs,us,h,k=>by
  obtain ⟨y,ys,rfl,h1,h2⟩:=h.cons_inv
  simp only [List.all_cons,Bool.and_eq_true] at k ⊢
  exact ⟨TT h1 k.1,Ig h2 k.2⟩
theorem acm {place:Nat→Option (Nat×Nat)} {z:Value} {is:List Nat} (hz:flat z=true) (h1:ig (gS z).cells=true):uK P (Mv place (gS z).cells is) (z8 place z is):=by
 intro E vs us v h hg
 unfold Mv at hg
 split at hg
 ·rename_i cs hf
  obtain ⟨hk,hg⟩:=hg.cond
  have hg:KV.agg cs=v:=hg
  subst hg
  obtain ⟨h2,h3⟩:=YY is h
  obtain ⟨r',e,hr⟩:=YX h2 h3 (fun p hp=>by have:=YZ is vs p hp; exact List.all_eq_true.1 hk _ this) (Ai (P:=P) (E:=E) h1) hf
  refine ⟨.agg ⟨r'⟩,?_,.pd hr⟩
  unfold z8
  rw [hz,Ig h hk]
  simp [e,pd]
 ·exact hg.elim
theorem alq:uK P YL HL:=by
 intro E vs us v h hg
 match vs,hg with
 | [.ptr b off],hg=>
  obtain ⟨y,rfl,h1⟩:=h.eW
  have hg:KV.ptr b off=v:=hg
  subst hg
  have q:=h1
  obtain ⟨x,e,rfl⟩:=h1.iW
  exact ⟨_,rfl,q⟩
 | [.tp T Tc i k es acc],hg=>
  obtain ⟨y,rfl,h1⟩:=h.eW
  have hg:KV.tp T Tc i k es acc=v:=hg
  subst hg
  have q:=h1
  obtain ⟨_,_,_,_,_,b,off,r,rfl,_⟩:=h1.Ib
  exact ⟨_,rfl,q⟩
 | [.ap T Tc b i k],hg=>
  obtain ⟨y,rfl,h1⟩:=h.eW
  have hg:KV.ap T Tc b i k=v:=hg
  subst hg
  have q:=h1
  obtain ⟨x,L,N,_,_,_,rfl⟩:=h1.En
  exact ⟨_,rfl,q⟩
 | [.fn (.func f) a b],hg=>
  obtain ⟨y,rfl,h1⟩:=h.eW
  have hg:KV.fn (.func f) a b=v:=hg
  subst hg
  have q:=h1
  obtain ⟨l,m,rfl,_⟩:=h1.Em
  exact ⟨_,rfl,q⟩
theorem KG {s ft:TypeId} {off:Nat} (h:XX P s off ft=true):∀ m c,(bt P ft).ks[m]? = some c→(bt P s).ks[off+m]? = some c:=by
 unfold XX at h
 have key:∀ (a b:List CK),Ag a b=true→a=b:=by
  intro a
  induction a with
  | nil=>intro b hb; cases b <;> simp_all [Ag]
  | cons x xs ih=>
   intro b hb
   cases b with
   | nil=>simp [Ag] at hb
   | cons y ys=>
    simp only [Ag,Bool.and_eq_true] at hb
    rw [ih ys hb.2]
    congr 1
    cases x <;> cases y <;> simp_all [ajL]
 split at h
 ·rename_i l e
  obtain ⟨rfl,hl⟩:=MB e
  have:=key _ _ h
  intro m c hm
  rw [← this,List.getElem?_take] at hm
  split at hm
  ·rwa [Gt,List.getElem?_drop] at hm
  ·simp at hm
 ·simp at h
theorem aby {s ft:TypeId} {off:Nat} {vZ:Bool} (Y0:vZ=XX P s off ft):uK P (VM s off ft vZ) (Km off):=by
 intro E vs us v h hg
 match vs,hg with
 | [.ptr b o],hg=>
  obtain ⟨y,rfl,h1⟩:=h.eW
  have hg:KV.ptr b (o+off)=v:=hg
  subst hg
  obtain ⟨x,e,rfl⟩:=h1.iW
  exact ⟨_,rfl,.xy e⟩
 | [.tp T Tc i k es acc],hg=>
  obtain ⟨y,rfl,h1⟩:=h.eW
  obtain ⟨hc,hg⟩:=a5.cond hg
  have hg:KV.tp T ft i (k+off) es acc=v:=hg
  subst hg
  simp only [Bool.and_eq_true] at hc
  have:=Nat.eq_of_beq_eq_true hc.1
  subst this
  obtain ⟨ht,bp,h2,hi,hw,b,o,r,rfl,h4,h5⟩:=h1.Ib
  refine ⟨_,rfl,?_⟩
  simp only [VK]
  refine ⟨ht,bp,h2,hi,⟨fun m c hm=>?_⟩,b,o,r,by simp only [Value.pointer.injEq,Option.some.injEq,Addr.mk.injEq,and_true,true_and]; omega,h4,h5⟩
  have hp:=KG (Y0 ▸ hc.2) m c hm
  have:=hw.is _ _ hp
  rwa [show k+(off+m)=k+off+m by omega] at this
 | [.ap T Tc b i k],hg=>
  obtain ⟨y,rfl,h1⟩:=h.eW
  obtain ⟨hc,hg⟩:=a5.cond hg
  have hg:KV.ap T ft b i (k+off)=v:=hg
  subst hg
  simp only [Bool.and_eq_true] at hc
  have:=Nat.eq_of_beq_eq_true hc.1
  subst this
  obtain ⟨x,L,N,h2,hw,hi,rfl⟩:=h1.En
  refine ⟨_,rfl,.ajO ⟨x,L,N,h2,⟨fun m c hm=>?_⟩,hi,by simp only [Value.pointer.injEq,Option.some.injEq,Addr.mk.injEq,and_true,true_and]; omega⟩⟩
  have hp:=KG (Y0 ▸ hc.2) m c hm
  have:=hw.is _ _ hp
  rwa [show k+(off+m)=k+off+m by omega] at this
theorem aeZ {t:TypeId} {cs:List KV} {b8:List Value} {off:Nat} {v:KV} (h:bb P E cs b8) (e:TL P t cs off=some v):∃ u,partOf P t b8 off=some u∧VK P E v u:=by
 unfold TL at e
 unfold partOf
 split at e
 ·rename_i ha
  rw [ha]
  obtain ⟨n,hn,e⟩:=Option.bind_eq_some_iff.1 e
  obtain ⟨l,hl,rfl⟩:=Option.map_eq_some_iff.1 e
  obtain ⟨r,hr,hv,_⟩:=h.uF hl
  exact ⟨.agg ⟨r⟩,by simp [hn,hr],.pd hv⟩
 ·rename_i ha
  rw [ha]
  rw [Gt] at e
  have hd:=h.drop off
  cases hc:cs.drop off with
  | nil=>rw [hc] at e; simp at e
  | cons x xs=>
   rw [hc] at e hd
   simp at e
   subst e
   obtain ⟨y,ys,e2,h1,_⟩:=hd.cons_inv
   exact ⟨y,by simp [rD,e2],h1⟩
 ·simp at e
theorem aiE {fd:Field} : uK P (ahF P fd) (ac8 P fd):=by
 intro E vs us v h hg
 match vs,hg with
 | [.agg cs],hg=>
  obtain ⟨y,rfl,h1⟩:=h.eW
  obtain ⟨l,rfl,h2⟩:=h1.mD
  exact aeZ h2 hg.of
theorem yd {i:Int} {n:Nat} (h:YM i n=true):∃ m,i = .ofNat m∧m < n∧i.toNat=m:=by
 simp only [YM,Bool.and_eq_true,decide_eq_true_eq] at h
 obtain ⟨m,rfl⟩:=Int.eq_ofNat_of_zero_le h.1
 exact ⟨m,rfl,by omega,rfl⟩
theorem oD {m n:Nat} (h:m < n):kY (.ofNat m) n=some m:=by
 have:Nat.blt m n=true:=by rw [Nat.blt_eq]; exact h
 simp [kY,this]
theorem a5.mj {α:Type} {c:Bool} {u v:α} (h:a5 (.mj c u) v):c=true∧u=v:=h
theorem VQ {t e:TypeId} {len n m:Nat} (hq:Ag (bt P t).ks (dV (bt P e).ks len)=true) (hn:(bt P e).ks.length=n) (hm:m < len):∀ a c,(bt P e).ks[a]? = some c→(bt P t).ks[m * n+a]? = some c:=by
 intro a c ha
 have key:∀ (l:List CK) (sI m a:Nat) (c:CK),m < sI→l[a]? = some c→(dV l sI)[m * l.length+a]? = some c:=by
  intro l sI
  induction sI with
  | zero=>intro m a c hm; omega
  | succ sI ih=>
   intro m a c hm hl
   have bV:a < l.length:=(List.getElem?_eq_some_iff.1 hl).1
   cases m with
   | zero=>simp only [dV,Nat.zero_mul,Nat.zero_add]; rw [List.getElem?_append_left bV]; exact hl
   | succ m=>
    simp only [dV]
    rw [List.getElem?_append_right (by rw [Nat.succ_mul]; omega),show (m+1) * l.length+a - l.length=m * l.length+a by rw [Nat.succ_mul]; omega]
    exact ih m a c (by omega) hl
 have am7:∀ (a b:List CK),Ag a b=true→a=b:=by
  intro a
  induction a with
  | nil=>intro b hb; cases b <;> simp_all [Ag]
  | cons x xs ih=>
   intro b hb
   cases b with
   | nil=>simp [Ag] at hb
   | cons y ys=>
    simp only [Ag,Bool.and_eq_true] at hb
    rw [ih ys hb.2]
    congr 1
    cases x <;> cases y <;> simp_all [ajL]
 have h6:=key (bt P e).ks len m a c hm ha
 rw [← am7 _ _ hq,hn] at h6
 exact h6
theorem ads {t e:TypeId} {len n:Nat} : uK P (YN P t len n e) (OP len n):=by
 intro E vs us v h hg
 match vs,hg with
 | [.ptr b o,.int k i],hg=>
  have hg:a5 (cond (Nat.ble len 8) (ahG i (fun j=>.ok (.ptr b (o+j * n))) len 0) (.mj (YM i len) (.ptr b (o+i.toNat * n)))) v:=hg
  obtain ⟨x,y,rfl,h1,h2⟩:=h.ll
  obtain ⟨x,e,rfl⟩:=h1.iW
  have:=h2.dt; subst this
  have key:∃ m:Nat,i=(m:Int)∧m < len∧v = .ptr b (o+m * n):=by
   cases hb:Nat.ble len 8 with
   | true=>rw [hb,cond_true] at hg; obtain ⟨m,_,h3,h4,h5⟩:=a5.at hg; exact ⟨m,h4,by omega,(show KV.ptr b (o+m * n)=v from h5).symm⟩
   | false=>rw [hb,cond_false] at hg; obtain ⟨hc,rfl⟩:=a5.mj hg; obtain ⟨m,rfl,hm,O9⟩:=yd hc; exact ⟨m,rfl,hm,by rw [O9]⟩
  obtain ⟨m,rfl,hm,rfl⟩:=key
  refine ⟨_,?_,.xy e⟩
  show (kY (.ofNat m) len).bind _=_
  rw [oD hm]; rfl
 | [.tp T Tc j k es acc,.int q i],hg=>
  obtain ⟨x,y,rfl,h1,h2⟩:=h.ll
  obtain ⟨tf,hg⟩:=a5.cond hg
  obtain ⟨hc,rfl⟩:=a5.mj hg
  have:=h2.dt; subst this
  obtain ⟨m,rfl,hm,O9⟩:=yd hc
  rw [O9]
  simp only [Bool.and_eq_true] at tf
  have:=Nat.eq_of_beq_eq_true tf.1.1
  subst this
  have hn:(bt P e).ks.length=n:=Nat.eq_of_beq_eq_true tf.2
  obtain ⟨ht,bp,h3,hi,hw,b,o,r,rfl,h4,h5⟩:=h1.Ib
  refine ⟨_,by (show (kY (.ofNat m) len).bind _=_); rw [oD hm]; rfl,?_⟩
  simp only [VK]
  refine ⟨ht,bp,h3,hi,⟨fun a c ha=>?_⟩,b,o,r,by simp only [Value.pointer.injEq,Option.some.injEq,Addr.mk.injEq,and_true,true_and]; omega,h4,h5⟩
  have h6:=VQ tf.1.2 hn hm a c ha
  have:=hw.is _ _ h6
  rwa [show k+(m * n+a)=k+m * n+a by omega] at this
 | [.ap T Tc b j k,.int q i],hg=>
  obtain ⟨x,y,rfl,h1,h2⟩:=h.ll
  obtain ⟨tf,hg⟩:=a5.cond hg
  obtain ⟨hc,rfl⟩:=a5.mj hg
  have:=h2.dt; subst this
  obtain ⟨m,rfl,hm,O9⟩:=yd hc
  rw [O9]
  simp only [Bool.and_eq_true] at tf
  have:=Nat.eq_of_beq_eq_true tf.1.1
  subst this
  have hn:(bt P e).ks.length=n:=Nat.eq_of_beq_eq_true tf.2
  obtain ⟨x,L,N,h3,hw,hi,rfl⟩:=h1.En
  refine ⟨_,by (show (kY (.ofNat m) len).bind _=_); rw [oD hm]; rfl,.ajO ⟨x,L,N,h3,⟨fun a c ha=>?_⟩,hi,by simp only [Value.pointer.injEq,Option.some.injEq,Addr.mk.injEq,and_true,true_and]; omega⟩⟩
  have h6:=VQ tf.1.2 hn hm a c ha
  have:=hw.is _ _ h6
  rwa [show k+(m * n+a)=k+m * n+a by omega] at this
theorem ae0 {e n:Nat} {vZ:Bool} (Y0:vZ=Nat.beq (bt P e).ks.length n):uK P (acf e n vZ) (Ts n):=by
 intro E vs us v h hg
 match vs,hg with
 | [.sl b o len cap,.int k i],hg=>
  obtain ⟨x,y,rfl,h1,h2⟩:=h.ll
  obtain ⟨hc,rfl⟩:=a5.mj hg
  obtain ⟨x,e,rfl⟩:=h1.MC
  have:=h2.dt; subst this
  obtain ⟨m,rfl,hm,O9⟩:=yd hc
  rw [O9]
  exact ⟨_,by (show (kY (.ofNat m) len).bind _=_); rw [oD hm]; rfl,.xy e⟩
 | [.ts T mk len es acc,.int q i],hg=>
  obtain ⟨x,y,rfl,h1,h2⟩:=h.ll
  obtain ⟨tf,hg⟩:=a5.cond hg
  obtain ⟨hc,rfl⟩:=a5.mj hg
  have:=h2.dt; subst this
  obtain ⟨m,rfl,hm,O9⟩:=yd hc
  rw [O9]
  simp only [Bool.and_eq_true] at tf
  have:=Nat.eq_of_beq_eq_true tf.1
  subst this
  have hn:(bt P T).ks.length=n:=Nat.eq_of_beq_eq_true (Y0 ▸ tf.2)
  obtain ⟨ht,bp,h3,a,cap,rfl,h4,h5,h6⟩:=h1.mI
  rcases h5 with ⟨_,h0⟩ | ⟨b,off,r,rfl,h7,h8,h9⟩
  ·omega
  ·refine ⟨_,by (show (kY (.ofNat m) len).bind _=_); rw [oD hm]; rfl,?_⟩
   have hl:=ht.len
   simp only [VK]
   refine ⟨⟨rfl,fun i hi=>ht.acc i (by omega),ht.typed⟩,bp,h3,by omega,⟨fun a c ha=>by simpa using ha⟩,b,off,r,?_,h7,h9⟩
   simp only [bd,hn,Value.pointer.injEq,Option.some.injEq,Addr.mk.injEq,and_true,true_and]
   omega
 | [.al T b o len,.int q i],hg=>
  obtain ⟨x,y,rfl,h1,h2⟩:=h.ll
  obtain ⟨tf,hg⟩:=a5.cond hg
  obtain ⟨hc,rfl⟩:=a5.mj hg
  have:=h2.dt; subst this
  obtain ⟨m,rfl,hm,O9⟩:=yd hc
  rw [O9]
  simp only [Bool.and_eq_true] at tf
  have:=Nat.eq_of_beq_eq_true tf.1
  subst this
  have hn:(bt P T).ks.length=n:=Nat.eq_of_beq_eq_true (Y0 ▸ tf.2)
  rcases h1.vo with ⟨h0,_⟩ | ⟨x,L,N,c,h3,rfl,h4,h5,h6⟩
  ·omega
  ·refine ⟨_,by (show (kY (.ofNat m) len).bind _=_); rw [oD hm]; rfl,.ajO ⟨x,L,N,h3,⟨fun a c ha=>by simpa using ha⟩,by omega,?_⟩⟩
   simp only [bd,hn,Value.pointer.injEq,Option.some.injEq,Addr.mk.injEq,and_true,true_and]
   rw [Nat.add_mul]; omega
theorem adt {len n:Nat} {e:TypeId} : uK P (O3 P len n e) (OQ P len n e):=by
 intro E vs us v h hg
 match vs,hg with
 | [.agg cs,.int k i],hg=>
  obtain ⟨x,y,rfl,h1,h2⟩:=h.ll
  obtain ⟨l,rfl,h3⟩:=h1.mD
  have:=h2.dt; subst this
  simp only [O3] at hg
  have key:∃ m:Nat,i=(m:Int)∧m < len∧TL P e cs (m * n)=some v:=by
   cases hb:Nat.ble len 8 with
   | true=>rw [hb,cond_true] at hg; obtain ⟨m,_,h3,h4,h5⟩:=a5.at hg; exact ⟨m,h4,by omega,a5.of h5⟩
   | false=>
    rw [hb,cond_false] at hg
    split at hg
    ·rename_i u hu
     obtain ⟨hc,rfl⟩:=a5.mj hg
     obtain ⟨m,rfl,hm,O9⟩:=yd hc
     rw [O9] at hu
     exact ⟨m,rfl,hm,hu⟩
    ·exact hg.elim
  obtain ⟨m,rfl,hm,hu⟩:=key
  obtain ⟨w,h4,h5⟩:=aeZ h3 hu
  exact ⟨w,by (show (kY (.ofNat m) len).bind _=_); rw [oD hm]; exact h4,h5⟩
theorem adu:uK P YO OS:=by
 intro E vs us v h hg
 match vs,hg with
 | [.str s,.int k i],hg=>
  obtain ⟨x,y,rfl,h1,h2⟩:=h.ll
  have:=h1.rL; subst this
  have:=h2.dt; subst this
  obtain ⟨hc,rfl⟩:=a5.mj hg
  obtain ⟨m,rfl,hm,O9⟩:=yd hc
  rw [O9]
  have hl:m < s.data.toList.length:=by simpa using hm
  refine ⟨.int .u8 (s.data.toList.getD m 0).toNat,?_,.mkInt⟩
  show (kY (.ofNat m) s.size).bind _=_
  rw [oD hm]
  show (s.data.toList[m]?).map _=_
  simp [List.getD,List.getElem?_eq_getElem hl]
theorem Y1 {α:Type} : ∀ (n:Nat) (l:List α),acg n l=l[n]?
 | n,[]=>by cases n <;> rfl
 | 0,x::_=>rfl
 | n+1,_::xs=>by simp [acg,Y1 n xs]
theorem ae1 {i:Nat} : uK P (ach i) (F3 i):=by
 intro E vs us v h hg
 match vs,hg with
 | [.kk ws],hg=>
  obtain ⟨y,rfl,h1⟩:=h.eW
  obtain ⟨l,rfl,h2⟩:=h1.KD
  have:=hg.of
  rw [Y1] at this
  obtain ⟨u,h3,h4⟩:=h2.get this
  exact ⟨u,by simpa [F3] using h3,h4⟩
theorem aiF:uK P ahH XQ:=by
 intro E vs us v h hg
 match vs,hg with
 | [.ts T m n es acc],hg=>
  obtain ⟨y,rfl,h1⟩:=h.eW
  obtain ⟨_,_,_,a,cap,rfl,_⟩:=h1.mI
  have hg:KV.int .i64 n=v:=hg
  subst hg
  exact ⟨_,rfl,.mkInt⟩
 | [.sl b o n c],hg=>
  obtain ⟨y,rfl,h1⟩:=h.eW
  obtain ⟨x,_,rfl⟩:=h1.MC
  have hg:KV.int .i64 n=v:=hg
  subst hg
  exact ⟨_,rfl,.mkInt⟩
 | [.al T b o n],hg=>
  obtain ⟨y,rfl,h1⟩:=h.eW
  obtain ⟨a,c,rfl⟩:=h1.vo.slice
  have hg:KV.int .i64 n=v:=hg
  subst hg
  exact ⟨_,rfl,.mkInt⟩
 | [.lk],hg=>
  obtain ⟨y,rfl,h1⟩:=h.eW
  have:=h1.ob; subst this
  have hg:KV.int .i64 0=v:=hg
  subst hg
  exact ⟨_,rfl,.mkInt⟩
theorem agI:uK P aeO Qs:=by
 intro E vs us v h hg
 match vs,hg with
 | [.str s],hg=>
  obtain ⟨y,rfl,h1⟩:=h.eW
  have:=h1.rL; subst this
  have hg:KV.int .i64 s.size=v:=hg
  subst hg
  exact ⟨_,rfl,.mkInt⟩
theorem aiG:uK P ahD Yk:=by
 intro E vs us v h hg
 match vs,hg with
 | [.str s],hg=>
  obtain ⟨y,rfl,h1⟩:=h.eW
  have:=h1.rL; subst this
  have hg:KV.str s=v:=hg
  subst hg
  exact ⟨_,rfl,.mkStr⟩
theorem adv {f:Fn} {k:Nat} : uK P (H7 f k) (C6 f k):=by
 intro E vs us v h hg
 unfold H7 at hg
 split at hg
 ·rename_i l hl
  have hg:KV.fn f l (Af k vs)=v:=hg
  subst hg
  have sv:uF k (Af 0 vs)=some l:=hl
  obtain ⟨r,h1,h2,_⟩:=h.uF sv
  have h1:takeN k us=some r:=h1
  refine ⟨_,by simp [C6,h1]; rfl,.aeX h2 ?_⟩
  rw [Gt,rD]
  exact h.drop k
 ·exact hg.elim
theorem aiH {src dst:TypeId} {k k' : IntKind} (h2:P.underlying dst=some (.int k)) (h3:P.underlying src=some (.int k')):uK P (ahC k) (F2 P src dst):=by
 intro E vs us v h hg
 match vs,hg with
 | [.int j n],hg=>
  obtain ⟨y,rfl,h1⟩:=h.eW
  have:=h1.dt; subst this
  have hg:KV.int k (k.wrap n)=v:=hg
  subst hg
  refine ⟨.int k (k.wrap n),?_,.mkInt⟩
  simp only [F2,h2]
  simp [convert,underlying,program,Bind.bind,Sem.bind,dq,h2,h3,Conv.intToInt,Pure.pure]
end Go.K
end
section
namespace Go.K
open Go Go.aE
variable {P:Program} {E:Env}
theorem eY {α β:Type} : ∀ {s:Sem α} {f:α→Sem β} {a:α},dq P s=some a→dq P (s >>= f)=dq P (f a)
 | .pure x,f,a,h=>by simp [dq] at h; subst h; rfl
 | .program k,f,a,h=>by
  have:=eY (s:=k P) (f:=f) (a:=a) (by simpa [dq] using h)
  exact this
 | .mark m k,f,a,h=>by
  have:=eY (s:=k) (f:=f) (a:=a) (by simpa [dq] using h)
  exact this
 | .load ..,_,_,h | .store ..,_,_,h | .new ..,_,_,h | .shape ..,_,_,h | .freeze ..,_,_,h | .frozen ..,_,_,h | .getObj ..,_,_,h
 | .setObj ..,_,_,h | .choose ..,_,_,h | .sys ..,_,_,h | .halt ..,_,_,h=>by simp [dq] at h
theorem Dk {α β:Type} {init stop:β} {B:α→β→Sem (ForInStep β)} {g:α→Bool} : ∀ {l:List α},(∀ x∈l,dq P (B x init)=some (if g x=true then .yield init else .done stop))→
  dq P (forIn l init B)=some (if l.all g=true then init else stop)
 | [],_=>rfl
 | x::l,h=>by
  have hx:=h x (by simp)
  rw [List.forIn_cons,eY hx]
  cases hg:g x with
  | true=>
   simp only [if_true]
   rw [Dk fun y hy=>h y (by simp [hy])]
   simp [hg]
  | false=>simp [hg]; rfl
theorem wa {t:TypeId} {d:TypeDesc} (h:P.underlying t=some d):dq P (underlying t)=some d:=by
 simp [underlying,program,Bind.bind,Sem.bind,dq,h,Pure.pure]
theorem QV {t:TypeId} {i:TypeInfo} (h:P.info? t=some i):dq P (typeInfo t)=some i:=by
 simp [typeInfo,program,Bind.bind,Sem.bind,dq,h,Pure.pure]
theorem cB {α:Type} (a:α):dq P (pure a)=some a:=rfl
theorem Jm {t:TypeId} {i:TypeInfo} (h:P.info? t=some i):dq P (sizeOf t)=some i.size:=by
 unfold sizeOf
 rw [eY (QV h)]
 rfl
theorem Y2 {n:Nat} {t:TypeId} {L:vi} (h:lay P n t=some L):∃ d,P.underlying t=some d∧L.agg=XP d∧(L.agg=false→L.ks.length=1):=by
 cases n with
 | zero=>simp [lay] at h
 | succ n=>
  simp only [lay] at h
  split at h <;> rename_i hu
  ·simp at h; subst h; exact ⟨_,hu,rfl,fun _=>rfl⟩
  ·simp at h; subst h; exact ⟨_,hu,rfl,fun _=>rfl⟩
  ·simp at h; subst h; exact ⟨_,hu,rfl,fun _=>rfl⟩
  ·simp at h; subst h; exact ⟨_,hu,rfl,fun _=>rfl⟩
  ·obtain ⟨ks,_,rfl⟩:=Option.map_eq_some_iff.1 h; exact ⟨_,hu,rfl,fun h=>by simp at h⟩
  ·obtain ⟨ks,_,rfl⟩:=Option.map_eq_some_iff.1 h; exact ⟨_,hu,rfl,fun h=>by simp at h⟩
  ·rename_i d h1 h2 h3 h4 h5 h6
   simp at h; subst h
   refine ⟨_,hu,?_,fun _=>rfl⟩
   cases d <;> first | rfl | simp_all
  ·simp at h
def yU (agg:Bool) (l:List Value):Value:=cond agg (.agg ⟨l⟩) (l.headD undef)
theorem NI {n:Nat} {t:TypeId} {L:vi} {i:TypeInfo} {cs:Array Value} {off:Nat} (h:lay P n t=some L) (hi:P.info? t=some i) (hs:i.size=L.ks.length) (hl:off+L.ks.length≤cs.size) :
  dq P (part t cs off)=some (yU L.agg ((cs.toList.drop off).take L.ks.length)):=by
 obtain ⟨d,hu,ha,h1⟩:=Y2 h
 have am8:dq P (isAgg t)=some (XP d):=by
  unfold isAgg
  rw [eY (wa hu)]
  cases d <;> rfl
 unfold part
 rw [eY am8]
 cases hd:XP d with
 | true=>
  rw [hd] at ha
  simp only [if_true]
  rw [eY (Jm hi)]
  simp only [cB,ha,yU,cond_true,hs]
  congr 2
  apply Array.ext'
  simp
 | false=>
  rw [hd] at ha
  have h1:=h1 ha
  have bV:off < cs.size:=by omega
  simp only [Bool.false_eq_true,if_false]
  rw [Array.getElem?_eq_getElem bV]
  simp only [cB,ha,yU,cond_false,h1]
  congr 1
  have:cs.toList.drop off=cs.toList[off]::cs.toList.drop (off+1):=List.drop_eq_getElem_cons (by simpa using bV)
  rw [this]
  simp
theorem QW:∀ {xs ys:List KV} {b:Bool},si xs ys=some b→xs.length=ys.length
 | [],[],_,_=>rfl
 | [],_::_,_,h=>by simp [si] at h
 | _::_,[],_,h=>by simp [si] at h
 | x::xs,y::ys,b,h=>by
  simp only [si] at h
  split at h
  ·rename_i h2; simp [QW h2]
  ·simp at h
theorem ye:∀ (n:Nat) {xs ys:List KV} {b:Bool},si xs ys=some b→∃ b1 b2,si (xs.take n) (ys.take n)=some b1∧si (xs.drop n) (ys.drop n)=some b2∧b=(b1&&b2)
 | 0,xs,ys,b,h=>⟨true,b,by simp [si],by simpa using h,by simp⟩
 | n+1,[],[],b,h=>by simp [si] at h; subst h; exact ⟨true,true,by simp [si],by simp [si],rfl⟩
 | n+1,[],_::_,b,h=>by simp [si] at h
 | n+1,_::_,[],b,h=>by simp [si] at h
 | n+1,x::xs,y::ys,b,h=>by
  simp only [si] at h
  split at h
  ·rename_i a c h1 h2
   simp at h
   obtain ⟨b1,b2,h3,h4,h5⟩:=ye n h2
   refine ⟨a&&b1,b2,by simp [si,h1,h3],by simpa using h4,?_⟩
   rw [← h,h5,Bool.and_assoc]
  ·simp at h
def Aj (xs ys:List KV) (off n:Nat):Bool:=(si ((xs.drop off).take n) ((ys.drop off).take n)).getD false
theorem acn {xs ys:List KV} {b:Bool} (h:si xs ys=some b) (off n:Nat):si ((xs.drop off).take n) ((ys.drop off).take n)=some (Aj xs ys off n):=by
 obtain ⟨_,_,_,h2,_⟩:=ye off h
 obtain ⟨b1,_,h3,_,_⟩:=ye n h2
 unfold Aj
 rw [h3]; rfl
theorem ti:∀ {a b:List CK} {xs:List KV},aF (a++b) xs=true→aF a (xs.take a.length)=true∧aF b (xs.drop a.length)=true
 | [],b,xs,h=>by simpa [aF] using h
 | c::a,b,[],h=>by simp [aF] at h
 | c::a,b,x::xs,h=>by
  simp only [List.cons_append,aF,Bool.and_eq_true] at h
  obtain ⟨h1,h2⟩:=ti h.2
  simp [aF,h.1,h1,h2]
theorem qc:∀ {a:List CK} {xs:List KV},aF a xs=true→xs.length=a.length
 | [],[],_=>rfl
 | [],_::_,h=>by simp [aF] at h
 | _::_,[],h=>by simp [aF] at h
 | c::a,x::xs,h=>by
  simp only [aF,Bool.and_eq_true] at h
  simp [qc h.2]
theorem Y3 {lf:TypeId→Option vi} {xs ys:List KV} {b:Bool} (he:si xs ys=some b):∀ {fs:List Field} {off:Nat} {ks:List CK},Kw lf fs off=some ks→aF ks (xs.drop off)=true→aF ks (ys.drop off)=true→off+ks.length=xs.length→
  (∀ f∈fs,∃ L,lf f.type=some L∧f.offset+L.ks.length≤xs.length∧aF L.ks ((xs.drop f.offset).take L.ks.length)=true∧aF L.ks ((ys.drop f.offset).take L.ks.length)=true)∧
  si (xs.drop off) (ys.drop off)=some (fs.all fun f=>Aj xs ys f.offset (((lf f.type).map (·.ks.length)).getD 0))
 | [],off,ks,h,_,_,hl=>by
  simp [Kw] at h
  subst h
  have h1:xs.drop off = []:=by simp at hl; simp; omega
  have h2:ys.drop off = []:=by have:=QW he; simp at hl; simp; omega
  refine ⟨by simp,?_⟩
  rw [h1,h2]; rfl
 | f::fs,off,ks,h,hk,te,hl=>by
  simp only [Kw] at h
  obtain ⟨Jl,h⟩:=Ie h
  have Jl:=Nat.eq_of_beq_eq_true Jl
  obtain ⟨L,h1,h⟩:=Option.bind_eq_some_iff.1 h
  obtain ⟨r,h2,rfl⟩:=Option.map_eq_some_iff.1 h
  obtain ⟨k1,k2⟩:=ti hk
  obtain ⟨k1',k2'⟩:=ti te
  rw [List.drop_drop] at k2 k2'
  simp only [List.length_append] at hl
  obtain ⟨h3,h4⟩:=Y3 he h2 k2 k2' (by omega)
  refine ⟨fun g hg=>?_,?_⟩
  ·rcases List.mem_cons.1 hg with rfl | hg
   ·exact ⟨L,h1,by omega,by rw [Jl]; exact k1,by rw [Jl]; exact k1'⟩
   ·exact h3 g hg
  ·obtain ⟨_,_,_,h5,_⟩:=ye off he
   obtain ⟨c1,c2,h6,h7,h8⟩:=ye L.ks.length h5
   rw [List.drop_drop,List.drop_drop] at h7
   rw [h4] at h7
   simp at h7
   have h9:=acn he off L.ks.length
   rw [h6] at h9
   simp at h9
   rw [h5,h8]
   simp only [List.all_cons,h1,Option.map_some,Option.getD_some,Jl,← h9]
   rw [← h7]
theorem BP {α:Type} (l:List α):∀ n,(dV l n).length=n * l.length
 | 0=>by simp [dV]
 | n+1=>by rw [dV,List.length_append,BP l n,Nat.succ_mul]; omega
theorem Y4 {xs ys:List KV} {l:List CK} : ∀ {len off:Nat} {b:Bool},si (xs.drop off) (ys.drop off)=some b→aF (dV l len) (xs.drop off)=true→aF (dV l len) (ys.drop off)=true→
  (∀ i,i < len→aF l ((xs.drop (off+i * l.length)).take l.length)=true∧aF l ((ys.drop (off+i * l.length)).take l.length)=true)∧
  si (xs.drop off) (ys.drop off)=some ((List.range' 0 len).all fun i=>Aj xs ys (off+i * l.length) l.length)
 | 0,off,b,h,hk,te=>by
  have h1:xs.drop off = []:=by have:=qc hk; simp only [dV,List.length_nil] at this; exact List.length_eq_zero_iff.1 this
  have h2:ys.drop off = []:=by have:=qc te; simp only [dV,List.length_nil] at this; exact List.length_eq_zero_iff.1 this
  refine ⟨fun i hi=>by omega,?_⟩
  rw [h1,h2]; rfl
 | len+1,off,b,h,hk,te=>by
  obtain ⟨c1,c2,h1,h2,h3⟩:=ye l.length h
  rw [List.drop_drop,List.drop_drop] at h2
  obtain ⟨k1,k2⟩:=ti (a:=l) (b:=dV l len) hk
  obtain ⟨k1',k2'⟩:=ti (a:=l) (b:=dV l len) te
  rw [List.drop_drop] at k2 k2'
  obtain ⟨h5,h4⟩:=Y4 (len:=len) (off:=off+l.length) h2 k2 k2'
  refine ⟨fun i hi=>?_,?_⟩
  ·cases i with
   | zero=>simpa using ⟨k1,k1'⟩
   | succ i=>
    have:=h5 i (by omega)
    rwa [show off+l.length+i * l.length=off+(i+1) * l.length by rw [Nat.succ_mul]; omega] at this
  rw [h2] at h4
  simp at h4
  have hw:Aj xs ys off l.length=c1:=by unfold Aj; rw [h1]; rfl
  rw [h,h3]
  rw [List.range'_succ]
  simp only [List.all_cons,Nat.zero_mul,Nat.add_zero,hw,Nat.zero_add]
  congr 2
  rw [h4]
  have:List.range' 1 len=(List.range' 0 len).map (1 + ·):=by rw [List.map_add_range']
  rw [this,List.all_map]
  apply congrArg (fun f=>List.all (List.range' 0 len) f)
  funext i
  simp only [Function.comp]
  congr 1
  rw [Nat.add_mul]; omega
theorem ae2:∀ (n d:Nat) (t:TypeId) (L:vi) (cx cy:List KV) (xs ys:List Value) (b:Bool),Ci P n t=true→lay P n t=some L→n≤d→bb P E cx xs→bb P E cy ys→aF L.ks cx=true→aF L.ks cy=true→
  si cx cy=some b→dq P (Op.equalIn d t (yU L.agg xs) (yU L.agg ys))=some b
 | 0,_,_,_,_,_,_,_,_,h,_,_,_,_,_,_,_=>by simp [Ci] at h
 | n+1,0,_,_,_,_,_,_,_,_,_,h,_,_,_,_,_=>by omega
 | n+1,d+1,t,L,cx,cy,xs,ys,b,h,hL,hd,hx,hy,hkx,hky,he=>by
  have hl:=qc hkx
  have hly:=qc hky
  have hlx' : xs.length=L.ks.length:=by rw [hx.length,hl]
  have hly' : ys.length=L.ks.length:=by rw [hy.length,hly]
  have ahM:∀ s,Ci P n s=true→∃ i l,P.info? s=some i∧lay P n s=some l∧i.size=l.ks.length:=by
   intro s hs
   cases n with
   | zero=>simp [Ci] at hs
   | succ n=>
    simp only [Ci,Bool.and_eq_true] at hs
    have h1:=hs.1
    split at h1
    ·rename_i i l e1 e2
     exact ⟨i,l,e1,e2,Nat.eq_of_beq_eq_true h1⟩
    ·simp at h1
  have Jn:∀ (s:TypeId) (l:vi) (i:TypeInfo) (off:Nat),Ci P n s=true→lay P n s=some l→P.info? s=some i→i.size=l.ks.length→off+l.ks.length≤cx.length→
    aF l.ks ((cx.drop off).take l.ks.length)=true→aF l.ks ((cy.drop off).take l.ks.length)=true→
    (do
     let u ← part s ⟨xs⟩ off
     let v ← part s ⟨ys⟩ off
     Op.equalIn d s u v:Sem Bool)=(do
     let u ← part s ⟨xs⟩ off
     let v ← part s ⟨ys⟩ off
     Op.equalIn d s u v)∧dq P (part s ⟨xs⟩ off)=some (yU l.agg ((xs.drop off).take l.ks.length))∧dq P (part s ⟨ys⟩ off)=some (yU l.agg ((ys.drop off).take l.ks.length))∧
    dq P (Op.equalIn d s (yU l.agg ((xs.drop off).take l.ks.length)) (yU l.agg ((ys.drop off).take l.ks.length)))=some (Aj cx cy off l.ks.length):=by
   intro s l i off h1 h2 h3 h4 h5 h6 h7
   refine ⟨rfl,?_,?_,?_⟩
   ·exact NI h2 h3 h4 (by simp; omega)
   ·exact NI h2 h3 h4 (by simp; omega)
   ·exact ae2 n d s l _ _ _ _ _ h1 h2 (by omega) ((hx.drop off).take _) ((hy.drop off).take _) h6 h7 (acn he off _)
  simp only [Ci,Bool.and_eq_true] at h
  have h2:=h.2
  obtain ⟨dd,hu,ha,h1⟩:=Y2 hL
  rw [hu] at h2
  unfold Op.equalIn
  rw [eY (wa hu)]
  simp only [lay,hu] at hL
  have QX:∀ c,L.ks = [c]→∃ x y u v,cx = [x]∧cy = [y]∧xs = [u]∧ys = [v]∧VK P E x u∧VK P E y v∧eqK x y=some b∧kindOk c x=true∧kindOk c y=true:=by
   intro c hc
   rw [hc] at hl hly hkx hky
   match cx,cy,hl,hly with
   | [x],[y],_,_=>
    obtain ⟨u,rfl,h2⟩:=hx.eW
    obtain ⟨v,rfl,h3⟩:=hy.eW
    refine ⟨x,y,u,v,rfl,rfl,rfl,rfl,h2,h3,?_,by simpa [aF] using hkx,by simpa [aF] using hky⟩
    simp only [si] at he
    split at he
    ·rename_i a c h4 h5
     simp at h5
     subst h5
     simpa [h4] using he
    ·simp at he
  cases dd with
  | int k=>
   simp at hL
   subst hL
   obtain ⟨x,y,u,v,rfl,rfl,rfl,rfl,h3,h4,h5,h6,h7⟩:=QX _ rfl
   cases x <;> simp [kindOk] at h6
   cases y <;> simp [kindOk] at h7
   subst h6 h7
   have:=h3.dt; subst this
   have:=h4.dt; subst this
   simp [eqK] at h5
   subst h5
   simp [yU,cB]
  | bool=>
   simp at hL
   subst hL
   obtain ⟨x,y,u,v,rfl,rfl,rfl,rfl,h3,h4,h5,h6,h7⟩:=QX _ rfl
   cases x <;> simp [kindOk] at h6
   cases y <;> simp [kindOk] at h7
   have:=h3.gf; subst this
   have:=h4.gf; subst this
   simp [eqK] at h5
   subst h5
   simp [yU,cB]
  | string=>
   simp at hL
   subst hL
   obtain ⟨x,y,u,v,rfl,rfl,rfl,rfl,h3,h4,h5,h6,h7⟩:=QX _ rfl
   cases x <;> simp [kindOk] at h6
   cases y <;> simp [kindOk] at h7
   have:=h3.rL; subst this
   have:=h4.rL; subst this
   simp [eqK] at h5
   subst h5
   simp [yU,cB]
  | struct fs=>
   simp only [Option.map_eq_some_iff] at hL
   obtain ⟨ks,rH,rfl⟩:=hL
   simp only [Bool.and_eq_true,Bool.not_eq_true'] at h2
   obtain ⟨h3,h4⟩:=Y3 he rH (by simpa using hkx) (by simpa using hky) (by simpa using hl.symm)
   simp only [List.drop_zero] at h4
   rw [he] at h4
   simp only [Option.some.injEq] at h4
   simp only [yU,cond_true]
   rw [eY (a:=P) (by simp [program,dq])]
   simp only [h2.1,Bool.false_eq_true,if_false]
   rw [← Array.forIn_toList]
   rw [eY (Dk (g:=fun f=>Aj cx cy f.offset (((lay P n f.type).map (·.ks.length)).getD 0)) (stop:=(some false,())) fun f hf=>?_)]
   ·rw [h4]
    cases (fs.toList.all fun f=>Aj cx cy f.offset (((lay P n f.type).map (·.ks.length)).getD 0)) <;> rfl
   ·have h5:=List.all_eq_true.1 h2.2 f hf
    simp only [Bool.and_eq_true,Bool.not_eq_true',beq_eq_false_iff_ne] at h5
    rw [if_pos h5.1]
    obtain ⟨l,h6,h7,h8,h9⟩:=h3 f hf
    obtain ⟨i,l',e1,e2,e3⟩:=ahM _ h5.2
    rw [h6] at e2
    simp at e2
    subst e2
    obtain ⟨_,w1,w2,w3⟩:=Jn _ l i f.offset h5.2 h6 e1 e3 h7 h8 h9
    rw [eY w1,eY w2,eY w3]
    simp only [h6,Option.map_some,Option.getD_some]
    cases Aj cx cy f.offset l.ks.length <;> rfl
  | array len e=>
   simp only [Option.map_eq_some_iff] at hL
   obtain ⟨l,Ks,rfl⟩:=hL
   obtain ⟨h3,h4⟩:=Y4 (xs:=cx) (ys:=cy) (l:=l.ks) (len:=len) (off:=0) (by simpa using he) (by simpa using hkx) (by simpa using hky)
   simp only [List.drop_zero,Nat.zero_add] at h3 h4
   rw [he] at h4
   simp only [Option.some.injEq] at h4
   obtain ⟨i,l',e1,e2,e3⟩:=ahM _ h2
   rw [Ks] at e2
   simp at e2
   subst e2
   simp only [yU,cond_true]
   rw [eY (Jm e1)]
   rw [Std.Legacy.Range.forIn_eq_forIn_range']
   rw [show List.range' [:len].start [:len].size [:len].step=List.range' 0 len from by simp [Std.Legacy.Range.size]]
   rw [eY (Dk (g:=fun i=>Aj cx cy (i * l.ks.length) l.ks.length) (stop:=(some false,())) fun j hj=>?_)]
   ·rw [h4]
    cases ((List.range' 0 len).all fun i=>Aj cx cy (i * l.ks.length) l.ks.length) <;> rfl
   ·have mr:j < len:=by simpa using hj
    obtain ⟨k1,k2⟩:=h3 j mr
    have hle:j * l.ks.length+l.ks.length≤cx.length:=by
     rw [hl]
     simp only [BP]
     rw [← Nat.succ_mul]
     exact Nat.mul_le_mul_right _ mr
    obtain ⟨_,w1,w2,w3⟩:=Jn _ l i (j * l.ks.length) h2 Ks e1 e3 hle k1 k2
    rw [e3]
    rw [eY w1,eY w2,eY w3]
    cases Aj cx cy (j * l.ks.length) l.ks.length <;> rfl
  | _=>simp at h2
theorem KH:∀ {ks:List CK} {cs:List KV} {l:List Value},aF ks cs=true→bb P E cs l→(∀ t,CK.slice t ∉ ks)→uy l=true
 | [],[],l,_,h,_=>by rw [h.cl]; rfl
 | [],_::_,_,h,_,_=>by simp [aF] at h
 | _::_,[],_,h,_,_=>by simp [aF] at h
 | c::ks,v::cs,l,h,hv,hn=>by
  obtain ⟨y,ys,rfl,h1,h2⟩:=hv.cons_inv
  simp only [aF,Bool.and_eq_true] at h
  have:=KH h.2 h2 (fun t ht=>hn t (by simp [ht]))
  simp only [uy,this,Bool.and_true]
  cases c with
  | int k=>cases v <;> simp [kindOk] at h; have:=h1.dt; subst this; rfl
  | bool=>cases v <;> simp [kindOk] at h; have:=h1.gf; subst this; rfl
  | str=>cases v <;> simp [kindOk] at h; have:=h1.rL; subst this; rfl
  | slice t=>exact absurd (by simp) (hn t)
  | other=>cases v <;> simp [kindOk] at h
theorem KI:∀ (n:Nat) (t:TypeId) (L:vi),Ci P n t=true→lay P n t=some L→∀ u,CK.slice u ∉ L.ks
 | 0,_,_,h,_,_=>by simp [Ci] at h
 | n+1,t,L,h,hL,u=>by
  simp only [Ci,Bool.and_eq_true] at h
  have h2:=h.2
  obtain ⟨dd,hu,_,_⟩:=Y2 hL
  rw [hu] at h2
  simp only [lay,hu] at hL
  cases dd with
  | int k=>simp at hL; subst hL; simp
  | bool=>simp at hL; subst hL; simp
  | string=>simp at hL; subst hL; simp
  | struct fs=>
   simp only [Option.map_eq_some_iff] at hL
   obtain ⟨ks,rH,rfl⟩:=hL
   simp only [Bool.and_eq_true,List.all_eq_true] at h2
   have key:∀ (l:List Field) (off:Nat) (ks:List CK),Kw (lay P n) l off=some ks→(∀ f∈l,Ci P n f.type=true)→CK.slice u ∉ ks:=by
    intro l
    induction l with
    | nil=>intro off ks h _; simp [Kw] at h; subst h; simp
    | cons f l ih=>
     intro off ks h hf
     simp only [Kw] at h
     obtain ⟨_,h⟩:=Ie h
     obtain ⟨L',h5,h⟩:=Option.bind_eq_some_iff.1 h
     obtain ⟨r,h6,rfl⟩:=Option.map_eq_some_iff.1 h
     rw [List.mem_append]
     rintro (h7 | h7)
     ·exact KI n _ _ (hf f (by simp)) h5 u h7
     ·exact ih _ _ h6 (fun g hg=>hf g (by simp [hg])) h7
   exact key _ _ _ rH fun f hf=>(h2.2 f hf).2
  | array len e=>
   simp only [Option.map_eq_some_iff] at hL
   obtain ⟨l,Ks,rfl⟩:=hL
   have:=KI n e l h2 Ks u
   have key:∀ m,CK.slice u ∉ dV l.ks m:=by
    intro m
    induction m with
    | zero=>simp [dV]
    | succ m ih=>simp only [dV,List.mem_append,not_or]; exact ⟨this,ih⟩
   exact key _
  | _=>simp at h2
theorem agJ {t:TypeId} (h:Ci P 12 t=true):lay P 12 t=some (bt P t):=by
 simp only [Ci,Bool.and_eq_true] at h
 have h1:=h.1
 unfold bt
 split at h1
 ·rename_i i l e1 e2; rw [e2]; rfl
 ·simp at h1
theorem ae3 {t:TypeId} {x y:KV} {b:Bool} {lit:Bool} {u v:Value} (hx:VK P E x u) (hy:VK P E y v) (h:ajJ P t x y=some b):qh P t lit u v=some b:=by
 unfold ajJ at h
 split at h
 ·rename_i xs ys
  obtain ⟨hc,h⟩:=Ie h
  simp only [Bool.and_eq_true,Bool.not_eq_true'] at hc
  obtain ⟨⟨⟨⟨ha,h1⟩,h2⟩,h3⟩,h4⟩:=hc
  obtain ⟨l,rfl,hl⟩:=hx.mD
  obtain ⟨m,rfl,hm⟩:=hy.mD
  have hL:=agJ h1
  have hns:=KI 12 t _ h1 hL
  have hfx:flat (.agg ⟨l⟩)=true:=KH h3 hl hns
  have hfy:flat (.agg ⟨m⟩)=true:=KH h4 hm hns
  have hs:=ae2 12 Op.maxDepth t (bt P t) xs ys l m b h1 hL (by unfold Op.maxDepth; omega) hl hm h3 h4 h
  rw [ha] at hs
  have hs:dq P (Op.equal t (.agg ⟨l⟩) (.agg ⟨m⟩))=some b:=hs
  unfold qh
  simp only [ko,xe,h2,Bool.not_false,Bool.and_self,cond_true]
  unfold Yf
  split <;> simp_all
 ·rename_i a c
  split at h
  ·rename_i hu
   simp at h
   subst h
   have:=hx.gf; subst this
   have:=hy.gf; subst this
   have:dq P (Op.equal t (.bool a) (.bool c))=some (a==c):=by
    unfold Op.equal Op.maxDepth Op.equalIn
    rw [eY (wa hu)]
    rfl
   unfold qh
   simp only [ko,xe,Bool.and_self,cond_true]
   unfold Yf
   split <;> simp_all [flat]
  ·simp at h
 ·split at h
  ·rename_i e hu
   simp at h
   subst h
   have:=hx.ob; subst this
   have:=hy.ob; subst this
   simp [qh,ko,xe,Yf,hu]
  ·simp at h
 ·rename_i T m n es acc
  split at h
  ·rename_i e hu
   cases hn:Nat.beq n 0 with
   | true=>rw [hn] at h; simp at h
   | false=>
    rw [hn] at h
    simp at h
    subst h
    have:=hy.ob; subst this
    obtain ⟨_,bp,_,a,cap,rfl,_,hb,_⟩:=hx.mI
    rcases hb with ⟨_,h0⟩ | ⟨b,off,r,rfl,_⟩
    ·subst h0; simp at hn
    ·simp [qh,ko,xe,Yf,hu]
  ·simp at h
 ·rename_i T m n es acc
  split at h
  ·rename_i e hu
   cases hn:Nat.beq n 0 with
   | true=>rw [hn] at h; simp at h
   | false=>
    rw [hn] at h
    simp at h
    subst h
    have:=hx.ob; subst this
    obtain ⟨_,bp,_,a,cap,rfl,_,hb,_⟩:=hy.mI
    rcases hb with ⟨_,h0⟩ | ⟨b,off,r,rfl,_⟩
    ·subst h0; simp at hn
    ·simp [qh,ko,xe,Yf,hu]
  ·simp at h
 ·split at h
  ·rename_i e hu
   simp at h
   subst h
   have:=hx.MD; subst this
   have:=hy.MD; subst this
   simp [qh,ko,xe,Yf,hu]
  ·simp at h
 ·split at h
  ·rename_i e hu
   simp at h
   subst h
   have:=hy.MD; subst this
   obtain ⟨x,_,rfl⟩:=hx.iW
   simp [qh,ko,xe,Yf,hu]
  ·simp at h
 ·split at h
  ·rename_i e hu
   simp at h
   subst h
   have:=hx.MD; subst this
   obtain ⟨x,_,rfl⟩:=hy.iW
   simp [qh,ko,xe,Yf,hu]
  ·simp at h
 ·simp at h
theorem alr {op:BinOp} {t:TypeId} {lit:Bool} : uK P (ajK P op t) (rB P op t lit):=by
 intro E vs us w h hg
 unfold ajK at hg
 split at hg
 ·rename_i j a k b
  obtain ⟨x,y,rfl,h1,h2⟩:=h.ll
  have:=h1.dt; subst this
  have:=h2.dt; subst this
  cases hs:aeN op with
  | true=>
   rw [hs,cond_true] at hg
   cases op <;> simp [aeN] at hs
   ·obtain ⟨hc,rfl⟩:=a5.mj hg
    simp only [Bool.not_eq_true',decide_eq_false_iff_not] at hc
    exact ⟨_,by simp [rB,binOp,Op.shift,hc,cB],.mkInt⟩
   ·obtain ⟨hc,rfl⟩:=a5.mj hg
    simp only [Bool.not_eq_true',decide_eq_false_iff_not] at hc
    exact ⟨_,by simp [rB,binOp,Op.shift,hc,cB],.mkInt⟩
  | false=>
   rw [hs,cond_false] at hg
   obtain ⟨hjk,hz⟩:=hg.cond
   clear hg
   simp only [decide_eq_true_eq] at hjk
   subst hjk
   cases op with
   | shl=>simp [aeN] at hs
   | shr=>simp [aeN] at hs
   | quo=>
    obtain ⟨hc,rfl⟩:=a5.mj hz
    simp only [Bool.not_eq_true',decide_eq_false_iff_not] at hc
    exact ⟨_,by simp [rB,binOp,Op.intDiv,hc,cB],.mkInt⟩
   | rem=>
    obtain ⟨hc,rfl⟩:=a5.mj hz
    simp only [Bool.not_eq_true',decide_eq_false_iff_not] at hc
    exact ⟨_,by simp [rB,binOp,Op.intDiv,hc,cB],.mkInt⟩
   | add=>have hz:KV.int _ _=w:=hz; subst hz; exact ⟨_,by simp [rB,binOp,Op.intArith,cB],.mkInt⟩
   | sub=>have hz:KV.int _ _=w:=hz; subst hz; exact ⟨_,by simp [rB,binOp,Op.intArith,cB],.mkInt⟩
   | mul=>have hz:KV.int _ _=w:=hz; subst hz; exact ⟨_,by simp [rB,binOp,Op.intArith,cB],.mkInt⟩
   | and=>have hz:KV.int _ _=w:=hz; subst hz; exact ⟨_,by simp [rB,binOp,Op.intBits,cB],.mkInt⟩
   | or=>have hz:KV.int _ _=w:=hz; subst hz; exact ⟨_,by simp [rB,binOp,Op.intBits,cB],.mkInt⟩
   | xor=>have hz:KV.int _ _=w:=hz; subst hz; exact ⟨_,by simp [rB,binOp,Op.intBits,cB],.mkInt⟩
   | andNot=>have hz:KV.int _ _=w:=hz; subst hz; exact ⟨_,by simp [rB,binOp,Op.intBits,cB],.mkInt⟩
   | eql=>have hz:KV.bool _=w:=hz; subst hz; exact ⟨_,by simp [rB,binOp,Op.intCmp,cB],.sH⟩
   | neq=>have hz:KV.bool _=w:=hz; subst hz; exact ⟨_,by simp [rB,binOp,Op.intCmp,cB],.sH⟩
   | lss=>have hz:KV.bool _=w:=hz; subst hz; exact ⟨_,by simp [rB,binOp,Op.intCmp,cB],.sH⟩
   | leq=>have hz:KV.bool _=w:=hz; subst hz; exact ⟨_,by simp [rB,binOp,Op.intCmp,cB],.sH⟩
   | gtr=>have hz:KV.bool _=w:=hz; subst hz; exact ⟨_,by simp [rB,binOp,Op.intCmp,cB],.sH⟩
   | geq=>have hz:KV.bool _=w:=hz; subst hz; exact ⟨_,by simp [rB,binOp,Op.intCmp,cB],.sH⟩
 ·rename_i a b
  obtain ⟨x,y,rfl,h1,h2⟩:=h.ll
  have:=h1.rL; subst this
  have:=h2.rL; subst this
  split at hg
  ·have hg:KV.bool _=w:=hg; subst hg; exact ⟨_,by simp [rB,binOp,Op.stringOp,cB],.sH⟩
  ·have hg:KV.bool _=w:=hg; subst hg; exact ⟨_,by simp [rB,binOp,Op.stringOp,cB],.sH⟩
  ·have hg:KV.bool _=w:=hg; subst hg; exact ⟨_,by simp [rB,binOp,Op.stringOp,cB],.sH⟩
  ·obtain ⟨hc,rfl⟩:=a5.mj hg
   have hc:=Nat.le_of_ble_eq_true hc
   have hn : ¬ (((a.size+b.size:Nat):Int) > IntKind.i64.max):=by
    have:IntKind.i64.max=9223372036854775807:=by decide
    rw [this]; omega
   refine ⟨.string (a++b),?_,.mkStr⟩
   simp only [rB,binOp,Op.stringOp]
   rw [if_neg hn]
   rfl
  ·exact hg.elim
 ·rename_i x y WJ hn2
  obtain ⟨u,v,rfl,h1,h2⟩:=h.ll
  split at hg
  ·rename_i b he
   have hg:KV.bool b=w:=hg
   subst hg
   have:=ae3 (lit:=lit) h1 h2 he
   refine ⟨.bool b,?_,.sH⟩
   unfold rB
   split
   ·rename_i e; simp at e; obtain ⟨rfl,rfl⟩:=e; simp [qh,ko] at this
   ·rename_i e; simp at e; obtain ⟨rfl,rfl⟩:=e; simp [qh,ko] at this
   ·rename_i e; simp at e; obtain ⟨rfl,rfl⟩:=e; simp [this]
   ·rename_i e; exact absurd rfl (e _ _)
  ·rename_i b he
   have hg:KV.bool (!b)=w:=hg
   subst hg
   have:=ae3 (lit:=lit) h1 h2 he
   refine ⟨.bool !b,?_,.sH⟩
   unfold rB
   split
   ·rename_i e; simp at e; obtain ⟨rfl,rfl⟩:=e; simp [qh,ko] at this
   ·rename_i e; simp at e; obtain ⟨rfl,rfl⟩:=e; simp [qh,ko] at this
   ·rename_i e; simp at e; obtain ⟨rfl,rfl⟩:=e; simp [this]
   ·rename_i e; exact absurd rfl (e _ _)
  ·exact hg.elim
 ·exact hg.elim
theorem amt {op:UnOp} : uK P (kUn op) (fUn P op):=by
 intro E vs us w h hg
 unfold kUn at hg
 split at hg
 ·rename_i b
  obtain ⟨y,rfl,h1⟩:=h.eW
  have:=h1.gf; subst this
  split at hg
  ·have hg:KV.bool (!b)=w:=hg
   subst hg
   exact ⟨_,by simp [fUn,Op.unary,cB],.sH⟩
  ·exact hg.elim
 ·rename_i k n
  obtain ⟨y,rfl,h1⟩:=h.eW
  have:=h1.dt; subst this
  split at hg
  ·have hg:KV.int _ _=w:=hg
   subst hg
   exact ⟨.int k (k.wrap (0 - n)),by simp [fUn,Op.unary,Op.intArith,cB],.mkInt⟩
  ·have hg:KV.int _ _=w:=hg
   subst hg
   exact ⟨_,by simp [fUn,Op.unary,Op.intBits,cB],.mkInt⟩
  ·exact hg.elim
 ·exact hg.elim
theorem Y5 {mx:Bool} : uK P (Gj mx) (HM P fun vs=>cond mx (Builtin.max_ #[] 0 ⟨vs⟩) (Builtin.min_ #[] 0 ⟨vs⟩)):=by
 intro E vs us w h hg
 unfold Gj at hg
 split at hg
 ·rename_i j a k b
  obtain ⟨x,y,rfl,h1,h2⟩:=h.ll
  have:=h1.dt; subst this
  have:=h2.dt; subst this
  obtain ⟨hjk,hz⟩:=hg.cond
  clear hg
  simp only [decide_eq_true_eq] at hjk
  subst hjk
  have hz:KV.int _ _=w:=hz
  subst hz
  refine ⟨_,?_,.mkInt⟩
  cases mx
  ·simp [HM,uy,flat,Builtin.min_,Builtin.min2,cB]
   omega
  ·simp [HM,uy,flat,Builtin.max_,Builtin.max2,cB]
   omega
 ·rename_i j a k b l c
  obtain ⟨x,y,z,rfl,h1,h2,h3⟩:=h.O8
  have:=h1.dt; subst this
  have:=h2.dt; subst this
  have:=h3.dt; subst this
  obtain ⟨hjk,hz⟩:=hg.cond
  clear hg
  simp only [Bool.and_eq_true,decide_eq_true_eq] at hjk
  obtain ⟨rfl,rfl⟩:=hjk
  have hz:KV.int _ _=w:=hz
  subst hz
  refine ⟨_,?_,.mkInt⟩
  cases mx
  ·show some (Value.int j (if c < (if b < a then b else a) then c else (if b < a then b else a)))=some (Value.int j (min (min a b) c))
   congr 2
   split <;> split at * <;> omega
  ·show some (Value.int j (if c > (if b > a then b else a) then c else (if b > a then b else a)))=some (Value.int j (max (max a b) c))
   congr 2
   split <;> split at * <;> omega
 ·exact hg.elim
end Go.K
end
