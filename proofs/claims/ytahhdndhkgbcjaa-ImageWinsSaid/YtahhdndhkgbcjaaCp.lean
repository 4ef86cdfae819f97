/- Part of the proof of ImageWins: a machine that runs the program's code over open terms, shown to be the model's, and the plain models of its functions. No conditions. -/
import Derived.Test.YtahhdndhkgbcjaaBp
section
namespace Go.K
open Go Go.aG
noncomputable section
inductive Mk where
 | any
 | exact
 | bb (b:Nat)
inductive KV where
 | int (k:IntKind) (n:Int)
 | bool (b:Bool)
 | str (s:ByteArray)
 | agg (cs:List KV)
 | jE (vs:List KV)
 | ts (T:TypeId) (m:Mk) (n:Nat) (es:List KV) (acc:Nat→KV)
 | tp (T Tc:TypeId) (i k:Nat) (es:List KV) (acc:Nat→KV)
 | al (T:TypeId) (b o n:Nat)
 | ap (T Tc:TypeId) (b i k:Nat)
 | ptr (b off:Nat)
 | sl (b off len cap:Nat)
 | BZ
 | kQ
 | yv
 | map (b:Nat)
 | fn (f:Fn) (first cap:List KV)
 | CU
 | iface (t:TypeId) (v:KV)
 | CV
 | ax
instance:Inhabited KV:=⟨.ax⟩
inductive jx where
 | row (cs:List KV) (bU:Nat)
 | map (es:List (KV×KV))
 | bb (top sz:Nat)
 | arr (v:KV)
 | jK (v:KV)
 | dead
structure az where
 heap:Trie jx
 next:Nat
def az.empty:az:=⟨.leaf,0⟩
def az.get (A:az) (b:Nat):Option jx:=A.heap.get b
def az.new (A:az) (o:jx):az:=⟨A.heap.set o A.next,Nat.succ A.next⟩
def az.put (A:az) (b:Nat) (o:jx):az:=⟨A.heap.set o b,A.next⟩
abbrev bA:=Trie KV
def lK {α:Type} : List (Nat×α)→Trie α
 | []=>.leaf
 | p::ps=>(lK ps).set p.2 p.1
def KV.cells:KV→List KV
 | .agg cs=>cs
 | v=>[v]
def one:KV→Bool
 | .agg _ | .jE _ | .ax=>false
 | _=>true
def qU:KV:=.jE []
inductive KR (α:Type) where
 | no
 | ok (v:α)
 | lV (c:Bool) (v:α)
 | br (c:Bool) (x y:KR α)
def KR.run {α R:Type} (r:KR α) (k:α→Option R):Option R:=
 KR.rec (motive:=fun _=>Option R) none (fun v=>k v) (fun c v=>Bool.rec (motive:=fun _=>Option R) none (k v) c) (fun c _ _ rx ry=>Bool.rec (motive:=fun _=>Option R) ry rx c) r
def KR.map {α β:Type} (f:α→β):KR α→KR β
 | .no=>.no
 | .ok v=>.ok (f v)
 | .lV c v=>.lV c (f v)
 | .br c x y=>.br c (x.map f) (y.map f)
def KR.of {α:Type} : Option α→KR α
 | some v=>.ok v
 | none=>.no
inductive CK where
 | int (k:IntKind)
 | bool
 | str
 | slice (t:TypeId)
 | other
structure uU where
 agg:Bool
 ks:List CK
def dV {α:Type} (l:List α):Nat→List α
 | 0=>[]
 | n+1=>l++dV l n
def J6 (f:TypeId→Option uU):List Field→Nat→Option (List CK)
 | [],_=>some []
 | fd::fs,off=>cond (Nat.beq fd.offset off) ((f fd.type).bind fun l=>(J6 f fs (off+l.ks.length)).map fun r=>l.ks++r) none
def lay (P:Program):Nat→TypeId→Option uU
 | 0,_=>none
 | n+1,t=>match P.underlying t with
  | some (.int k)=>some ⟨false,[.int k]⟩
  | some .bool=>some ⟨false,[.bool]⟩
  | some .string=>some ⟨false,[.str]⟩
  | some (.slice e)=>some ⟨false,[.slice e]⟩
  | some (.struct fs)=>(J6 (lay P n) fs.toList 0).map fun ks=>⟨true,ks⟩
  | some (.array len e)=>(lay P n e).map fun l=>⟨true,dV l.ks len⟩
  | some _=>some ⟨false,[.other]⟩
  | none=>none
def bu (P:Program) (t:TypeId):uU:=(lay P 12 t).getD ⟨false,[]⟩
def kindOk:CK→KV→Bool
 | .int k,.int k' _=>decide (k=k')
 | .bool,.bool _=>true
 | .str,.str _=>true
 | .slice t,.ts t' .any _ _ _=>Nat.beq t t'
 | _,_=>false
def aH:List CK→List KV→Bool
 | [],[]=>true
 | k::ks,v::vs=>kindOk k v&&aH ks vs
 | _,_=>false
def dw (l:uU):KV→Bool
 | .agg cs=>l.agg&&aH l.ks cs
 | .jE _=>false
 | v=>!l.agg&&aH l.ks [v]
def fM (l:uU):List KV→Bool
 | []=>true
 | e::es=>dw l e&&fM l es
def intOf:KV→Int
 | .int _ n=>n
 | _=>0
def og:KV→Bool
 | .bool b=>b
 | _=>false
def strOf:KV→ByteArray
 | .str s=>s
 | _=>ByteArray.empty
def amk:KV→List KV
 | .ts _ _ _ es _=>es
 | _=>[]
def lenOf:KV→Nat
 | .ts _ _ n _ _=>n
 | _=>0
def ai6:KV→Nat→KV
 | .ts _ _ _ _ acc=>acc
 | _=>fun _=>.ax
def leaf (c:CK) (v:KV):KV:=
 CK.rec (motive:=fun _=>KV) (fun k=>.int k (intOf v)) (.bool (og v)) (.str (strOf v)) (fun t=>.ts t .any (lenOf v) (amk v) (ai6 v)) v c
def leaves (e:KV):List CK→Nat→List KV
 | [],_=>[]
 | c::cs,k=>leaf c (e.cells.getD k .ax)::leaves e cs (Nat.succ k)
def JJ (agg:Bool) (cs:List KV):KV:=Bool.rec (motive:=fun _=>KV) (cs.headD .ax) (.agg cs) agg
def Hy:List CK→Bool
 | []=>true
 | .other::_=>false
 | _::cs=>Hy cs
mutual
def gS:Value→KV
 | .bool b=>.bool b
 | .int k n=>.int k n
 | .string s=>.str s
 | .pointer none=>.BZ
 | .slice none 0 0=>.kQ
 | .map none=>.yv
 | .nilFunc=>.CU
 | .nilIface=>.CV
 | .agg cs=>.agg (ofA cs)
 | .tuple cs=>.jE (ofA cs)
 | _=>.ax
def ofA:Array Value→List KV
 | ⟨l⟩=>ofL l
def ofL:List Value→List KV
 | []=>[]
 | v::vs=>gS v::ofL vs
end
abbrev FP:=List KV→KR KV
abbrev FR:=az→List KV→KR KV
abbrev FA:=az→List KV→KR (KV×az)
inductive qe where
 | pure (f:FP) (xs:List Operand)
 | read (f:FR) (xs:List Operand)
 | act (f:FA) (xs:List Operand)
 | look (f:FP) (xs:List Operand)
 | zW (g:FuncId) (f:List KV→KR KV) (xs:List Operand)
 | CW (g:FuncId) (f:List KV→KR KV) (xs:List Operand)
 | call (f:Operand) (args:List Operand)
 | bad
def acL:FP
 | [x]=>.ok x
 | _=>.no
def acM:FP
 | [.bool b]=>.br b (.ok (.bool true)) (.ok (.bool false))
 | [x]=>.ok x
 | _=>.no
def af7:FP
 | [.bool t,.bool a,.bool b]=>.ok (.bool (cond t a b))
 | [.bool t,a,b]=>.ok (cond t a b)
 | _=>.no
def ij:List KV→Bool
 | []=>true
 | v::vs=>one v&&ij vs
def uh {α:Type} : Nat→List α→Option (List α)
 | 0,_=>some []
 | _+1,[]=>none
 | n+1,x::xs=>(uh n xs).map (x::·)
def zX {α:Type} : Nat→List α→List α
 | 0,l=>l
 | _+1,[]=>[]
 | n+1,_::xs=>zX n xs
def lh {α:Type} : Nat→List α→List α→Option (List α)
 | 0,l,[]=>some l
 | 0,[],_::_=>none
 | 0,_::l,v::vs=>(lh 0 l vs).map (v::·)
 | _+1,[],[]=>some []
 | _+1,[],_::_=>none
 | n+1,x::l,vs=>(lh n l vs).map (x::·)
def Vf (n:Nat) (z:List KV):FA:=fun A _=>.ok (.ptr A.next 0,A.new (.row z n))
def oQ (P:Program) (t:TypeId):qe:=
 match pQ P t with
 | some z=>cond (flat z&&z.cells.toList.all scalar&&ij (gS z).cells) (.act (Vf (nq P t) (gS z).cells) []) .bad
 | none=>.bad
def zC (n:Nat):FA:=fun A xs=>
 match xs with
 | [v]=>cond (ij v.cells) (.ok (.ptr A.next 0,A.new (.row v.cells n))) .no
 | _=>.no
def Ta (place:Nat→Option (Nat×Nat)):List KV→List (Nat×KV)→Option (List KV)
 | cells,[]=>some cells
 | cells,(i,v)::rest=>
  match place i with
  | some (off,size)=>cond (Nat.beq v.cells.length size&&Nat.ble 1 size) ((lh off cells v.cells).bind fun cs=>Ta place cs rest) none
  | none=>none
def yw:List Nat→List KV→List (Nat×KV)
 | i::is,v::vs=>(i,v)::yw is vs
 | _,_=>[]
def uW:KV→Bool
 | .ax=>false
 | _=>true
def LP (place:Nat→Option (Nat×Nat)) (z:List KV) (is:List Nat):FP:=fun vs=>
 match Ta place z (yw is vs) with
 | some cs=>cond (vs.all uW) (.ok (.agg cs)) .no
 | none=>.no
def se (P:Program) (t:TypeId) (is:List Nat) (xs:List Operand):qe:=
 match pQ P t,P.underlying t with
 | some z,some (.struct fields)=>
  match placesOf P fields.toList with
  | some l=>cond (flat z&&ij (gS z).cells) (.pure (LP (PG l) (gS z).cells is) xs) .bad
  | none=>.bad
 | some z,some (.array _ e)=>
  match size? P e with
  | some n=>cond (flat z&&ij (gS z).cells) (.pure (LP (xS n) (gS z).cells is) xs) .bad
  | none=>.bad
 | _,_=>.bad
def n5:Nat→KV:=fun _=>.ax
def qV (es:List KV):Nat→KV:=fun i=>es.getD i .ax
def mJ (c:CK) (v:KV):KV:=
 match c,v with
 | .slice t,.kQ=>.ts t .any 0 [] n5
 | .slice t,.ts t' _ n es acc=>cond (Nat.beq t t') (.ts t .any n es acc) .ax
 | c,v=>cond (kindOk c v) v .ax
def yx:List CK→List KV→List KV
 | c::cs,v::vs=>mJ c v::yx cs vs
 | _,_=>[]
def gp (l:uU) (v:KV):KV:=
 match v with
 | .agg cs=>cond (l.agg&&Nat.beq cs.length l.ks.length) (.agg (yx l.ks cs)) .ax
 | v=>cond l.agg .ax (match l.ks with
  | [c]=>mJ c v
  | _=>.ax)
def setAt (es:List KV) (i:Nat) (v:KV):List KV:=
 match i,es with
 | 0,_::es=>v::es
 | n+1,e::es=>e::setAt es n v
 | _,[]=>[]
def Hz (es:List KV):List (Nat×KV)→List KV
 | []=>es
 | (i,v)::rest=>Hz (setAt es i v) rest
def J7 (l:uU) (e:TypeId) (z:KV) (len:Nat) (is:List Nat):FP:=fun vs=>
 let es:=Hz (dV [z] len) ((yw is vs).map fun p=>(p.1,gp l p.2))
 cond (vs.all uW&&fM l (vs.map (gp l))&&fM l es) (.ok (.ts e .exact len es (qV es))) .no
def CA (n:Nat):List Nat→Bool
 | []=>true
 | i::is=>Nat.blt i n&&CA n is
def Om (n:Nat) (z:List KV) (len:Nat) (is:List Nat):FA:=fun A vs=>
 match Ta (xS n) (dV z len) (yw is vs) with
 | some cs=>cond (vs.all uW&&ij cs) (.ok (.sl A.next 0 len len,A.new (.row cs n))) .no
 | none=>.no
def lj (P:Program) (t:TypeId) (len:Nat) (is:List Nat) (xs:List Operand):qe:=
 match P.underlying t with
 | some (.slice e)=>
  match P.info? e,pQ P e with
  | some i,some z=>cond (Nat.ble (len * i.size) 16777216&&Nat.beq z.cells.size i.size&&Nat.ble 1 i.size&&flat z&&Nat.beq (bu P e).ks.length i.size&&CA len is)
    (cond (Hy (bu P e).ks) (.look (J7 (bu P e) e (gp (bu P e) (gS z)) len is) xs) (cond (ij (gS z).cells) (.act (Om i.size (gS z).cells len is) xs) .bad)) .bad
  | _,_=>.bad
 | _=>.bad
def rowAt (A:az) (b:Nat):Option (List KV):=
 match A.get b with
 | some (.row cs _)=>some cs
 | _=>none
def EL (A:az) (b:Nat):Option KV:=
 match A.get b with
 | some (.arr v)=>some v
 | some (.jK v)=>some v
 | _=>none
def Xp (P:Program) (t Tc:TypeId):Bool:=Nat.beq Tc t&&Hy (bu P t).ks&&decide (PF P t=some (bu P t).agg)&&decide (size? P t=some (bu P t).ks.length)&&((bu P t).agg||Nat.beq (bu P t).ks.length 1)
def Tb (P:Program) (T:TypeId) (k:Nat) (e:KV) (vs:List KV):Option KV:=(lh k (leaves e (bu P T).ks 0) vs).map fun cs=>JJ (bu P T).agg cs
def sf (acc:Nat→KV) (i:Nat) (v:KV):Nat→KV:=fun j=>cond (Nat.beq j i) v (acc j)
def ag0 (T:TypeId) (n i:Nat) (es:List KV) (acc:Nat→KV) (e:KV):KV:=.ts T .any n (setAt es i e) (sf acc i e)
def Td (P:Program) (t:TypeId):FR:=fun A xs=>
 match xs with
 | [.ptr b off]=>
  match PF P t,size? P t with
  | some ag,some n=>match (rowAt A b).bind fun cs=>uh n (zX off cs) with
   | some l=>cond ag (.ok (.agg l)) (match l with | [v]=>.ok v | _=>.no)
   | none=>.no
  | _,_=>.no
 | [.tp _ Tc i k _ acc]=>
  cond (Xp P t Tc) (.ok (JJ (bu P t).agg (leaves (acc i) (bu P t).ks k))) .no
 | [.ap T Tc b i k]=>match EL A b with
  | some (.ts T' _ _ _ acc)=>cond (Nat.beq T T'&&Xp P t Tc) (.ok (JJ (bu P t).agg (leaves (acc i) (bu P t).ks k))) .no
  | _=>.no
 | _=>.no
def Qd (P:Program) (t:TypeId):FA:=fun A xs=>
 match xs with
 | [.ptr b off,v]=>
  cond (decide (some v.cells.length=size? P t)&&ij v.cells)
   (match A.get b with
   | some (.row cs bU)=>match lh off cs v.cells with
    | some b8=>.ok (qU,A.put b (.row b8 bU))
    | none=>.no
   | _=>.no) .no
 | [.ap T Tc b i k,v]=>
  match A.get b with
  | some (.arr (.ts T' _ n es acc))=>
   cond (Nat.beq T T'&&Nat.beq Tc t&&dw (bu P t) (gp (bu P t) v)&&decide (size? P t=some (bu P t).ks.length))
    (match Tb P T k (acc i) (gp (bu P t) v).cells with
    | some e=>.ok (qU,A.put b (.arr (ag0 T n i es acc e)))
    | none=>.no) .no
  | _=>.no
 | _=>.no
def Ye:FP
 | [.ptr b off]=>.ok (.ptr b off)
 | [.tp T Tc i k es acc]=>.ok (.tp T Tc i k es acc)
 | [.ap T Tc b i k]=>.ok (.ap T Tc b i k)
 | [.fn (.func f) first cap]=>.ok (.fn (.func f) first cap)
 | _=>.no
abbrev aml (k:IntKind) (a b:Int):Nat:=(BitVec.ofInt k.bits a &&& BitVec.ofInt k.bits b).toNat
abbrev bOr (k:IntKind) (a b:Int):Nat:=(BitVec.ofInt k.bits a ||| BitVec.ofInt k.bits b).toNat
abbrev amm (k:IntKind) (a b:Int):Nat:=(BitVec.ofInt k.bits a ^^^ BitVec.ofInt k.bits b).toNat
abbrev ai7 (k:IntKind) (a b:Int):Nat:=(BitVec.ofInt k.bits a &&& ~~~ BitVec.ofInt k.bits b).toNat
def opI (op:BinOp) (k:IntKind) (a b:Int):KR KV:=
 match op with
 | .add=>.ok (.int k (k.wrap (a+b)))
 | .sub=>.ok (.int k (k.wrap (a - b)))
 | .mul=>.ok (.int k (k.wrap (a * b)))
 | .eql=>.ok (.bool (a==b))
 | .neq=>.ok (.bool (a != b))
 | .lss=>.ok (.bool (decide (a < b)))
 | .leq=>.ok (.bool (decide (a≤b)))
 | .gtr=>.ok (.bool (decide (a > b)))
 | .geq=>.ok (.bool (decide (a ≥ b)))
 | .quo=>.lV (!(decide (b=0))) (.int k (k.wrap (a.tdiv b)))
 | .rem=>.lV (!(decide (b=0))) (.int k (a.tmod b))
 | .and=>.ok (.int k (k.wrap (aml k a b)))
 | .or=>.ok (.int k (k.wrap (bOr k a b)))
 | .xor=>.ok (.int k (k.wrap (amm k a b)))
 | .andNot=>.ok (.int k (k.wrap (ai7 k a b)))
 | _=>.no
def amn (op:BinOp) (k:IntKind) (a b:Int):KR KV:=
 match op with
 | .shl=>.lV (!(decide (b < 0))) (.int k (k.wrap (a * 2 ^ (min b.toNat k.bits))))
 | .shr=>.lV (!(decide (b < 0))) (.int k (a.fdiv (2 ^ (min b.toNat k.bits))))
 | _=>.no
def aee:BinOp→Bool
 | .shl | .shr=>true
 | _=>false
def eqK:KV→KV→Option Bool
 | .int k a,.int k' b=>cond (decide (k=k')) (some (a==b)) none
 | .bool a,.bool b=>some (a==b)
 | .str a,.str b=>some (a==b)
 | _,_=>none
def rX:List KV→List KV→Option Bool
 | [],[]=>some true
 | x::xs,y::ys=>match eqK x y,rX xs ys with
  | some a,some b=>some (a&&b)
  | _,_=>none
 | _,_=>none
def B4 (P:Program):Nat→TypeId→Bool
 | 0,_=>false
 | n+1,t=>(match P.info? t,lay P (n+1) t with
   | some i,some l=>Nat.beq i.size l.ks.length
   | _,_=>false)&&match P.underlying t with
  | some (.int _) | some .bool | some .string=>true
  | some (.struct fs) => !(P.stoodInHeld t) && fs.toList.all fun f => !(f.name == "_") && B4 P n f.type
  | some (.array _ e)=>B4 P n e
  | _=>false
def ai8 (P:Program) (t:TypeId) (x y:KV):Option Bool:=
 match x,y with
 | .agg xs,.agg ys=>cond ((bu P t).agg&&B4 P 12 t&&!(P.eqGuardType P.depth t)&&aH (bu P t).ks xs&&aH (bu P t).ks ys) (rX xs ys) none
 | .bool a,.bool b=>match P.underlying t with
  | some .bool=>some (a==b)
  | _=>none
 | .kQ,.kQ=>match P.underlying t with
  | some (.slice _)=>some true
  | _=>none
 | .ts _ _ n _ _,.kQ=>match P.underlying t with
  | some (.slice _)=>cond (Nat.beq n 0) none (some false)
  | _=>none
 | .kQ,.ts _ _ n _ _=>match P.underlying t with
  | some (.slice _)=>cond (Nat.beq n 0) none (some false)
  | _=>none
 | .BZ,.BZ=>match P.underlying t with
  | some (.pointer _)=>some true
  | _=>none
 | .ptr _ _,.BZ=>match P.underlying t with
  | some (.pointer _)=>some false
  | _=>none
 | .BZ,.ptr _ _=>match P.underlying t with
  | some (.pointer _)=>some false
  | _=>none
 | _,_=>none
def ai9 (P:Program) (op:BinOp) (t:TypeId):FP
 | [.int j a,.int k b]=>cond (aee op) (amn op j a b) (cond (decide (j=k)) (opI op j a b) .no)
 | [.str a,.str b]=>match op with
  | .eql=>.ok (.bool (a.toList==b.toList))
  | .neq=>.ok (.bool !(a.toList==b.toList))
  | .lss=>.ok (.bool (Op.bytesLess a.toList b.toList))
  | .add=>.lV (Nat.ble (a.size+b.size) 9223372036854775807) (.str (a++b))
  | _=>.no
 | [x,y]=>match op,ai8 P t x y with
  | .eql,some b=>.ok (.bool b)
  | .neq,some b=>.ok (.bool !b)
  | _,_=>.no
 | _=>.no
def kUn (op:UnOp):FP
 | [.bool b]=>match op with
  | .not=>.ok (.bool !b)
  | _=>.no
 | [.int k n]=>match op with
  | .neg=>.ok (.int k (k.wrap (0 - n)))
  | .xor=>.ok (.int k (k.wrap (BitVec.ofInt k.bits (if k.signed then -1 else k.max) ^^^ BitVec.ofInt k.bits n).toNat))
  | _=>.no
 | _=>.no
def ag1 (k:IntKind):FP
 | [.int _ n]=>.ok (.int k (k.wrap n))
 | _=>.no
def ag2:FP
 | [.str s]=>.ok (.str s)
 | _=>.no
def byteOf:KV→UInt8
 | .int _ n=>UInt8.ofNat n.toNat
 | _=>0
def ag3:KV→Bool
 | .int .u8 n=>decide (0≤n)&&decide (n < 256)
 | _=>false
def HA:FP
 | [.kQ]=>.ok (.str ⟨⟨[]⟩⟩)
 | [.ts _ _ _ es _]=>.lV (es.all ag3) (.str ⟨⟨es.map byteOf⟩⟩)
 | _=>.no
def Oo (e:TypeId):FP
 | [.str s]=>.ok (.ts e .any s.size (s.data.toList.map fun b=>.int .u8 b.toNat) (fun i=>.int .u8 (s.data.toList.getD i 0).toNat))
 | _=>.no
def oh (P:Program) (src dst:TypeId) (x:Operand):qe:=
 match P.underlying src,P.underlying dst with
 | some (.int _),some (.int k)=>.pure (ag1 k) [x]
 | some .string,some .string=>.pure ag2 [x]
 | some (.slice e),some .string=>cond (isByte P e) (.read (fun _=>HA) [x]) .bad
 | some .string,some (.slice e)=>cond (isByte P e) (.look (Oo e) [x]) .bad
 | _,_=>.bad
def HB (f:Fn) (k:Nat):FP:=fun vs=>
 match uh k vs with
 | some first=>.ok (.fn f first (zX k vs))
 | none=>.no
def Vg (s:TypeId) (off:Nat) (ft:TypeId) (vK:Bool):FP
 | [.ptr b o]=>.ok (.ptr b (o+off))
 | [.tp T Tc i k es acc]=>cond (Nat.beq Tc s&&vK) (.ok (.tp T ft i (k+off) es acc)) .no
 | [.ap T Tc b i k]=>cond (Nat.beq Tc s&&vK) (.ok (.ap T ft b i (k+off))) .no
 | _=>.no
def aja:CK→CK→Bool
 | .int a,.int b=>decide (a=b)
 | .bool,.bool=>true
 | .str,.str=>true
 | .slice a,.slice b=>Nat.beq a b
 | .other,.other=>true
 | _,_=>false
def zY:List CK→List CK→Bool
 | [],[]=>true
 | a::am2,b::bs=>aja a b&&zY am2 bs
 | _,_=>false
def Xq (P:Program) (s:TypeId) (off:Nat) (ft:TypeId):Bool:=
 match uh (bu P ft).ks.length (zX off (bu P s).ks) with
 | some l=>zY l (bu P ft).ks
 | none=>false
def mg (P:Program) (s:TypeId) (x:Operand) (f:Nat):qe:=
 match uO P s f with
 | some fd=>match size? P fd.type with
  | some (_+1)=>.pure (Vg s fd.offset fd.type (Xq P s fd.offset fd.type)) [x]
  | _=>.bad
 | none=>.bad
def Te (P:Program) (t:TypeId) (cs:List KV) (off:Nat):Option KV:=
 match PF P t with
 | some true=>(size? P t).bind fun n=>(uh n (zX off cs)).map fun l=>.agg l
 | some false=>(zX off cs).head?
 | none=>none
def ag4 (P:Program) (fd:Field):FP
 | [.agg cs]=>.of (Te P fd.type cs fd.offset)
 | _=>.no
def sg (P:Program) (t:TypeId) (x:Operand) (f:Nat):qe:=
 match uO P t f with
 | some fd=>.pure (ag4 P fd) [x]
 | none=>.bad
def Yf (i:Int) (n:Nat):Bool:=decide (0≤i)&&decide (i < (n:Int))
def ag5 {α:Type} (i:Int) (f:Nat→KR α) (m:Nat):Nat→KR α:=Nat.rec (motive:=fun _=>Nat→KR α) (fun _=>.no) (fun _ ih j=>.br (decide (i=(j:Int))) (f j) (ih (Nat.succ j))) m
def Yg (P:Program) (t:TypeId) (len n:Nat) (e:TypeId):FP
 | [.ptr b o,.int _ i]=>cond (Nat.ble len 8) (ag5 i (fun j=>.ok (.ptr b (o+j * n))) len 0) (.lV (Yf i len) (.ptr b (o+i.toNat * n)))
 | [.tp T Tc j k es acc,.int _ i]=>cond (Nat.beq Tc t&&zY (bu P t).ks (dV (bu P e).ks len)&&Nat.beq (bu P e).ks.length n) (.lV (Yf i len) (.tp T e j (k+i.toNat * n) es acc)) .no
 | [.ap T Tc b j k,.int _ i]=>cond (Nat.beq Tc t&&zY (bu P t).ks (dV (bu P e).ks len)&&Nat.beq (bu P e).ks.length n) (.lV (Yf i len) (.ap T e b j (k+i.toNat * n))) .no
 | _=>.no
def abF (e n:Nat) (vK:Bool):FP
 | [.sl b o len _,.int _ i]=>.lV (Yf i len) (.ptr b (o+i.toNat * n))
 | [.ts T _ m es acc,.int _ i]=>cond (Nat.beq T e&&vK) (.lV (Yf i m) (.tp T T i.toNat 0 es acc)) .no
 | [.al T b o m,.int _ i]=>cond (Nat.beq T e&&vK) (.lV (Yf i m) (.ap T T b (o+i.toNat) 0)) .no
 | _=>.no
def mh (P:Program) (t:TypeId) (x ix:Operand):qe:=
 match P.underlying t with
 | some (.array len e)=>match size? P e with
  | some n=>.pure (Yg P t len n e) [x,ix]
  | none=>.bad
 | some (.slice e)=>match size? P e with
  | some n=>.pure (abF e n (Nat.beq (bu P e).ks.length n)) [x,ix]
  | none=>.bad
 | _=>.bad
def Oq (P:Program) (len n:Nat) (e:TypeId):FP
 | [.agg cs,.int _ i]=>cond (Nat.ble len 8) (ag5 i (fun j=>.of (Te P e cs (j * n))) len 0) (match Te P e cs (i.toNat * n) with
  | some v=>.lV (Yf i len) v
  | none=>.no)
 | _=>.no
def Yh:FP
 | [.str s,.int _ i]=>.lV (Yf i s.size) (.int .u8 ((s.data.toList.getD i.toNat 0).toNat))
 | _=>.no
def sh (P:Program) (t:TypeId) (x ix:Operand):qe:=
 match P.underlying t with
 | some (.array len e)=>match size? P e with
  | some n=>.pure (Oq P len n e) [x,ix]
  | none=>.bad
 | some .string=>.pure Yh [x,ix]
 | _=>.bad
def abG {α:Type} : Nat→List α→Option α
 | _,[]=>none
 | 0,x::_=>some x
 | n+1,_::xs=>abG n xs
def abH (i:Nat):FP
 | [.jE vs]=>.of (abG i vs)
 | _=>.no
def ag6:FP
 | [.ts _ _ n _ _]=>.ok (.int .i64 (n:Int))
 | [.sl _ _ n _]=>.ok (.int .i64 (n:Int))
 | [.al _ _ _ n]=>.ok (.int .i64 (n:Int))
 | [.kQ]=>.ok (.int .i64 0)
 | _=>.no
def aef:FP
 | [.str s]=>.ok (.int .i64 (s.size:Int))
 | _=>.no
def Yi (P:Program) (argTypes:List TypeId) (args:List Operand):qe:=
 match argTypes with
 | [t]=>match P.underlying t with
  | some (.slice _)=>.pure ag6 args
  | some .string=>.pure aef args
  | _=>.bad
 | _=>.bad
def FO (mx:Bool):FP
 | [.int j a,.int k b]=>cond (decide (j=k)) (.ok (.int j (cond mx (max a b) (min a b)))) .no
 | [.int j a,.int k b,.int l c]=>cond (decide (j=k)&&decide (j=l)) (.ok (.int j (cond mx (max (max a b) c) (min (min a b) c)))) .no
 | _=>.no
def Qe (len:Nat) (lo hi:Bool):List KV→Option (Int×Int)
 | []=>cond (lo||hi) none (some (0,len))
 | [.int _ x]=>cond (lo&&!hi) (some (x,len)) (cond (!lo&&hi) (some (0,x)) none)
 | [.int _ x,.int _ y]=>cond (lo&&hi) (some (x,y)) none
 | _=>none
def Tf (P:Program) (n:Nat) (lo hi:Bool):FR:=fun A xs=>
 match xs with
 | .ts T _ m es acc::r=>match Qe m lo hi r with
  | some (x,y)=>cond (Nat.beq (bu P T).ks.length n) (.lV (decide (0≤x)&&decide (x≤y)&&decide (y≤(m:Int))) (.ts T .any (y.toNat - x.toNat) ((es.drop x.toNat).take (y.toNat - x.toNat)) (fun i=>acc (x.toNat+i)))) .no
  | none=>.no
 | .sl b o len cap::r=>match A.get b with
  | some (.row _ bU)=>match Qe len lo hi r with
   | some (x,y)=>cond (Nat.beq bU n) (.lV (decide (0≤x)&&decide (x≤y)&&decide (y≤(len:Int))&&decide (len≤cap)) (.sl b (o+x.toNat * n) (y.toNat - x.toNat) (cap - x.toNat))) .no
   | none=>.no
  | _=>.no
 | .al T b o m::r=>match EL A b with
  | some (.ts T' _ _ _ _)=>match Qe m lo hi r with
   | some (x,y)=>cond (Nat.beq (bu P T).ks.length n&&Nat.beq T T') (.lV (decide (0≤x)&&decide (x≤y)&&decide (y≤(m:Int))) (.al T b (o+x.toNat) (y.toNat - x.toNat))) .no
   | none=>.no
  | _=>.no
 | _=>.no
def Ot (len n:Nat) (lo hi:Bool):FR:=fun A xs=>
 match xs with
 | .ptr b o::r=>match A.get b with
  | some (.row cs bU)=>match Qe len lo hi r with
   | some (x,y)=>cond (Nat.beq bU n&&Nat.ble (o+len * n) cs.length) (.lV (decide (0≤x)&&decide (x≤y)&&decide (y≤(len:Int))) (.sl b (o+x.toNat * n) (y.toNat - x.toNat) (len - x.toNat))) .no
   | none=>.no
  | _=>.no
 | _=>.no
def Ou (lo hi:Bool):FP
 | .str s::r=>match Qe s.size lo hi r with
  | some (x,y)=>.lV (decide (0≤x)&&decide (x≤y)&&decide (y≤(s.size:Int))) (.str ⟨⟨(s.data.toList.drop x.toNat).take (y.toNat - x.toNat)⟩⟩)
  | none=>.no
 | _=>.no
def si (P:Program) (t:TypeId) (x:Operand) (lo hi mx:Option Operand):qe:=
 match P.underlying t with
 | some (.slice e)=>match size? P e with
  | some n=>cond (Nat.ble 1 n&&mx.isNone) (.read (Tf P n lo.isSome hi.isSome) (x::(fS lo++fS hi))) .bad
  | none=>.bad
 | some (.array len e)=>match size? P e with
  | some n=>cond (Nat.ble 1 n&&mx.isNone) (.read (Ot len n lo.isSome hi.isSome) (x::(fS lo++fS hi))) .bad
  | none=>.bad
 | some .string=>cond mx.isNone (.pure (Ou lo.isSome hi.isSome) (x::(fS lo++fS hi))) .bad
 | _=>.bad
def eo (b n m:Nat):Bool:=Nat.ble ((n+m+512) * b) 17592186044416&&Nat.ble (n+m) 17592186044416&&(Nat.blt 0 m||Nat.beq n 0)
def au (top n:Nat):Bool:=Nat.beq top n
def fa (n:Nat) (f g:Nat→KV):Nat→KV:=fun i=>cond (Nat.blt i n) (f i) (g (i - n))
def Qf (e sz b n:Nat) (base:List KV) (ab:Nat→KV) (A:az) (f m:Nat) (new:List KV) (an:Nat→KV) (more:Bool):KR (KV×az):=
 .lV (more&&eo b n m)
  (.ts e (.bb f) (n+m) (base++new) (fa n ab an),A.put f (.bb (n+m) sz))
def J8 (e sz b:Nat):FA:=fun A xs=>
 match xs with
 | [.kQ,.ts e' _ m new an]=>cond (Nat.beq e e') (Qf e sz b 0 [] n5 (A.new (.bb 0 sz)) A.next m new an true) .no
 | [.ts e1 .exact n es ab,.ts e' _ m new an]=>cond (Nat.beq e e'&&Nat.beq e e1) (Qf e sz b n es ab (A.new (.bb 0 sz)) A.next m new an (Nat.blt 0 m)) .no
 | [.ts e1 (.bb f) n es ab,.ts e' _ m new an]=>match A.get f with
  | some (.bb top sz')=>cond (Nat.beq e e'&&Nat.beq e e1&&Nat.beq sz' sz) (Qf e sz b n es ab A f m new an (au top n)) .no
  | _=>.no
 | _=>.no
def acN (A:az) (T b o n:Nat):Option KV:=
 match EL A b with
 | some (.ts T' _ _ es acc)=>cond (Nat.beq T T') (some (.ts T .any n ((es.drop o).take n) (fun i=>acc (o+i)))) none
 | _=>none
def J9 (A:az) (v:KV):Option KV:=
 match v with
 | .al T b o n=>acN A T b o n
 | .ts T m n es acc=>some (.ts T m n es acc)
 | _=>none
def ag7 (b n m:Nat):Bool:=Nat.ble ((n+m+512) * b) 17592186044416&&Nat.ble (n+m) 17592186044416
def Xr (e b n:Nat) (base:List KV) (ab:Nat→KV) (A:az) (m:Nat) (new:List KV) (an:Nat→KV) (more:Bool):KR (KV×az):=
 .lV (more&&ag7 b n m) (.al e A.next 0 (n+m),A.new (.arr (.ts e .any (n+m) (base++new) (fa n ab an))))
def CB (e b:Nat):FA:=fun A xs=>
 match xs with
 | [.kQ,.ts e' _ m new an]=>cond (Nat.beq e e') (Xr e b 0 [] n5 A m new an true) .no
 | [.al e1 f o n,.ts e' _ m new an]=>match A.get f with
  | some (.arr (.ts e2 _ _ es acc))=>cond (Nat.beq e e'&&Nat.beq e e1&&Nat.beq e e2) (Xr e b n (es.take n) acc (A.put f .dead) m new an (Nat.beq o 0)) .no
  | _=>.no
 | _=>.no
def ajb:KV→Bool
 | .al _ _ _ _=>true
 | _=>false
def FQ (e sz b:Nat) (mt:Bool):FA:=fun A xs=>
 match xs with
 | [x,y]=>match J9 A y with
  | some y'=>cond (ajb x) (CB e b A [x,y']) (cond mt (CB e b A [x,y']) (J8 e sz b A [x,y']))
  | none=>.no
 | _=>.no
def DU (P:Program) (mt:TypeId→Bool) (argTypes:List TypeId) (args:List Operand):qe:=
 match argTypes with
 | [t,u]=>
  match P.underlying t,P.underlying u with
  | some (.slice e),some (.slice _)=>
   match P.info? e with
   | some i=>match i.zero with
    | some z=>cond (Nat.ble 1 i.size&&Nat.beq z.cells.size i.size&&Nat.beq (bu P e).ks.length i.size) (.act (FQ e i.size i.bytes (mt e)) args) .bad
    | none=>.bad
   | none=>.bad
  | _,_=>.bad
 | _=>.bad
def Ka (n b:Nat) (z:List KV):FA:=fun A xs=>
 match xs with
 | [.int _ l,.int _ c]=>.lV (decide (0≤l)&&decide (l≤c)&&Nat.ble (b * c.toNat) 281474976710656) (.sl A.next 0 l.toNat c.toNat,A.new (.row (dV z c.toNat) n))
 | _=>.no
def Yj (A:az) (v:KV):KV×az:=
 match v with
 | .al T b o n=>match A.get b with
  | some (.arr (.ts T' m N es acc))=>cond (Nat.beq T T') (.ts T .any n ((es.drop o).take n) (fun i=>acc (o+i)),A.put b (.jK (.ts T' m N es acc))) (.ax,A)
  | some (.jK (.ts T' _ _ es acc))=>cond (Nat.beq T T') (.ts T .any n ((es.drop o).take n) (fun i=>acc (o+i)),A) (.ax,A)
  | _=>(.ax,A)
 | v=>(v,A)
def Tg (A:az):List KV→List KV×az
 | []=>([],A)
 | v::vs=>((Yj A v).1::(Tg (Yj A v).2 vs).1,(Tg (Yj A v).2 vs).2)
def abI (A:az) (v:KV):KV×az:=
 match v with
 | .agg cs=>(.agg (Tg A cs).1,(Tg A cs).2)
 | v=>Yj A v
def vL (A:az):List KV→List KV×az
 | []=>([],A)
 | v::vs=>((abI A v).1::(vL (abI A v).2 vs).1,(vL (abI A v).2 vs).2)
def Th (T b:Nat) (z:KV):FA:=fun A xs=>
 match xs with
 | [.int _ l,.int _ c]=>.lV (decide (0≤l)&&decide (l≤c)&&Nat.ble (b * c.toNat) 281474976710656) (.al T A.next 0 l.toNat,A.new (.arr (.ts T .any c.toNat (dV [z] c.toNat) (fun _=>z))))
 | _=>.no
def acO (T b:Nat) (z:KV):FP:=fun xs=>
 match xs with
 | [.int _ l,.int _ c]=>.lV (decide (0≤l)&&decide (l≤c)&&Nat.ble (b * c.toNat) 281474976710656) (.ts T .any l.toNat (dV [z] l.toNat) (fun _=>z))
 | _=>.no
def ui (P:Program) (mt:TypeId→Bool) (t:TypeId) (l c:Operand):qe:=
 match P.underlying t with
 | some (.slice e)=>
  match P.info? e with
  | some i=>match i.zero with
   | some z=>cond (mt (e+1000000)) (cond (Nat.ble 1 i.size&&Nat.ble 1 i.bytes&&Nat.beq z.cells.size i.size&&flat z&&z.cells.toList.all scalar&&Nat.beq (bu P e).ks.length i.size&&dw (bu P e) (gp (bu P e) (gS z))) (.look (acO e i.bytes (gp (bu P e) (gS z))) [l,c]) .bad) <| cond (mt e) (cond (Nat.ble 1 i.size&&Nat.ble 1 i.bytes&&Nat.beq z.cells.size i.size&&flat z&&z.cells.toList.all scalar&&Nat.beq (bu P e).ks.length i.size&&dw (bu P e) (gp (bu P e) (gS z))) (.act (Th e i.bytes (gp (bu P e) (gS z))) [l,c]) .bad) <| cond (Nat.ble 1 i.size&&Nat.ble 1 i.bytes&&Nat.beq z.cells.size i.size&&flat z&&z.cells.toList.all scalar&&ij (gS z).cells) (.act (Ka i.size i.bytes (gS z).cells) [l,c]) .bad
   | none=>.bad
  | none=>.bad
 | _=>.bad
def yz (es:List KV) (o:Nat) (new:List KV):List KV:=es.take o++new++es.drop (o+new.length)
def kO (o k:Nat) (f g:Nat→KV):Nat→KV:=fun i=>cond (Nat.blt i o) (f i) (cond (Nat.blt i (o+k)) (g (i - o)) (f i))
def af8 (e:Nat):FA:=fun A xs=>
 match xs with
 | [.al e1 b o n,y]=>match J9 A y,A.get b with
  | some (.ts e' _ m new an),some (.arr (.ts e2 _ N es acc))=>cond (Nat.beq e e'&&Nat.beq e e1&&Nat.beq e e2)
    (.ok (.int .i64 (Nat.min m n:Nat),A.put b (.arr (.ts e .any N (yz es o (new.take (Nat.min m n))) (kO o (Nat.min m n) acc an))))) .no
  | _,_=>.no
 | _=>.no
def LQ (P:Program) (argTypes:List TypeId) (args:List Operand):qe:=
 match argTypes with
 | [t,u]=>
  match P.underlying t,P.underlying u with
  | some (.slice e),some (.slice _)=>match size? P e with
   | some n=>cond (Nat.ble 1 n&&Nat.beq (bu P e).ks.length n) (.act (af8 e) args) .bad
   | none=>.bad
  | _,_=>.bad
 | _=>.bad
def yA (P:Program) (mt:TypeId→Bool) (b:Builtin) (argTypes:List TypeId) (args:List Operand):qe:=
 match b with
 | .len=>Yi P argTypes args
 | .min=>.pure (FO false) args
 | .max=>.pure (FO true) args
 | .append=>DU P mt argTypes args
 | .copy=>LQ P argTypes args
 | _=>.bad
inductive DV where
 | no
 | out (e:aw) (t:bA) (A:az)
 | br (c:Bool) (x y:DV)
inductive ti where
 | no
 | out (v:KV) (A:az)
 | br (c:Bool) (x y:ti)
structure aeg where
 ac:FuncId→Option (List KV→az→ti)
 mt:TypeId→Bool
 fz:Bool
 eg:Bool
def aeg.none:aeg:=⟨fun _=>.none,fun _=>false,false,false⟩
structure eN where
 pc:FuncId→Option (List KV→KR KV)
 lp:FuncId→Nat→Option (bA→az→DV)
 x:aeg
def eN.none:eN:=⟨fun _=>.none,fun _ _=>.none,.none⟩
def ay (P:Program) (f:KV→KV) (t:TypeId) (e:KV):KV:=JJ (bu P t).agg ((leaves e (bu P t).ks 0).map f)
def ao (P:Program) (d:Nat):KV→KV:=Nat.rec (motive:=fun _=>KV→KV) (fun v=>v) (fun _ ih v=>match v with
 | .ts t _ n _ acc=>.ts t .any n ((List.range n).map fun i=>ay P ih t (acc i)) (fun i=>ay P ih t (acc i))
 | v=>v) d
def av:Nat:=6
def Qg (P:Program) (t:TypeId) (v:KV):KV:=cond (dw (bu P t) (gp (bu P t) v)) (ay P (ao P av) t (gp (bu P t) v)) .ax
def normArgs (P:Program):List TypeId→List KV→List KV
 | t::ts,v::vs=>Qg P t v::normArgs P ts vs
 | _,_=>[]
def aK (P:Program) (g:FuncId):List TypeId:=match P.funcs.toList[g]? with
 | some fn=>fn.params.toList
 | none=>[]
def lL (P:Program) (cfg:eN) (c:Call):qe:=
 match c.callee with
 | .value (.func g)=>match cfg.pc g with
  | some F=>cond cfg.x.fz (.CW g (fun vs=>cond (Nat.beq vs.length (aK P g).length) (F (normArgs P (aK P g) vs)) .no) c.args.toList)
    (.zW g (fun vs=>cond (Nat.beq vs.length (aK P g).length) (F (normArgs P (aK P g) vs)) .no) c.args.toList)
  | none=>.call (.func g) c.args.toList
 | .value f=>.call f c.args.toList
 | .builtin b=>yA P cfg.x.mt b c.argTypes.toList c.args.toList
 | .invoke _ _=>.bad
def wz:Fn→Bool
 | .yield _=>true
 | _=>false
def bV (P:Program) (cfg:eN):Op→qe
 | .move x=>.pure acL [x]
 | .assign x=>.pure (cond cfg.x.eg acM acL) [x]
 | .pick c a b=>.pure af7 [c,a,b]
 | .alloc t=>oQ P t
 | .box t x=>.act (zC (nq P t)) [x]
 | .build t parts=>se P t (parts.toList.map (·.1)) (parts.toList.map (·.2))
 | .buildSlice t len parts=>lj P t len (parts.toList.map (·.1)) (parts.toList.map (·.2))
 | .load t a=>.read (Td P t) [a]
 | .store t a x=>.act (Qd P t) [a,x]
 | .nilCheck x=>.pure Ye [x]
 | .binOp op t x y _=>.pure (ai9 P op t) [x,y]
 | .unOp op _ x=>.pure (kUn op) [x]
 | .convert src dst x=>oh P src dst x
 | .makeFunc fn first cap=>cond (wz fn) .bad (.pure (HB fn first.size) (first.toList++cap.toList))
 | .fieldAddr s x f=>mg P s x f
 | .field t x f=>sg P t x f
 | .indexAddr t x ix=>mh P t x ix
 | .index t x ix=>sh P t x ix
 | .extract t ix=>.pure (abH ix) [t]
 | .slice t x lo hi mx=>si P t x lo hi mx
 | .makeSlice t l c=>ui P cfg.x.mt t l c
 | .call c=>lL P cfg c
 | _=>.bad
def kL (t:bA):Operand→KV
 | .tmp i=>(t.get i).getD .ax
 | .const v=>cond (flat v) (gS v) .ax
 | .global _=>.ax
 | .func f=>.fn (.func f) [] []
def lz (t:bA):List Operand→List KV
 | []=>[]
 | x::xs=>kL t x::lz t xs
def o6 (t:bA) (dst:Option Tmp) (v:KV):bA:=
 match dst with
 | some d=>t.set v d
 | none=>t
def CX (args:List KV):KV→Option (FuncId×List KV)
 | .fn (.func g) first cap=>some (g,first++args++cap)
 | _=>none
inductive BK where
 | bool (b:Bool)
 | jE
 | no
def tj:KV→BK
 | .bool b=>.bool b
 | .jE _=>.jE
 | _=>.no
section
variable {R:Type}
abbrev mV (R:Type):=FuncId→List KV→az→(KV→az→Option R)→Option R
def Kb (bx:mV R) (t:bA) (A:az) (k:KV→az→Option R) (ins:qe):Option R:=
 qe.rec (motive:=fun _=>Option R)
  (fun f xs=>(f (lz t xs)).run fun v=>k v A)
  (fun f xs=>(f A (lz t xs)).run fun v=>k v A)
  (fun f xs=>(f A (lz t xs)).run fun p=>k p.1 p.2)
  (fun f xs=>(f (lz t xs)).run fun v=>k v A)
  (fun _ f xs=>(f (lz t xs)).run fun v=>k v A)
  (fun _ f xs=>(f (vL A (lz t xs)).1).run fun v=>k v (vL A (lz t xs)).2)
  (fun f args=>Option.rec (motive:=fun _=>Option R) none (fun p=>bx p.1 p.2 A k) (CX (lz t args) (kL t f)))
  none ins
def aeh (t:bA) (d:Option Tmp) (want:Bool) (yes no:bA→Option R):Option R:=
 Option.rec (motive:=fun _=>Option R) none (fun d=>BK.rec (motive:=fun _=>Option R)
  (fun b=>Bool.rec (motive:=fun _=>Option R)
   (Bool.rec (motive:=fun _=>Option R) (yes (t.set (.bool false) d)) (no (t.set (.bool false) d)) want)
   (Bool.rec (motive:=fun _=>Option R) (no (t.set (.bool true) d)) (yes (t.set (.bool true) d)) want) b)
  (no t) none (tj ((t.get d).getD .ax))) d
def xl (P:Program) (cfg:eN) (bx:mV R) (all:List Oper) (o:Oper) (k:bA→az→Option R) (t:bA) (A:az):Option R:=
 Option.rec (motive:=fun _=>Option R) (Kb bx t A (fun v A=>k (o6 t o.dst v) A) (bV P cfg o.op))
  (fun g=>aeh t ((all[g.1]?).bind (·.dst)) g.2 (fun t=>Kb bx t A (fun v A=>k (o6 t o.dst v) A) (bV P cfg o.op)) (fun t=>k (o6 t o.dst qU) A)) o.guard
def rY (P:Program) (cfg:eN) (bx:mV R) (all:List Oper) (k:bA→az→Option R) (os:List Oper):bA→az→Option R:=
 List.rec (motive:=fun _=>bA→az→Option R) k (fun o _ ih=>xl P cfg bx all o ih) os
abbrev KE (R:Type):=aw→bA→az→Option R
def acP (t:bA) (c:Operand) (f g:bA→Option R):Option R:=
 match c with
 | .tmp d=>BK.rec (motive:=fun _=>Option R) (fun b=>Bool.rec (motive:=fun _=>Option R) (g (t.set (.bool false) d)) (f (t.set (.bool true) d)) b) none none (tj ((t.get d).getD .ax))
 | c=>BK.rec (motive:=fun _=>Option R) (fun b=>Bool.rec (motive:=fun _=>Option R) (g t) (f t) b) none none (tj (kL t c))
def dC (i:qe):Nat:=qe.rec (motive:=fun _=>Nat) (fun _ _=>0) (fun _ _=>1) (fun _ _=>3) (fun _ _=>0) (fun _ _ _=>0) (fun _ _ _=>3) (fun _ _=>9) 9 i
def Xs:qe→List Operand
 | .pure _ xs=>xs
 | .read _ xs=>xs
 | .act _ xs=>xs
 | .look _ xs=>xs
 | .zW _ _ xs=>xs
 | .CW _ _ xs=>xs
 | .call f xs=>f::xs
 | .bad=>[]
def mN (P:Program) (cfg:eN) (all:List Oper) (o:Oper):List Tmp:=Cy all o++qb (Xs (bV P cfg o.op))
def sj (P:Program) (cfg:eN) (all:List Oper) (x y:Oper):Bool:=JY x.dst (mN P cfg all y)||JY y.dst (mN P cfg all x)||PL x.dst y.dst
def EM (P:Program) (cfg:eN) (all:List Oper) (x y:Oper):Bool:=
 sj P cfg all x y||(Nat.ble 3 (dC (bV P cfg x.op))&&!(Nat.beq (dC (bV P cfg y.op)) 0))||(Nat.ble 3 (dC (bV P cfg y.op))&&!(Nat.beq (dC (bV P cfg x.op)) 0))
def LR:Op→Bool
 | .alloc _=>true
 | .box _ _=>true
 | .call c=>match c.callee with
  | .builtin .append=>true
  | _=>false
 | _=>false
def Qh:Op→Option Operand
 | .store _ a _=>some a
 | _=>none
def ag8:Op→Option Operand
 | .load _ a=>some a
 | _=>none
def uj (i:Nat) (x:Operand):List Oper→Nat→Bool
 | [],_=>true
 | o::os,j=>(Nat.blt j i||!(JY o.dst (qb [x])))&&uj i x os (Nat.succ j)
def HC (i:Nat) (x:Option Operand) (all:List Oper):Bool:=
 match x with
 | some x=>uj i x all 0
 | none=>true
def HD (x y:Oper):Option (Option Operand×Operand):=
 match ag8 y.op with
 | some a=>cond (LR x.op) (some (none,a)) (match Qh x.op with
  | some a2=>some (some a2,a)
  | none=>none)
 | none=>none
def Vh (all:List Oper) (j:Nat) (x:Oper) (i:Nat) (y:Oper):Option (Option Operand×Operand):=
 match HD x y with
 | some p=>cond (uj i p.2 all 0&&HC j p.1 all) (some p) none
 | none=>match HD y x with
  | some p=>cond (uj j p.2 all 0&&HC i p.1 all) (some p) none
  | none=>none
def FT (t:bA) (nx:Nat) (p:Option Operand×Operand):Bool:=
 match kL t p.2 with
 | .tp _ _ _ _ _ _=>true
 | .ptr b _=>Nat.blt b nx&&(match p.1 with
  | some a2=>(match kL t a2 with
   | .ptr b2 _=>!(Nat.beq b b2)
   | .ap _ _ _ _ _=>true
   | _=>false)
  | none=>true)
 | _=>false
def Ov (t:bA) (nx:Nat) (l:List (Option Operand×Operand)):Bool:=List.rec (motive:=fun _=>Bool) true (fun p _ ih=>Bool.rec false ih (FT t nx p)) l
def A9 (P:Program) (cfg:eN) (all:List Oper) (b:List Nat) (i:Nat) (y:Oper):List Oper→Nat→List (Option Operand×Operand)
 | [],_=>[]
 | x::xs,j=>cond (Nat.ble i j||!EM P cfg all x y||o3 b i j) (A9 P cfg all b i y xs (Nat.succ j)) (match Vh all j x i y with
  | some p=>p::A9 P cfg all b i y xs (Nat.succ j)
  | none=>A9 P cfg all b i y xs (Nat.succ j))
def Ti (P:Program) (cfg:eN) (all:List Oper) (b:List Nat):List Oper→Nat→List (Option Operand×Operand)
 | [],_=>[]
 | o::os,i=>A9 P cfg all b i o all 0++Ti P cfg all b os (Nat.succ i)
def Ow (P:Program) (cfg:eN) (all:List Oper):Bool:=all.all fun o=>!(Nat.ble 3 (dC (bV P cfg o.op)))||LR o.op||(Qh o.op).isSome
def EN (P:Program) (cfg:eN) (all:List Oper):List (Option Operand×Operand):=Ti P cfg all (eI [] all) all 0
def LS (P:Program) (cfg:eN) (all:List Oper) (b:List Nat) (i:Nat) (y:Oper):List Oper→Nat→Bool
 | [],_=>true
 | x::xs,j=>(Nat.ble i j||!EM P cfg all x y||o3 b i j||(!sj P cfg all x y&&(Vh all j x i y).isSome))&&LS P cfg all b i y xs (Nat.succ j)
def FU (P:Program) (cfg:eN) (all:List Oper) (b:List Nat):List Oper→Nat→Bool
 | [],_=>true
 | o::os,i=>LS P cfg all b i o all 0&&FU P cfg all b os (Nat.succ i)
def aei (P:Program) (cfg:eN) (all:List Oper):Bool:=FD P all&&all.all (fun o=>Nat.ble (dC (bV P cfg o.op)) 3)&&FU P cfg all (eI [] all) all 0&&((EN P cfg all).isEmpty||Ow P cfg all)
def gQ (o:Oper):Option (TypeId×Tmp):=
 match o.op,o.guard,o.dst with
 | .alloc T,none,some d=>some (T,d)
 | _,_,_=>none
def uX (d:Tmp):List Oper→Bool
 | []=>false
 | o::os=>(match gQ o with
  | some (_,e)=>Nat.beq d e
  | none=>false)||uX d os
def rp (all:List Oper) (o:Oper):Option (TypeId×Tmp×Operand):=
 match o.op,o.guard,o.dst with
 | .store T (.tmp d) x,none,none=>cond (uX d all) (some (T,d,x)) none
 | _,_,_=>none
def pR (all:List Oper) (o:Oper):Bool:=(gQ o).isSome||(rp all o).isSome
def rq (all:List Oper) (d:Tmp):List Oper→Option (TypeId×Operand)
 | []=>none
 | o::os=>match rp all o with
  | some (T,e,x)=>cond (Nat.beq d e) (some (T,x)) (rq all d os)
  | none=>rq all d os
def FV (i:Nat) (d:Tmp):List Oper→Nat→Bool
 | [],_=>true
 | o::os,j=>(Nat.beq j i||!(JY o.dst [d]))&&FV i d os (Nat.succ j)
def zZ (all:List Oper) (i:Nat) (d:Tmp):List Oper→Nat→Bool
 | [],_=>true
 | o::os,j=>(Nat.beq j i||(match rp all o with
  | some (_,e,_)=>!(Nat.beq d e)
  | none=>true))&&zZ all i d os (Nat.succ j)
def Kc (all:List Oper):List Oper→Nat→Bool
 | [],_=>true
 | o::os,i=>(match gQ o with
  | some (_,d)=>FV i d all 0
  | none=>true)&&(match rp all o with
  | some (_,d,x)=>uj i x all 0&&zZ all i d all 0&&uX d (all.take i)&&!(JY (some d) (qb [x]))
  | none=>true)&&Kc all os (Nat.succ i)
def CC (P:Program) (cfg:eN) (all:List Oper) (b:List Nat) (i:Nat) (y:Oper):List Oper→Nat→Bool
 | [],_=>true
 | x::xs,j=>(Nat.ble i j||!sj P cfg all x y||o3 b i j)&&CC P cfg all b i y xs (Nat.succ j)
def xU (P:Program) (cfg:eN) (all:List Oper) (b:List Nat):List Oper→Nat→Bool
 | [],_=>true
 | o::os,i=>CC P cfg all b i o all 0&&xU P cfg all b os (Nat.succ i)
def FW (o:Oper):Option (Operand×List Operand):=
 match o.op,o.guard with
 | .call c,none=>match c.callee with
  | .value (.tmp d)=>some (.tmp d,c.args.toList)
  | _=>none
 | _,_=>none
def Cf (P:Program) (cfg:eN) (t:bA) (p:Operand×List Operand):qe:=
 match kL t p.1 with
 | .fn (.func g) [] []=>match cfg.pc g with
  | some F=>.zW g (fun vs=>cond (Nat.beq vs.length (aK P g).length) (F (normArgs P (aK P g) vs)) .no) p.2
  | none=>.bad
 | _=>.bad
def Qi (P:Program) (cfg:eN) (all:List Oper):Bool:=FD P all&&all.all (fun o=>pR all o||Nat.ble (dC (bV P cfg o.op)) 1||(FW o).isSome)&&xU P cfg all (eI [] all) all 0&&Kc all all 0
def af9 (P:Program) (cfg:eN) (bx:mV R) (all:List Oper) (o:Oper) (k:bA→az→Option R) (t:bA) (A:az):Option R:=
 Bool.rec (motive:=fun _=>Option R) (Option.rec (motive:=fun _=>Option R) (xl P cfg bx all o k t A) (fun p=>Kb bx t A (fun v A=>k (o6 t o.dst v) A) (Cf P cfg t p)) (FW o)) (k (o6 t o.dst .ax) A) (pR all o)
def Yk (P:Program) (cfg:eN) (bx:mV R) (all:List Oper) (k:bA→az→Option R) (os:List Oper):bA→az→Option R:=
 List.rec (motive:=fun _=>bA→az→Option R) k (fun o _ ih=>af9 P cfg bx all o ih) os
def uY (P:Program) (all:List Oper) (t:bA) (T:TypeId) (d:Tmp):Option (List KV):=
 match pQ P T with
 | some z=>cond (flat z&&z.cells.toList.all scalar&&ij (gS z).cells&&decide (some (gS z).cells.length=size? P T)) (match rq all d all with
  | some (T',x)=>cond (Nat.beq T T'&&decide (some (kL t x).cells.length=size? P T)&&ij (kL t x).cells) (some (kL t x).cells) none
  | none=>some (gS z).cells) none
 | none=>none
def Vi (P:Program) (all:List Oper) (t0:bA) (k:bA→az→Option R) (os:List Oper):bA→az→Option R:=
 List.rec (motive:=fun _=>bA→az→Option R) k (fun o _ ih t A=>Option.rec (motive:=fun _=>Option R) (ih t A) (fun p=>
  Option.rec (motive:=fun _=>Option R) none (fun cs=>ih (t.set (.ptr A.next 0) p.2) (A.new (.row cs (nq P p.1)))) (uY P all t0 p.1 p.2)) (gQ o)) os
def ajc (P:Program) (cfg:eN) (o:Oper):Bool:=
 match bV P cfg o.op with
 | .call _ _=>true
 | _=>false
def abJ (P:Program) (cfg:eN):List Oper→Nat→Option Nat
 | [],_=>none
 | o::os,i=>cond (ajc P cfg o) (some i) (abJ P cfg os (Nat.succ i))
def FX (P:Program) (cfg:eN) (b:List Nat) (i:Nat):List Oper→Nat→Bool
 | [],_=>true
 | q::os,j=>cond (Nat.beq j i) true (cond (Nat.blt j i) (cond (Nat.beq (dC (bV P cfg q.op)) 0) true (o3 b i j)) (o3 b j i))&&FX P cfg b i os (Nat.succ j)
def FY (P:Program) (cfg:eN) (b:List Nat) (all:List Oper):List Oper→Nat→Bool
 | [],_=>true
 | o::os,i=>cond (Nat.ble (dC (bV P cfg o.op)) 1) true (FX P cfg b i all 0)&&FY P cfg b all os (Nat.succ i)
def HF (P:Program) (cfg:eN) (all:List Oper):Bool:=
 match abJ P cfg all 0 with
 | some _=>FD P all&&xU P cfg all (eI [] all) all 0&&FY P cfg (eI [] all) all all 0
 | none=>false
def Yl (P:Program) (cfg:eN) (bx:mV R) (ops:List Oper) (draw:Bool) (k:bA→az→Option R):bA→az→Option R:=
 Bool.rec (motive:=fun _=>bA→az→Option R) (rY P cfg bx ops k ops) (Bool.rec (motive:=fun _=>bA→az→Option R)
  (Bool.rec (motive:=fun _=>bA→az→Option R)
   (Bool.rec (motive:=fun _=>bA→az→Option R) (fun _ _=>none) (Yk P cfg bx ops (fun t A=>Vi P ops t k ops t A) ops) (Qi P cfg ops))
   (rY P cfg bx ops k ops) (HF P cfg ops))
  (fun t A=>rY P cfg bx ops (fun t' A'=>Bool.rec (motive:=fun _=>Option R) none (k t' A') (Ov t' A.next (EN P cfg ops))) ops t A) (aei P cfg ops)) draw
def acQ (k:KE R) (f:bA→az→Option R):KE R:=fun e t A=>aw.rec (motive:=fun _=>Option R) (f t A) (fun i=>k (.exit i) t A) (fun l=>k (.goto l) t A) (k .ret t A) e
def ag9 (id:Nat) (k:KE R):KE R:=fun e t A=>aw.rec (motive:=fun _=>Option R) (k .normal t A) (fun i=>Bool.rec (motive:=fun _=>Option R) (k (.exit i) t A) (k .normal t A) (Nat.beq i id)) (fun l=>k (.goto l) t A) (k .ret t A) e
def Ym (k:KE R):KE R:=fun e t A=>aw.rec (motive:=fun _=>Option R) (k .normal t A) (fun i=>k (.exit i) t A) (fun _=>none) (k .ret t A) e
def Tj (g:KE R→bA→az→Option R) (k:KE R) (L:Nat):bA→az→Option R:=
 Nat.rec (motive:=fun _=>bA→az→Option R) (fun _ _=>none) (fun _ ih=>g (acQ k ih)) L
def ti.run (k:KV→az→Option R) (x:ti):Option R:=ti.rec (motive:=fun _=>Option R) none (fun v A=>k v A) (fun c _ _ rx ry=>Bool.rec (motive:=fun _=>Option R) ry rx c) x
def DV.run (k:KE R) (x:DV):Option R:=DV.rec (motive:=fun _=>Option R) none (fun e t A=>k e t A) (fun c _ _ rx ry=>Bool.rec (motive:=fun _=>Option R) ry rx c) x
def aga (F:bA→az→DV) (k:KE R) (t:bA) (A:az):Option R:=(F t A).run k
def pS (P:Program) (cfg:eN) (bx:mV R) (L:Nat) (f:FuncId) (c:Code):Nat→KE R→bA→az→Option R:=
 Code.rec (motive:=fun _=>Nat→KE R→bA→az→Option R) (fun _ k t A=>k .normal t A)
  (fun _ ops d _ k=>Yl P cfg bx ops.toList d (fun t A=>k .normal t A))
  (fun _ _ a b p k=>a (2 * p) (acQ k fun t A=>b (2 * p+1) k t A))
  (fun c _ _ a b p k t A=>acP t c (fun t=>a (2 * p) k t A) (fun t=>b (2 * p+1) k t A))
  (fun id _ g p k=>g (2 * p) (ag9 id k))
  (fun _ g p k=>Option.rec (motive:=fun _=>bA→az→Option R) (Tj (g (2 * p)) k L) (fun F=>aga F k) (cfg.lp f p))
  (fun _ _ _ _ _ _ _ _ _ _=>none) (fun id _ k t A=>k (.exit id) t A) (fun _ g p k=>g (2 * p) (Ym k)) (fun _ _ k t A=>k .normal t A) (fun l _ k t A=>k (.goto l) t A) (fun _ k t A=>k .ret t A) (fun _ _ _ _ _=>none) c
def nu:List KV→Nat→bA→bA
 | [],_,t=>t
 | v::vs,i,t=>nu vs (Nat.succ i) (t.set v i)
def FZ (P:Program) (A:az) (t:bA):List ResultVar→Option (List KV)
 | []=>some []
 | .tmp x::rs=>(FZ P A t rs).map (kL t (.tmp x)::·)
 | .cell a ty::rs=>match Td P ty A [kL t (.tmp a)] with
  | .ok v=>(FZ P A t rs).map (v::·)
  | _=>none
def CY:List KV→KV
 | [v]=>v
 | vs=>.jE vs
def aej (P:Program) (fn:Func) (k:List KV→az→Option R):KE R:=fun e t A=>
 aw.rec (motive:=fun _=>Option R) (Option.rec (motive:=fun _=>Option R) none (fun vs=>k vs A) (FZ P A t fn.results.toList)) (fun _=>none) (fun _=>none) (Option.rec (motive:=fun _=>Option R) none (fun vs=>k vs A) (FZ P A t fn.results.toList)) e
def Tk (P:Program) (cfg:eN) (bx:mV R) (L:Nat) (f:FuncId) (args:List KV) (A:az) (k:List KV→az→Option R):Option R:=
 match P.funcs.toList[f]? with
 | some fn=>match fn.body with
  | some c=>pS P cfg bx L f c 1 (aej P fn k) (nu args 0 .leaf) A
  | none=>none
 | none=>none
def DW (P:Program) (cfg:eN) (L:Nat) (n:Nat):mV R:=
 Nat.rec (motive:=fun _=>mV R) (fun _ _ _ _=>none) (fun _ ih f args A k=>
  Bool.rec (motive:=fun _=>Option R) none (Option.rec (motive:=fun _=>Option R) (Tk P cfg ih L f args A fun vs B=>k (CY vs) B) (fun F=>ti.run k (F args A)) (cfg.x.ac f)) (Nat.blt f yB)) n
end
def uZ (P:Program):List TypeId→List KV→List KV
 | t::ts,v::vs=>Qg P t v::uZ P ts vs
 | _,_=>[]
def ru (P:Program) (g:FuncId):List TypeId:=match P.funcs.toList[g]? with
 | some fn=>fn.resultTypes.toList
 | none=>[]
def dn (P:Program) (cfg:eN) (L n:Nat) (f:FuncId) (args:List KV):Option KV:=
 Tk P cfg (DW P cfg L n) L f args .empty fun vs A=>Bool.rec (motive:=fun _=>Option KV) none (some (CY (uZ P (ru P f) (vL A vs).1))) (Nat.beq vs.length (ru P f).length)
end
end Go.K
end
section
namespace Go.K
open Go Go.aG
structure aek where
 cs:List Value
 bU:Nat
 own:Bool
 bQ:Option (Nat×Nat)
structure Env where
 κ:Nat→Option Nat
 z:Nat→Option aek
 φ:Nat→Option Nat
 α:Nat→Option (Nat×Nat×Nat)
structure Env.le (E E' : Env):Prop where
 α:∀ b p,E.α b=some p→E'.α b=some p
 κ:∀ b x,E.κ b=some x→E'.κ b=some x
 z:∀ b r,E.z b=some r→E'.z b=some r
 φ:∀ b g,E.φ b=some g→E'.φ b=some g
theorem Env.le_refl (E:Env):E.le E:=⟨fun _ _ h=>h,fun _ _ h=>h,fun _ _ h=>h,fun _ _ h=>h⟩
theorem Env.le_trans {E F G:Env} (h:E.le F) (k:F.le G):E.le G:=⟨fun b p e=>k.α b p (h.α b p e),fun b x e=>k.κ b x (h.κ b x e),fun b x e=>k.z b x (h.z b x e),fun b x e=>k.φ b x (h.φ b x e)⟩
def n6 (sz off:Nat) (cs es:List Value):Prop:=∀ (i:Nat) (x:Value),es[i]? = some x→x.cells.size=sz∧∀ (k:Nat) (y:Value),x.cells[k]? = some y→cs[off+i * sz+k]? = some y
def Xt (E:Env) (sz:Nat) (a:Option Addr) (n:Nat) (es:List Value):Prop:=
 (a=none∧n=0)∨∃ b off r,a=some ⟨b,off,none⟩∧E.z b=some r∧r.bU=sz∧n6 sz off r.cs es
def LU (E:Env) (sz:Nat) (a:Option Addr) (n cap:Nat):Mk→Prop
 | .any=>True
 | .exact=>cap=n∧∀ b off,a=some ⟨b,off,none⟩→∃ r,E.z b=some r∧r.own=true∧r.bQ=none∧off+cap * sz=r.cs.length
 | .bb f=>cap=n∧((n=0∧a=none)∨∃ b r g,a=some ⟨b,0,none⟩∧E.z b=some r∧r.own=true∧E.φ f=some g∧r.bQ=some (g,0)∧r.cs.length=n * sz)
structure je (P:Program) (T:TypeId) (n:Nat) (es:List KV) (acc:Nat→KV):Prop where
 len:n=es.length
 acc:∀ i,i < n→acc i=es.getD i .ax
 typed:fM (bu P T) es=true
def bg (P:Program) (T:TypeId):Nat:=(bu P T).ks.length
def ael (P:Program) (E:Env) (T:TypeId) (m:Mk) (n:Nat) (bq:List Value) (v:Value):Prop:=
 ∃ a cap,v = .slice a n cap∧n≤cap∧Xt E (bg P T) a n bq∧LU E (bg P T) a n cap m
structure Xu (P:Program) (T Tc:TypeId) (k:Nat):Prop where
 is:∀ m c,(bu P Tc).ks[m]? = some c→(bu P T).ks[k+m]? = some c
def aem (P:Program) (E:Env) (T Tc:TypeId) (i k:Nat) (es:List KV) (bq:List Value) (v:Value):Prop:=
 i < es.length∧Xu P T Tc k∧∃ b off r,v = .pointer (some ⟨b,off+i * bg P T+k,none⟩)∧E.z b=some r∧n6 (bg P T) off r.cs bq
def Vj (P:Program) (E:Env) (T:TypeId) (b o n:Nat) (v:Value):Prop:=
 (n=0∧o=0∧v = .slice none 0 0)∨∃ x L N c,E.α b=some (x,L,N)∧v = .slice (some ⟨x,o * bg P T,none⟩) n c∧n≤c∧o+n≤N∧(o+c) * bg P T=L
def abK (P:Program) (E:Env) (T Tc:TypeId) (b i k:Nat) (v:Value):Prop:=
 ∃ x L N,E.α b=some (x,L,N)∧Xu P T Tc k∧i < N∧v = .pointer (some ⟨x,i * bg P T+k,none⟩)
mutual
def VK (P:Program) (E:Env):KV→Value→Prop
 | .int k n,v=>v = .int k n
 | .bool b,v=>v = .bool b
 | .str s,v=>v = .string s
 | .agg cs,v=>∃ l,v = .agg ⟨l⟩∧bf P E cs l
 | .jE cs,v=>∃ l,v = .tuple ⟨l⟩∧bf P E cs l
 | .ts T m n es acc,v=>je P T n es acc∧∃ bq,bf P E es bq∧ael P E T m n bq v
 | .tp T Tc i k es acc,v=>je P T es.length es acc∧∃ bq,bf P E es bq∧aem P E T Tc i k es bq v
 | .al T b o n,v=>Vj P E T b o n v
 | .ap T Tc b i k,v=>abK P E T Tc b i k v
 | .ptr b off,v=>∃ x,E.κ b=some x∧v = .pointer (some ⟨x,off,none⟩)
 | .sl b off n c,v=>∃ x,E.κ b=some x∧v = .slice (some ⟨x,off,none⟩) n c
 | .BZ,v=>v = .pointer none
 | .kQ,v=>v = .slice none 0 0
 | .yv,v=>v = .map none
 | .map b,v=>∃ x,E.κ b=some x∧v = .map (some x)
 | .fn f first cap,v=>∃ l m,v = .func f ⟨l⟩ ⟨m⟩∧bf P E first l∧bf P E cap m
 | .CU,v=>v = .nilFunc
 | .iface t x,v=>∃ y,v = .iface t y∧VK P E x y
 | .CV,v=>v = .nilIface
 | .ax,_=>True
def bf (P:Program) (E:Env):List KV→List Value→Prop
 | [],l=>l = []
 | x::xs,l=>∃ y ys,l=y::ys∧VK P E x y∧bf P E xs ys
end
variable {P:Program} {E E' : Env}
theorem LU.mono (h:E.le E') {sz:Nat} {a:Option Addr} {n cap:Nat} {m:Mk} (k:LU E sz a n cap m):LU E' sz a n cap m:=by
 cases m with
 | any=>trivial
 | exact=>exact ⟨k.1,fun b off e=>by obtain ⟨r,h1,h2⟩:=k.2 b off e; exact ⟨r,h.z _ _ h1,h2⟩⟩
 | bb f=>
  refine ⟨k.1,k.2.imp id ?_⟩
  rintro ⟨b,r,g,h1,h2,h3,h4,h5⟩
  exact ⟨b,r,g,h1,h.z _ _ h2,h3,h.φ _ _ h4,h5⟩
theorem Xt.mono (h:E.le E') {sz:Nat} {a:Option Addr} {n:Nat} {es:List Value} (k:Xt E sz a n es):Xt E' sz a n es:=by
 refine k.imp id ?_
 rintro ⟨b,off,r,h1,h2,h3⟩
 exact ⟨b,off,r,h1,h.z _ _ h2,h3⟩
theorem ael.mono (h:E.le E') {T:TypeId} {m:Mk} {n:Nat} {es:List Value} {v:Value} (k:ael P E T m n es v):ael P E' T m n es v:=by
 obtain ⟨a,cap,h1,h2,h3,h4⟩:=k
 exact ⟨a,cap,h1,h2,h3.mono h,h4.mono h⟩
theorem aem.mono (h:E.le E') {T Tc:TypeId} {i k:Nat} {es:List KV} {bq:List Value} {v:Value} (q:aem P E T Tc i k es bq v):aem P E' T Tc i k es bq v:=by
 obtain ⟨h1,h2,b,off,r,h3,h4,h5⟩:=q
 exact ⟨h1,h2,b,off,r,h3,h.z _ _ h4,h5⟩
theorem Vj.mono (h:E.le E') {T:TypeId} {b o n:Nat} {v:Value} (q:Vj P E T b o n v):Vj P E' T b o n v:=by
 refine q.imp id ?_
 rintro ⟨x,L,N,c,h1,h2⟩
 exact ⟨x,L,N,c,h.α _ _ h1,h2⟩
theorem abK.mono (h:E.le E') {T Tc:TypeId} {b i k:Nat} {v:Value} (q:abK P E T Tc b i k v):abK P E' T Tc b i k v:=by
 obtain ⟨x,L,N,h1,h2⟩:=q
 exact ⟨x,L,N,h.α _ _ h1,h2⟩
mutual
theorem VK.mono (h:E.le E'):∀ {v:KV} {v' : Value},VK P E v v'→VK P E' v v'
 | .int k n,v,q=>q
 | .bool b,v,q=>q
 | .str s,v,q=>q
 | .agg cs,v,q=>by
  simp only [VK] at q ⊢
  obtain ⟨l,e,q⟩:=q
  exact ⟨l,e,bf.mono h q⟩
 | .jE cs,v,q=>by
  simp only [VK] at q ⊢
  obtain ⟨l,e,q⟩:=q
  exact ⟨l,e,bf.mono h q⟩
 | .ts T m n es acc,v,q=>by
  simp only [VK] at q ⊢
  obtain ⟨t,l,q,k⟩:=q
  exact ⟨t,l,bf.mono h q,k.mono h⟩
 | .tp T Tc i k es acc,v,q=>by
  simp only [VK] at q ⊢
  obtain ⟨t,l,q,k⟩:=q
  exact ⟨t,l,bf.mono h q,k.mono h⟩
 | .al T b o n,v,q=>by
  simp only [VK] at q ⊢
  exact q.mono h
 | .ap T Tc b i k,v,q=>by
  simp only [VK] at q ⊢
  exact q.mono h
 | .ptr b off,v,q=>by
  simp only [VK] at q ⊢
  obtain ⟨x,e,q⟩:=q
  exact ⟨x,h.κ _ _ e,q⟩
 | .sl b off n c,v,q=>by
  simp only [VK] at q ⊢
  obtain ⟨x,e,q⟩:=q
  exact ⟨x,h.κ _ _ e,q⟩
 | .BZ,v,q=>q
 | .kQ,v,q=>q
 | .yv,v,q=>q
 | .map b,v,q=>by
  simp only [VK] at q ⊢
  obtain ⟨x,e,q⟩:=q
  exact ⟨x,h.κ _ _ e,q⟩
 | .fn f first cap,v,q=>by
  simp only [VK] at q ⊢
  obtain ⟨l,m,e,q1,q2⟩:=q
  exact ⟨l,m,e,bf.mono h q1,bf.mono h q2⟩
 | .CU,v,q=>q
 | .iface t x,v,q=>by
  simp only [VK] at q ⊢
  obtain ⟨y,e,q⟩:=q
  exact ⟨y,e,VK.mono h q⟩
 | .CV,v,q=>q
 | .ax,v,q=>q
theorem bf.mono (h:E.le E'):∀ {v:List KV} {v' : List Value},bf P E v v'→bf P E' v v'
 | [],_,q=>q
 | x::xs,_,q=>by
  simp only [bf] at q ⊢
  obtain ⟨y,ys,e,q1,q2⟩:=q
  exact ⟨y,ys,e,VK.mono h q1,bf.mono h q2⟩
end
theorem bf.nil:bf P E [] []:=by simp [bf]
theorem bf.cons {x:KV} {y:Value} {xs:List KV} {ys:List Value} (h:VK P E x y) (k:bf P E xs ys):bf P E (x::xs) (y::ys):=by
 simp only [bf]; exact ⟨y,ys,rfl,h,k⟩
theorem bf.ck {l:List Value} (h:bf P E [] l):l = []:=by simpa [bf] using h
theorem bf.cons_inv {x:KV} {xs:List KV} {l:List Value} (h:bf P E (x::xs) l):∃ y ys,l=y::ys∧VK P E x y∧bf P E xs ys:=by simpa [bf] using h
theorem bf.eU {x:KV} {l:List Value} (h:bf P E [x] l):∃ y,l = [y]∧VK P E x y:=by
 obtain ⟨y,ys,rfl,h1,h2⟩:=h.cons_inv
 rw [h2.ck]; exact ⟨y,rfl,h1⟩
theorem bf.kR {x y:KV} {l:List Value} (h:bf P E [x,y] l):∃ x' y',l = [x',y']∧VK P E x x'∧VK P E y y':=by
 obtain ⟨a,ys,rfl,h1,h2⟩:=h.cons_inv
 obtain ⟨b,rfl,h3⟩:=h2.eU
 exact ⟨a,b,rfl,h1,h3⟩
theorem bf.Ox {x y u:KV} {l:List Value} (h:bf P E [x,y,u] l):∃ x' y' u',l = [x',y',u']∧VK P E x x'∧VK P E y y'∧VK P E u u':=by
 obtain ⟨a,ys,rfl,h1,h2⟩:=h.cons_inv
 obtain ⟨b,c,rfl,h3,h4⟩:=h2.kR
 exact ⟨a,b,c,rfl,h1,h3,h4⟩
theorem bf.length:∀ {l:List KV} {l' : List Value},bf P E l l'→l'.length=l.length
 | [],l',h=>by rw [h.ck]; rfl
 | x::xs,l',h=>by
  obtain ⟨y,ys,rfl,_,k⟩:=h.cons_inv
  simp [bf.length k]
theorem bf.get:∀ {l:List KV} {l' : List Value} {i:Nat} {v:KV},bf P E l l'→l[i]? = some v→∃ v',l'[i]? = some v'∧VK P E v v'
 | [],_,_,_,_,e=>by simp at e
 | x::xs,l',i,v,h,e=>by
  obtain ⟨y,ys,rfl,wx,k⟩:=h.cons_inv
  cases i with
  | zero=>simp at e; subst e; exact ⟨y,rfl,wx⟩
  | succ i=>simp at e; simpa using bf.get k e
theorem bf.append:∀ {a:List KV} {a' : List Value} {b:List KV} {b' : List Value},bf P E a a'→bf P E b b'→bf P E (a++b) (a'++b')
 | [],a',b,b',h,k=>by rw [h.ck]; exact k
 | x::xs,a',b,b',h,k=>by
  obtain ⟨y,ys,rfl,wx,m⟩:=h.cons_inv
  exact .cons wx (bf.append m k)
theorem bf.take:∀ (n:Nat) {l:List KV} {l' : List Value},bf P E l l'→bf P E (l.take n) (l'.take n)
 | 0,_,_,_=>by simp [bf.nil]
 | n+1,[],l',h=>by rw [h.ck]; simp [bf.nil]
 | n+1,x::xs,l',h=>by
  obtain ⟨y,ys,rfl,wx,k⟩:=h.cons_inv
  simpa using bf.cons wx (bf.take n k)
theorem bf.drop:∀ (n:Nat) {l:List KV} {l' : List Value},bf P E l l'→bf P E (l.drop n) (l'.drop n)
 | 0,_,_,h=>by simpa using h
 | n+1,[],l',h=>by rw [h.ck]; simp [bf.nil]
 | n+1,x::xs,l',h=>by
  obtain ⟨y,ys,rfl,_,k⟩:=h.cons_inv
  simpa using bf.drop n k
theorem LV {α:Type} : ∀ {n:Nat} {l r:List α},uh n l=some r→r=l.take n∧n≤l.length
 | 0,l,r,h=>by simp [uh] at h; subst h; simp
 | n+1,[],r,h=>by simp [uh] at h
 | n+1,x::xs,r,h=>by
  simp only [uh,Option.map_eq_some_iff] at h
  obtain ⟨q,hq,rfl⟩:=h
  obtain ⟨rfl,hn⟩:=LV hq
  exact ⟨by simp,by simpa using hn⟩
theorem F1 {α:Type} : ∀ (n:Nat) (l:List α),zX n l=l.drop n
 | 0,l=>rfl
 | n+1,[]=>rfl
 | n+1,x::xs=>by simp [zX,F1 n xs]
theorem F2:∀ {n:Nat} {l:List Value},n≤l.length→takeN n l=some (l.take n)
 | 0,l,_=>rfl
 | n+1,[],h=>by simp at h
 | n+1,x::xs,h=>by rw [U7,F2 (n:=n) (l:=xs) (by simpa using h)]; rfl
theorem bf.uh {n k:Nat} {l r:List KV} {l' : List Value} (h:bf P E l l') (e:uh n (zX k l)=some r):∃ r',takeN n (CI k l')=some r'∧bf P E r r'∧r' = (l'.drop k).take n:=by
 obtain ⟨rfl,hn⟩:=LV e
 rw [F1] at hn ⊢
 have hl:=h.length
 rw [rh]
 refine ⟨_,F2 ?_,(h.drop k).take n,rfl⟩
 simp only [List.length_drop] at hn ⊢
 omega
theorem bf.lh:∀ {n:Nat} {l:List KV} {l' : List Value} {vs r:List KV} {cT:List Value},lh n l vs=some r→bf P E l l'→bf P E vs cT→∃ r',ie n l' cT=some r'∧bf P E r r'
 | 0,l,l',[],r,cT,h,hl,hv=>by simp [K.lh] at h; subst h; rw [hv.ck]; exact ⟨l',xh l',hl⟩
 | 0,[],l',_::_,r,cT,h,hl,hv=>by simp [K.lh] at h
 | 0,x::l,l',v::vs,r,cT,h,hl,hv=>by
  obtain ⟨y,ys,rfl,_,k⟩:=hl.cons_inv
  obtain ⟨u,us,rfl,h1,h2⟩:=hv.cons_inv
  simp only [K.lh,Option.map_eq_some_iff] at h
  obtain ⟨q,hq,rfl⟩:=h
  obtain ⟨r',e,hr⟩:=bf.lh hq k h2
  exact ⟨u::r',by simp [tZ,e],.cons h1 hr⟩
 | n+1,[],l',[],r,cT,h,hl,hv=>by simp [K.lh] at h; subst h; rw [hl.ck,hv.ck]; exact ⟨[],rfl,.nil⟩
 | n+1,[],l',_::_,r,cT,h,hl,hv=>by simp [K.lh] at h
 | n+1,x::l,l',vs,r,cT,h,hl,hv=>by
  obtain ⟨y,ys,rfl,h1,k⟩:=hl.cons_inv
  simp only [K.lh,Option.map_eq_some_iff] at h
  obtain ⟨q,hq,rfl⟩:=h
  obtain ⟨r',e,hr⟩:=bf.lh hq k hv
  exact ⟨y::r',by simp [qF,e],.cons h1 hr⟩
theorem bf.PM:∀ {l:List KV} {l' : List Value},l'.length=l.length→(∀ (i:Nat) (v:KV) (v' : Value),l[i]? = some v→l'[i]? = some v'→VK P E v v')→bf P E l l'
 | [],l',h,_=>by cases l' <;> simp_all [bf.nil]
 | x::xs,l',h,k=>by
  cases l' with
  | nil=>simp at h
  | cons y ys=>exact .cons (k 0 x y rfl rfl) (bf.PM (by simpa using h) fun i v v' e e'=>k (i+1) v v' (by simpa using e) (by simpa using e'))
theorem VK.du {k:IntKind} {n:Int} {v:Value} (h:VK P E (.int k n) v):v = .int k n:=by simpa [VK] using h
theorem VK.gd {b:Bool} {v:Value} (h:VK P E (.bool b) v):v = .bool b:=by simpa [VK] using h
theorem VK.rv {s:ByteArray} {v:Value} (h:VK P E (.str s) v):v = .string s:=by simpa [VK] using h
theorem VK.mc {cs:List KV} {v:Value} (h:VK P E (.agg cs) v):∃ l,v = .agg ⟨l⟩∧bf P E cs l:=by simpa [VK] using h
theorem VK.Kd {cs:List KV} {v:Value} (h:VK P E (.jE cs) v):∃ l,v = .tuple ⟨l⟩∧bf P E cs l:=by simpa [VK] using h
theorem VK.iW {b off:Nat} {v:Value} (h:VK P E (.ptr b off) v):∃ x,E.κ b=some x∧v = .pointer (some ⟨x,off,none⟩):=by simpa [VK] using h
theorem VK.LW {b off n c:Nat} {v:Value} (h:VK P E (.sl b off n c) v):∃ x,E.κ b=some x∧v = .slice (some ⟨x,off,none⟩) n c:=by simpa [VK] using h
theorem VK.DX {f:Fn} {a b:List KV} {v:Value} (h:VK P E (.fn f a b) v):∃ l m,v = .func f ⟨l⟩ ⟨m⟩∧bf P E a l∧bf P E b m:=by simpa [VK] using h
theorem VK.mi {T:TypeId} {m:Mk} {n:Nat} {es:List KV} {acc:Nat→KV} {v:Value} (h:VK P E (.ts T m n es acc) v):je P T n es acc∧∃ bq,bf P E es bq∧ael P E T m n bq v:=by simpa [VK] using h
theorem VK.HG {T Tc:TypeId} {i k:Nat} {es:List KV} {acc:Nat→KV} {v:Value} (h:VK P E (.tp T Tc i k es acc) v):je P T es.length es acc∧∃ bq,bf P E es bq∧aem P E T Tc i k es bq v:=by simpa [VK] using h
theorem VK.u3 {T:TypeId} {b o n:Nat} {v:Value} (h:VK P E (.al T b o n) v):Vj P E T b o n v:=by simpa [VK] using h
theorem VK.DY {T Tc:TypeId} {b i k:Nat} {v:Value} (h:VK P E (.ap T Tc b i k) v):abK P E T Tc b i k v:=by simpa [VK] using h
theorem VK.M5 {T:TypeId} {b o n:Nat} {v:Value} (h:Vj P E T b o n v):VK P E (.al T b o n) v:=by simpa [VK] using h
theorem VK.ajd {T Tc:TypeId} {b i k:Nat} {v:Value} (h:abK P E T Tc b i k v):VK P E (.ap T Tc b i k) v:=by simpa [VK] using h
theorem Vj.slice {T:TypeId} {b o n:Nat} {v:Value} (h:Vj P E T b o n v):∃ a c,v = .slice a n c:=by
 rcases h with ⟨rfl,_,rfl⟩ | ⟨x,L,N,c,_,rfl,_⟩
 ·exact ⟨_,_,rfl⟩
 ·exact ⟨_,_,rfl⟩
theorem VK.nQ {v:Value} (h:VK P E .kQ v):v = .slice none 0 0:=by simpa [VK] using h
theorem VK.LX {v:Value} (h:VK P E .BZ v):v = .pointer none:=by simpa [VK] using h
theorem VK.mkInt {k:IntKind} {n:Int} : VK P E (.int k n) (.int k n):=by simp [VK]
theorem VK.sk {b:Bool} : VK P E (.bool b) (.bool b):=by simp [VK]
theorem VK.mkStr {s:ByteArray} : VK P E (.str s) (.string s):=by simp [VK]
theorem VK.oY {cs:List KV} {l:List Value} (h:bf P E cs l):VK P E (.agg cs) (.agg ⟨l⟩):=by simp only [VK]; exact ⟨l,rfl,h⟩
theorem VK.Yn {cs:List KV} {l:List Value} (h:bf P E cs l):VK P E (.jE cs) (.tuple ⟨l⟩):=by simp only [VK]; exact ⟨l,rfl,h⟩
theorem VK.xi {b x off:Nat} (h:E.κ b=some x):VK P E (.ptr b off) (.pointer (some ⟨x,off,none⟩)):=by simp only [VK]; exact ⟨x,h,rfl⟩
theorem VK.aha {b x off n c:Nat} (h:E.κ b=some x):VK P E (.sl b off n c) (.slice (some ⟨x,off,none⟩) n c):=by simp only [VK]; exact ⟨x,h,rfl⟩
theorem VK.aen {f:Fn} {a b:List KV} {l m:List Value} (h:bf P E a l) (k:bf P E b m):VK P E (.fn f a b) (.func f ⟨l⟩ ⟨m⟩):=by simp only [VK]; exact ⟨l,m,rfl,h,k⟩
theorem VK.undef:VK P E qU undef:=VK.Yn .nil
theorem VK.rz {v:Value} : VK P E .ax v:=by simp [VK]
theorem VK.cells {v:KV} {v' : Value} (h:VK P E v v') (hu:uW v=true):bf P E v.cells v'.cells.toList:=by
 cases v with
 | agg cs=>obtain ⟨l,rfl,q⟩:=h.mc; exact q
 | int k n=>have:=h.du; subst this; exact .cons h .nil
 | bool b=>have:=h.gd; subst this; exact .cons h .nil
 | str b=>have:=h.rv; subst this; exact .cons h .nil
 | jE cs=>have q:=h; obtain ⟨l,rfl,_⟩:=h.Kd; exact .cons q .nil
 | ts T m n es acc=>have q:=h; obtain ⟨_,_,_,a,cap,rfl,_⟩:=h.mi; exact .cons q .nil
 | tp T Tc i k es acc=>have q:=h; obtain ⟨_,_,_,_,_,b,off,r,rfl,_⟩:=h.HG; exact .cons q .nil
 | al T b o n=>have q:=h; obtain ⟨a,c,rfl⟩:=h.u3.slice; exact .cons q .nil
 | ap T Tc b i k=>have q:=h; obtain ⟨x,L,N,_,_,_,rfl⟩:=h.DY; exact .cons q .nil
 | ptr b off=>have q:=h; obtain ⟨x,_,rfl⟩:=h.iW; exact .cons q .nil
 | sl b off n c=>have q:=h; obtain ⟨x,_,rfl⟩:=h.LW; exact .cons q .nil
 | BZ=>have q:=h; simp only [VK] at h; subst h; exact .cons q .nil
 | kQ=>have q:=h; simp only [VK] at h; subst h; exact .cons q .nil
 | yv=>have q:=h; simp only [VK] at h; subst h; exact .cons q .nil
 | map b=>have q:=h; simp only [VK] at h; obtain ⟨x,_,rfl⟩:=h; exact .cons q .nil
 | fn f a b=>have q:=h; obtain ⟨l,m,rfl,_⟩:=h.DX; exact .cons q .nil
 | CU=>have q:=h; simp only [VK] at h; subst h; exact .cons q .nil
 | iface t x=>have q:=h; simp only [VK] at h; obtain ⟨y,rfl,_⟩:=h; exact .cons q .nil
 | CV=>have q:=h; simp only [VK] at h; subst h; exact .cons q .nil
 | ax=>simp [uW] at hu
theorem VK.scalar {v:KV} {v' : Value} (h:VK P E v v') (ho:one v=true):aG.scalar v' = true:=by
 cases v with
 | agg cs=>simp [one] at ho
 | jE cs=>simp [one] at ho
 | ax=>simp [one] at ho
 | int k n=>have:=h.du; subst this; rfl
 | bool b=>have:=h.gd; subst this; rfl
 | str b=>have:=h.rv; subst this; rfl
 | ts T m n es acc=>obtain ⟨_,_,_,a,cap,rfl,_⟩:=h.mi; rfl
 | tp T Tc i k es acc=>obtain ⟨_,_,_,_,_,b,off,r,rfl,_⟩:=h.HG; rfl
 | al T b o n=>obtain ⟨a,c,rfl⟩:=h.u3.slice; rfl
 | ap T Tc b i k=>obtain ⟨x,L,N,_,_,_,rfl⟩:=h.DY; rfl
 | ptr b off=>obtain ⟨x,_,rfl⟩:=h.iW; rfl
 | sl b off n c=>obtain ⟨x,_,rfl⟩:=h.LW; rfl
 | BZ=>simp only [VK] at h; subst h; rfl
 | kQ=>simp only [VK] at h; subst h; rfl
 | yv=>simp only [VK] at h; subst h; rfl
 | map b=>simp only [VK] at h; obtain ⟨x,_,rfl⟩:=h; rfl
 | fn f a b=>obtain ⟨l,m,rfl,_⟩:=h.DX; rfl
 | CU=>simp only [VK] at h; subst h; rfl
 | iface t x=>simp only [VK] at h; obtain ⟨y,rfl,_⟩:=h; rfl
 | CV=>simp only [VK] at h; subst h; rfl
theorem bf.scalar:∀ {l:List KV} {l' : List Value},bf P E l l'→ij l=true→∀ v∈l',aG.scalar v=true
 | [],l',h,_,v,hv=>by rw [h.ck] at hv; simp at hv
 | x::xs,l',h,ho,v,hv=>by
  obtain ⟨y,ys,rfl,h1,h2⟩:=h.cons_inv
  simp only [ij,Bool.and_eq_true] at ho
  rcases List.mem_cons.1 hv with rfl | hv
  ·exact h1.scalar ho.1
  ·exact bf.scalar h2 ho.2 v hv
theorem wA {v:KV} (h:ij v.cells=true):uW v=true:=by
 cases v <;> first | rfl | simp [KV.cells,ij,one] at h
mutual
theorem VK.gS:∀ (v:Value),VK P E (gS v) v
 | .bool b=>by simp [K.gS,VK]
 | .int k n=>by simp [K.gS,VK]
 | .string s=>by simp [K.gS,VK]
 | .pointer none=>by simp [K.gS,VK]
 | .pointer (some a)=>by simp [K.gS,VK]
 | .slice none 0 0=>by simp [K.gS,VK]
 | .slice none 0 (n+1)=>by simp [K.gS,VK]
 | .slice none (n+1) c=>by simp [K.gS,VK]
 | .slice (some a) n c=>by simp [K.gS,VK]
 | .map none=>by simp [K.gS,VK]
 | .map (some r)=>by simp [K.gS,VK]
 | .nilFunc=>by simp [K.gS,VK]
 | .nilIface=>by simp [K.gS,VK]
 | .agg cs=>by
  obtain ⟨l⟩:=cs
  simp only [K.gS,ofA]
  exact .oY (bf.ofL l)
 | .tuple cs=>by
  obtain ⟨l⟩:=cs
  simp only [K.gS,ofA]
  exact .Yn (bf.ofL l)
 | .float _ _=>by simp [K.gS,VK]
 | .complex _ _ _=>by simp [K.gS,VK]
 | .chan _=>by simp [K.gS,VK]
 | .func _ _ _=>by simp [K.gS,VK]
 | .iface _ _=>by simp [K.gS,VK]
theorem bf.ofL:∀ (l:List Value),bf P E (ofL l) l
 | []=>.nil
 | v::vs=>.cons (VK.gS v) (bf.ofL vs)
end
theorem z0 {z:Value} (h:ij (gS z).cells=true):bf P E (gS z).cells z.cells.toList:=(VK.gS z).cells (wA h)
def Cg (E:Env) (A:az):Prop:=∀ b c g tb sb tc sc,A.get b=some (.bb tb sb)→A.get c=some (.bb tc sc)→E.φ b=some g→E.φ c=some g→b=c
def AR (A:az) (E:Env) (x:Nat):Prop:=∃ b v L N,A.get b=some (.arr v)∧E.α b=some (x,L,N)
def AF (A:az) (E:Env) (B:St) (g:Nat):Prop:=∃ b v x L N cs e own k,A.get b=some (.arr v)∧E.α b=some (x,L,N)∧B.get x=some (.row cs e own (some (g,k)))
def AT (A:az) (E:Env) (B:St) (y:Nat):Prop:=AR A E y∨∃ g,AF A E B g∧y∈B.members g
def Yo (P:Program) (E:Env) (B:St) (b:Nat) (v:KV):Prop:=∃ T N es acc,v = .ts T .any N es acc∧je P T N es acc∧1≤bg P T∧
 ((N=0∧E.α b=none)∨∃ x cs bQ bq,E.α b=some (x,cs.length,N)∧B.get x=some (.row cs (bg P T) true bQ)∧bf P E es bq∧n6 (bg P T) 0 cs bq)
def Qj (P:Program) (E:Env) (b:Nat) (v:KV):Prop:=∃ T N es acc,v = .ts T .any N es acc∧je P T N es acc∧1≤bg P T∧
 ((N=0∧E.α b=none)∨∃ x r bq,E.α b=some (x,r.cs.length,N)∧E.z x=some r∧r.bU=bg P T∧bf P E es bq∧n6 (bg P T) 0 r.cs bq)
theorem Yo.mono (h:E.le E') {B B' : St} {b:Nat} {v:KV} (qf:E'.α b=E.α b) (hB:∀ x L N,E.α b=some (x,L,N)→B'.get x=B.get x) (q:Yo P E B b v):Yo P E' B' b v:=by
 obtain ⟨T,N,es,acc,h1,h2,h3,h4⟩:=q
 refine ⟨T,N,es,acc,h1,h2,h3,?_⟩
 rcases h4 with ⟨h4,h5⟩ | ⟨x,cs,bQ,bq,h4,h5,h6,h7⟩
 ·exact .inl ⟨h4,by rw [qf]; exact h5⟩
 ·exact .inr ⟨x,cs,bQ,bq,by rw [qf]; exact h4,by rw [hB _ _ _ h4]; exact h5,h6.mono h,h7⟩
theorem Qj.mono (h:E.le E') {b:Nat} {v:KV} (qf:E'.α b=E.α b) (q:Qj P E b v):Qj P E' b v:=by
 obtain ⟨T,N,es,acc,h1,h2,h3,h4⟩:=q
 refine ⟨T,N,es,acc,h1,h2,h3,?_⟩
 rcases h4 with ⟨h4,h5⟩ | ⟨x,r,bq,h4,h5,h6,h7,h8⟩
 ·exact .inl ⟨h4,by rw [qf]; exact h5⟩
 ·exact .inr ⟨x,r,bq,by rw [qf]; exact h4,h.z _ _ h5,h6,h7.mono h,h8⟩
structure HH (P:Program) (E:Env) (A:az) (B:St):Prop where
 arr:∀ b v,A.get b=some (.arr v)→Yo P E B b v
 jK:∀ b v,A.get b=some (.jK v)→Qj P E b v
 z:∀ x,AR A E x→E.z x=none∧∀ c,E.κ c≠some x
 inj:∀ b c v u x L N L' N',A.get b=some (.arr v)→A.get c=some (.arr u)→E.α b=some (x,L,N)→E.α c=some (x,L',N')→b=c
 tq:∀ b c v u x y L N L' N' cs e own g k b8 e' o7 k',A.get b=some (.arr v)→A.get c=some (.arr u)→E.α b=some (x,L,N)→E.α c=some (y,L',N')→B.get x=some (.row cs e own (some (g,k)))→B.get y=some (.row b8 e' o7 (some (g,k')))→b=c
 Yp:∀ b x,E.κ b=some x→E.α b=none
 lD:∀ b p,E.α b=some p→b < A.next
 gY:∀ b x L N,E.α b=some (x,L,N)→x < B.next
 rZ:∀ b v x L N cs e own g k,A.get b=some (.arr v)→E.α b=some (x,L,N)→B.get x=some (.row cs e own (some (g,k)))→g < B.next∧(∀ f,E.φ f≠some g)∧∀ y∈B.members g,y≠x→E.z y=none∧¬ AR A E y∧∀ c,E.κ c≠some y
 nk:∀ b v,A.get b=some (.arr v)→b < A.next∧E.κ b=none
structure fI (P:Program) (E:Env) (A:az) (B:St):Prop where
 row:∀ b cs bU,A.get b=some (.row cs bU)→∃ x b8,E.κ b=some x∧B.get x=some (.row b8 bU true none)∧bf P E cs b8
 bb:∀ b top sz,A.get b=some (.bb top sz)→(top=0∧E.φ b=none)∨∃ g,E.φ b=some g∧0 < top∧∀ x∈B.members g,∀ cs e own f k,B.get x=some (.row cs e own (some (f,k)))→k=0∧cs.length≤top * sz
 z:∀ b r,E.z b=some r→B.get b=some (.row r.cs r.bU r.own r.bQ)
 apart:∀ b x,E.κ b=some x→E.z x=none
 inj:∀ b c x,E.κ b=some x→E.κ c=some x→b=c
 jM:Cg E A
 lD:∀ b x,E.κ b=some x→b < A.next
 mW:∀ b g,E.φ b=some g→b < A.next
 live:∀ b o,A.get b=some o→b < A.next
 gY:∀ b x,E.κ b=some x→x < B.next
 m9:∀ b r,E.z b=some r→b < B.next
 kc:∀ b g,E.φ b=some g→g < B.next
 fresh:∀ g,B.next≤g→B.members g = []
 mem:∀ g x,x∈B.members g→x < B.next
 ar:HH P E A B
structure Ev (P:Program) (base:Nat) (E:Env) (A:az) (B:St) (ρ:aW) (w:World) (E' : Env) (A' : az) (B' : St) (aY:aW) (w' : World):Prop where
 jv:fI P E' A' B'
 fL:lW base ρ B w aY B' w'
 le:E.le E'
 next:A.next≤A'.next
 mb:∀ x,x < B.next→(∀ b,E.κ b≠some x)→¬ AT A E B x→B'.get x=B.get x
 new:∀ b x,E'.κ b=some x→E.κ b=some x∨B.next≤x
 sS:∀ b r,E'.z b=some r→E.z b=some r∨AR A E b∨B.next≤b
 sT:∀ b g,E'.φ b=some g→(∃ c,E.φ c=some g)∨B.next≤g
 pT:∀ g,g < B.next→(∀ b,E.φ b≠some g)→¬ AF A E B g→B'.members g=B.members g
 mK:∀ x,AR A' E' x→AR A E x∨B.next≤x
 mX:∀ g,AF A' E' B' g→AF A E B g∨B.next≤g
 uk:∀ g y,y∈B'.members g→y∈B.members g∨B.next≤y
 nR:∀ y,AT A' E' B' y→AT A E B y∨B.next≤y
 rows:∀ y,y < B.next→∀ cs e own bQ,B'.get y=some (.row cs e own bQ)→∃ ma,B.get y=some (.row ma e own bQ)∧ma.length=cs.length
theorem Ev.refl {base:Nat} {A:az} {B:St} {ρ:aW} {w:World} (h:fI P E A B) (s:ud ρ B base w):Ev P base E A B ρ w E A B ρ w:=
 ⟨h,.refl s,Env.le_refl _,Nat.le_refl _,fun _ _ _ _=>rfl,fun _ _ h=>.inl h,fun _ _ h=>.inl h,fun _ _ h=>.inl ⟨_,h⟩,fun _ _ _ _=>rfl,fun _ h=>.inl h,fun _ h=>.inl h,fun _ _ h=>.inl h,fun _ h=>.inl h,fun _ _ cs _ _ _ h=>⟨cs,h,rfl⟩⟩
theorem Ev.trans {base:Nat} {E1 E2 E3:Env} {A1 A2 A3:az} {B1 B2 B3:St} {mC um ρ3:aW} {w1 w2 w3:World} (h:Ev P base E1 A1 B1 mC w1 E2 A2 B2 um w2) (k:Ev P base E2 A2 B2 um w2 E3 A3 B3 ρ3 w3) :
  Ev P base E1 A1 B1 mC w1 E3 A3 B3 ρ3 w3 where
 jv:=k.jv
 fL:=h.fL.trans k.fL
 le:=Env.le_trans h.le k.le
 next:=Nat.le_trans h.next k.next
 mb x hx hn ha:=by
  refine (k.mb x (Nat.lt_of_lt_of_le hx h.fL.next) (fun b e=>?_) fun q=>?_).trans (h.mb x hx hn ha)
  ·rcases h.new b x e with e | e
   ·exact hn b e
   ·omega
  ·rcases h.nR x q with e | e
   ·exact ha e
   ·omega
 new b x e:=by
  rcases k.new b x e with e | e
  ·rcases h.new b x e with e | e
   ·exact .inl e
   ·exact .inr e
  ·have:=h.fL.next; exact .inr (by omega)
 sS b r e:=by
  rcases k.sS b r e with e | e | e
  ·exact h.sS b r e
  ·exact .inr (h.mK b e)
  ·have:=h.fL.next; exact .inr (.inr (by omega))
 sT b g e:=by
  rcases k.sT b g e with ⟨c,e⟩ | e
  ·exact h.sT c g e
  ·have:=h.fL.next; exact .inr (by omega)
 pT g hg hn ha:=by
  refine (k.pT g (Nat.lt_of_lt_of_le hg h.fL.next) (fun b e=>?_) fun q=>?_).trans (h.pT g hg hn ha)
  ·rcases h.sT b g e with ⟨c,e⟩ | e
   ·exact hn c e
   ·omega
  ·rcases h.mX g q with e | e
   ·exact ha e
   ·omega
 mK x e:=by
  rcases k.mK x e with e | e
  ·exact h.mK x e
  ·have:=h.fL.next; exact .inr (by omega)
 mX g e:=by
  rcases k.mX g e with e | e
  ·exact h.mX g e
  ·have:=h.fL.next; exact .inr (by omega)
 uk g y e:=by
  rcases k.uk g y e with e | e
  ·exact h.uk g y e
  ·have:=h.fL.next; exact .inr (by omega)
 nR y e:=by
  rcases k.nR y e with e | e
  ·exact h.nR y e
  ·have:=h.fL.next; exact .inr (by omega)
 rows y hy cs e own bQ q:=by
  obtain ⟨c1,h1,h2⟩:=k.rows y (Nat.lt_of_lt_of_le hy h.fL.next) cs e own bQ q
  obtain ⟨c0,h3,h4⟩:=h.rows y hy c1 e own bQ h1
  exact ⟨c0,h3,h4.trans h2⟩
@[simp] theorem az.ca (A:az) (b:Nat) (o:jx) (x:Nat):(A.put b o).get x=if x=b then some o else A.get x:=by simp [az.put,az.get,Trie.nX]
@[simp] theorem az.dt (A:az) (o:jx) (x:Nat):(A.new o).get x=if x=A.next then some o else A.get x:=by simp [az.new,az.get,Trie.nX]
@[simp] theorem az.ri (A:az) (b:Nat) (o:jx):(A.put b o).next=A.next:=rfl
@[simp] theorem az.cq (A:az) (o:jx):(A.new o).next=A.next+1:=rfl
theorem Cg.put {A:az} (h:Cg E A) {b:Nat} {o:jx} (ho:(∀ t s,o≠.bb t s)∨E.φ b=none):Cg E (A.put b o):=by
 intro x y g tx sx ty sy hx hy ex ey
 have key:∀ {z t s},(A.put b o).get z=some (.bb t s)→E.φ z=some g→A.get z=some (.bb t s):=by
  intro z t s hz ez
  rw [az.ca] at hz
  split at hz
  ·rename_i e
   simp at hz
   rcases ho with ho | ho
   ·exact absurd hz (ho t s)
   ·rw [e,ho] at ez; simp at ez
  ·exact hz
 exact h x y g tx sx ty sy (key hx ex) (key hy ey) ex ey
theorem Cg.new {A:az} (h:Cg E A) {o:jx} (ho:(∀ t s,o≠.bb t s)∨E.φ A.next=none):Cg E (A.new o):=by
 intro x y g tx sx ty sy hx hy ex ey
 have key:∀ {z t s},(A.new o).get z=some (.bb t s)→E.φ z=some g→A.get z=some (.bb t s):=by
  intro z t s hz ez
  rw [az.dt] at hz
  split at hz
  ·rename_i e
   simp at hz
   rcases ho with ho | ho
   ·exact absurd hz (ho t s)
   ·rw [e,ho] at ez; simp at ez
  ·exact hz
 exact h x y g tx sx ty sy (key hx ex) (key hy ey) ex ey
structure KJ (P:Program) (E:Env) (A:az) (B:St) (ρ:aW) (base:Nat) (w:World):Prop where
 k:fI P E A B
 s:ud ρ B base w
theorem Ev.kj {base:Nat} {E1 E2:Env} {A1 A2:az} {B1 B2:St} {mC um:aW} {w1 w2:World} (h:Ev P base E1 A1 B1 mC w1 E2 A2 B2 um w2):KJ P E2 A2 B2 um base w2:=⟨h.jv,h.fL.jv⟩
def VC (P:Program) (E:Env) (ρ:aW) (v:KV) (v' : Value):Prop:=∃ u,VK P E v u∧VR ρ u v'
theorem VC.mono {ρ aY:aW} {v:KV} {v' : Value} (h:VC P E ρ v v') (k:E.le E') (m:ρ.le aY):VC P E' aY v v':=by
 obtain ⟨u,h1,h2⟩:=h
 exact ⟨u,h1.mono k,h2.mono m⟩
theorem VC.ax {ρ:aW} {v' : Value} : VC P E ρ .ax v':=⟨.chan none,.rz,by simp [VR]⟩
theorem VC.undef {ρ:aW} : VC P E ρ qU undef:=⟨_,.undef,VR.undef⟩
end Go.K
end
section
namespace Go.K
open Go Go.aG
variable {P:Program} {E:Env}
def a5 {α:Type} (r:KR α) (v:α):Prop:=
 match r with
 | .no=>False
 | .ok u=>u=v
 | .lV c u=>c=true∧u=v
 | .br c x y=>(c=true∧a5 x v)∨(c=false∧a5 y v)
theorem KR.xV {α R:Type} {k:α→Option R} {x:R} : ∀ {r:KR α},r.run k=some x→∃ v,a5 r v∧k v=some x:=by
 intro r h
 match r,h with
 | .no,h=>exact absurd h (by simp [KR.run])
 | .ok v,h=>exact ⟨v,rfl,h⟩
 | .lV c v,h=>
  cases c with
  | false=>exact absurd h (by simp [KR.run])
  | true=>exact ⟨v,⟨rfl,rfl⟩,h⟩
 | .br c x y,h=>
  cases c with
  | false=>obtain ⟨v,h1,h2⟩:=KR.xV (r:=y) (k:=k) h; exact ⟨v,.inr ⟨rfl,h1⟩,h2⟩
  | true=>obtain ⟨v,h1,h2⟩:=KR.xV (r:=x) (k:=k) h; exact ⟨v,.inl ⟨rfl,h1⟩,h2⟩
theorem a5.at {α:Type} {i:Int} {f:Nat→KR α} {v:α} : ∀ {m j:Nat},a5 (ag5 i f m j) v→∃ k,j≤k∧k < j+m∧i=(k:Int)∧a5 (f k) v
 | 0,j,h=>h.elim
 | m+1,j,h=>by
  rcases h with ⟨h1,h2⟩ | ⟨_,h2⟩
  ·exact ⟨j,Nat.le_refl j,by omega,of_decide_eq_true h1,h2⟩
  ·obtain ⟨k,h3,h4,h5,h6⟩:=a5.at (m:=m) (j:=j+1) h2
   exact ⟨k,by omega,by omega,h5,h6⟩
theorem a5.of {α:Type} {o:Option α} {v:α} (h:a5 (KR.of o) v):o=some v:=by
 cases o with
 | none=>exact h.elim
 | some u=>have h:u=v:=h; rw [h]
theorem a5.cond {α:Type} {c:Bool} {r:KR α} {v:α} (h:a5 (cond c r .no) v):c=true∧a5 r v:=by
 cases c with
 | false=>exact h.elim
 | true=>exact ⟨rfl,h⟩
theorem HI {α:Type} {c:Bool} {r:Option α} {v:α} (h:cond c r none=some v):c=true∧r=some v:=by
 cases c with
 | false=>simp at h
 | true=>exact ⟨rfl,h⟩
def uo (P:Program) (f:FP) (g:List Value→Option Value):Prop:=
 ∀ (E:Env) (vs:List KV) (us:List Value) (v:KV),bf P E vs us→a5 (f vs) v→∃ u,g us=some u∧VK P E v u
theorem aeo:uo P acL Hd:=by
 intro E vs us v h hg
 match vs,hg with
 | [x],hg=>
  obtain ⟨y,rfl,h1⟩:=h.eU
  have hg:x=v:=hg
  subst hg
  exact ⟨y,rfl,h1⟩
theorem ahZ:uo P acM Hd:=by
 intro E vs us v h hg
 match vs,hg with
 | [.bool b],hg=>
  obtain ⟨y,rfl,h1⟩:=h.eU
  have hb:v = .bool b:=by
   rcases hg with ⟨rfl,h2⟩ | ⟨rfl,h2⟩
   ·exact (show KV.bool true=v from h2).symm
   ·exact (show KV.bool false=v from h2).symm
  subst hb
  exact ⟨_,rfl,h1⟩
 | [x],hg=>
  have key:v=x:=by
   cases x <;> first | exact (show _=v from hg).symm | skip
   rcases hg with ⟨rfl,h2⟩ | ⟨rfl,h2⟩
   ·exact (show KV.bool true=v from h2).symm
   ·exact (show KV.bool false=v from h2).symm
  subst key
  obtain ⟨y,rfl,h1⟩:=h.eU
  exact ⟨_,rfl,h1⟩
theorem ah0 {b:Bool} : uo P (cond b acM acL) Hd:=by
 cases b with
 | true=>exact ahZ
 | false=>exact aeo
theorem aje:uo P af7 acy:=by
 intro E vs us v h hg
 match vs,hg with
 | [.bool t,.bool a,.bool b],hg=>
  obtain ⟨x,y,z,rfl,h1,h2,h3⟩:=h.Ox
  have:=h1.gd; subst this
  have:=h2.gd; subst this
  have:=h3.gd; subst this
  have hg:KV.bool (cond t a b)=v:=hg
  subst hg
  exact ⟨_,rfl,by cases t <;> exact .sk⟩
 | [.bool t,a,b],hg=>
  obtain ⟨x,y,z,rfl,h1,h2,h3⟩:=h.Ox
  have:=h1.gd; subst this
  refine ⟨_,rfl,?_⟩
  have hg:v=cond t a b∨∃ p q,a = .bool p∧b = .bool q∧v = .bool (cond t p q):=by
   unfold af7 at hg
   split at hg
   ·rename_i t' a' b' e
    simp at e
    obtain ⟨rfl,rfl,rfl⟩:=e
    exact .inr ⟨_,_,rfl,rfl,hg.symm⟩
   ·rename_i t' a' b' _ e
    simp at e
    obtain ⟨rfl,rfl,rfl⟩:=e
    exact .inl hg.symm
   ·exact hg.elim
  rcases hg with rfl | ⟨p,q,rfl,rfl,rfl⟩
  ·cases t
   ·exact h3
   ·exact h2
  ·have:=h2.gd; subst this
   have:=h3.gd; subst this
   cases t <;> exact .sk
theorem Tl {v:KV} {u:Value} (h:VK P E v u) (hk:uW v=true):aG.known u=true:=by
 cases v with
 | agg cs=>obtain ⟨l,rfl,q⟩:=h.mc; rfl
 | int k n=>have:=h.du; subst this; rfl
 | bool b=>have:=h.gd; subst this; rfl
 | str b=>have:=h.rv; subst this; rfl
 | jE cs=>obtain ⟨l,rfl,_⟩:=h.Kd; rfl
 | ts T m n es acc=>obtain ⟨_,_,_,a,cap,rfl,_⟩:=h.mi; rfl
 | tp T Tc i k es acc=>obtain ⟨_,_,_,_,_,b,off,r,rfl,_⟩:=h.HG; rfl
 | al T b o n=>obtain ⟨a,c,rfl⟩:=h.u3.slice; rfl
 | ap T Tc b i k=>obtain ⟨x,L,N,_,_,_,rfl⟩:=h.DY; rfl
 | ptr b off=>obtain ⟨x,_,rfl⟩:=h.iW; rfl
 | sl b off n c=>obtain ⟨x,_,rfl⟩:=h.LW; rfl
 | BZ=>simp only [VK] at h; subst h; rfl
 | kQ=>simp only [VK] at h; subst h; rfl
 | yv=>simp only [VK] at h; subst h; rfl
 | map b=>simp only [VK] at h; obtain ⟨x,_,rfl⟩:=h; rfl
 | fn f a b=>obtain ⟨l,m,rfl,_⟩:=h.DX; rfl
 | CU=>simp only [VK] at h; subst h; rfl
 | iface t x=>simp only [VK] at h; obtain ⟨y,rfl,_⟩:=h; rfl
 | CV=>simp only [VK] at h; subst h; rfl
 | ax=>simp [uW] at hk
theorem Ke {v:KV} {u:Value} (h:VK P E v u) (hk:uW v=true):u.cells.size=v.cells.length:=by
 have:=(h.cells hk).length
 simpa using this
theorem Yq {place:Nat→Option (Nat×Nat)} : ∀ {ps:List (Nat×KV)} {qs:List (Nat×Value)} {cs r:List KV} {b8:List Value},ps.map (·.1)=qs.map (·.1)→bf P E (ps.map (·.2)) (qs.map (·.2))→(∀ p∈ps,uW p.2=true)→
  bf P E cs b8→Ta place cs ps=some r→∃ r',yl place b8 qs=some r'∧bf P E r r'
 | [],[],cs,r,b8,_,_,_,h,e=>by simp [Ta] at e; subst e; exact ⟨b8,rfl,h⟩
 | [],_::_,_,_,_,e,_,_,_,_=>by simp at e
 | _::_,[],_,_,_,e,_,_,_,_=>by simp at e
 | (i,v)::ps,(j,u)::qs,cs,r,b8,e1,e2,hk,h,e=>by
  simp only [List.map_cons,List.cons.injEq] at e1
  obtain ⟨rfl,e1⟩:=e1
  obtain ⟨y,ys,e3,h1,h2⟩:=e2.cons_inv
  simp only [List.map_cons,List.cons.injEq] at e3
  obtain ⟨rfl,rfl⟩:=e3
  have hkv:uW v=true:=hk (i,v) (by simp)
  simp only [Ta] at e
  simp only [yl]
  split at e
  ·rename_i off size hp
   rw [hp]
   obtain ⟨hc,e⟩:=HI e
   obtain ⟨oi,e4,e5⟩:=Option.bind_eq_some_iff.1 e
   obtain ⟨r1,e6,h3⟩:=bf.lh e4 h (h1.cells hkv)
   obtain ⟨r',e7,h4⟩:=Yq e1 h2 (fun p hp=>hk p (by simp [hp])) h3 e5
   refine ⟨r',?_,h4⟩
   simp only
   rw [Ke h1 hkv,hc,cond_true,e6]
   exact e7
  ·simp at e
theorem Yr:∀ (is:List Nat) {vs:List KV} {us:List Value},bf P E vs us→(yw is vs).map (·.1)=(zipIdx is us).map (·.1)∧bf P E ((yw is vs).map (·.2)) ((zipIdx is us).map (·.2))
 | [],_,_,_=>by simp [yw,zipIdx,bf.nil]
 | i::is,[],us,h=>by rw [h.ck]; simp [yw,zipIdx,bf.nil]
 | i::is,v::vs,us,h=>by
  obtain ⟨y,ys,rfl,h1,h2⟩:=h.cons_inv
  obtain ⟨h3,h4⟩:=Yr is h2
  exact ⟨by simp [yw,zipIdx,h3],by simpa [yw,zipIdx] using bf.cons h1 h4⟩
theorem Ys:∀ (is:List Nat) (vs:List KV),∀ p∈yw is vs,p.2∈vs
 | [],_,p,h=>by simp [yw] at h
 | i::is,[],p,h=>by simp [yw] at h
 | i::is,v::vs,p,h=>by
  simp only [yw,List.mem_cons] at h
  rcases h with rfl | h
  ·simp
  ·simp [Ys is vs p h]
theorem HJ:∀ {vs:List KV} {us:List Value},bf P E vs us→vs.all uW=true→us.all aG.known=true
 | [],us,h,_=>by rw [h.ck]; rfl
 | v::vs,us,h,k=>by
  obtain ⟨y,ys,rfl,h1,h2⟩:=h.cons_inv
  simp only [List.all_cons,Bool.and_eq_true] at k ⊢
  exact ⟨Tl h1 k.1,HJ h2 k.2⟩
theorem abL {place:Nat→Option (Nat×Nat)} {z:Value} {is:List Nat} (hz:flat z=true) (h1:ij (gS z).cells=true):uo P (LP place (gS z).cells is) (zQ place z is):=by
 intro E vs us v h hg
 unfold LP at hg
 split at hg
 ·rename_i cs hf
  obtain ⟨hk,hg⟩:=hg.cond
  have hg:KV.agg cs=v:=hg
  subst hg
  obtain ⟨h2,h3⟩:=Yr is h
  obtain ⟨r',e,hr⟩:=Yq h2 h3 (fun p hp=>by have:=Ys is vs p hp; exact List.all_eq_true.1 hk _ this) (z0 (P:=P) (E:=E) h1) hf
  refine ⟨.agg ⟨r'⟩,?_,.oY hr⟩
  unfold zQ
  rw [hz,HJ h hk]
  simp [e,oY]
 ·exact hg.elim
theorem akK:uo P Ye Hh:=by
 intro E vs us v h hg
 match vs,hg with
 | [.ptr b off],hg=>
  obtain ⟨y,rfl,h1⟩:=h.eU
  have hg:KV.ptr b off=v:=hg
  subst hg
  have q:=h1
  obtain ⟨x,e,rfl⟩:=h1.iW
  exact ⟨_,rfl,q⟩
 | [.tp T Tc i k es acc],hg=>
  obtain ⟨y,rfl,h1⟩:=h.eU
  have hg:KV.tp T Tc i k es acc=v:=hg
  subst hg
  have q:=h1
  obtain ⟨_,_,_,_,_,b,off,r,rfl,_⟩:=h1.HG
  exact ⟨_,rfl,q⟩
 | [.ap T Tc b i k],hg=>
  obtain ⟨y,rfl,h1⟩:=h.eU
  have hg:KV.ap T Tc b i k=v:=hg
  subst hg
  have q:=h1
  obtain ⟨x,L,N,_,_,_,rfl⟩:=h1.DY
  exact ⟨_,rfl,q⟩
 | [.fn (.func f) a b],hg=>
  obtain ⟨y,rfl,h1⟩:=h.eU
  have hg:KV.fn (.func f) a b=v:=hg
  subst hg
  have q:=h1
  obtain ⟨l,m,rfl,_⟩:=h1.DX
  exact ⟨_,rfl,q⟩
theorem Kf {s ft:TypeId} {off:Nat} (h:Xq P s off ft=true):∀ m c,(bu P ft).ks[m]? = some c→(bu P s).ks[off+m]? = some c:=by
 unfold Xq at h
 have key:∀ (a b:List CK),zY a b=true→a=b:=by
  intro a
  induction a with
  | nil=>intro b hb; cases b <;> simp_all [zY]
  | cons x xs ih=>
   intro b hb
   cases b with
   | nil=>simp [zY] at hb
   | cons y ys=>
    simp only [zY,Bool.and_eq_true] at hb
    rw [ih ys hb.2]
    congr 1
    cases x <;> cases y <;> simp_all [aja]
 split at h
 ·rename_i l e
  obtain ⟨rfl,hl⟩:=LV e
  have:=key _ _ h
  intro m c hm
  rw [← this,List.getElem?_take] at hm
  split at hm
  ·rwa [F1,List.getElem?_drop] at hm
  ·simp at hm
 ·simp at h
theorem aa0 {s ft:TypeId} {off:Nat} {vK:Bool} (Yt:vK=Xq P s off ft):uo P (Vg s off ft vK) (JV off):=by
 intro E vs us v h hg
 match vs,hg with
 | [.ptr b o],hg=>
  obtain ⟨y,rfl,h1⟩:=h.eU
  have hg:KV.ptr b (o+off)=v:=hg
  subst hg
  obtain ⟨x,e,rfl⟩:=h1.iW
  exact ⟨_,rfl,.xi e⟩
 | [.tp T Tc i k es acc],hg=>
  obtain ⟨y,rfl,h1⟩:=h.eU
  obtain ⟨hc,hg⟩:=a5.cond hg
  have hg:KV.tp T ft i (k+off) es acc=v:=hg
  subst hg
  simp only [Bool.and_eq_true] at hc
  have:=Nat.eq_of_beq_eq_true hc.1
  subst this
  obtain ⟨ht,bq,h2,hi,hw,b,o,r,rfl,h4,h5⟩:=h1.HG
  refine ⟨_,rfl,?_⟩
  simp only [VK]
  refine ⟨ht,bq,h2,hi,⟨fun m c hm=>?_⟩,b,o,r,by simp only [Value.pointer.injEq,Option.some.injEq,Addr.mk.injEq,and_true,true_and]; omega,h4,h5⟩
  have hp:=Kf (Yt ▸ hc.2) m c hm
  have:=hw.is _ _ hp
  rwa [show k+(off+m)=k+off+m by omega] at this
 | [.ap T Tc b i k],hg=>
  obtain ⟨y,rfl,h1⟩:=h.eU
  obtain ⟨hc,hg⟩:=a5.cond hg
  have hg:KV.ap T ft b i (k+off)=v:=hg
  subst hg
  simp only [Bool.and_eq_true] at hc
  have:=Nat.eq_of_beq_eq_true hc.1
  subst this
  obtain ⟨x,L,N,h2,hw,hi,rfl⟩:=h1.DY
  refine ⟨_,rfl,.ajd ⟨x,L,N,h2,⟨fun m c hm=>?_⟩,hi,by simp only [Value.pointer.injEq,Option.some.injEq,Addr.mk.injEq,and_true,true_and]; omega⟩⟩
  have hp:=Kf (Yt ▸ hc.2) m c hm
  have:=hw.is _ _ hp
  rwa [show k+(off+m)=k+off+m by omega] at this
theorem aep {t:TypeId} {cs:List KV} {b8:List Value} {off:Nat} {v:KV} (h:bf P E cs b8) (e:Te P t cs off=some v):∃ u,partOf P t b8 off=some u∧VK P E v u:=by
 unfold Te at e
 unfold partOf
 split at e
 ·rename_i ha
  rw [ha]
  obtain ⟨n,hn,e⟩:=Option.bind_eq_some_iff.1 e
  obtain ⟨l,hl,rfl⟩:=Option.map_eq_some_iff.1 e
  obtain ⟨r,hr,hv,_⟩:=h.uh hl
  exact ⟨.agg ⟨r⟩,by simp [hn,hr],.oY hv⟩
 ·rename_i ha
  rw [ha]
  rw [F1] at e
  have hd:=h.drop off
  cases hc:cs.drop off with
  | nil=>rw [hc] at e; simp at e
  | cons x xs=>
   rw [hc] at e hd
   simp at e
   subst e
   obtain ⟨y,ys,e2,h1,_⟩:=hd.cons_inv
   exact ⟨y,by simp [rh,e2],h1⟩
 ·simp at e
theorem ah1 {fd:Field} : uo P (ag4 P fd) (acz P fd):=by
 intro E vs us v h hg
 match vs,hg with
 | [.agg cs],hg=>
  obtain ⟨y,rfl,h1⟩:=h.eU
  obtain ⟨l,rfl,h2⟩:=h1.mc
  exact aep h2 hg.of
theorem xW {i:Int} {n:Nat} (h:Yf i n=true):∃ m,i = .ofNat m∧m < n∧i.toNat=m:=by
 simp only [Yf,Bool.and_eq_true,decide_eq_true_eq] at h
 obtain ⟨m,rfl⟩:=Int.eq_ofNat_of_zero_le h.1
 exact ⟨m,rfl,by omega,rfl⟩
theorem oj {m n:Nat} (h:m < n):kM (.ofNat m) n=some m:=by
 have:Nat.blt m n=true:=by rw [Nat.blt_eq]; exact h
 simp [kM,this]
theorem a5.lV {α:Type} {c:Bool} {u v:α} (h:a5 (.lV c u) v):c=true∧u=v:=h
theorem Vk {t e:TypeId} {len n m:Nat} (hq:zY (bu P t).ks (dV (bu P e).ks len)=true) (hn:(bu P e).ks.length=n) (hm:m < len):∀ a c,(bu P e).ks[a]? = some c→(bu P t).ks[m * n+a]? = some c:=by
 intro a c ha
 have key:∀ (l:List CK) (sm m a:Nat) (c:CK),m < sm→l[a]? = some c→(dV l sm)[m * l.length+a]? = some c:=by
  intro l sm
  induction sm with
  | zero=>intro m a c hm; omega
  | succ sm ih=>
   intro m a c hm hl
   have bX:a < l.length:=(List.getElem?_eq_some_iff.1 hl).1
   cases m with
   | zero=>simp only [dV,Nat.zero_mul,Nat.zero_add]; rw [List.getElem?_append_left bX]; exact hl
   | succ m=>
    simp only [dV]
    rw [List.getElem?_append_right (by rw [Nat.succ_mul]; omega),show (m+1) * l.length+a - l.length=m * l.length+a by rw [Nat.succ_mul]; omega]
    exact ih m a c (by omega) hl
 have amo:∀ (a b:List CK),zY a b=true→a=b:=by
  intro a
  induction a with
  | nil=>intro b hb; cases b <;> simp_all [zY]
  | cons x xs ih=>
   intro b hb
   cases b with
   | nil=>simp [zY] at hb
   | cons y ys=>
    simp only [zY,Bool.and_eq_true] at hb
    rw [ih ys hb.2]
    congr 1
    cases x <;> cases y <;> simp_all [aja]
 have h6:=key (bu P e).ks len m a c hm ha
 rw [← amo _ _ hq,hn] at h6
 exact h6
theorem acR {t e:TypeId} {len n:Nat} : uo P (Yg P t len n e) (N9 len n):=by
 intro E vs us v h hg
 match vs,hg with
 | [.ptr b o,.int k i],hg=>
  have hg:a5 (cond (Nat.ble len 8) (ag5 i (fun j=>.ok (.ptr b (o+j * n))) len 0) (.lV (Yf i len) (.ptr b (o+i.toNat * n)))) v:=hg
  obtain ⟨x,y,rfl,h1,h2⟩:=h.kR
  obtain ⟨x,e,rfl⟩:=h1.iW
  have:=h2.du; subst this
  have key:∃ m:Nat,i=(m:Int)∧m < len∧v = .ptr b (o+m * n):=by
   cases hb:Nat.ble len 8 with
   | true=>rw [hb,cond_true] at hg; obtain ⟨m,_,h3,h4,h5⟩:=a5.at hg; exact ⟨m,h4,by omega,(show KV.ptr b (o+m * n)=v from h5).symm⟩
   | false=>rw [hb,cond_false] at hg; obtain ⟨hc,rfl⟩:=a5.lV hg; obtain ⟨m,rfl,hm,Oy⟩:=xW hc; exact ⟨m,rfl,hm,by rw [Oy]⟩
  obtain ⟨m,rfl,hm,rfl⟩:=key
  refine ⟨_,?_,.xi e⟩
  show (kM (.ofNat m) len).bind _=_
  rw [oj hm]; rfl
 | [.tp T Tc j k es acc,.int q i],hg=>
  obtain ⟨x,y,rfl,h1,h2⟩:=h.kR
  obtain ⟨sR,hg⟩:=a5.cond hg
  obtain ⟨hc,rfl⟩:=a5.lV hg
  have:=h2.du; subst this
  obtain ⟨m,rfl,hm,Oy⟩:=xW hc
  rw [Oy]
  simp only [Bool.and_eq_true] at sR
  have:=Nat.eq_of_beq_eq_true sR.1.1
  subst this
  have hn:(bu P e).ks.length=n:=Nat.eq_of_beq_eq_true sR.2
  obtain ⟨ht,bq,h3,hi,hw,b,o,r,rfl,h4,h5⟩:=h1.HG
  refine ⟨_,by (show (kM (.ofNat m) len).bind _=_); rw [oj hm]; rfl,?_⟩
  simp only [VK]
  refine ⟨ht,bq,h3,hi,⟨fun a c ha=>?_⟩,b,o,r,by simp only [Value.pointer.injEq,Option.some.injEq,Addr.mk.injEq,and_true,true_and]; omega,h4,h5⟩
  have h6:=Vk sR.1.2 hn hm a c ha
  have:=hw.is _ _ h6
  rwa [show k+(m * n+a)=k+m * n+a by omega] at this
 | [.ap T Tc b j k,.int q i],hg=>
  obtain ⟨x,y,rfl,h1,h2⟩:=h.kR
  obtain ⟨sR,hg⟩:=a5.cond hg
  obtain ⟨hc,rfl⟩:=a5.lV hg
  have:=h2.du; subst this
  obtain ⟨m,rfl,hm,Oy⟩:=xW hc
  rw [Oy]
  simp only [Bool.and_eq_true] at sR
  have:=Nat.eq_of_beq_eq_true sR.1.1
  subst this
  have hn:(bu P e).ks.length=n:=Nat.eq_of_beq_eq_true sR.2
  obtain ⟨x,L,N,h3,hw,hi,rfl⟩:=h1.DY
  refine ⟨_,by (show (kM (.ofNat m) len).bind _=_); rw [oj hm]; rfl,.ajd ⟨x,L,N,h3,⟨fun a c ha=>?_⟩,hi,by simp only [Value.pointer.injEq,Option.some.injEq,Addr.mk.injEq,and_true,true_and]; omega⟩⟩
  have h6:=Vk sR.1.2 hn hm a c ha
  have:=hw.is _ _ h6
  rwa [show k+(m * n+a)=k+m * n+a by omega] at this
theorem aeq {e n:Nat} {vK:Bool} (Yt:vK=Nat.beq (bu P e).ks.length n):uo P (abF e n vK) (SJ n):=by
 intro E vs us v h hg
 match vs,hg with
 | [.sl b o len cap,.int k i],hg=>
  obtain ⟨x,y,rfl,h1,h2⟩:=h.kR
  obtain ⟨hc,rfl⟩:=a5.lV hg
  obtain ⟨x,e,rfl⟩:=h1.LW
  have:=h2.du; subst this
  obtain ⟨m,rfl,hm,Oy⟩:=xW hc
  rw [Oy]
  exact ⟨_,by (show (kM (.ofNat m) len).bind _=_); rw [oj hm]; rfl,.xi e⟩
 | [.ts T mk len es acc,.int q i],hg=>
  obtain ⟨x,y,rfl,h1,h2⟩:=h.kR
  obtain ⟨sR,hg⟩:=a5.cond hg
  obtain ⟨hc,rfl⟩:=a5.lV hg
  have:=h2.du; subst this
  obtain ⟨m,rfl,hm,Oy⟩:=xW hc
  rw [Oy]
  simp only [Bool.and_eq_true] at sR
  have:=Nat.eq_of_beq_eq_true sR.1
  subst this
  have hn:(bu P T).ks.length=n:=Nat.eq_of_beq_eq_true (Yt ▸ sR.2)
  obtain ⟨ht,bq,h3,a,cap,rfl,h4,h5,h6⟩:=h1.mi
  rcases h5 with ⟨_,h0⟩ | ⟨b,off,r,rfl,h7,h8,h9⟩
  ·omega
  ·refine ⟨_,by (show (kM (.ofNat m) len).bind _=_); rw [oj hm]; rfl,?_⟩
   have hl:=ht.len
   simp only [VK]
   refine ⟨⟨rfl,fun i hi=>ht.acc i (by omega),ht.typed⟩,bq,h3,by omega,⟨fun a c ha=>by simpa using ha⟩,b,off,r,?_,h7,h9⟩
   simp only [bg,hn,Value.pointer.injEq,Option.some.injEq,Addr.mk.injEq,and_true,true_and]
   omega
 | [.al T b o len,.int q i],hg=>
  obtain ⟨x,y,rfl,h1,h2⟩:=h.kR
  obtain ⟨sR,hg⟩:=a5.cond hg
  obtain ⟨hc,rfl⟩:=a5.lV hg
  have:=h2.du; subst this
  obtain ⟨m,rfl,hm,Oy⟩:=xW hc
  rw [Oy]
  simp only [Bool.and_eq_true] at sR
  have:=Nat.eq_of_beq_eq_true sR.1
  subst this
  have hn:(bu P T).ks.length=n:=Nat.eq_of_beq_eq_true (Yt ▸ sR.2)
  rcases h1.u3 with ⟨h0,_⟩ | ⟨x,L,N,c,h3,rfl,h4,h5,h6⟩
  ·omega
  ·refine ⟨_,by (show (kM (.ofNat m) len).bind _=_); rw [oj hm]; rfl,.ajd ⟨x,L,N,h3,⟨fun a c ha=>by simpa using ha⟩,by omega,?_⟩⟩
   simp only [bg,hn,Value.pointer.injEq,Option.some.injEq,Addr.mk.injEq,and_true,true_and]
   rw [Nat.add_mul]; omega
theorem acS {len n:Nat} {e:TypeId} : uo P (Oq P len n e) (Oa P len n e):=by
 intro E vs us v h hg
 match vs,hg with
 | [.agg cs,.int k i],hg=>
  obtain ⟨x,y,rfl,h1,h2⟩:=h.kR
  obtain ⟨l,rfl,h3⟩:=h1.mc
  have:=h2.du; subst this
  simp only [Oq] at hg
  have key:∃ m:Nat,i=(m:Int)∧m < len∧Te P e cs (m * n)=some v:=by
   cases hb:Nat.ble len 8 with
   | true=>rw [hb,cond_true] at hg; obtain ⟨m,_,h3,h4,h5⟩:=a5.at hg; exact ⟨m,h4,by omega,a5.of h5⟩
   | false=>
    rw [hb,cond_false] at hg
    split at hg
    ·rename_i u hu
     obtain ⟨hc,rfl⟩:=a5.lV hg
     obtain ⟨m,rfl,hm,Oy⟩:=xW hc
     rw [Oy] at hu
     exact ⟨m,rfl,hm,hu⟩
    ·exact hg.elim
  obtain ⟨m,rfl,hm,hu⟩:=key
  obtain ⟨w,h4,h5⟩:=aep h3 hu
  exact ⟨w,by (show (kM (.ofNat m) len).bind _=_); rw [oj hm]; exact h4,h5⟩
theorem acT:uo P Yh Ob:=by
 intro E vs us v h hg
 match vs,hg with
 | [.str s,.int k i],hg=>
  obtain ⟨x,y,rfl,h1,h2⟩:=h.kR
  have:=h1.rv; subst this
  have:=h2.du; subst this
  obtain ⟨hc,rfl⟩:=a5.lV hg
  obtain ⟨m,rfl,hm,Oy⟩:=xW hc
  rw [Oy]
  have hl:m < s.data.toList.length:=by simpa using hm
  refine ⟨.int .u8 (s.data.toList.getD m 0).toNat,?_,.mkInt⟩
  show (kM (.ofNat m) s.size).bind _=_
  rw [oj hm]
  show (s.data.toList[m]?).map _=_
  simp [List.getD,List.getElem?_eq_getElem hl]
theorem Yu {α:Type} : ∀ (n:Nat) (l:List α),abG n l=l[n]?
 | n,[]=>by cases n <;> rfl
 | 0,x::_=>rfl
 | n+1,_::xs=>by simp [abG,Yu n xs]
theorem aer {i:Nat} : uo P (abH i) (Fw i):=by
 intro E vs us v h hg
 match vs,hg with
 | [.jE ws],hg=>
  obtain ⟨y,rfl,h1⟩:=h.eU
  obtain ⟨l,rfl,h2⟩:=h1.Kd
  have:=hg.of
  rw [Yu] at this
  obtain ⟨u,h3,h4⟩:=h2.get this
  exact ⟨u,by simpa [Fw] using h3,h4⟩
theorem ah2:uo P ag6 Xj:=by
 intro E vs us v h hg
 match vs,hg with
 | [.ts T m n es acc],hg=>
  obtain ⟨y,rfl,h1⟩:=h.eU
  obtain ⟨_,_,_,a,cap,rfl,_⟩:=h1.mi
  have hg:KV.int .i64 n=v:=hg
  subst hg
  exact ⟨_,rfl,.mkInt⟩
 | [.sl b o n c],hg=>
  obtain ⟨y,rfl,h1⟩:=h.eU
  obtain ⟨x,_,rfl⟩:=h1.LW
  have hg:KV.int .i64 n=v:=hg
  subst hg
  exact ⟨_,rfl,.mkInt⟩
 | [.al T b o n],hg=>
  obtain ⟨y,rfl,h1⟩:=h.eU
  obtain ⟨a,c,rfl⟩:=h1.u3.slice
  have hg:KV.int .i64 n=v:=hg
  subst hg
  exact ⟨_,rfl,.mkInt⟩
 | [.kQ],hg=>
  obtain ⟨y,rfl,h1⟩:=h.eU
  have:=h1.nQ; subst this
  have hg:KV.int .i64 0=v:=hg
  subst hg
  exact ⟨_,rfl,.mkInt⟩
theorem agb:uo P aef PH:=by
 intro E vs us v h hg
 match vs,hg with
 | [.str s],hg=>
  obtain ⟨y,rfl,h1⟩:=h.eU
  have:=h1.rv; subst this
  have hg:KV.int .i64 s.size=v:=hg
  subst hg
  exact ⟨_,rfl,.mkInt⟩
theorem ah3:uo P ag2 XN:=by
 intro E vs us v h hg
 match vs,hg with
 | [.str s],hg=>
  obtain ⟨y,rfl,h1⟩:=h.eU
  have:=h1.rv; subst this
  have hg:KV.str s=v:=hg
  subst hg
  exact ⟨_,rfl,.mkStr⟩
theorem acU {f:Fn} {k:Nat} : uo P (HB f k) (CL f k):=by
 intro E vs us v h hg
 unfold HB at hg
 split at hg
 ·rename_i l hl
  have hg:KV.fn f l (zX k vs)=v:=hg
  subst hg
  have r9:uh k (zX 0 vs)=some l:=hl
  obtain ⟨r,h1,h2,_⟩:=h.uh r9
  have h1:takeN k us=some r:=h1
  refine ⟨_,by simp [CL,h1]; rfl,.aen h2 ?_⟩
  rw [F1,rh]
  exact h.drop k
 ·exact hg.elim
theorem ah4 {src dst:TypeId} {k k' : IntKind} (h2:P.underlying dst=some (.int k)) (h3:P.underlying src=some (.int k')):uo P (ag1 k) (Fv P src dst):=by
 intro E vs us v h hg
 match vs,hg with
 | [.int j n],hg=>
  obtain ⟨y,rfl,h1⟩:=h.eU
  have:=h1.du; subst this
  have hg:KV.int k (k.wrap n)=v:=hg
  subst hg
  refine ⟨.int k (k.wrap n),?_,.mkInt⟩
  simp only [Fv,h2]
  simp [convert,underlying,program,Bind.bind,Sem.bind,dr,h2,h3,Conv.intToInt,Pure.pure]
end Go.K
end
section
namespace Go.K
open Go Go.aG
variable {P:Program} {E:Env}
theorem eW {α β:Type} : ∀ {s:Sem α} {f:α→Sem β} {a:α},dr P s=some a→dr P (s >>= f)=dr P (f a)
 | .pure x,f,a,h=>by simp [dr] at h; subst h; rfl
 | .program k,f,a,h=>by
  have:=eW (s:=k P) (f:=f) (a:=a) (by simpa [dr] using h)
  exact this
 | .mark m k,f,a,h=>by
  have:=eW (s:=k) (f:=f) (a:=a) (by simpa [dr] using h)
  exact this
 | .load ..,_,_,h | .store ..,_,_,h | .new ..,_,_,h | .shape ..,_,_,h | .freeze ..,_,_,h | .frozen ..,_,_,h | .getObj ..,_,_,h
 | .setObj ..,_,_,h | .choose ..,_,_,h | .sys ..,_,_,h | .halt ..,_,_,h=>by simp [dr] at h
theorem CZ {α β:Type} {init stop:β} {B:α→β→Sem (ForInStep β)} {g:α→Bool} : ∀ {l:List α},(∀ x∈l,dr P (B x init)=some (if g x=true then .yield init else .done stop))→
  dr P (forIn l init B)=some (if l.all g=true then init else stop)
 | [],_=>rfl
 | x::l,h=>by
  have hx:=h x (by simp)
  rw [List.forIn_cons,eW hx]
  cases hg:g x with
  | true=>
   simp only [if_true]
   rw [CZ fun y hy=>h y (by simp [hy])]
   simp [hg]
  | false=>simp [hg]; rfl
theorem vP {t:TypeId} {d:TypeDesc} (h:P.underlying t=some d):dr P (underlying t)=some d:=by
 simp [underlying,program,Bind.bind,Sem.bind,dr,h,Pure.pure]
theorem Qk {t:TypeId} {i:TypeInfo} (h:P.info? t=some i):dr P (typeInfo t)=some i:=by
 simp [typeInfo,program,Bind.bind,Sem.bind,dr,h,Pure.pure]
theorem cB {α:Type} (a:α):dr P (pure a)=some a:=rfl
theorem IV {t:TypeId} {i:TypeInfo} (h:P.info? t=some i):dr P (sizeOf t)=some i.size:=by
 unfold sizeOf
 rw [eW (Qk h)]
 rfl
theorem Yv {n:Nat} {t:TypeId} {L:uU} (h:lay P n t=some L):∃ d,P.underlying t=some d∧L.agg=Xi d∧(L.agg=false→L.ks.length=1):=by
 cases n with
 | zero=>simp [lay] at h
 | succ n=>
  simp only [lay] at h
  split at h <;> rename_i hu
  ·simp at h; subst h; exact ⟨_,hu,rfl,fun _=>rfl⟩
  ·simp at h; subst h; exact ⟨_,hu,rfl,fun _=>rfl⟩
  ·simp at h; subst h; exact ⟨_,hu,rfl,fun _=>rfl⟩
  ·simp at h; subst h; exact ⟨_,hu,rfl,fun _=>rfl⟩
  ·obtain ⟨ks,_,rfl⟩:=Option.map_eq_some_iff.1 h; exact ⟨_,hu,rfl,fun h=>by simp at h⟩
  ·obtain ⟨ks,_,rfl⟩:=Option.map_eq_some_iff.1 h; exact ⟨_,hu,rfl,fun h=>by simp at h⟩
  ·rename_i d h1 h2 h3 h4 h5 h6
   simp at h; subst h
   refine ⟨_,hu,?_,fun _=>rfl⟩
   cases d <;> first | rfl | simp_all
  ·simp at h
def yC (agg:Bool) (l:List Value):Value:=cond agg (.agg ⟨l⟩) (l.headD undef)
theorem M6 {n:Nat} {t:TypeId} {L:uU} {i:TypeInfo} {cs:Array Value} {off:Nat} (h:lay P n t=some L) (hi:P.info? t=some i) (hs:i.size=L.ks.length) (hl:off+L.ks.length≤cs.size) :
  dr P (part t cs off)=some (yC L.agg ((cs.toList.drop off).take L.ks.length)):=by
 obtain ⟨d,hu,ha,h1⟩:=Yv h
 have amp:dr P (isAgg t)=some (Xi d):=by
  unfold isAgg
  rw [eW (vP hu)]
  cases d <;> rfl
 unfold part
 rw [eW amp]
 cases hd:Xi d with
 | true=>
  rw [hd] at ha
  simp only [if_true]
  rw [eW (IV hi)]
  simp only [cB,ha,yC,cond_true,hs]
  congr 2
  apply Array.ext'
  simp
 | false=>
  rw [hd] at ha
  have h1:=h1 ha
  have bX:off < cs.size:=by omega
  simp only [Bool.false_eq_true,if_false]
  rw [Array.getElem?_eq_getElem bX]
  simp only [cB,ha,yC,cond_false,h1]
  congr 1
  have:cs.toList.drop off=cs.toList[off]::cs.toList.drop (off+1):=List.drop_eq_getElem_cons (by simpa using bX)
  rw [this]
  simp
theorem Ql:∀ {xs ys:List KV} {b:Bool},rX xs ys=some b→xs.length=ys.length
 | [],[],_,_=>rfl
 | [],_::_,_,h=>by simp [rX] at h
 | _::_,[],_,h=>by simp [rX] at h
 | x::xs,y::ys,b,h=>by
  simp only [rX] at h
  split at h
  ·rename_i h2; simp [Ql h2]
  ·simp at h
theorem xX:∀ (n:Nat) {xs ys:List KV} {b:Bool},rX xs ys=some b→∃ b1 b2,rX (xs.take n) (ys.take n)=some b1∧rX (xs.drop n) (ys.drop n)=some b2∧b=(b1&&b2)
 | 0,xs,ys,b,h=>⟨true,b,by simp [rX],by simpa using h,by simp⟩
 | n+1,[],[],b,h=>by simp [rX] at h; subst h; exact ⟨true,true,by simp [rX],by simp [rX],rfl⟩
 | n+1,[],_::_,b,h=>by simp [rX] at h
 | n+1,_::_,[],b,h=>by simp [rX] at h
 | n+1,x::xs,y::ys,b,h=>by
  simp only [rX] at h
  split at h
  ·rename_i a c h1 h2
   simp at h
   obtain ⟨b1,b2,h3,h4,h5⟩:=xX n h2
   refine ⟨a&&b1,b2,by simp [rX,h1,h3],by simpa using h4,?_⟩
   rw [← h,h5,Bool.and_assoc]
  ·simp at h
def z6 (xs ys:List KV) (off n:Nat):Bool:=(rX ((xs.drop off).take n) ((ys.drop off).take n)).getD false
theorem abM {xs ys:List KV} {b:Bool} (h:rX xs ys=some b) (off n:Nat):rX ((xs.drop off).take n) ((ys.drop off).take n)=some (z6 xs ys off n):=by
 obtain ⟨_,_,_,h2,_⟩:=xX off h
 obtain ⟨b1,_,h3,_,_⟩:=xX n h2
 unfold z6
 rw [h3]; rfl
theorem sU:∀ {a b:List CK} {xs:List KV},aH (a++b) xs=true→aH a (xs.take a.length)=true∧aH b (xs.drop a.length)=true
 | [],b,xs,h=>by simpa [aH] using h
 | c::a,b,[],h=>by simp [aH] at h
 | c::a,b,x::xs,h=>by
  simp only [List.cons_append,aH,Bool.and_eq_true] at h
  obtain ⟨h1,h2⟩:=sU h.2
  simp [aH,h.1,h1,h2]
theorem pY:∀ {a:List CK} {xs:List KV},aH a xs=true→xs.length=a.length
 | [],[],_=>rfl
 | [],_::_,h=>by simp [aH] at h
 | _::_,[],h=>by simp [aH] at h
 | c::a,x::xs,h=>by
  simp only [aH,Bool.and_eq_true] at h
  simp [pY h.2]
theorem Yw {lf:TypeId→Option uU} {xs ys:List KV} {b:Bool} (he:rX xs ys=some b):∀ {fs:List Field} {off:Nat} {ks:List CK},J6 lf fs off=some ks→aH ks (xs.drop off)=true→aH ks (ys.drop off)=true→off+ks.length=xs.length→
  (∀ f∈fs,∃ L,lf f.type=some L∧f.offset+L.ks.length≤xs.length∧aH L.ks ((xs.drop f.offset).take L.ks.length)=true∧aH L.ks ((ys.drop f.offset).take L.ks.length)=true)∧
  rX (xs.drop off) (ys.drop off)=some (fs.all fun f=>z6 xs ys f.offset (((lf f.type).map (·.ks.length)).getD 0))
 | [],off,ks,h,_,_,hl=>by
  simp [J6] at h
  subst h
  have h1:xs.drop off = []:=by simp at hl; simp; omega
  have h2:ys.drop off = []:=by have:=Ql he; simp at hl; simp; omega
  refine ⟨by simp,?_⟩
  rw [h1,h2]; rfl
 | f::fs,off,ks,h,hk,vO,hl=>by
  simp only [J6] at h
  obtain ⟨IU,h⟩:=HI h
  have IU:=Nat.eq_of_beq_eq_true IU
  obtain ⟨L,h1,h⟩:=Option.bind_eq_some_iff.1 h
  obtain ⟨r,h2,rfl⟩:=Option.map_eq_some_iff.1 h
  obtain ⟨k1,k2⟩:=sU hk
  obtain ⟨k1',k2'⟩:=sU vO
  rw [List.drop_drop] at k2 k2'
  simp only [List.length_append] at hl
  obtain ⟨h3,h4⟩:=Yw he h2 k2 k2' (by omega)
  refine ⟨fun g hg=>?_,?_⟩
  ·rcases List.mem_cons.1 hg with rfl | hg
   ·exact ⟨L,h1,by omega,by rw [IU]; exact k1,by rw [IU]; exact k1'⟩
   ·exact h3 g hg
  ·obtain ⟨_,_,_,h5,_⟩:=xX off he
   obtain ⟨c1,c2,h6,h7,h8⟩:=xX L.ks.length h5
   rw [List.drop_drop,List.drop_drop] at h7
   rw [h4] at h7
   simp at h7
   have h9:=abM he off L.ks.length
   rw [h6] at h9
   simp at h9
   rw [h5,h8]
   simp only [List.all_cons,h1,Option.map_some,Option.getD_some,IU,← h9]
   rw [← h7]
theorem BG {α:Type} (l:List α):∀ n,(dV l n).length=n * l.length
 | 0=>by simp [dV]
 | n+1=>by rw [dV,List.length_append,BG l n,Nat.succ_mul]; omega
theorem Yx {xs ys:List KV} {l:List CK} : ∀ {len off:Nat} {b:Bool},rX (xs.drop off) (ys.drop off)=some b→aH (dV l len) (xs.drop off)=true→aH (dV l len) (ys.drop off)=true→
  (∀ i,i < len→aH l ((xs.drop (off+i * l.length)).take l.length)=true∧aH l ((ys.drop (off+i * l.length)).take l.length)=true)∧
  rX (xs.drop off) (ys.drop off)=some ((List.range' 0 len).all fun i=>z6 xs ys (off+i * l.length) l.length)
 | 0,off,b,h,hk,vO=>by
  have h1:xs.drop off = []:=by have:=pY hk; simp only [dV,List.length_nil] at this; exact List.length_eq_zero_iff.1 this
  have h2:ys.drop off = []:=by have:=pY vO; simp only [dV,List.length_nil] at this; exact List.length_eq_zero_iff.1 this
  refine ⟨fun i hi=>by omega,?_⟩
  rw [h1,h2]; rfl
 | len+1,off,b,h,hk,vO=>by
  obtain ⟨c1,c2,h1,h2,h3⟩:=xX l.length h
  rw [List.drop_drop,List.drop_drop] at h2
  obtain ⟨k1,k2⟩:=sU (a:=l) (b:=dV l len) hk
  obtain ⟨k1',k2'⟩:=sU (a:=l) (b:=dV l len) vO
  rw [List.drop_drop] at k2 k2'
  obtain ⟨h5,h4⟩:=Yx (len:=len) (off:=off+l.length) h2 k2 k2'
  refine ⟨fun i hi=>?_,?_⟩
  ·cases i with
   | zero=>simpa using ⟨k1,k1'⟩
   | succ i=>
    have:=h5 i (by omega)
    rwa [show off+l.length+i * l.length=off+(i+1) * l.length by rw [Nat.succ_mul]; omega] at this
  rw [h2] at h4
  simp at h4
  have hw:z6 xs ys off l.length=c1:=by unfold z6; rw [h1]; rfl
  rw [h,h3]
  rw [List.range'_succ]
  simp only [List.all_cons,Nat.zero_mul,Nat.add_zero,hw,Nat.zero_add]
  congr 2
  rw [h4]
  have:List.range' 1 len=(List.range' 0 len).map (1 + ·):=by rw [List.map_add_range']
  rw [this,List.all_map]
  apply congrArg (fun f=>List.all (List.range' 0 len) f)
  funext i
  simp only [Function.comp]
  congr 1
  rw [Nat.add_mul]; omega
theorem aes:∀ (n d:Nat) (t:TypeId) (L:uU) (cx cy:List KV) (xs ys:List Value) (b:Bool),B4 P n t=true→lay P n t=some L→n≤d→bf P E cx xs→bf P E cy ys→aH L.ks cx=true→aH L.ks cy=true→
  rX cx cy=some b→dr P (Op.equalIn d t (yC L.agg xs) (yC L.agg ys))=some b
 | 0,_,_,_,_,_,_,_,_,h,_,_,_,_,_,_,_=>by simp [B4] at h
 | n+1,0,_,_,_,_,_,_,_,_,_,h,_,_,_,_,_=>by omega
 | n+1,d+1,t,L,cx,cy,xs,ys,b,h,hL,hd,hx,hy,hkx,hky,he=>by
  have hl:=pY hkx
  have hly:=pY hky
  have hlx' : xs.length=L.ks.length:=by rw [hx.length,hl]
  have hly' : ys.length=L.ks.length:=by rw [hy.length,hly]
  have ahb:∀ s,B4 P n s=true→∃ i l,P.info? s=some i∧lay P n s=some l∧i.size=l.ks.length:=by
   intro s hs
   cases n with
   | zero=>simp [B4] at hs
   | succ n=>
    simp only [B4,Bool.and_eq_true] at hs
    have h1:=hs.1
    split at h1
    ·rename_i i l e1 e2
     exact ⟨i,l,e1,e2,Nat.eq_of_beq_eq_true h1⟩
    ·simp at h1
  have IW:∀ (s:TypeId) (l:uU) (i:TypeInfo) (off:Nat),B4 P n s=true→lay P n s=some l→P.info? s=some i→i.size=l.ks.length→off+l.ks.length≤cx.length→
    aH l.ks ((cx.drop off).take l.ks.length)=true→aH l.ks ((cy.drop off).take l.ks.length)=true→
    (do
     let u ← part s ⟨xs⟩ off
     let v ← part s ⟨ys⟩ off
     Op.equalIn d s u v:Sem Bool)=(do
     let u ← part s ⟨xs⟩ off
     let v ← part s ⟨ys⟩ off
     Op.equalIn d s u v)∧dr P (part s ⟨xs⟩ off)=some (yC l.agg ((xs.drop off).take l.ks.length))∧dr P (part s ⟨ys⟩ off)=some (yC l.agg ((ys.drop off).take l.ks.length))∧
    dr P (Op.equalIn d s (yC l.agg ((xs.drop off).take l.ks.length)) (yC l.agg ((ys.drop off).take l.ks.length)))=some (z6 cx cy off l.ks.length):=by
   intro s l i off h1 h2 h3 h4 h5 h6 h7
   refine ⟨rfl,?_,?_,?_⟩
   ·exact M6 h2 h3 h4 (by simp; omega)
   ·exact M6 h2 h3 h4 (by simp; omega)
   ·exact aes n d s l _ _ _ _ _ h1 h2 (by omega) ((hx.drop off).take _) ((hy.drop off).take _) h6 h7 (abM he off _)
  simp only [B4,Bool.and_eq_true] at h
  have h2:=h.2
  obtain ⟨dd,hu,ha,h1⟩:=Yv hL
  rw [hu] at h2
  unfold Op.equalIn
  rw [eW (vP hu)]
  simp only [lay,hu] at hL
  have Qm:∀ c,L.ks = [c]→∃ x y u v,cx = [x]∧cy = [y]∧xs = [u]∧ys = [v]∧VK P E x u∧VK P E y v∧eqK x y=some b∧kindOk c x=true∧kindOk c y=true:=by
   intro c hc
   rw [hc] at hl hly hkx hky
   match cx,cy,hl,hly with
   | [x],[y],_,_=>
    obtain ⟨u,rfl,h2⟩:=hx.eU
    obtain ⟨v,rfl,h3⟩:=hy.eU
    refine ⟨x,y,u,v,rfl,rfl,rfl,rfl,h2,h3,?_,by simpa [aH] using hkx,by simpa [aH] using hky⟩
    simp only [rX] at he
    split at he
    ·rename_i a c h4 h5
     simp at h5
     subst h5
     simpa [h4] using he
    ·simp at he
  cases dd with
  | int k=>
   simp at hL
   subst hL
   obtain ⟨x,y,u,v,rfl,rfl,rfl,rfl,h3,h4,h5,h6,h7⟩:=Qm _ rfl
   cases x <;> simp [kindOk] at h6
   cases y <;> simp [kindOk] at h7
   subst h6 h7
   have:=h3.du; subst this
   have:=h4.du; subst this
   simp [eqK] at h5
   subst h5
   simp [yC,cB]
  | bool=>
   simp at hL
   subst hL
   obtain ⟨x,y,u,v,rfl,rfl,rfl,rfl,h3,h4,h5,h6,h7⟩:=Qm _ rfl
   cases x <;> simp [kindOk] at h6
   cases y <;> simp [kindOk] at h7
   have:=h3.gd; subst this
   have:=h4.gd; subst this
   simp [eqK] at h5
   subst h5
   simp [yC,cB]
  | string=>
   simp at hL
   subst hL
   obtain ⟨x,y,u,v,rfl,rfl,rfl,rfl,h3,h4,h5,h6,h7⟩:=Qm _ rfl
   cases x <;> simp [kindOk] at h6
   cases y <;> simp [kindOk] at h7
   have:=h3.rv; subst this
   have:=h4.rv; subst this
   simp [eqK] at h5
   subst h5
   simp [yC,cB]
  | struct fs=>
   simp only [Option.map_eq_some_iff] at hL
   obtain ⟨ks,rm,rfl⟩:=hL
   simp only [Bool.and_eq_true,Bool.not_eq_true'] at h2
   obtain ⟨h3,h4⟩:=Yw he rm (by simpa using hkx) (by simpa using hky) (by simpa using hl.symm)
   simp only [List.drop_zero] at h4
   rw [he] at h4
   simp only [Option.some.injEq] at h4
   simp only [yC,cond_true]
   rw [eW (a:=P) (by simp [program,dr])]
   simp only [h2.1,Bool.false_eq_true,if_false]
   rw [← Array.forIn_toList]
   rw [eW (CZ (g:=fun f=>z6 cx cy f.offset (((lay P n f.type).map (·.ks.length)).getD 0)) (stop:=(some false,())) fun f hf=>?_)]
   ·rw [h4]
    cases (fs.toList.all fun f=>z6 cx cy f.offset (((lay P n f.type).map (·.ks.length)).getD 0)) <;> rfl
   ·have h5:=List.all_eq_true.1 h2.2 f hf
    simp only [Bool.and_eq_true,Bool.not_eq_true',beq_eq_false_iff_ne] at h5
    rw [if_pos h5.1]
    obtain ⟨l,h6,h7,h8,h9⟩:=h3 f hf
    obtain ⟨i,l',e1,e2,e3⟩:=ahb _ h5.2
    rw [h6] at e2
    simp at e2
    subst e2
    obtain ⟨_,w1,w2,w3⟩:=IW _ l i f.offset h5.2 h6 e1 e3 h7 h8 h9
    rw [eW w1,eW w2,eW w3]
    simp only [h6,Option.map_some,Option.getD_some]
    cases z6 cx cy f.offset l.ks.length <;> rfl
  | array len e=>
   simp only [Option.map_eq_some_iff] at hL
   obtain ⟨l,J2,rfl⟩:=hL
   obtain ⟨h3,h4⟩:=Yx (xs:=cx) (ys:=cy) (l:=l.ks) (len:=len) (off:=0) (by simpa using he) (by simpa using hkx) (by simpa using hky)
   simp only [List.drop_zero,Nat.zero_add] at h3 h4
   rw [he] at h4
   simp only [Option.some.injEq] at h4
   obtain ⟨i,l',e1,e2,e3⟩:=ahb _ h2
   rw [J2] at e2
   simp at e2
   subst e2
   simp only [yC,cond_true]
   rw [eW (IV e1)]
   rw [Std.Legacy.Range.forIn_eq_forIn_range']
   rw [show List.range' [:len].start [:len].size [:len].step=List.range' 0 len from by simp [Std.Legacy.Range.size]]
   rw [eW (CZ (g:=fun i=>z6 cx cy (i * l.ks.length) l.ks.length) (stop:=(some false,())) fun j hj=>?_)]
   ·rw [h4]
    cases ((List.range' 0 len).all fun i=>z6 cx cy (i * l.ks.length) l.ks.length) <;> rfl
   ·have lX:j < len:=by simpa using hj
    obtain ⟨k1,k2⟩:=h3 j lX
    have hle:j * l.ks.length+l.ks.length≤cx.length:=by
     rw [hl]
     simp only [BG]
     rw [← Nat.succ_mul]
     exact Nat.mul_le_mul_right _ lX
    obtain ⟨_,w1,w2,w3⟩:=IW _ l i (j * l.ks.length) h2 J2 e1 e3 hle k1 k2
    rw [e3]
    rw [eW w1,eW w2,eW w3]
    cases z6 cx cy (j * l.ks.length) l.ks.length <;> rfl
  | _=>simp at h2
theorem Kg:∀ {ks:List CK} {cs:List KV} {l:List Value},aH ks cs=true→bf P E cs l→(∀ t,CK.slice t ∉ ks)→ua l=true
 | [],[],l,_,h,_=>by rw [h.ck]; rfl
 | [],_::_,_,h,_,_=>by simp [aH] at h
 | _::_,[],_,h,_,_=>by simp [aH] at h
 | c::ks,v::cs,l,h,hv,hn=>by
  obtain ⟨y,ys,rfl,h1,h2⟩:=hv.cons_inv
  simp only [aH,Bool.and_eq_true] at h
  have:=Kg h.2 h2 (fun t ht=>hn t (by simp [ht]))
  simp only [ua,this,Bool.and_true]
  cases c with
  | int k=>cases v <;> simp [kindOk] at h; have:=h1.du; subst this; rfl
  | bool=>cases v <;> simp [kindOk] at h; have:=h1.gd; subst this; rfl
  | str=>cases v <;> simp [kindOk] at h; have:=h1.rv; subst this; rfl
  | slice t=>exact absurd (by simp) (hn t)
  | other=>cases v <;> simp [kindOk] at h
theorem Kh:∀ (n:Nat) (t:TypeId) (L:uU),B4 P n t=true→lay P n t=some L→∀ u,CK.slice u ∉ L.ks
 | 0,_,_,h,_,_=>by simp [B4] at h
 | n+1,t,L,h,hL,u=>by
  simp only [B4,Bool.and_eq_true] at h
  have h2:=h.2
  obtain ⟨dd,hu,_,_⟩:=Yv hL
  rw [hu] at h2
  simp only [lay,hu] at hL
  cases dd with
  | int k=>simp at hL; subst hL; simp
  | bool=>simp at hL; subst hL; simp
  | string=>simp at hL; subst hL; simp
  | struct fs=>
   simp only [Option.map_eq_some_iff] at hL
   obtain ⟨ks,rm,rfl⟩:=hL
   simp only [Bool.and_eq_true,List.all_eq_true] at h2
   have key:∀ (l:List Field) (off:Nat) (ks:List CK),J6 (lay P n) l off=some ks→(∀ f∈l,B4 P n f.type=true)→CK.slice u ∉ ks:=by
    intro l
    induction l with
    | nil=>intro off ks h _; simp [J6] at h; subst h; simp
    | cons f l ih=>
     intro off ks h hf
     simp only [J6] at h
     obtain ⟨_,h⟩:=HI h
     obtain ⟨L',h5,h⟩:=Option.bind_eq_some_iff.1 h
     obtain ⟨r,h6,rfl⟩:=Option.map_eq_some_iff.1 h
     rw [List.mem_append]
     rintro (h7 | h7)
     ·exact Kh n _ _ (hf f (by simp)) h5 u h7
     ·exact ih _ _ h6 (fun g hg=>hf g (by simp [hg])) h7
   exact key _ _ _ rm fun f hf=>(h2.2 f hf).2
  | array len e=>
   simp only [Option.map_eq_some_iff] at hL
   obtain ⟨l,J2,rfl⟩:=hL
   have:=Kh n e l h2 J2 u
   have key:∀ m,CK.slice u ∉ dV l.ks m:=by
    intro m
    induction m with
    | zero=>simp [dV]
    | succ m ih=>simp only [dV,List.mem_append,not_or]; exact ⟨this,ih⟩
   exact key _
  | _=>simp at h2
theorem agc {t:TypeId} (h:B4 P 12 t=true):lay P 12 t=some (bu P t):=by
 simp only [B4,Bool.and_eq_true] at h
 have h1:=h.1
 unfold bu
 split at h1
 ·rename_i i l e1 e2; rw [e2]; rfl
 ·simp at h1
theorem aet {t:TypeId} {x y:KV} {b:Bool} {lit:Bool} {u v:Value} (hx:VK P E x u) (hy:VK P E y v) (h:ai8 P t x y=some b):qa P t lit u v=some b:=by
 unfold ai8 at h
 split at h
 ·rename_i xs ys
  obtain ⟨hc,h⟩:=HI h
  simp only [Bool.and_eq_true,Bool.not_eq_true'] at hc
  obtain ⟨⟨⟨⟨ha,h1⟩,h2⟩,h3⟩,h4⟩:=hc
  obtain ⟨l,rfl,hl⟩:=hx.mc
  obtain ⟨m,rfl,hm⟩:=hy.mc
  have hL:=agc h1
  have hns:=Kh 12 t _ h1 hL
  have hfx:flat (.agg ⟨l⟩)=true:=Kg h3 hl hns
  have hfy:flat (.agg ⟨m⟩)=true:=Kg h4 hm hns
  have hs:=aes 12 Op.maxDepth t (bu P t) xs ys l m b h1 hL (by unfold Op.maxDepth; omega) hl hm h3 h4 h
  rw [ha] at hs
  have hs:dr P (Op.equal t (.agg ⟨l⟩) (.agg ⟨m⟩))=some b:=hs
  unfold qa
  simp only [kb,wS,h2,Bool.not_false,Bool.and_self,cond_true]
  unfold XI
  split <;> simp_all
 ·rename_i a c
  split at h
  ·rename_i hu
   simp at h
   subst h
   have:=hx.gd; subst this
   have:=hy.gd; subst this
   have:dr P (Op.equal t (.bool a) (.bool c))=some (a==c):=by
    unfold Op.equal Op.maxDepth Op.equalIn
    rw [eW (vP hu)]
    rfl
   unfold qa
   simp only [kb,wS,Bool.and_self,cond_true]
   unfold XI
   split <;> simp_all [flat]
  ·simp at h
 ·split at h
  ·rename_i e hu
   simp at h
   subst h
   have:=hx.nQ; subst this
   have:=hy.nQ; subst this
   simp [qa,kb,wS,XI,hu]
  ·simp at h
 ·rename_i T m n es acc
  split at h
  ·rename_i e hu
   cases hn:Nat.beq n 0 with
   | true=>rw [hn] at h; simp at h
   | false=>
    rw [hn] at h
    simp at h
    subst h
    have:=hy.nQ; subst this
    obtain ⟨_,bq,_,a,cap,rfl,_,hb,_⟩:=hx.mi
    rcases hb with ⟨_,h0⟩ | ⟨b,off,r,rfl,_⟩
    ·subst h0; simp at hn
    ·simp [qa,kb,wS,XI,hu]
  ·simp at h
 ·rename_i T m n es acc
  split at h
  ·rename_i e hu
   cases hn:Nat.beq n 0 with
   | true=>rw [hn] at h; simp at h
   | false=>
    rw [hn] at h
    simp at h
    subst h
    have:=hx.nQ; subst this
    obtain ⟨_,bq,_,a,cap,rfl,_,hb,_⟩:=hy.mi
    rcases hb with ⟨_,h0⟩ | ⟨b,off,r,rfl,_⟩
    ·subst h0; simp at hn
    ·simp [qa,kb,wS,XI,hu]
  ·simp at h
 ·split at h
  ·rename_i e hu
   simp at h
   subst h
   have:=hx.LX; subst this
   have:=hy.LX; subst this
   simp [qa,kb,wS,XI,hu]
  ·simp at h
 ·split at h
  ·rename_i e hu
   simp at h
   subst h
   have:=hy.LX; subst this
   obtain ⟨x,_,rfl⟩:=hx.iW
   simp [qa,kb,wS,XI,hu]
  ·simp at h
 ·split at h
  ·rename_i e hu
   simp at h
   subst h
   have:=hx.LX; subst this
   obtain ⟨x,_,rfl⟩:=hy.iW
   simp [qa,kb,wS,XI,hu]
  ·simp at h
 ·simp at h
theorem akL {op:BinOp} {t:TypeId} {lit:Bool} : uo P (ai9 P op t) (rb P op t lit):=by
 intro E vs us w h hg
 unfold ai9 at hg
 split at hg
 ·rename_i j a k b
  obtain ⟨x,y,rfl,h1,h2⟩:=h.kR
  have:=h1.du; subst this
  have:=h2.du; subst this
  cases hs:aee op with
  | true=>
   rw [hs,cond_true] at hg
   cases op <;> simp [aee] at hs
   ·obtain ⟨hc,rfl⟩:=a5.lV hg
    simp only [Bool.not_eq_true',decide_eq_false_iff_not] at hc
    exact ⟨_,by simp [rb,binOp,Op.shift,hc,cB],.mkInt⟩
   ·obtain ⟨hc,rfl⟩:=a5.lV hg
    simp only [Bool.not_eq_true',decide_eq_false_iff_not] at hc
    exact ⟨_,by simp [rb,binOp,Op.shift,hc,cB],.mkInt⟩
  | false=>
   rw [hs,cond_false] at hg
   obtain ⟨hjk,hz⟩:=hg.cond
   clear hg
   simp only [decide_eq_true_eq] at hjk
   subst hjk
   cases op with
   | shl=>simp [aee] at hs
   | shr=>simp [aee] at hs
   | quo=>
    obtain ⟨hc,rfl⟩:=a5.lV hz
    simp only [Bool.not_eq_true',decide_eq_false_iff_not] at hc
    exact ⟨_,by simp [rb,binOp,Op.intDiv,hc,cB],.mkInt⟩
   | rem=>
    obtain ⟨hc,rfl⟩:=a5.lV hz
    simp only [Bool.not_eq_true',decide_eq_false_iff_not] at hc
    exact ⟨_,by simp [rb,binOp,Op.intDiv,hc,cB],.mkInt⟩
   | add=>have hz:KV.int _ _=w:=hz; subst hz; exact ⟨_,by simp [rb,binOp,Op.intArith,cB],.mkInt⟩
   | sub=>have hz:KV.int _ _=w:=hz; subst hz; exact ⟨_,by simp [rb,binOp,Op.intArith,cB],.mkInt⟩
   | mul=>have hz:KV.int _ _=w:=hz; subst hz; exact ⟨_,by simp [rb,binOp,Op.intArith,cB],.mkInt⟩
   | and=>have hz:KV.int _ _=w:=hz; subst hz; exact ⟨_,by simp [rb,binOp,Op.intBits,cB],.mkInt⟩
   | or=>have hz:KV.int _ _=w:=hz; subst hz; exact ⟨_,by simp [rb,binOp,Op.intBits,cB],.mkInt⟩
   | xor=>have hz:KV.int _ _=w:=hz; subst hz; exact ⟨_,by simp [rb,binOp,Op.intBits,cB],.mkInt⟩
   | andNot=>have hz:KV.int _ _=w:=hz; subst hz; exact ⟨_,by simp [rb,binOp,Op.intBits,cB],.mkInt⟩
   | eql=>have hz:KV.bool _=w:=hz; subst hz; exact ⟨_,by simp [rb,binOp,Op.intCmp,cB],.sk⟩
   | neq=>have hz:KV.bool _=w:=hz; subst hz; exact ⟨_,by simp [rb,binOp,Op.intCmp,cB],.sk⟩
   | lss=>have hz:KV.bool _=w:=hz; subst hz; exact ⟨_,by simp [rb,binOp,Op.intCmp,cB],.sk⟩
   | leq=>have hz:KV.bool _=w:=hz; subst hz; exact ⟨_,by simp [rb,binOp,Op.intCmp,cB],.sk⟩
   | gtr=>have hz:KV.bool _=w:=hz; subst hz; exact ⟨_,by simp [rb,binOp,Op.intCmp,cB],.sk⟩
   | geq=>have hz:KV.bool _=w:=hz; subst hz; exact ⟨_,by simp [rb,binOp,Op.intCmp,cB],.sk⟩
 ·rename_i a b
  obtain ⟨x,y,rfl,h1,h2⟩:=h.kR
  have:=h1.rv; subst this
  have:=h2.rv; subst this
  split at hg
  ·have hg:KV.bool _=w:=hg; subst hg; exact ⟨_,by simp [rb,binOp,Op.stringOp,cB],.sk⟩
  ·have hg:KV.bool _=w:=hg; subst hg; exact ⟨_,by simp [rb,binOp,Op.stringOp,cB],.sk⟩
  ·have hg:KV.bool _=w:=hg; subst hg; exact ⟨_,by simp [rb,binOp,Op.stringOp,cB],.sk⟩
  ·obtain ⟨hc,rfl⟩:=a5.lV hg
   have hc:=Nat.le_of_ble_eq_true hc
   have hn : ¬ (((a.size+b.size:Nat):Int) > IntKind.i64.max):=by
    have:IntKind.i64.max=9223372036854775807:=by decide
    rw [this]; omega
   refine ⟨.string (a++b),?_,.mkStr⟩
   simp only [rb,binOp,Op.stringOp]
   rw [if_neg hn]
   rfl
  ·exact hg.elim
 ·rename_i x y hn1 hn2
  obtain ⟨u,v,rfl,h1,h2⟩:=h.kR
  split at hg
  ·rename_i b he
   have hg:KV.bool b=w:=hg
   subst hg
   have:=aet (lit:=lit) h1 h2 he
   refine ⟨.bool b,?_,.sk⟩
   unfold rb
   split
   ·rename_i e; simp at e; obtain ⟨rfl,rfl⟩:=e; simp [qa,kb] at this
   ·rename_i e; simp at e; obtain ⟨rfl,rfl⟩:=e; simp [qa,kb] at this
   ·rename_i e; simp at e; obtain ⟨rfl,rfl⟩:=e; simp [this]
   ·rename_i e; exact absurd rfl (e _ _)
  ·rename_i b he
   have hg:KV.bool (!b)=w:=hg
   subst hg
   have:=aet (lit:=lit) h1 h2 he
   refine ⟨.bool !b,?_,.sk⟩
   unfold rb
   split
   ·rename_i e; simp at e; obtain ⟨rfl,rfl⟩:=e; simp [qa,kb] at this
   ·rename_i e; simp at e; obtain ⟨rfl,rfl⟩:=e; simp [qa,kb] at this
   ·rename_i e; simp at e; obtain ⟨rfl,rfl⟩:=e; simp [this]
   ·rename_i e; exact absurd rfl (e _ _)
  ·exact hg.elim
 ·exact hg.elim
theorem alL {op:UnOp} : uo P (kUn op) (fUn P op):=by
 intro E vs us w h hg
 unfold kUn at hg
 split at hg
 ·rename_i b
  obtain ⟨y,rfl,h1⟩:=h.eU
  have:=h1.gd; subst this
  split at hg
  ·have hg:KV.bool (!b)=w:=hg
   subst hg
   exact ⟨_,by simp [fUn,Op.unary,cB],.sk⟩
  ·exact hg.elim
 ·rename_i k n
  obtain ⟨y,rfl,h1⟩:=h.eU
  have:=h1.du; subst this
  split at hg
  ·have hg:KV.int _ _=w:=hg
   subst hg
   exact ⟨.int k (k.wrap (0 - n)),by simp [fUn,Op.unary,Op.intArith,cB],.mkInt⟩
  ·have hg:KV.int _ _=w:=hg
   subst hg
   exact ⟨_,by simp [fUn,Op.unary,Op.intBits,cB],.mkInt⟩
  ·exact hg.elim
 ·exact hg.elim
theorem Yy {mx:Bool} : uo P (FO mx) (Hi P fun vs=>cond mx (Builtin.max_ #[] 0 ⟨vs⟩) (Builtin.min_ #[] 0 ⟨vs⟩)):=by
 intro E vs us w h hg
 unfold FO at hg
 split at hg
 ·rename_i j a k b
  obtain ⟨x,y,rfl,h1,h2⟩:=h.kR
  have:=h1.du; subst this
  have:=h2.du; subst this
  obtain ⟨hjk,hz⟩:=hg.cond
  clear hg
  simp only [decide_eq_true_eq] at hjk
  subst hjk
  have hz:KV.int _ _=w:=hz
  subst hz
  refine ⟨_,?_,.mkInt⟩
  cases mx
  ·simp [Hi,ua,flat,Builtin.min_,Builtin.min2,cB]
   omega
  ·simp [Hi,ua,flat,Builtin.max_,Builtin.max2,cB]
   omega
 ·rename_i j a k b l c
  obtain ⟨x,y,z,rfl,h1,h2,h3⟩:=h.Ox
  have:=h1.du; subst this
  have:=h2.du; subst this
  have:=h3.du; subst this
  obtain ⟨hjk,hz⟩:=hg.cond
  clear hg
  simp only [Bool.and_eq_true,decide_eq_true_eq] at hjk
  obtain ⟨rfl,rfl⟩:=hjk
  have hz:KV.int _ _=w:=hz
  subst hz
  refine ⟨_,?_,.mkInt⟩
  cases mx
  ·show some (Value.int j (if c < (if b < a then b else a) then c else (if b < a then b else a)))=some (Value.int j (min (min a b) c))
   congr 2
   split <;> split at * <;> omega
  ·show some (Value.int j (if c > (if b > a then b else a) then c else (if b > a then b else a)))=some (Value.int j (max (max a b) c))
   congr 2
   split <;> split at * <;> omega
 ·exact hg.elim
end Go.K
end
