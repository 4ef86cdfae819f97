/- Part of the proof of WorldMat: the machine, shown to be the model's, and plain models. No conditions. -/
import Derived.Test.YtckbdndhmcoihaaGreatEp
set_option linter.unusedSimpArgs false
set_option linter.unusedVariables false
section
namespace Go.K
open Go Go.aB
noncomputable section
inductive CD where
 | k (c:CK)
 | lit (v:KV)
 | bA (t:TypeId)
 | arr (t:TypeId)
 | ref (w:KV)
def aaQ (bs:List Nat) (v:KV):KV:=
 match v with
 | .ptr j o=>.ptr (bs.getD j 0) o
 | v=>v
def Bp (bs:List Nat):List KV->List KV
 | []=>[]
 | v::vs=>aaQ bs v::Bp bs vs
def inst (bs:List Nat) (v:KV):KV:=
 match v with
 | .ptr j o=>.ptr (bs.getD j 0) o
 | .fn f first cap=>.fn f (Bp bs first) (Bp bs cap)
 | v=>v
def isP (nr:Nat):KV->Bool
 | .ptr j _=>Nat.blt j nr
 | _=>false
def ago (nr:Nat):List KV->Bool
 | []=>true
 | v::vs=>isP nr v&&ago nr vs
def acx (nr:Nat):KV->Bool
 | .ptr j _=>Nat.blt j nr
 | .fn (.func _) first cap=>ago nr first&&ago nr cap
 | _=>false
def eqP:KV->KV->Bool
 | .ptr a o,.ptr b q=>Nat.beq a b&&Nat.beq o q
 | _,_=>false
def agp:List KV->List KV->Bool
 | [],[]=>true
 | v::vs,u::us=>eqP v u&&agp vs us
 | _,_=>false
def Q0:KV->KV->Bool
 | .ptr a o,.ptr b q=>Nat.beq a b&&Nat.beq o q
 | .fn (.func f) a b,.fn (.func g) c d=>Nat.beq f g&&agp a c&&agp b d
 | _,_=>false
def yI:KV->KV->Bool
 | .fn (.func f) [] [],.fn (.func g) [] []=>Nat.beq f g
 | .GZ,.GZ=>true
 | .lX,.lX=>true
 | .CT,.CT=>true
 | .Il,.Il=>true
 | .Im,.Im=>true
 | _,_=>false
def Q1 (A:aw) (t:TypeId) (v:KV):KV:=
 match v with
 | .lX=>.ts t .any 0 [] qV
 | .al t' b o _=>match A.get b with
  | some (.arr (.ts t2 _ N es acc))=>cond (Nat.beq t t'&&Nat.beq t t2&&Nat.beq o 0) (.ts t .any N es acc) .ao
  | _=>.ao
 | _=>.ao
def gk (P:Program) (A:aw) (d:CD) (v:KV):KV:=
 match d with
 | .k c=>cond (kindOk c (oW c v)) (ai P aj (leaf c (oW c v))) .ao
 | .lit w=>cond (yI w v) w .ao
 | .bA t=>match v with
  | .lX=>ai P aj (.ts t .any 0 [] qV)
  | .ts t' (.bA _) n es acc=>cond (Nat.beq t t') (ai P aj (.ts t .any n es acc)) .ao
  | _=>.ao
 | .arr t=>ai P aj (Q1 A t v)
 | .ref w=>w
def gm (P:Program) (A:aw):List CD->List KV->List KV
 | d::ds,v::vs=>gk P A d v::gm P A ds vs
 | _,_=>[]
def lj (d:CD) (v:KV):Bool:=
 match d with
 | .k c=>kindOk c v
 | .lit w=>yI w v
 | .bA t=>kindOk (.slice t) v
 | .arr t=>kindOk (.slice t) v
 | .ref w=>Q0 w v
def dT:List CD->List KV->Bool
 | [],[]=>true
 | d::ds,v::vs=>lj d v&&dT ds vs
 | _,_=>false
structure VD where
 agg:Bool
 ks:List CD
def xN (P:Program) (A:aw) (d:VD) (v:KV):KV:=
 match v with
 | .agg cs=>cond (d.agg&&Nat.beq cs.length d.ks.length) (.agg (gm P A d.ks cs)) .ao
 | v=>cond d.agg .ao (match d.ks with
  | [c]=>gk P A c v
  | _=>.ao)
def zb (d:VD) (v:KV):Bool:=
 match v with
 | .agg cs=>d.agg&&dT d.ks cs
 | v=>!d.agg&&dT d.ks [v]
structure aV where
 gS:List (Tmp×VD)
 rows:List (Tmp×List CD×Nat)
 acy:List (Tmp×Nat×Nat)
def valOf (t:bO) (i:Tmp):KV:=(t.get i).getD .ao
def rY (P:Program) (t:bO) (A:aw):List (Tmp×VD)->List KV
 | []=>[]
 | p::ps=>xN P A p.2 (valOf t p.1)::rY P t A ps
def jT:List (Tmp×VD)->List KV->Bool
 | [],[]=>true
 | p::ps,v::vs=>zb p.2 v&&jT ps vs
 | _,_=>false
def au5:Option KV->Option Nat
 | some (.ptr b _)=>some b
 | _=>none
def awB (t:bO) (i:Nat):Option Nat:=
 cond (Nat.blt i 100000) (au5 (t.get i)) (match t.get (i % 100000) with
  | some (.fn _ first cap)=>au5 (akm (i / 100000 - 1) (first++cap))
  | _=>none)
def rowOf (t:bO) (A:aw) (p:Tmp×List CD×Nat):Option (Nat×List KV):=
 match awB t p.1 with
 | some b=>match A.get b with
  | some (.row cs e)=>cond (Nat.beq e p.2.2&&Nat.beq cs.length p.2.1.length) (some (b,cs)) none
  | _=>none
 | _=>none
def ard (t:bO) (A:aw) (p:Tmp×List CD×Nat):Nat:=((rowOf t A p).getD (0,[])).1
def IG (t:bO) (A:aw) (p:Tmp×List CD×Nat):List KV:=((rowOf t A p).getD (0,[])).2
def BT (t:bO) (A:aw):List (Tmp×List CD×Nat)->List Nat
 | []=>[]
 | p::ps=>ard t A p::BT t A ps
def Li (P:Program) (t:bO) (A:aw):List (Tmp×List CD×Nat)->List (List KV)
 | []=>[]
 | p::ps=>gm P A p.2.1 (IG t A p)::Li P t A ps
def Bq (P:Program) (t:bO) (A:aw):List (Tmp×List CD×Nat)->Bool
 | []=>true
 | p::ps=>(rowOf t A p).isSome&&(dT p.2.1 (gm P A p.2.1 (IG t A p))&&Bq P t A ps)
def atx (v:Option KV) (b:Option Nat) (off:Nat):Bool:=
 match v,b with
 | some (.ptr b o),some b'=>Nat.beq o off&&Nat.beq b b'
 | _,_=>false
def SP (t:bO) (bs:List Nat):List (Tmp×Nat×Nat)->Bool
 | []=>true
 | p::ps=>atx (t.get p.1) bs[p.2.1]? p.2.2&&SP t bs ps
def zc:List Nat->Bool
 | []=>true
 | b::bs=>bs.all (fun c=>!Nat.beq b c)&&zc bs
structure FI where
 ok:Bool
 f:Option Nat
 fm:Bool
def szL (P:Program) (t:TypeId):Nat:=(bB P t).ks.length
def vX (P:Program) (A:aw) (t:TypeId) (v:KV):FI:=
 match v with
 | .lX=>⟨true,none,true⟩
 | .ts _ (.bA f) n _ _=>match A.get f with
  | some (.bA top sz)=>⟨cond (Nat.beq sz (szL P t)) (bz top n) false,some f,true⟩
  | _=>⟨false,none,true⟩
 | _=>⟨false,none,true⟩
def Lj (P:Program) (A:aw) (t:TypeId) (v:KV):FI:=
 match v with
 | .lX=>⟨Nat.ble 1 (szL P t),none,false⟩
 | .al _ b _ n=>match A.get b with
  | some (.arr (.ts _ _ N _ _))=>⟨bz N n,some b,false⟩
  | _=>⟨false,none,false⟩
 | _=>⟨false,none,false⟩
def BU:Option kU->Bool
 | some (.bA _ _)=>true
 | _=>false
theorem akB (P:Program) (A:aw) (t:TypeId) (v:KV):(vX P A t v).fm=true:=by
 unfold vX;split
 ·rfl
 ·split <;> rfl
 ·rfl
theorem asc (P:Program) (A:aw) (t:TypeId) (v:KV):(Lj P A t v).fm=false:=by
 unfold Lj;split
 ·rfl
 ·split <;> rfl
 ·rfl
theorem asd {P:Program} {A:aw} {t:TypeId} {v:KV} {x:Nat} (h:(vX P A t v).f=some x):BU (A.get x)=true:=by
 unfold vX at h;split at h
 ·simp at h
 ·split at h
  ·rename_i e; simp at h; subst h; rw [e]; rfl
  ·simp at h
 ·simp at h
def nc (P:Program) (A:aw):List CD->List KV->List FI
 | .bA t::ds,v::vs=>vX P A t v::nc P A ds vs
 | .arr t::ds,v::vs=>Lj P A t v::nc P A ds vs
 | _::ds,_::vs=>nc P A ds vs
 | _,_=>[]
def Gv (P:Program) (t:bO) (A:aw):List (Tmp×VD)->List FI
 | []=>[]
 | p::ps=>nc P A p.2.ks (valOf t p.1).cells++Gv P t A ps
def II (P:Program) (t:bO) (A:aw):List (Tmp×List CD×Nat)->List FI
 | []=>[]
 | p::ps=>nc P A p.2.1 (IG t A p)++II P t A ps
def aaR:List FI->Bool
 | []=>true
 | x::xs=>cond (aaR xs) x.ok false
def Oj:List FI->List (Option Nat)
 | []=>[]
 | x::xs=>x.f::Oj xs
def lu:List (Option Nat)->List Nat
 | []=>[]
 | some f::xs=>f::lu xs
 | none::xs=>lu xs
def Gw (nr:Nat) (bs:List Nat):List CD->List KV->Bool
 | .ref w::ds,v::vs=>acx nr w&&(Q0 (inst bs w) v&&Gw nr bs ds vs)
 | _::ds,_::vs=>Gw nr bs ds vs
 | _,_=>true
def Q2 (nr:Nat) (bs:List Nat) (t:bO):List (Tmp×VD)->Bool
 | []=>true
 | p::ps=>Gw nr bs p.2.ks (valOf t p.1).cells&&Q2 nr bs t ps
def aaS (nr:Nat) (bs:List Nat) (t:bO) (A:aw):List (Tmp×List CD×Nat)->Bool
 | []=>true
 | p::ps=>Gw nr bs p.2.1 (IG t A p)&&aaS nr bs t A ps
structure GR where
 ok:Bool
 bs:List Nat
 fs:List (Option Nat)
 vs:List KV
 rs:List (List KV)
def aV.Tb (S:aV) (P:Program) (t:bO) (A:aw):List FI:=Gv P t A S.gS++II P t A S.rows
def aV.gP (S:aV) (P:Program) (t:bO) (A:aw):GR:=
 ⟨cond (Bq P t A S.rows&&zc (BT t A S.rows)&&SP t (BT t A S.rows) S.acy&&jT S.gS (rY P t A S.gS)&&zc (lu (Oj (S.Tb P t A)))&&Q2 S.rows.length (BT t A S.rows) t S.gS&&aaS S.rows.length (BT t A S.rows) t A S.rows) (aaR (S.Tb P t A)) false,
  BT t A S.rows,Oj (S.Tb P t A),rY P t A S.gS,Li P t A S.rows⟩
def Ol (j:Nat) (v:KV):KV:=
 match v with
 | .ts t _ n es acc=>.ts t (.bA j) n es acc
 | v=>v
def SQ (j:Nat) (v:KV):KV:=
 match v with
 | .ts t _ n _ _=>.al t j 0 n
 | v=>v
def tG:List CD->Nat
 | []=>0
 | .bA _::ds=>Nat.succ (tG ds)
 | .arr _::ds=>Nat.succ (tG ds)
 | _::ds=>tG ds
def sA (j:Nat) (bs:List Nat):List CD->List KV->List KV
 | .bA _::ds,v::vs=>Ol j v::sA (Nat.succ j) bs ds vs
 | .arr _::ds,v::vs=>SQ j v::sA (Nat.succ j) bs ds vs
 | .ref w::ds,_::vs=>inst bs w::sA j bs ds vs
 | _::ds,v::vs=>v::sA j bs ds vs
 | _,_=>[]
def acz (j:Nat) (bs:List Nat) (d:VD) (v:KV):KV:=
 match v with
 | .agg cs=>.agg (sA j bs d.ks cs)
 | v=>match d.ks with
  | [.bA _]=>Ol j v
  | [.arr _]=>SQ j v
  | [.ref w]=>inst bs w
  | _=>v
def acA (j:Nat) (bs:List Nat):List (Tmp×VD)->List KV->List (Nat×KV)
 | p::ps,v::vs=>(p.1,acz j bs p.2 v)::acA (j+tG p.2.ks) bs ps vs
 | _,_=>[]
def px:List (Tmp×VD)->Nat
 | []=>0
 | p::ps=>tG p.2.ks+px ps
def acB (j:Nat) (bs:List Nat):List (Tmp×List CD×Nat)->List (List KV)->List (List KV)
 | p::ps,r::rs=>sA j bs p.2.1 r::acB (j+tG p.2.1) bs ps rs
 | _,_=>[]
def ri (P:Program):List CD->List KV->List kU
 | .bA t::ds,v::vs=>.bA (lenOf v) (szL P t)::ri P ds vs
 | .arr _::ds,v::vs=>.arr v::ri P ds vs
 | _::ds,_::vs=>ri P ds vs
 | _,_=>[]
def Ax (P:Program):List (Tmp×VD)->List KV->List kU
 | p::ps,v::vs=>ri P p.2.ks v.cells++Ax P ps vs
 | _,_=>[]
def BV (P:Program):List (Tmp×List CD×Nat)->List (List KV)->List kU
 | p::ps,r::rs=>ri P p.2.1 r++BV P ps rs
 | _,_=>[]
def aV.lens (S:aV) (P:Program) (vs:List KV) (rs:List (List KV)):List kU:=Ax P S.gS vs++BV P S.rows rs
def Cn (bs:List Nat):List (Tmp×Nat×Nat)->List (Nat×KV)
 | []=>[]
 | p::ps=>(p.1,.ptr (bs.getD p.2.1 0) p.2.2)::Cn bs ps
def aV.tm (S:aV) (fb:Nat) (bs:List Nat) (vs:List KV):bO:=nj (acA fb bs S.gS vs++Cn bs S.acy)
def aV.IJ (S:aV) (fb:Nat) (bs:List Nat) (rs:List (List KV)):List (List KV):=acB (fb+px S.gS) bs S.rows rs
def u6 (A:aw):List kU->aw
 | []=>A
 | p::ps=>u6 (A.new p) ps
def BX (A:aw):List (Option Nat)->aw
 | []=>A
 | some f::fs=>BX (A.put f .dead) fs
 | none::fs=>BX A fs
def pT (A:aw):List Nat->List (Tmp×List CD×Nat)->List (List KV)->aw
 | b::bs,p::ps,r::rs=>pT (A.put b (.row r p.2.2)) bs ps rs
 | _,_,_=>A
def aV.back (S:aV) (P:Program) (bs:List Nat) (fs:List (Option Nat)) (vs:List KV) (rs:List (List KV)) (A:aw):aw:=
 u6 (BX (pT A bs S.rows (S.IJ A.next bs rs)) fs) (S.lens P vs rs)
def tH (A:aw):List (Tmp×List CD×Nat)->List (List KV)->aw
 | p::ps,r::rs=>tH (A.new (.row r p.2.2)) ps rs
 | _,_=>A
def aV.nr (S:aV):Nat:=S.rows.length
def upto:Nat->List Nat->List Nat
 | 0,l=>l
 | n+1,l=>upto n (n::l)
def aV.ids (S:aV):List Nat:=upto S.rows.length []
def aV.mem (S:aV) (P:Program) (vs:List KV) (rs:List (List KV)):aw:=u6 (tH .empty S.rows (S.IJ S.nr S.ids rs)) (S.lens P vs rs)
def yJ:List Nat->List Nat->Bool
 | [],[]=>true
 | a::aw7,b::bs=>Nat.beq a b&&yJ aw7 bs
 | _,_=>false
def dB (P:Program) (cfg:fE) (L n:Nat) (f:FuncId) (p:Nat) (body:Code) (S:aV) (vs:List KV) (rs:List (List KV)):Option (ae×List KV×List (List KV)):=
 rX P cfg (JV P cfg L n) L f body (2 * p) (fun e t A=>
  Bool.rec (motive:=fun _=>Option (ae×List KV×List (List KV))) none (some (e,(S.gP P t A).vs,(S.gP P t A).rs)) (cond (yJ (S.gP P t A).bs S.ids) (S.gP P t A).ok false)) (S.tm S.nr S.ids vs) (S.mem P vs rs)
def u7:ae->Bool
 | .normal=>true
 | _=>false
def BZ (rd:List KV->List (List KV)->Option (ae×List KV×List (List KV))):Nat->List KV->List (List KV)->Option (ae×List KV×List (List KV))
 | 0,_,_=>none
 | n+1,vs,rs=>match rd vs rs with
  | some (e,cX,oZ)=>cond (u7 e) (BZ rd n cX oZ) (some (e,cX,oZ))
  | none=>none
inductive vY where
 | no
 | out (e:ae) (vs:List KV) (rs:List (List KV))
 | br (c:Bool) (x y:vY)
def vY.ev:vY->Option (ae×List KV×List (List KV))
 | .no=>none
 | .out e vs rs=>some (e,vs,rs)
 | .br c x y=>cond c x.ev y.ev
def vY.tell (P:Program) (S:aV) (bs:List Nat) (fs:List (Option Nat)) (A:aw):vY->CX
 | .no=>.no
 | .out e vs rs=>.out e (S.tm A.next bs vs) (S.back P bs fs vs rs A)
 | .br c x y=>.br c (x.tell P S bs fs A) (y.tell P S bs fs A)
abbrev LFn:=List KV->List (List KV)->vY
def isExact (v:KV):Bool:=
 match v with
 | .ts _ .exact _ _ _=>true
 | _=>false
def X9:List CD->List KV->Bool
 | .bA _::ds,v::vs=>isExact v||X9 ds vs
 | .arr _::ds,v::vs=>isExact v||X9 ds vs
 | _::ds,_::vs=>X9 ds vs
 | _,_=>false
def are (t:bO):List (Tmp×VD)->Bool
 | []=>false
 | p::ps=>X9 p.2.ks (valOf t p.1).cells||are t ps
def arf (t:bO) (A:aw):List (Tmp×List CD×Nat)->Bool
 | []=>false
 | p::ps=>X9 p.2.1 (IG t A p)||arf t A ps
def aV.au6 (S:aV) (t:bO) (A:aw):Bool:=are t S.gS||arf t A S.rows
def anU (P:Program) (S:aV) (F:LFn):bO->aw->CX:=fun t A=>
 cond (S.au6 t A) .once <| .br (S.gP P t A).ok ((F (S.gP P t A).vs (S.gP P t A).rs).tell P S (S.gP P t A).bs (S.gP P t A).fs A) .no
end
end Go.K
end
section
namespace Go.K
open Go Go.aB
variable {P:Program} {E:Env}
theorem akC {w v:KV} (h:yI w v=true):v=w:=by
 unfold yI at h;split at h <;> simp at h
 ·rename_i f g; rw [h]
 all_goals rfl
theorem apJ {w v:KV} (h:yI w v=true) {E0:Env} {u:Value} (k:VK P E v u):VK P E0 v u:=by
 have:=akC h;subst this;unfold yI at h;split at h <;> try (simp at h)
 ·obtain ⟨l,m,rfl,h1,h2⟩:=k.JW
  rw [h1.cw,h2.cw];exact .ang .nil .nil
 all_goals exact k
theorem VK.mix {T:TypeId} {m m' : Mk} {n:Nat} {es pO:List KV} {acc aE:Nat->KV} {u:Value} (h:VK P E (.ts T m n es acc) u) (k:VK P E (.ts T m' n pO aE) u):VK P E (.ts T m n pO aE) u:=by
 obtain ⟨_,bK,_,a,cap,rfl,h2,_,h4⟩:=h.mC;obtain ⟨ht,awC,k1,a',afx,e,_,k3,_⟩:=k.mC;simp only [Value.slice.injEq] at e;obtain ⟨rfl,_,rfl⟩:=e;simp only [VK];exact ⟨ht,awC,k1,a,cap,rfl,h2,k3,h4⟩
theorem VK.swap {E0:Env} (hz:E0.z=E.z) {T:TypeId} {m m' : Mk} {n:Nat} {es:List KV} {acc:Nat->KV} {u:Value} (h:VK P E (.ts T m n es acc) u) (hm:∀ sz a cap,u = .slice a n cap->SH E sz a n cap m->SH E0 sz a n cap m'):VK P E0 (.ts T m' n es acc) u:=by
 obtain ⟨ht,bK,h1,a,cap,rfl,h2,h3,h4⟩:=h.mC;simp only [VK];refine ⟨ht,bK,bC.zEs (.of hz) h1 ht.typed,a,cap,rfl,h2,?_,hm _ _ _ rfl h4⟩;refine h3.imp id ?_;rintro ⟨b,off,r,e1,e2,e3⟩;exact ⟨b,off,r,e1,by rw [hz]; exact e2,e3⟩
theorem V3 (t:TypeId) (m:Mk) (n:Nat) (es:List KV) (acc:Nat->KV):∃ pO aE,ai P aj (.ts t m n es acc) = .ts t .any n pO aE:=⟨_,_,rfl⟩
theorem apK {c:CK} {v:KV} (h:kindOk c v=true):leaf c v=v:=by
 cases c <;> cases v <;> simp [kindOk] at h
 ·subst h; rfl
 ·rfl
 ·rfl
 ·rename_i t t' m n es acc
  cases m <;> simp at h;subst h; rfl
theorem VK.nCD {A:aw} {d:CD} {v:KV} {u:Value} (h:VK P E v u) (hd:∀ w,d≠.ref w) (ha:∀ t,d≠.arr t):VK P E (gk P A d v) u:=by
 cases d with
 | ref w=>exact absurd rfl (hd w)
 | arr t=>exact absurd rfl (ha t)
 | k c=>
  show VK P E (cond (kindOk c (K.oW c v)) (K.ai P aj (leaf c (K.oW c v))) .ao) u;cases hb:kindOk c (K.oW c v) with
  | false=>exact .uW
  | true=>
   rw [ak,apK hb];exact VK.ai _ h.oW
 | lit w=>
  show VK P E (cond (yI w v) w .ao) u;cases hb:yI w v with
  | true=>rw [akC hb] at h; exact h
  | false=>exact .uW
 | bA t=>
  unfold gk;cases v with
  | lX=>have:=h.pX; subst this; exact VK.ai _ .apu
  | ts t' m n es acc=>
   cases m with
   | bA f=>
    show VK P E (cond (Nat.beq t t') _ .ao) u;cases hb:Nat.beq t t' with
    | false=>exact .uW
    | true=>
     have:=bu hb;subst this;exact VK.ai aj h.atd
   | _=>exact .uW
  | _=>exact .uW
def Lk (E E0:Env) (f:Option Nat) (j:Nat):Prop:=∀ x g,f=some x->E.φ x=some g->E0.φ j=some g
theorem VK.arh {E0:Env} (hz:E0.z=E.z) {A:aw} {t:TypeId} {v:KV} {u:Value} {j:Nat} (h:VK P E v u) (hg:lj (.bA t) (gk P A (.bA t) v)=true) (hl:Lk E E0 (vX P A t v).f j) (dt:(vX P A t v).ok=true):VK P E0 (Ol j (gk P A (.bA t) v)) u:=by
 cases v with
 | lX=>
  have:=h.pX; subst this;have h1:VK P E (K.ai P aj (.ts t .any 0 [] qV)) (.slice none 0 0):=VK.ai _ .apu;obtain ⟨pO,aE,e⟩:=V3 (P:=P) t .any 0 [] qV;show VK P E0 (Ol j (K.ai P aj (.ts t .any 0 [] qV))) _;rw [e] at h1 ⊢;exact h1.swap hz fun sz a cap he _=>by
   simp only [Value.slice.injEq] at he;obtain ⟨rfl,_,rfl⟩:=he;exact ⟨rfl,.inl ⟨rfl,rfl⟩⟩
 | ts t' m n es acc=>
  cases m with
  | bA f=>
   have e1:gk P A (.bA t) (.ts t' (.bA f) n es acc)=cond (Nat.beq t t') (K.ai P aj (.ts t .any n es acc)) .ao:=rfl;rw [e1] at hg ⊢;cases hb:Nat.beq t t' with
   | false=>rw [hb] at hg; simp [lj,kindOk] at hg
   | true=>
    have:=bu hb;subst this;have h1:=VK.ai (P:=P) aj h.atd;obtain ⟨pO,aE,e⟩:=V3 (P:=P) t .any n es acc;rw [ak,e];rw [e] at h1;have hf:(vX P A t (.ts t (.bA f) n es acc)).f=some f:=by
     revert dt
     unfold vX;simp only;split
     ·intro _; rfl
     ·intro dt; simp at dt
    exact (h.mix h1).swap hz fun sz a cap he hm=>by
     refine ⟨hm.1,hm.2.imp id ?_⟩;rintro ⟨b,r,g,q1,q2,q3,q4,q5⟩;exact ⟨b,r,g,q1,by rw [hz]; exact q2,q3,hl f g hf q4,q5⟩
  | any=>simp [vX] at dt
  | exact=>simp [vX] at dt
 | _=>simp [vX] at dt
def La (E E0:Env) (f:Option Nat) (j:Nat):Prop:=∀ x p,f=some x->E.α x=some p->E0.α j=some p
theorem apL:K.ai P aj .ao = .ao:=rfl
theorem aaT {A:aw} {t:TypeId} {v:KV} (hg:lj (.arr t) (gk P A (.arr t) v)=true):v = .lX\/∃ b n m N es acc,v = .al t b 0 n/\A.get b=some (.arr (.ts t m N es acc))/\gk P A (.arr t) v=K.ai P aj (.ts t .any N es acc):=by
 have hu:∀ w,w=KV.ao->lj (.arr t) (K.ai P aj w)=false:=fun w e=>by rw [e]; rfl
 have hg:lj (.arr t) (K.ai P aj (Q1 A t v))=true:=hg;have e0:gk P A (.arr t) v=K.ai P aj (Q1 A t v):=rfl;rw [e0];cases v with
 | lX=>exact .inl rfl
 | al t' b o n=>
  have e1:Q1 A t (.al t' b o n)=(match A.get b with
   | some (.arr (.ts t2 _ N es acc))=>cond (Nat.beq t t'&&Nat.beq t t2&&Nat.beq o 0) (.ts t .any N es acc) .ao
   | _=>.ao):=rfl
  rw [e1] at hg ⊢;split at hg
  ·rename_i t2 m N es acc hb
   cases hc:(Nat.beq t t'&&Nat.beq t t2&&Nat.beq o 0) with
   | false=>rw [hc,ba,hu _ rfl] at hg; simp at hg
   | true=>
    simp only [aA] at hc;have:=bu hc.1.1;subst this;have:=bu hc.1.2;subst this;have:=bu hc.2;subst this;refine .inr ⟨b,n,m,N,es,acc,rfl,hb,?_⟩;rw [ak]
  ·rw [hu _ rfl] at hg; simp at hg
 | _=>exact absurd (hg.symm.trans (hu _ rfl)) (by simp)
theorem VK.aty {E0:Env} {A:aw} {t:TypeId} {v:KV} {u:Value} {j:Nat} (h:VK P E v u) (hg:lj (.arr t) (gk P A (.arr t) v)=true) (hl:La E E0 (Lj P A t v).f j) (dt:(Lj P A t v).ok=true):VK P E0 (SQ j (gk P A (.arr t) v)) u:=by
 rcases aaT hg with rfl | ⟨b,n,m,N,es,acc,rfl,hb,he⟩
 ·have:=h.pX; subst this
  exact .T1 (.inl ⟨rfl,rfl,rfl⟩)
 ·obtain ⟨pO,aE,e⟩:=V3 (P:=P) t .any N es acc
  rw [he,e];have hao:Lj P A t (.al t b 0 n)=⟨bz N n,some b,false⟩:=by simp only [Lj,hb]
  rw [hao] at dt hl;have hN:N=n:=bu dt;subst hN;show VK P E0 (.al t j 0 N) u;rcases h.y9 with ⟨q1,_,q2⟩ | ⟨x,L,M,c,q1,q2⟩
  ·exact .T1 (.inl ⟨q1,rfl,q2⟩)
  ·exact .T1 (.inr ⟨x,L,M,c,hl b _ rfl q1,q2⟩)
theorem VK.gCD {E0:Env} (hz:E0.z=E.z) {d:CD} {v:KV} {u:Value} (h:VK P E v u) (hg:lj d v=true) (hd:∀ w,d≠.ref w):VK P E0 v u:=by
 cases d with
 | ref w=>exact absurd rfl (hd w)
 | arr t=>exact h.zK (c:=.slice t) (.of hz) hg
 | k c=>exact h.zK (.of hz) hg
 | lit w=>exact apJ hg h
 | bA t=>exact h.zK (c:=.slice t) (.of hz) hg
theorem mj {A:aw} : ∀ {ds:List CD} {vs:List KV},vs.length=ds.length->(nc P A ds vs).length=tG ds
 | [],[],_=>rfl
 | [],_::_,e=>by simp at e
 | _::_,[],e=>by simp at e
 | .k c::ds,v::vs,e=>by simp only [nc,tG]; exact mj (by simpa using e)
 | .lit w::ds,v::vs,e=>by simp only [nc,tG]; exact mj (by simpa using e)
 | .bA t::ds,v::vs,e=>by simp only [nc,tG,CG]; rw [mj (by simpa using e)]
 | .arr t::ds,v::vs,e=>by simp only [nc,tG,CG]; rw [mj (by simpa using e)]
 | .ref w::ds,v::vs,e=>by simp only [nc,tG]; exact mj (by simpa using e)
theorem auw {a b:KV} (h:eqP a b=true):a=b:=by
 unfold eqP at h;split at h
 ·simp only [aA] at h
  rw [bu h.1,bu h.2]
 ·simp at h
theorem agq:∀ {a b:List KV},agp a b=true->a=b
 | [],[],_=>rfl
 | [],_::_,h=>by simp [agp] at h
 | _::_,[],h=>by simp [agp] at h
 | x::a,y::b,h=>by
  simp only [agp,aA] at h;rw [auw h.1,agq h.2]
theorem SR {a b:KV} (h:Q0 a b=true):a=b:=by
 unfold Q0 at h;split at h
 ·simp only [aA] at h
  rw [bu h.1,bu h.2]
 ·simp only [aA] at h
  rw [bu h.1.1,agq h.1.2,agq h.2]
 ·simp at h
def Rk (E E0:Env) (nr:Nat) (bs Ll:List Nat):Prop:=∀ j x,j < nr->E.κ (bs.getD j 0)=some x->E0.κ (Ll.getD j 0)=some x
theorem VK.aaQ {E0:Env} {nr:Nat} {bs Ll:List Nat} (hk:Rk E E0 nr bs Ll) {w:KV} {u:Value} (hw:isP nr w=true) (h:VK P E (K.aaQ bs w) u):VK P E0 (K.aaQ Ll w) u:=by
 cases w <;> simp [isP] at hw;rename_i j o;obtain ⟨x,h1,rfl⟩:=(show VK P E (.ptr (bs.getD j 0) o) u from h).j8;exact .BM (hk j x hw h1)
theorem bC.Bp {E0:Env} {nr:Nat} {bs Ll:List Nat} (hk:Rk E E0 nr bs Ll):∀ {ws:List KV} {us:List Value},ago nr ws=true->bC P E (K.Bp bs ws) us->bC P E0 (K.Bp Ll ws) us
 | [],us,_,h=>by rw [h.cw]; exact .nil
 | w::ws,us,hw,h=>by
  simp only [ago,aA] at hw;obtain ⟨y,ys,rfl,h1,h2⟩:=bC.cons_inv (show bC P E (K.aaQ bs w::K.Bp bs ws) us from h);exact .cons (VK.aaQ hk hw.1 h1) (bC.Bp hk hw.2 h2)
theorem VK.inst {E0:Env} {nr:Nat} {bs Ll:List Nat} (hk:Rk E E0 nr bs Ll) {w:KV} {u:Value} (hw:acx nr w=true) (h:VK P E (K.inst bs w) u):VK P E0 (K.inst Ll w) u:=by
 cases w with
 | ptr j o=>
  obtain ⟨x,h1,rfl⟩:=(show VK P E (.ptr (bs.getD j 0) o) u from h).j8;exact .BM (hk j x (by simpa [acx] using hw) h1)
 | fn f first cap=>
  cases f with
  | func f=>
   simp only [acx,aA] at hw;obtain ⟨l,m,rfl,h1,h2⟩:=(show VK P E (.fn (.func f) (K.Bp bs first) (K.Bp bs cap)) u from h).JW;exact .ang (bC.Bp hk hw.1 h1) (bC.Bp hk hw.2 h2)
  | _=>simp [acx] at hw
 | _=>simp [acx] at hw
def rj (E E0:Env) (l:List FI) (j:Nat):Prop:=∀ (i:Nat) fi,l[i]? = some fi->fi.ok=true/\(fi.fm=true->Lk E E0 fi.f (j+i))/\La E E0 fi.f (j+i)
theorem rj.left {E0:Env} {l m:List FI} {j:Nat} (h:rj E E0 (l++m) j):rj E E0 l j:=fun i fi e=>h i fi (by rw [r5 (dq.1 e).1]; exact e)
theorem rj.right {E0:Env} {l m:List FI} {j:Nat} (h:rj E E0 (l++m) j):rj E E0 m (j+l.length):=fun i fi e=>by
 have:=h (l.length+i) fi (by rw [uA (by omega)]; simpa using e);rw [Hd]; exact this
theorem rj.head {E0:Env} {x:FI} {l:List FI} {j:Nat} (h:rj E E0 (x::l) j):x.ok=true/\(x.fm=true->Lk E E0 x.f j)/\La E E0 x.f j:=h 0 x rfl
theorem rj.tail {E0:Env} {x:FI} {l:List FI} {j:Nat} (h:rj E E0 (x::l) j):rj E E0 l (j+1):=fun i fi e=>by
 have:=h (i+1) fi (by simpa using e);rw [show j+1+i=j+(i+1) by omega]; exact this
theorem bC.cellsIn {E0:Env} (hz:E0.z=E.z) {A:aw} {nr:Nat} {bs Ll:List Nat} (hk:Rk E E0 nr bs Ll):∀ {ds:List CD} {vs:List KV} {us:List Value} {j:Nat},bC P E vs us->vs.length=ds.length->dT ds (gm P A ds vs)=true->rj E E0 (nc P A ds vs) j->Gw nr bs ds vs=true->bC P E0 (sA j Ll ds (gm P A ds vs)) us
 | [],[],us,j,h,_,_,_,_=>by rw [h.cw]; exact .nil
 | [],_::_,_,_,_,e,_,_,_=>by simp at e
 | _::_,[],_,_,_,e,_,_,_=>by simp at e
 | d::ds,v::vs,us,j,h,e,hg,hf,hr=>by
  simp only [gm,dT,aA] at hg;obtain ⟨y,ys,rfl,h1,h2⟩:=h.cons_inv;have e' : vs.length=ds.length:=by simpa using e
  cases d with
  | k c=>exact .cons ((h1.nCD (by simp) (by simp)).gCD (d:=.k c) hz hg.1 (by simp)) (bC.cellsIn hz hk h2 e' hg.2 hf hr)
  | lit w=>exact .cons ((h1.nCD (by simp) (by simp)).gCD (d:=.lit w) hz hg.1 (by simp)) (bC.cellsIn hz hk h2 e' hg.2 hf hr)
  | bA t=>exact .cons (h1.arh hz hg.1 (hf.head.2.1 (akB ..)) hf.head.1) (bC.cellsIn hz hk h2 e' hg.2 hf.tail hr)
  | arr t=>exact .cons (h1.aty hg.1 hf.head.2.2 hf.head.1) (bC.cellsIn hz hk h2 e' hg.2 hf.tail hr)
  | ref w=>
   simp only [Gw,aA] at hr;exact .cons (VK.inst hk hr.1 (by rw [SR hr.2.1]; exact h1)) (bC.cellsIn hz hk h2 e' hg.2 hf hr.2.2)
theorem alQ {ds:List CD} {v:KV} (h:dT ds [v] = true):∃ d,ds = [d]/\lj d v=true:=by
 cases ds with
 | nil=>simp [dT] at h
 | cons d ds=>
  simp only [dT,aA] at h;cases ds with
  | nil=>exact ⟨d,rfl,h.1⟩
  | cons e ds=>simp [dT] at h
theorem A7 {d:VD} {v:KV} (h:zb d v=true):(∃ cs,v = .agg cs/\d.agg=true/\dT d.ks cs=true)\/((∀ cs,v≠.agg cs)/\d.agg=false/\∃ c,d.ks = [c]/\lj c v=true):=by
 by_cases ha:∃ cs,v = .agg cs
 ·obtain ⟨cs,rfl⟩:=ha
  simp only [zb,aA] at h;exact .inl ⟨cs,rfl,h.1,h.2⟩
 ·have h:(!d.agg&&dT d.ks [v])=true:=by
   cases v <;> first | exact h | exact absurd ⟨_,rfl⟩ ha
  simp only [aA,mw] at h;exact .inr ⟨fun cs e=>ha ⟨cs,e⟩,h.1,alQ h.2⟩
theorem A8 {A:aw} {d:VD} {v:KV} (h:zb d (xN P A d v)=true):(∃ cs,v = .agg cs/\cs.length=d.ks.length/\xN P A d v = .agg (gm P A d.ks cs)/\dT d.ks (gm P A d.ks cs)=true)\/
  ((∀ cs,v≠.agg cs)/\∃ c,d.ks = [c]/\xN P A d v=gk P A c v/\lj c (gk P A c v)=true/\v.cells = [v]/\(∀ cs,gk P A c v≠.agg cs)):=by
 have atz:zb d .ao=false:=by
  cases hb:zb d .ao with
  | false=>rfl
  | true=>
   rcases A7 hb with ⟨cs,e,_⟩ | ⟨_,_,c,_,hc⟩
   ·simp at e
   ·cases c with
    | k c=>cases c <;> simp [lj,kindOk] at hc
    | lit w=>cases w <;> first | (simp [lj,yI] at hc; done) | (rename_i f a b; cases f <;> cases a <;> cases b <;> simp [lj,yI] at hc)
    | bA t=>simp [lj,kindOk] at hc
    | arr t=>simp [lj,kindOk] at hc
    | ref w=>
     have hc:Q0 w .ao=true:=hc;have:=SR hc;subst this;simp [Q0] at hc
 by_cases ha:∃ cs,v = .agg cs
 ·obtain ⟨cs,rfl⟩:=ha
  have e:xN P A d (.agg cs)=cond (d.agg&&Nat.beq cs.length d.ks.length) (.agg (gm P A d.ks cs)) .ao:=rfl;cases hb:(d.agg&&Nat.beq cs.length d.ks.length) with
  | false=>rw [e,hb,ba,atz] at h; simp at h
  | true=>
   rw [e,hb,ak] at h;simp only [aA] at hb;simp only [zb,aA] at h;exact .inl ⟨cs,rfl,bu hb.2,by rw [e]; simp only [hb.1,hb.2,dk,ak],h.2⟩
 ·have e:xN P A d v=cond d.agg .ao (match d.ks with | [c]=>gk P A c v | _=>.ao):=by
   cases v <;> first | rfl | exact absurd ⟨_,rfl⟩ ha
  have vP:v.cells = [v]:=by cases v <;> first | rfl | exact absurd ⟨_,rfl⟩ ha
  cases BN:d.agg with
  | true=>rw [e,BN,ak,atz] at h; simp at h
  | false=>
   rw [BN,ba] at e;rw [e] at h;split at h
   ·rename_i c hc
    rw [hc] at e;simp only at e;rcases A7 h with ⟨cs,e2,h2,_⟩ | ⟨h1,_,c',h2,h3⟩
    ·rw [BN] at h2; simp at h2
    ·rw [hc] at h2
     simp only [List.cons.injEq,and_true] at h2;subst h2;exact .inr ⟨fun cs ec=>ha ⟨cs,ec⟩,c,hc,e,h3,vP,h1⟩
   ·rw [atz] at h; simp at h
theorem J2 {A:aw} {d:VD} {v:KV} (h:zb d (xN P A d v)=true):v.cells.length=d.ks.length:=by
 rcases A8 h with ⟨cs,rfl,h1,_⟩ | ⟨_,c,h1,_,_,h2,_⟩
 ·exact h1
 ·rw [h1,h2]; rfl
theorem VK.awD {E0:Env} (hz:E0.z=E.z) {A:aw} {nr:Nat} {bs Ll:List Nat} (hk:Rk E E0 nr bs Ll) {d:VD} {v:KV} {u:Value} {j:Nat} (h:VK P E v u) (hg:zb d (xN P A d v)=true) (hf:rj E E0 (nc P A d.ks v.cells) j) (hr:Gw nr bs d.ks v.cells=true):VK P E0 (acz j Ll d (xN P A d v)) u:=by
 rcases A8 hg with ⟨cs,rfl,h1,h2,h3⟩ | ⟨h0,c,h1,h2,h3,h4,h5⟩
 ·rw [h2]
  obtain ⟨l,rfl,k⟩:=h.mh;exact .rU (bC.cellsIn hz hk k h1 h3 hf hr)
 ·rw [h2]
  have e:acz j Ll d (gk P A c v)=(match d.ks with | [.bA _]=>Ol j (gk P A c v) | [.arr _]=>SQ j (gk P A c v) | [.ref w]=>K.inst Ll w | _=>gk P A c v):=by
   generalize gk P A c v=w at h5;cases w <;> first | rfl | exact absurd rfl (h5 _)
  rw [e,h1];rw [h1,h4] at hf hr;cases c with
  | k c=>exact (h.nCD (by simp) (by simp)).gCD (d:=.k c) hz h3 (by simp)
  | lit w=>exact (h.nCD (by simp) (by simp)).gCD (d:=.lit w) hz h3 (by simp)
  | bA t=>exact h.arh hz h3 (hf.head.2.1 (akB ..)) hf.head.1
  | arr t=>exact h.aty h3 hf.head.2.2 hf.head.1
  | ref w=>
   simp only [Gw,aA] at hr;exact VK.inst hk hr.1 (by rw [SR hr.2.1]; exact h)
theorem VK.aaF {A:aw} {nr:Nat} {bs:List Nat} {d:VD} {t:bO} {i:Tmp} (h:zb d (xN P A d (valOf t i))=true) (hr:Gw nr bs d.ks (valOf t i).cells=true):∃ v,t.get i=some v:=by
 cases hg:t.get i with
 | some v=>exact ⟨v,rfl⟩
 | none=>
  exfalso;have e:valOf t i = .ao:=by simp [valOf,hg]
  rw [e] at h hr;rcases A8 h with ⟨cs,e2,_⟩ | ⟨_,c,ue,_,h3,_,_⟩
  ·simp at e2
  ·cases c with
   | ref w=>
    rw [ue] at hr;have hr:(acx nr w&&(Q0 (K.inst bs w) .ao&&true))=true:=hr;simp only [aA] at hr;have h1:=hr.2.1;have:=SR h1;rw [this] at h1;simp [Q0] at h1
   | k c=>
    have h4:kindOk c (K.oW c .ao)=false:=by cases c <;> rfl
    have h5:gk P A (.k c) .ao = .ao:=by
     show cond (kindOk c (K.oW c .ao)) (K.ai P aj (leaf c (K.oW c .ao))) KV.ao=KV.ao;rw [h4]; rfl
    rw [h5] at h3;cases c <;> simp [lj,kindOk] at h3
   | lit w=>cases w <;> first | (simp [gk,lj,yI] at h3; done) | (rename_i f a b; cases f <;> cases a <;> cases b <;> simp [gk,lj,yI] at h3)
   | bA t=>simp [gk,lj,kindOk] at h3
   | arr t=>exact absurd h3 (by simp [gk,Q1,apL,lj,kindOk])
end Go.K
end
section
namespace Go.K
open Go Go.aB
variable {P:Program} {E:Env}
theorem agr:∀ {bs:List Nat},zc bs=true->∀ (i j b:Nat),bs[i]? = some b->bs[j]? = some b->i=j
 | [],_,i,j,b,hi,_=>by simp at hi
 | a::bs,h,i,j,b,hi,hj=>by
  simp only [zc,aA,ig,mw] at h;cases i with
  | zero=>
   cases j with
   | zero=>rfl
   | succ j=>
    simp at hi hj; subst hi;have:=h.1 a (jC hj);exact absurd (yX a) (by rw [this]; simp)
  | succ i=>
   cases j with
   | zero=>
    simp at hi hj; subst hj;have:=h.1 a (jC hi);exact absurd (yX a) (by rw [this]; simp)
   | succ j=>
    simp at hi hj;rw [agr h.2 i j b hi hj]
theorem yK:∀ {l:List (Option Nat)} {f:Nat},f∈lu l↔some f∈l
 | [],f=>by simp [lu]
 | some g::l,f=>by simp [lu,yK (l:=l)]
 | none::l,f=>by simp [lu,yK (l:=l)]
theorem zd:∀ {l:List (Option Nat)},zc (lu l)=true->∀ (i j f:Nat),l[i]? = some (some f)->l[j]? = some (some f)->i=j
 | [],_,i,j,b,hi,_=>by simp at hi
 | none::l,h,i,j,f,hi,hj=>by
  cases i with
  | zero=>simp at hi
  | succ i=>
   cases j with
   | zero=>simp at hj
   | succ j=>
    simp at hi hj;rw [zd (l:=l) h i j f hi hj]
 | some g::l,h,i,j,f,hi,hj=>by
  simp only [lu,zc,aA,ig,mw] at h;have key:∀ {k:Nat},l[k]? = some (some g)->False:=by
   intro k hk;have:=h.1 g (yK.2 (jC hk));exact absurd (yX g) (by rw [this]; simp)
  cases i with
  | zero=>
   cases j with
   | zero=>rfl
   | succ j=>
    simp at hi hj; subst hi;exact (key hj).elim
  | succ i=>
   cases j with
   | zero=>
    simp at hi hj; subst hj;exact (key hi).elim
   | succ j=>
    simp at hi hj;rw [zd (l:=l) h.2 i j f hi hj]
theorem Om:∀ {l:List FI} {i:Nat} {x:FI},l[i]? = some x->(Oj l)[i]? = some x.f
 | [],_,_,h=>by simp at h
 | y::l,0,x,h=>by simp at h; subst h; rfl
 | y::l,i+1,x,h=>by simp at h; simpa [Oj] using Om h
theorem uh:∀ {l:List FI},(Oj l).length=l.length
 | []=>rfl
 | y::l=>by simp [Oj,uh]
theorem V4:∀ {l:List FI},aaR l=true->∀ x∈l,x.ok=true
 | [],_,x,h=>by simp at h
 | y::l,h,x,hx=>by
  simp only [aaR] at h;cases hl:aaR l with
  | false=>rw [hl] at h; simp at h
  | true=>
   rw [hl,ak] at h;rcases fA.1 hx with rfl | hx
   ·exact h
   ·exact V4 hl x hx
theorem iW:∀ (l:List kU) (A:aw),(u6 A l).next=A.next+l.length
 | [],_=>rfl
 | p::l,A=>by rw [u6,iW l]; simp; omega
theorem Hs:∀ {l:List kU} {A:aw} {x:Nat},x < A.next->(u6 A l).get x=A.get x
 | [],_,_,_=>rfl
 | p::l,A,x,h=>by rw [u6,Hs (by simp; omega),aw.dz,av (by omega)]
theorem Q3:∀ {l:List kU} {A:aw} {i:Nat} {p:kU},l[i]? = some p->(u6 A l).get (A.next+i)=some p
 | [],_,_,_,h=>by simp at h
 | q::l,A,0,p,h=>by
  simp at h; subst h;rw [u6,CF,Hs (by simp),aw.dz,aY rfl]
 | q::l,A,i+1,p,h=>by
  simp at h;have:=Q3 (A:=A.new q) h;rw [aw.cC] at this;rw [u6,show A.next+(i+1)=A.next+1+i by omega];exact this
theorem Ya:∀ {l:List kU} {A:aw} {x:Nat} {o:kU},(u6 A l).get x=some o->(A.get x=some o/\x < A.next+l.length)\/(x < A.next/\A.get x=some o)\/(∃ i p,x=A.next+i/\l[i]? = some p/\o=p)\/A.get x=some o
 | [],_,_,_,h=>.inr (.inr (.inr h))
 | p::l,A,x,o,h=>by
  rw [u6] at h;have key:(A.new p).get x=some o->(∃ i q,x=A.next+i/\(p::l)[i]? = some q/\o=q)\/A.get x=some o:=by
   intro h;rw [aw.dz] at h;split at h
   ·rename_i e; simp at h; exact .inl ⟨0,p,by omega,rfl,h.symm⟩
   ·exact .inr h
  rcases Ya h with ⟨h,_⟩ | ⟨_,h⟩ | ⟨i,q,e,h1,h2⟩ | h
  ·exact .inr (.inr (key h))
  ·exact .inr (.inr (key h))
  ·exact .inr (.inr (.inl ⟨i+1,q,by rw [e]; simp; omega,by simpa using h1,h2⟩))
  ·exact .inr (.inr (key h))
theorem Yb {l:List kU} {A:aw} {x:Nat} {o:kU} (h:(u6 A l).get x=some o):A.get x=some o\/∃ i p,x=A.next+i/\l[i]? = some p/\o=p:=by
 rcases Ya h with ⟨h,_⟩ | ⟨_,h⟩ | h | h
 ·exact .inl h
 ·exact .inl h
 ·exact .inr h
 ·exact .inl h
theorem J3:∀ (l:List (Option Nat)) (A:aw),(BX A l).next=A.next
 | [],_=>rfl
 | some f::l,A=>by rw [BX,J3 l]; rfl
 | none::l,A=>by rw [BX,J3 l]
theorem IK:∀ {l:List (Option Nat)} {A:aw} {x:Nat},(BX A l).get x=if x∈lu l then some .dead else A.get x
 | [],A,x=>by simp [BX,lu]
 | none::l,A,x=>by rw [BX,IK,lu]
 | some f::l,A,x=>by
  rw [BX,IK,lu,aw.cz];by_cases h1:x∈lu l
  ·rw [aY h1,aY (yW _ h1)]
  ·rw [av h1]
   by_cases h2:x=f
   ·rw [aY h2,aY (by simp [h2])]
   ·rw [av h2,av (by simp [h1,h2])]
theorem V5:∀ (bs:List Nat) (ps:List (Tmp×List CD×Nat)) (rs:List (List KV)) (A:aw),(pT A bs ps rs).next=A.next
 | [],_,_,_=>rfl
 | _::_,[],_,_=>rfl
 | _::_,_::_,[],_=>rfl
 | b::bs,p::ps,r::rs,A=>by rw [pT,V5 bs ps rs]; rfl
theorem Q4:∀ {bs:List Nat} {ps:List (Tmp×List CD×Nat)} {rs:List (List KV)} {A:aw} {x:Nat},x ∉ bs->(pT A bs ps rs).get x=A.get x
 | [],_,_,_,_,_=>rfl
 | _::_,[],_,_,_,_=>rfl
 | _::_,_::_,[],_,_,_=>rfl
 | b::bs,p::ps,r::rs,A,x,h=>by
  simp only [fA,not_or] at h;rw [pT,Q4 h.2,aw.cz,av h.1]
theorem anV:∀ {bs:List Nat} {ps:List (Tmp×List CD×Nat)} {rs:List (List KV)} {A:aw} {k b:Nat} {p:Tmp×List CD×Nat} {r:List KV},zc bs=true->bs[k]? = some b->ps[k]? = some p->rs[k]? = some r->(pT A bs ps rs).get b=some (.row r p.2.2)
 | [],_,_,_,_,_,_,_,_,h,_,_=>by simp at h
 | _::_,[],_,_,_,_,_,_,_,_,h,_=>by simp at h
 | _::_,_::_,[],_,_,_,_,_,_,_,_,h=>by simp at h
 | b::bs,p::ps,r::rs,A,k,x,p',r',hn,hb,hp,hr=>by
  have NJ:=hn;simp only [zc,aA] at hn;cases k with
  | zero=>
   simp at hb hp hr;subst hb hp hr;rw [pT,Q4,aw.cz,aY rfl];intro hm;have:=ig.1 hn.1 b hm;simp at this
  | succ k=>
   simp only [Sx] at hb hp hr;rw [pT];exact anV hn.2 hb hp hr
theorem akD:∀ {ps:List (Tmp×List CD×Nat)} {rs:List (List KV)} {A:aw},rs.length=ps.length->(tH A ps rs).next=A.next+ps.length
 | [],[],_,_=>rfl
 | [],_::_,_,h=>by simp at h
 | _::_,[],_,h=>by simp at h
 | p::ps,r::rs,A,h=>by rw [tH,akD (by simpa using h)]; simp; omega
theorem anW:∀ {ps:List (Tmp×List CD×Nat)} {rs:List (List KV)} {A:aw} {x:Nat},x < A.next->(tH A ps rs).get x=A.get x
 | [],_,_,_,_=>rfl
 | _::_,[],_,_,_=>rfl
 | p::ps,r::rs,A,x,h=>by rw [tH,anW (by simp; omega),aw.dz,av (by omega)]
theorem ari:∀ {ps:List (Tmp×List CD×Nat)} {rs:List (List KV)} {A:aw} {k:Nat} {p:Tmp×List CD×Nat} {r:List KV},ps[k]? = some p->rs[k]? = some r->(tH A ps rs).get (A.next+k)=some (.row r p.2.2)
 | [],_,_,_,_,_,h,_=>by simp at h
 | _::_,[],_,_,_,_,_,h=>by simp at h
 | p::ps,r::rs,A,k,p',r',hp,hr=>by
  cases k with
  | zero=>
   simp at hp hr; subst hp hr;rw [tH,CF,anW (by simp),aw.dz,aY rfl]
  | succ k=>
   simp only [Sx] at hp hr;have:=ari (A:=A.new (.row r p.2.2)) hp hr;rw [tH];simpa [Nat.add_comm,Nat.add_left_comm] using this
theorem anX:∀ {ps:List (Tmp×List CD×Nat)} {rs:List (List KV)} {A:aw} {x:Nat} {o:kU},(tH A ps rs).get x=some o->A.get x=some o\/∃ k p r,x=A.next+k/\ps[k]? = some p/\rs[k]? = some r/\o = .row r p.2.2
 | [],_,_,_,_,h=>.inl h
 | _::_,[],_,_,_,h=>.inl h
 | p::ps,r::rs,A,x,o,h=>by
  rw [tH] at h;rcases anX h with h | ⟨k,p',r',rfl,h1,h2,h3⟩
  ·rw [aw.dz] at h
   by_cases e:x=A.next
   ·rw [aY e] at h; simp at h
    exact .inr ⟨0,p,r,by omega,rfl,rfl,h.symm⟩
   ·rw [av e] at h; exact .inl h
  ·exact .inr ⟨k+1,p',r',by simp; omega,by simpa using h1,by simpa using h2,h3⟩
theorem akE:∀ (n:Nat) (l:List Nat) (k:Nat),(upto n l)[k]? = if k < n then some k else l[k - n]?
 | 0,l,k=>by simp [upto]
 | n+1,l,k=>by
  rw [upto,akE n];by_cases h:k < n
  ·rw [aY h,aY (by omega)]
  ·rw [av h]
   by_cases h2:k=n
   ·subst h2
    rw [aY (by omega)];simp
   ·rw [av (by omega),show k - n=(k - (n+1))+1 by omega]
    simp
theorem Mx (S:aV) (k:Nat) (h:k < S.rows.length):S.ids[k]? = some k:=by rw [aV.ids,akE,aY h]
theorem Q5:∀ {a b:List Nat},yJ a b=true->a=b
 | [],[],_=>rfl
 | [],_::_,h=>by simp [yJ] at h
 | _::_,[],h=>by simp [yJ] at h
 | x::a,y::b,h=>by
  simp only [yJ,aA] at h;rw [bu h.1,Q5 h.2]
theorem J4 {t:bO} {A:aw} {p:Tmp×List CD×Nat} (h:(rowOf t A p).isSome=true):∃ b cs,A.get b=some (.row cs p.2.2)/\cs.length=p.2.1.length/\ard t A p=b/\IG t A p=cs:=by
 unfold rowOf at h;split at h
 ·rename_i b hb
  split at h
  ·rename_i cs e hr
   cases hc:(Nat.beq e p.2.2&&Nat.beq cs.length p.2.1.length) with
   | false=>rw [hc] at h; simp at h
   | true=>
    have hro:rowOf t A p=some (b,cs):=by simp only [rowOf,hb,hr,hc,ak]
    simp only [aA] at hc;have he:=bu hc.1;subst he;exact ⟨b,cs,hr,bu hc.2,by simp [ard,hro],by simp [IG,hro]⟩
  ·simp at h
 ·simp at h
structure dU (P:Program) (S:aV) (t:bO) (A:aw) (g:GR):Prop where
 rows:Bq P t A S.rows=true
 nodup:zc g.bs=true
 acy:SP t g.bs S.acy=true
 gS:jT S.gS g.vs=true
 ae3:zc (lu g.fs)=true
 au7:Q2 S.rows.length g.bs t S.gS=true
 au8:aaS S.rows.length g.bs t A S.rows=true
 xH:aaR (S.Tb P t A)=true
 bs:g.bs=BT t A S.rows
 fs:g.fs=Oj (S.Tb P t A)
 vs:g.vs=rY P t A S.gS
 rs:g.rs=Li P t A S.rows
theorem Mz {S:aV} {t:bO} {A:aw} (h:(S.gP P t A).ok=true):dU P S t A (S.gP P t A):=by
 unfold aV.gP at h ⊢;simp only at h ⊢;cases hc:(Bq P t A S.rows&&zc (BT t A S.rows)&&SP t (BT t A S.rows) S.acy&&jT S.gS (rY P t A S.gS)&&zc (lu (Oj (S.Tb P t A)))&&Q2 S.rows.length (BT t A S.rows) t S.gS&&aaS S.rows.length (BT t A S.rows) t A S.rows) with
 | false=>rw [hc] at h; simp at h
 | true=>
  rw [hc,ak] at h;simp only [aA] at hc;exact ⟨hc.1.1.1.1.1.1,hc.1.1.1.1.1.2,hc.1.1.1.1.2,hc.1.1.1.2,hc.1.1.2,hc.1.2,hc.2,h,rfl,rfl,rfl,rfl⟩
theorem ags {t:bO} {A:aw} : ∀ {ps:List (Tmp×List CD×Nat)} {k:Nat} {p:Tmp×List CD×Nat},ps[k]? = some p->(BT t A ps)[k]? = some (ard t A p)
 | [],_,_,h=>by simp at h
 | p::ps,0,q,h=>by simp at h; subst h; rfl
 | p::ps,k+1,q,h=>by simp at h; simpa [BT] using ags h
theorem Fl {t:bO} {A:aw} : ∀ {ps:List (Tmp×List CD×Nat)},(BT t A ps).length=ps.length
 | []=>rfl
 | p::ps=>by simp [BT,Fl]
theorem Ue {t:bO} {A:aw} : ∀ {ps:List (Tmp×List CD×Nat)},(Li P t A ps).length=ps.length
 | []=>rfl
 | p::ps=>by simp [Li,Ue]
theorem acC {t:bO} {A:aw} : ∀ {ps:List (Tmp×List CD×Nat)},Bq P t A ps=true->∀ {k:Nat} {p:Tmp×List CD×Nat},ps[k]? = some p->(rowOf t A p).isSome=true/\dT p.2.1 (gm P A p.2.1 (IG t A p))=true
 | [],_,k,p,h=>by simp at h
 | q::ps,h,k,p,hp=>by
  simp only [Bq,aA] at h;cases k with
  | zero=>simp at hp; subst hp; exact ⟨h.1,h.2.1⟩
  | succ k=>simp at hp; exact acC h.2.2 hp
theorem Yc:∀ {ps:List (Tmp×List CD×Nat)} {rs:List (List KV)},rs.length=ps.length->∀ (j:Nat) (bs:List Nat),(acB j bs ps rs).length=ps.length
 | [],[],_,_,_=>rfl
 | [],_::_,h,_,_=>by simp at h
 | _::_,[],h,_,_=>by simp at h
 | p::ps,r::rs,h,j,bs=>by simp [acB,Yc (by simpa using h)]
def Cp (j:Nat):List (Tmp×List CD×Nat)->Nat->Nat
 | [],_=>j
 | _::_,0=>j
 | p::ps,k+1=>Cp (j+tG p.2.1) ps k
theorem SS {bs:List Nat} : ∀ {ps:List (Tmp×List CD×Nat)} {rs:List (List KV)} {j k:Nat} {p:Tmp×List CD×Nat} {r:List KV},ps[k]? = some p->rs[k]? = some r->(acB j bs ps rs)[k]? = some (sA (Cp j ps k) bs p.2.1 r)
 | [],_,_,_,_,_,h,_=>by simp at h
 | _::_,[],_,_,_,_,_,h=>by simp at h
 | p::ps,r::rs,j,0,p',r',h1,h2=>by simp at h1 h2; subst h1 h2; rfl
 | p::ps,r::rs,j,k+1,p',r',h1,h2=>by
  simp at h1 h2;simp only [acB,Sx];exact SS h1 h2
theorem agt {E0:Env} {t:bO} {A:aw} : ∀ {ps:List (Tmp×List CD×Nat)} {j:Nat},Bq P t A ps=true->rj E E0 (II P t A ps) j->∀ {k:Nat} {p:Tmp×List CD×Nat},ps[k]? = some p->rj E E0 (nc P A p.2.1 (IG t A p)) (Cp j ps k)
 | [],_,_,_,_,_,h=>by simp at h
 | q::ps,j,hr,hf,k,p,hp=>by
  simp only [Bq,aA] at hr;obtain ⟨b,cs,_,hl,_,hC⟩:=J4 hr.1;cases k with
  | zero=>simp at hp; subst hp; exact hf.left
  | succ k=>
   simp at hp;have:=hf.right;rw [mj (by rw [hC]; exact hl)] at this;exact agt hr.2.2 this hp
theorem Fm {t:bO} {A:aw} : ∀ {ps:List (Tmp×VD)},jT ps (rY P t A ps)=true->(Gv P t A ps).length=px ps
 | [],_=>rfl
 | p::ps,h=>by
  simp only [rY,jT,aA] at h;simp only [Gv,px,nF];rw [mj (J2 h.1),Fm h.2]
def MA (P:Program) (A:aw) (x:FI) (q:kU):Prop:=
 (∃ n sz,q = .bA n sz/\((x.f=none/\n=0)\/∃ f,x.f=some f/\A.get f=some (.bA n sz)))\/
 ∃ t v,q = .arr v/\((x.f=none/\1<=bD P t/\v=K.ai P aj (.ts t .any 0 [] qV))\/∃ f m N es acc,x.f=some f/\A.get f=some (.arr (.ts t m N es acc))/\v=K.ai P aj (.ts t .any N es acc))
theorem atA {A:aw} {t:TypeId} {v:KV} (dt:(Lj P A t v).ok=true) (hg:lj (.arr t) (gk P A (.arr t) v)=true):MA P A (Lj P A t v) (.arr (gk P A (.arr t) v)):=by
 rcases aaT hg with rfl | ⟨b,n,m,N,es,acc,rfl,hb,he⟩
 ·exact .inr ⟨t,_,rfl,.inl ⟨rfl,fR dt,rfl⟩⟩
 ·refine .inr ⟨t,_,rfl,.inr ⟨b,m,N,es,acc,?_,hb,he⟩⟩
  simp only [Lj,hb]
theorem atB {A:aw} {t:TypeId} {v:KV} (dt:(vX P A t v).ok=true) (hg:lj (.bA t) (gk P A (.bA t) v)=true):MA P A (vX P A t v) (.bA (lenOf (gk P A (.bA t) v)) (szL P t)):=by
 refine .inl ⟨_,_,rfl,?_⟩;cases v with
 | lX=>exact .inl ⟨rfl,rfl⟩
 | ts t' m n es acc=>
  cases m with
  | bA f=>
   have e1:gk P A (.bA t) (.ts t' (.bA f) n es acc)=cond (Nat.beq t t') (K.ai P aj (.ts t .any n es acc)) .ao:=rfl;rw [e1] at hg ⊢;cases hb:Nat.beq t t' with
   | false=>rw [hb] at hg; simp [lj,kindOk] at hg
   | true=>
    rw [ak];refine .inr ⟨f,?_,?_⟩
    ·revert dt
     unfold vX;simp only;split
     ·intro _; rfl
     ·intro dt; simp at dt
    ·revert dt
     unfold vX;simp only;split
     ·rename_i top sz he
      intro dt;simp only at dt;cases hs:Nat.beq sz (szL P t) with
      | false=>rw [hs] at dt; simp at dt
      | true=>
       rw [hs,ak] at dt;have h1:=bu hs;have h2:=bu (show Nat.beq top n=true from dt);subst h1 h2;exact he
     ·intro dt; simp at dt
  | any=>simp [vX] at dt
  | exact=>simp [vX] at dt
 | _=>simp [vX] at dt
theorem yL {A:aw} : ∀ {ds:List CD} {vs:List KV} {i:Nat} {x:FI},vs.length=ds.length->dT ds (gm P A ds vs)=true->(nc P A ds vs)[i]? = some x->x.ok=true->∃ q,(ri P ds (gm P A ds vs))[i]? = some q/\MA P A x q
 | [],[],_,_,_,_,h,_=>by simp [nc] at h
 | [],_::_,_,_,e,_,_,_=>by simp at e
 | _::_,[],_,_,e,_,_,_=>by simp at e
 | .k c::ds,v::vs,i,x,e,hg,h,dt=>by
  simp only [gm,dT,aA] at hg;have h' : (nc P A ds vs)[i]? = some x:=h;exact yL (ds:=ds) (vs:=vs) (by simpa using e) hg.2 h' dt
 | .lit c::ds,v::vs,i,x,e,hg,h,dt=>by
  simp only [gm,dT,aA] at hg;have h' : (nc P A ds vs)[i]? = some x:=h;exact yL (ds:=ds) (vs:=vs) (by simpa using e) hg.2 h' dt
 | .ref c::ds,v::vs,i,x,e,hg,h,dt=>by
  simp only [gm,dT,aA] at hg;have h' : (nc P A ds vs)[i]? = some x:=h;exact yL (ds:=ds) (vs:=vs) (by simpa using e) hg.2 h' dt
 | .bA t::ds,v::vs,i,x,e,hg,h,dt=>by
  simp only [gm,dT,aA] at hg;cases i with
  | zero=>
   simp [nc] at h;subst h;exact ⟨_,rfl,atB dt hg.1⟩
  | succ i=>
   simp [nc] at h;obtain ⟨q,h1,h2⟩:=yL (by simpa using e) hg.2 h dt;exact ⟨q,by simpa [ri,gm] using h1,h2⟩
 | .arr t::ds,v::vs,i,x,e,hg,h,dt=>by
  simp only [gm,dT,aA] at hg;cases i with
  | zero=>
   simp [nc] at h;subst h;exact ⟨_,rfl,atA dt hg.1⟩
  | succ i=>
   simp [nc] at h;obtain ⟨q,h1,h2⟩:=yL (by simpa using e) hg.2 h dt;exact ⟨q,by simpa [ri,gm] using h1,h2⟩
theorem pG:∀ {ds:List CD} {vs:List KV},vs.length=ds.length->(ri P ds vs).length=tG ds
 | [],[],_=>rfl
 | [],_::_,e=>by simp at e
 | _::_,[],e=>by simp at e
 | .k c::ds,v::vs,e=>by simp only [ri,tG]; exact pG (by simpa using e)
 | .lit w::ds,v::vs,e=>by simp only [ri,tG]; exact pG (by simpa using e)
 | .ref w::ds,v::vs,e=>by simp only [ri,tG]; exact pG (by simpa using e)
 | .bA t::ds,v::vs,e=>by simp only [ri,tG,CG]; rw [pG (by simpa using e)]
 | .arr t::ds,v::vs,e=>by simp only [ri,tG,CG]; rw [pG (by simpa using e)]
theorem Ht:∀ {ds:List CD} {vs:List KV},dT ds vs=true->vs.length=ds.length
 | [],[],_=>rfl
 | [],_::_,h=>by simp [dT] at h
 | _::_,[],h=>by simp [dT] at h
 | d::ds,v::vs,h=>by
  simp only [dT,aA] at h;simp [Ht h.2]
theorem acD {d:VD} {v:KV} (h:zb d v=true):v.cells.length=d.ks.length:=by
 rcases A7 h with ⟨cs,rfl,_,h1⟩ | ⟨h0,_,c,h1,_⟩
 ·exact Ht h1
 ·have:v.cells = [v]:=by cases v <;> first | rfl | exact absurd rfl (h0 _)
  rw [this,h1]; rfl
theorem Fo:∀ {ps:List (Tmp×VD)} {vs:List KV},jT ps vs=true->(Ax P ps vs).length=px ps
 | [],[],_=>rfl
 | [],_::_,h=>by simp [jT] at h
 | _::_,[],h=>by simp [jT] at h
 | p::ps,v::vs,h=>by
  simp only [jT,aA] at h;simp only [Ax,px,nF];rw [pG (acD h.1),Fo h.2]
theorem acE {t:bO} {A:aw} : ∀ {ps:List (Tmp×VD)} {i:Nat} {x:FI},jT ps (rY P t A ps)=true->(Gv P t A ps)[i]? = some x->x.ok=true->∃ p,(Ax P ps (rY P t A ps))[i]? = some p/\MA P A x p
 | [],_,_,_,h,_=>by simp [Gv] at h
 | p::ps,i,x,hg,h,dt=>by
  simp only [rY,jT,aA] at hg;simp only [Gv] at h;have hl:=J2 hg.1;by_cases hi:i < (nc P A p.2.ks (valOf t p.1).cells).length
  ·rw [r5 hi] at h
   have hg' : dT p.2.ks (gm P A p.2.ks (valOf t p.1).cells)=true/\(xN P A p.2 (valOf t p.1)).cells=gm P A p.2.ks (valOf t p.1).cells:=by
    rcases A8 hg.1 with ⟨cs,e,_,h2,h3⟩ | ⟨_,c,h1,h2,h3,h4,h5⟩
    ·rw [e] at h2 ⊢; exact ⟨h3,by rw [h2]; rfl⟩
    ·rw [h4,h1]
     refine ⟨by simp [gm,dT,h3],?_⟩;rw [h2];show (gk P A c (valOf t p.1)).cells = [gk P A c (valOf t p.1)];generalize gk P A c (valOf t p.1)=w at h5 ⊢;cases w <;> first | rfl | exact absurd rfl (h5 _)
   obtain ⟨q,h2,h3⟩:=yL hl hg'.1 h dt;refine ⟨q,?_,h3⟩;simp only [rY,Ax];rw [hg'.2,r5 (dq.1 h2).1];exact h2
  ·rw [uA (by omega)] at h
   obtain ⟨q,h1,h2⟩:=acE hg.2 h dt;refine ⟨q,?_,h2⟩;simp only [rY,Ax];have e1:(ri P p.2.ks (xN P A p.2 (valOf t p.1)).cells).length=(nc P A p.2.ks (valOf t p.1).cells).length:=by rw [pG (acD hg.1),mj hl]
   rw [uA (by omega),e1];exact h1
theorem acF {t:bO} {A:aw} : ∀ {ps:List (Tmp×List CD×Nat)} {i:Nat} {x:FI},Bq P t A ps=true->(II P t A ps)[i]? = some x->x.ok=true->∃ p,(BV P ps (Li P t A ps))[i]? = some p/\MA P A x p
 | [],_,_,_,h,_=>by simp [II] at h
 | p::ps,i,x,hg,h,dt=>by
  simp only [Bq,aA] at hg;simp only [II] at h;obtain ⟨b,cs,_,hl,_,hC⟩:=J4 hg.1;rw [<- hC] at hl;by_cases hi:i < (nc P A p.2.1 (IG t A p)).length
  ·rw [r5 hi] at h
   obtain ⟨q,h2,h3⟩:=yL hl hg.2.1 h dt;refine ⟨q,?_,h3⟩;simp only [Li,BV];rw [r5 (dq.1 h2).1];exact h2
  ·rw [uA (by omega)] at h
   obtain ⟨q,h1,h2⟩:=acF hg.2.2 h dt;refine ⟨q,?_,h2⟩;simp only [Li,BV];have e1:(ri P p.2.1 (gm P A p.2.1 (IG t A p))).length=(nc P A p.2.1 (IG t A p)).length:=by rw [pG (Ht hg.2.1),mj hl]
   rw [uA (by omega),e1];exact h1
theorem Lm:∀ {ps:List (Tmp×List CD×Nat)} {rs:List (List KV)},rs.length=ps.length->(∀ (k:Nat) p r,ps[k]? = some p->rs[k]? = some r->dT p.2.1 r=true)->∀ {l:Nat},l=(ps.map fun p=>tG p.2.1).sum->(BV P ps rs).length=l
 | [],[],_,_,l,hl=>by subst hl; rfl
 | [],_::_,h,_,_,_=>by simp at h
 | _::_,[],h,_,_,_=>by simp at h
 | p::ps,r::rs,h,hk,l,hl=>by
  simp only [BV,nF];rw [pG (Ht (hk 0 p r rfl rfl)),Lm (by simpa using h) (fun k p r h1 h2=>hk (k+1) p r (by simpa using h1) (by simpa using h2)) rfl,hl];simp
theorem Uf {t:bO} {A:aw} : ∀ {ps:List (Tmp×List CD×Nat)},Bq P t A ps=true->(II P t A ps).length=(ps.map fun p=>tG p.2.1).sum
 | [],_=>rfl
 | p::ps,h=>by
  simp only [Bq,aA] at h;obtain ⟨b,cs,_,hl,_,hC⟩:=J4 h.1;simp only [II,nF,List.map_cons,List.sum_cons];rw [mj (by rw [hC]; exact hl),Uf h.2.2]
end Go.K
end
section
namespace Go.K
open Go Go.aB
variable {P:Program} {E:Env}
noncomputable def Env.sub (E:Env) (A:aw) (bs:List Nat) (fs:List (Option Nat)) (nr:Nat):Env:=
 { κ:=fun i=>(bs[i]?).bind E.κ,z:=E.z,φ:=fun i=>if nr<=i then (fs[i - nr]?).bind (fun f=>f.bind fun x=>cond (BU (A.get x)) (E.φ x) none) else none,α:=fun i=>if nr<=i then (fs[i - nr]?).bind (fun f=>f.bind E.α) else none }
theorem SU {E:Env} {A:aw} {x q:Nat} (e:cond (BU (A.get x)) (E.φ x) none=some q):E.φ x=some q/\BU (A.get x)=true:=by
 cases h:BU (A.get x) with
 | true=>rw [h] at e; exact ⟨e,rfl⟩
 | false=>rw [h] at e; simp at e
theorem anY {A:aw} {x:Nat} (h:BU (A.get x)=true):∃ n sz,A.get x=some (.bA n sz):=by
 unfold BU at h;split at h
 ·rename_i n sz e; exact ⟨n,sz,e⟩
 ·simp at h
theorem Env.agu {A:aw} {bs:List Nat} {fs:List (Option Nat)} {nr i:Nat} : (E.sub A bs fs nr).φ (nr+i)=(fs[i]?).bind (fun f=>f.bind fun x=>cond (BU (A.get x)) (E.φ x) none):=by
 simp only [Env.sub];rw [aY (by omega),show nr+i - nr=i by omega]
theorem Env.IL {A:aw} {bs:List Nat} {fs:List (Option Nat)} {nr i:Nat} : (E.sub A bs fs nr).α (nr+i)=(fs[i]?).bind (fun f=>f.bind E.α):=by
 simp only [Env.sub];rw [aY (by omega),show nr+i - nr=i by omega]
theorem Oo:∀ {l:List (Nat×KV)} {i:Nat} {v:KV},(nj l).get i=some v->(i,v)∈l
 | [],i,v,h=>by simp [nj] at h
 | p::ps,i,v,h=>by
  rw [nj,Trie.qT] at h;split at h
  ·rename_i e
   simp at h; subst h e;simp
  ·exact yW _ (Oo h)
theorem lK.nj {ρ:Ren} {l:List (Nat×KV)} {N:Nat} {a:Act} (hs:a.tmps.size=N) (h:∀ q∈l,q.1 < N/\VC P E ρ q.2 (a.tmps.getD q.1 undef)):lK P E ρ (K.nj l) N a:=by
 refine ⟨hs,fun i=>?_,fun i hi=>?_⟩
 ·cases hg:(K.nj l).get i with
  | none=>exact .ao
  | some v=>exact (h _ (Oo hg)).2
 ·cases hg:(K.nj l).get i with
  | none=>rfl
  | some v=>have:=(h _ (Oo hg)).1; exact absurd hi (Nat.not_le_of_lt this)
theorem Ew {A:aw} {x:Nat} : ∀ {ds:List CD} {vs:List KV} {fi:FI},fi∈nc P A ds vs->fi.fm=true->fi.f=some x->BU (A.get x)=true
 | [],_,_,h,_,_=>by simp [nc] at h
 | d::ds,[],_,h,_,_=>by cases d <;> simp [nc] at h
 | d::ds,v::vs,fi,h,hm,hx=>by
  cases d <;> simp only [nc,fA] at h
  ·exact Ew h hm hx
  ·exact Ew h hm hx
  ·rcases h with rfl | h
   ·exact asd hx
   ·exact Ew h hm hx
  ·rcases h with rfl | h
   ·rw [asc] at hm; simp at hm
   ·exact Ew h hm hx
  ·exact Ew h hm hx
theorem aV.auy (S:aV) {t:bO} {A:aw} {x:Nat} {fi:FI} (h:fi∈S.Tb P t A) (hm:fi.fm=true) (hx:fi.f=some x):BU (A.get x)=true:=by
 have one:∀ {ps:List (Tmp×VD)},fi∈Gv P t A ps->BU (A.get x)=true:=by
  intro ps
  induction ps with
  | nil=>intro h; simp [Gv] at h
  | cons p ps ih=>
   intro h;simp only [Gv,nG] at h;exact h.elim (fun h=>Ew h hm hx) ih
 have two:∀ {ps:List (Tmp×List CD×Nat)},fi∈II P t A ps->BU (A.get x)=true:=by
  intro ps
  induction ps with
  | nil=>intro h; simp [II] at h
  | cons p ps ih=>
   intro h;simp only [II,nG] at h;exact h.elim (fun h=>Ew h hm hx) ih
 simp only [aV.Tb,nG] at h;exact h.elim one two
theorem dU.hyp {S:aV} {t:bO} {A:aw} {g:GR} (h:dU P S t A g):rj E (E.sub A g.bs g.fs S.nr) (S.Tb P t A) S.nr:=fun i fi hi=>by
 refine ⟨V4 h.xH fi (jC hi),fun hm x q hx hq=>?_,fun x q hx hq=>?_⟩
 ·rw [Env.agu,h.fs,Om hi,fy,hx,fy,S.auy (jC hi) hm hx]
  exact hq
 ·rw [Env.IL,h.fs,Om hi,fy,hx,fy]
  exact hq
theorem anZ {E0:Env} {t:bO} {A:aw} {ρ:Ren} {N nr:Nat} {bs Ll:List Nat} {a:Act} (hz:E0.z=E.z) (hk:Rk E E0 nr bs Ll) (ht:lK P E ρ t N a):∀ {ps:List (Tmp×VD)} {j:Nat},jT ps (rY P t A ps)=true->rj E E0 (Gv P t A ps) j->Q2 nr bs t ps=true->∀ q∈acA j Ll ps (rY P t A ps),q.1 < N/\VC P E0 ρ q.2 (a.tmps.getD q.1 undef)
 | [],_,_,_,_,q,hq=>by simp [acA] at hq
 | p::ps,j,hg,hf,hr,q,hq=>by
  simp only [Q2,aA] at hr;simp only [rY,jT,aA] at hg;simp only [rY,acA,fA] at hq;rcases hq with rfl | hq
  ·refine ⟨?_,?_⟩
   ·obtain ⟨v,hv⟩:=VK.aaF hg.1 hr.1
    by_cases hN:N<=p.1
    ·rw [ht.none _ hN] at hv; simp at hv
    ·exact Nat.lt_of_not_le hN
   ·obtain ⟨u,h1,h2⟩:=ht.val p.1
    exact ⟨u,h1.awD hz hk hg.1 hf.left hr.1,h2⟩
  ·have h2:=hf.right
   rw [mj (J2 hg.1)] at h2;exact anZ hz hk ht hg.2 h2 hr.2 q hq
theorem Ug {bs:List Nat} : ∀ {ps:List (Tmp×Nat×Nat)} {q:Nat×KV},q∈Cn bs ps->∃ p∈ps,q=(p.1,.ptr (bs.getD p.2.1 0) p.2.2)
 | [],_,h=>by simp [Cn] at h
 | p::ps,q,h=>by
  simp only [Cn,fA] at h;rcases h with rfl | h
  ·exact ⟨p,by simp,rfl⟩
  ·obtain ⟨p',h1,h2⟩:=Ug h
   exact ⟨p',yW _ h1,h2⟩
theorem Q6 {t:bO} {bs:List Nat} : ∀ {ps:List (Tmp×Nat×Nat)},SP t bs ps=true->∀ q∈ps,∃ b,t.get q.1=some (.ptr b q.2.2)/\bs[q.2.1]? = some b
 | [],_,q,hq=>by simp at hq
 | p::ps,h,q,hq=>by
  simp only [SP,aA] at h;rcases fA.1 hq with rfl | hq
  ·have h1:=h.1
   unfold atx at h1;split at h1
   ·rename_i b o b' e1 e2
    simp only [aA] at h1;have:=bu h1.1;have:=bu h1.2
    subst_vars
    exact ⟨_,e1,e2⟩
   ·simp at h1
  ·exact Q6 h.2 q hq
theorem dU.rk {S:aV} {t:bO} {A:aw} {g:GR} (h:dU P S t A g):Rk E (E.sub A g.bs g.fs S.nr) S.rows.length g.bs S.ids:=fun j x hj e=>by
 have bG:j < g.bs.length:=by rw [h.bs,Fl]; exact hj
 rw [iK,dr bG] at e;rw [iK,Mx S j hj];simp only [Env.sub,ee,dr bG,fy];exact e
theorem dU.tkr {S:aV} {t:bO} {A:aw} {g:GR} {ρ:Ren} {N:Nat} {a:Act} (h:dU P S t A g) (ht:lK P E ρ t N a):lK P (E.sub A g.bs g.fs S.nr) ρ (S.tm S.nr S.ids g.vs) N a:=by
 refine lK.nj ht.size fun q hq=>?_;have hh:rj E (E.sub A g.bs g.fs S.nr) (S.Tb P t A) S.nr:=h.hyp;rcases nG.1 hq with hq | hq
 ·rw [h.vs] at hq
  exact anZ (E:=E) (E0:=E.sub A g.bs g.fs S.nr) (A:=A) rfl h.rk ht (h.vs ▸ h.gS) hh.left h.au7 q hq
 ·obtain ⟨p,hp,rfl⟩:=Ug hq
  obtain ⟨b,h1,h2⟩:=Q6 h.acy p hp;refine ⟨?_,?_⟩
  ·by_cases hN:N<=p.1
   ·rw [ht.none _ hN] at h1; simp at h1
   ·exact Nat.lt_of_not_le hN
  ·have hk:p.2.1 < S.rows.length:=by
    have:=(dq.1 h2).1;rw [h.bs,Fl] at this; exact this
   have hv:=ht.val p.1;rw [h1] at hv;obtain ⟨u,h3,h4⟩:=hv;refine ⟨u,?_,h4⟩;obtain ⟨x,h5,rfl⟩:=(show VK P E (.ptr b p.2.2) u from h3).j8;have:S.ids.getD p.2.1 0=p.2.1:=by rw [iK,Mx S _ hk]; rfl
   rw [this];exact .BM (by simp [Env.sub,h2,h5])
theorem dU.row {S:aV} {t:bO} {A:aw} {g:GR} (h:dU P S t A g) {k:Nat} {p:Tmp×List CD×Nat} (hp:S.rows[k]? = some p):∃ b cs,g.bs[k]? = some b/\A.get b=some (.row cs p.2.2)/\cs.length=p.2.1.length/\IG t A p=cs/\g.rs[k]? = some (gm P A p.2.1 cs)/\dT p.2.1 (gm P A p.2.1 cs)=true:=by
 obtain ⟨h1,h2⟩:=acC h.rows hp;obtain ⟨b,cs,h4,h5,h6,h7⟩:=J4 h1;refine ⟨b,cs,by rw [h.bs,ags hp,h6],h4,h5,h7,?_,by rw [<- h7]; exact h2⟩;have:∀ {ps:List (Tmp×List CD×Nat)} {k:Nat},ps[k]? = some p->(Li P t A ps)[k]? = some (gm P A p.2.1 (IG t A p)):=by
  intro ps
  induction ps with
  | nil=>intro k h; simp at h
  | cons q ps ih=>
   intro k h;cases k with
   | zero=>simp at h; subst h; rfl
   | succ k=>simp at h; simpa [Li] using ih h
 rw [h.rs,this hp,h7]
theorem dU.u9 {S:aV} {t:bO} {A:aw} {g:GR} (h:dU P S t A g):g.rs.length=S.rows.length:=by rw [h.rs,Ue]
theorem dU.agv {S:aV} {t:bO} {A:aw} {g:GR} (h:dU P S t A g):g.bs.length=S.rows.length:=by rw [h.bs,Fl]
theorem dU.Ao {S:aV} {t:bO} {A:aw} {g:GR} (h:dU P S t A g):∀ (k:Nat) p r,S.rows[k]? = some p->g.rs[k]? = some r->dT p.2.1 r=true:=fun k p r hp hr=>by
 obtain ⟨b,cs,_,_,_,_,h1,h2⟩:=h.row hp;rw [hr] at h1; simp at h1; subst h1; exact h2
theorem dU.lens {S:aV} {t:bO} {A:aw} {g:GR} (h:dU P S t A g):(S.lens P g.vs g.rs).length=(S.Tb P t A).length:=by
 simp only [aV.lens,aV.Tb,nF];rw [Fo h.gS,Lm h.u9 h.Ao rfl,Uf h.rows,Fm (h.vs ▸ h.gS)]
theorem dU.fact {S:aV} {t:bO} {A:aw} {g:GR} (h:dU P S t A g) {i:Nat} {q:kU} (hq:(S.lens P g.vs g.rs)[i]? = some q):∃ fi,(S.Tb P t A)[i]? = some fi/\g.fs[i]? = some fi.f/\MA P A fi q:=by
 have bG:i < (S.Tb P t A).length:=by rw [<- h.lens]; exact (dq.1 hq).1
 have hfi:=dr bG;have dt:=V4 h.xH _ (List.getElem_mem bG);refine ⟨_,hfi,by rw [h.fs]; exact Om hfi,?_⟩;have hv:(Gv P t A S.gS).length=px S.gS:=Fm (h.vs ▸ h.gS);have hlv:(Ax P S.gS g.vs).length=px S.gS:=Fo h.gS;simp only [aV.lens] at hq;have an0:=hfi;simp only [aV.Tb] at an0;by_cases hi:i < px S.gS
 ·rw [r5 (by omega)] at hq an0
  obtain ⟨p,h1,h2⟩:=acE (h.vs ▸ h.gS) an0 dt;rw [h.vs,h1] at hq;simp at hq; subst hq; exact h2
 ·rw [uA (by omega)] at hq an0
  obtain ⟨p,h1,h2⟩:=acF h.rows an0 dt;rw [h.rs,hlv,<- hv,h1] at hq;simp at hq; subst hq; exact h2
theorem V6 {t:bO} {A:aw} {nr:Nat} {bs:List Nat} : ∀ {ps:List (Tmp×List CD×Nat)},aaS nr bs t A ps=true->∀ {k:Nat} {p:Tmp×List CD×Nat},ps[k]? = some p->Gw nr bs p.2.1 (IG t A p)=true
 | [],_,k,p,h=>by simp at h
 | q::ps,h,k,p,hp=>by
  simp only [aaS,aA] at h;cases k with
  | zero=>simp at hp; subst hp; exact h.1
  | succ k=>simp at hp; exact V6 h.2 hp
theorem pZ {S:aV} {rs:List (List KV)} (h:rs.length=S.rows.length):(tH .empty S.rows (S.IJ S.nr S.ids rs)).next=S.nr:=by
 show (tH .empty S.rows (acB (S.nr+px S.gS) S.ids S.rows rs)).next=S.nr;rw [akD (Yc h _ _)];simp [aw.empty,aV.nr]
theorem IM {S:aV} {vs:List KV} {rs:List (List KV)} (h:rs.length=S.rows.length) {b:Nat} {o:kU} (hb:(S.mem P vs rs).get b=some o) :
  (∃ p r,S.rows[b]? = some p/\rs[b]? = some r/\o = .row (sA (Cp (S.nr+px S.gS) S.rows b) S.ids p.2.1 r) p.2.2)\/∃ i q,b=S.nr+i/\(S.lens P vs rs)[i]? = some q/\o=q:=by
 rcases Yb hb with hb | ⟨i,q,h1,h2,h3⟩
 ·rcases anX hb with e | ⟨k,p,r,rfl,h1,h2,h3⟩
  ·simp [aw.empty,aw.get] at e
  ·have hk:(aw.empty.next+k)=k:=by simp [aw.empty]
   rw [hk];have bG:k < rs.length:=by rw [h]; exact (dq.1 h1).1
   have e1:=dr bG;have e2:=SS (bs:=S.ids) (j:=S.nr+px S.gS) h1 e1;have h2:(acB (S.nr+px S.gS) S.ids S.rows rs)[k]? = some r:=h2;rw [e2] at h2;simp at h2;exact .inl ⟨p,_,h1,e1,by rw [h3,<- h2]⟩
 ·rw [pZ h] at h1
  exact .inr ⟨i,q,h1,h2,h3⟩
theorem Q7 {t:TypeId} {n:Nat} {es:List KV} {acc:Nat->KV} {bK:List Value} (ht:kr P t n es acc) (h:bC P E es bK):∃ pO aE,K.ai P aj (.ts t .any n es acc) = .ts t .any n pO aE/\kr P t n pO aE/\bC P E pO bK:=by
 refine ⟨(List.range n).map fun i=>ax P (K.ai P 5) t (acc i),fun i=>ax P (K.ai P 5) t (acc i),rfl,?_⟩;have C0:∀ i,i < n->∃ e e',es[i]? = some e/\bK[i]? = some e'/\acc i=e/\cP (bB P t) e=true/\VK P E e e':=by
  intro i hi;have hl:i < es.length:=by rw [<- ht.len]; exact hi
  have e1:=dr hl;obtain ⟨e',e2,e3⟩:=h.get e1;exact ⟨_,e',e1,e2,by rw [ht.acc i hi,iK,e1]; rfl,ku ht.typed e1,e3⟩
 have hlen:bK.length=n:=by rw [h.length,ht.len]
 refine ⟨⟨by simp,fun i hi=>?_,?_⟩,?_⟩
 ·rw [iK,CE,List.getElem?_range hi]; rfl
 ·refine rI fun i e he=>?_
  rw [CE] at he;by_cases hi:i < n
  ·rw [List.getElem?_range hi] at he
   simp only [Option.map_some,di] at he;obtain ⟨x,x',_,_,q3,q4,_⟩:=C0 i hi;rw [<- he,q3,ax];obtain ⟨r1,r2,_⟩:=NX q4;rw [r1];exact af2 q4 (Iw 5 r2) (by simp)
  ·rw [List.getElem?_eq_none (by simp; omega)] at he; simp at he
 ·refine bC.Xr (by simp [hlen]) fun i e e' he K6=>?_
  rw [CE] at he;by_cases hi:i < n
  ·rw [List.getElem?_range hi] at he
   simp only [Option.map_some,di] at he;obtain ⟨x,x',_,q2,q3,q4,q5⟩:=C0 i hi;rw [K6] at q2;simp only [di] at q2;subst q2;rw [<- he,q3];exact VK.ax 5 q4 q5
  ·rw [List.getElem?_eq_none (by simp; omega)] at he; simp at he
theorem dU.arj {S:aV} {t:bO} {A:aw} {g:GR} (h:dU P S t A g) {b:Nat} {v:KV} (hb:(S.mem P g.vs g.rs).get b=some (.arr v)) :
  ∃ i T,b=S.nr+i/\((g.fs[i]? = some none/\1<=bD P T/\v=K.ai P aj (.ts T .any 0 [] qV))\/∃ f m N es acc,g.fs[i]? = some (some f)/\A.get f=some (.arr (.ts T m N es acc))/\v=K.ai P aj (.ts T .any N es acc)):=by
 rcases IM h.u9 hb with ⟨p,r,_,_,h3⟩ | ⟨i,q,rfl,h2,h3⟩
 ·simp at h3
 ·subst h3
  obtain ⟨fi,h4,h5,h6⟩:=h.fact h2;rcases h6 with ⟨_,_,e,_⟩ | ⟨T,v',e,h6⟩
  ·simp at e
  ·simp only [kU.arr.injEq] at e
   subst e;rcases h6 with ⟨h6,h7⟩ | ⟨f,m,N,es,acc,h6,h7⟩
   ·exact ⟨i,T,rfl,.inl ⟨by rw [h5,h6],h7⟩⟩
   ·exact ⟨i,T,rfl,.inr ⟨f,m,N,es,acc,by rw [h5,h6],h7⟩⟩
theorem dU.IP {S:aV} {t:bO} {A:aw} {g:GR} (h:dU P S t A g) {b:Nat} {v:KV} (hb:(S.mem P g.vs g.rs).get b=some (.arr v)) {p:Nat×Nat×Nat} (hp:(E.sub A g.bs g.fs S.nr).α b=some p) :
  ∃ i f u,b=S.nr+i/\g.fs[i]? = some (some f)/\A.get f=some (.arr u)/\E.α f=some p:=by
 obtain ⟨i,T,rfl,h1⟩:=h.arj hb;rw [Env.IL] at hp;rcases h1 with ⟨h1,_⟩ | ⟨f,m,N,es,acc,h1,h2,_⟩
 ·rw [h1] at hp; simp at hp
 ·rw [h1] at hp; exact ⟨i,f,_,rfl,h1,h2,hp⟩
theorem dU.AR {S:aV} {t:bO} {A:aw} {g:GR} (h:dU P S t A g) {x:Nat} (q:K.AR (S.mem P g.vs g.rs) (E.sub A g.bs g.fs S.nr) x):∃ f u L N,f∈lu g.fs/\A.get f=some (.arr u)/\E.α f=some (x,L,N):=by
 obtain ⟨b,v,L,N,h1,h2⟩:=q;obtain ⟨i,f,u,_,h3,h4,h5⟩:=h.IP h1 h2;exact ⟨f,u,L,N,yK.2 (jC h3),h4,h5⟩
theorem dU.ar {S:aV} {t:bO} {A:aw} {g:GR} (h:dU P S t A g) {x:Nat} (q:K.AR (S.mem P g.vs g.rs) (E.sub A g.bs g.fs S.nr) x):K.AR A E x:=by
 obtain ⟨f,u,L,N,_,h2,h3⟩:=h.AR q;exact ⟨f,u,L,N,h2,h3⟩
theorem dU.AF {S:aV} {t:bO} {A:aw} {B:St} {g:GR} (h:dU P S t A g) {q:Nat} (k:K.AF (S.mem P g.vs g.rs) (E.sub A g.bs g.fs S.nr) B q):∃ f u x L N cs e own m,f∈lu g.fs/\A.get f=some (.arr u)/\E.α f=some (x,L,N)/\B.get x=some (.row cs e own (some (q,m))):=by
 obtain ⟨b,v,x,L,N,cs,e,own,m,h1,h2,h3⟩:=k;obtain ⟨i,f,u,_,h4,h5,h6⟩:=h.IP h1 h2;exact ⟨f,u,x,L,N,cs,e,own,m,yK.2 (jC h4),h5,h6,h3⟩
theorem dU.af {S:aV} {t:bO} {A:aw} {B:St} {g:GR} (h:dU P S t A g) {q:Nat} (k:K.AF (S.mem P g.vs g.rs) (E.sub A g.bs g.fs S.nr) B q):K.AF A E B q:=by
 obtain ⟨f,u,x,L,N,cs,e,own,m,_,h1,h2,h3⟩:=h.AF k;exact ⟨f,u,x,L,N,cs,e,own,m,h1,h2,h3⟩
theorem dU.at {S:aV} {t:bO} {A:aw} {B:St} {g:GR} (h:dU P S t A g) {y:Nat} (k:K.AT (S.mem P g.vs g.rs) (E.sub A g.bs g.fs S.nr) B y):K.AT A E B y:=k.imp h.ar fun ⟨q,h1,h2⟩=>⟨q,h.af h1,h2⟩
theorem dU.kA {S:aV} {t:bO} {A:aw} {B:St} {g:GR} (h:dU P S t A g) (hk:fX P E A B):fX P (E.sub A g.bs g.fs S.nr) (S.mem P g.vs g.rs) B where
 row b cs cg hb:=by
  rcases IM h.u9 hb with ⟨p,r,h1,h2,h3⟩ | ⟨i,q,_,h2,h3⟩
  ·simp only [kU.row.injEq] at h3
   obtain ⟨rfl,rfl⟩:=h3;obtain ⟨b',cs,h4,h5,h6,h7,h8,h9⟩:=h.row h1;rw [h2] at h8; simp at h8; subst h8;obtain ⟨x,cu,vV,JF,h12⟩:=hk.row _ _ _ h5;refine ⟨x,cu,by simp [Env.sub,h4,vV],JF,?_⟩;have hh:rj E (E.sub A g.bs g.fs S.nr) (S.Tb P t A) S.nr:=h.hyp;have hr:=hh.right;rw [Fm (h.vs ▸ h.gS)] at hr;have:=agt h.rows hr h1;rw [h7] at this;have hrr:=V6 h.au8 h1;rw [h7] at hrr;exact bC.cellsIn (E:=E) (E0:=E.sub A g.bs g.fs S.nr) rfl h.rk h12 h6 h9 this hrr
  ·subst h3
   obtain ⟨fi,_,_,h6⟩:=h.fact h2;rcases h6 with ⟨_,_,e,_⟩ | ⟨_,_,e,_⟩ <;> simp at e
 bA b top sz hb:=by
  rcases IM h.u9 hb with ⟨p,r,_,_,h3⟩ | ⟨i,q,rfl,h2,h3⟩
  ·simp at h3
  ·subst h3
   obtain ⟨fi,h4,h5,h6⟩:=h.fact h2;rcases h6 with ⟨_,_,e,h6⟩ | ⟨_,_,e,_⟩
   ·simp only [kU.bA.injEq] at e
    obtain ⟨rfl,rfl⟩:=e;rw [Env.agu,h5,fy];rcases h6 with ⟨h6,h7⟩ | ⟨f,h6,h7⟩
    ·rw [h6]; exact .inl ⟨h7,rfl⟩
    ·rw [h6,fy,show BU (A.get f)=true by rw [h7]; rfl,ak]; exact hk.bA f _ _ h7
   ·simp at e
 z:=hk.z
 apart b x e:=by
  simp only [Env.sub,dh] at e;obtain ⟨b',_,e⟩:=e;exact hk.apart b' x e
 inj b c x e1 e2:=by
  simp only [Env.sub,dh] at e1 e2;obtain ⟨b',h1,e1⟩:=e1;obtain ⟨c',h2,e2⟩:=e2;have:=hk.inj _ _ _ e1 e2;subst this;exact agr h.nodup _ _ _ h1 h2
 kQ b c q tb sb tc sc hb hc e1 e2:=by
  have key:∀ {b t s},(S.mem P g.vs g.rs).get b=some (.bA t s)->∃ i,b=S.nr+i/\((g.fs[i]? = some none)\/∃ f,g.fs[i]? = some (some f)/\A.get f=some (.bA t s)):=by
   intro b t s hb;rcases IM h.u9 hb with ⟨p,r,_,_,h3⟩ | ⟨i,q1,rfl,h2,h3⟩
   ·simp at h3
   subst h3;obtain ⟨fi,h4,h5,h6⟩:=h.fact h2;rcases h6 with ⟨_,_,e,h6⟩ | ⟨_,_,e,_⟩
   ·simp only [kU.bA.injEq] at e
    obtain ⟨rfl,rfl⟩:=e;rcases h6 with ⟨h6,_⟩ | ⟨f,h6,h7⟩
    ·exact ⟨i,rfl,.inl (by rw [h5,h6])⟩
    ·exact ⟨i,rfl,.inr ⟨f,by rw [h5,h6],h7⟩⟩
   ·simp at e
  obtain ⟨i,rfl,h1⟩:=key hb;obtain ⟨j,rfl,h2⟩:=key hc;rw [Env.agu] at e1 e2;rcases h1 with h1 | ⟨f,h1,h3⟩
  ·rw [h1] at e1; simp at e1
  rcases h2 with h2 | ⟨f',h2,h4⟩
  ·rw [h2] at e2; simp at e2
  rw [h1,fy,fy] at e1;rw [h2,fy,fy] at e2;rw [show BU (A.get f)=true by rw [h3]; rfl,ak] at e1;rw [show BU (A.get f')=true by rw [h4]; rfl,ak] at e2;have:=hk.kQ f f' q _ _ _ _ h3 h4 e1 e2;subst this;have:=zd h.ae3 i j f h1 h2;omega
 lV b x e:=by
  simp only [Env.sub,dh] at e;obtain ⟨b',h1,_⟩:=e;have:b < g.bs.length:=(dq.1 h1).1;rw [aV.mem,iW,pZ h.u9];rw [h.agv] at this;simp only [aV.nr]; omega
 nQ b q e:=by
  simp only [Env.sub] at e;split at e
  ·rename_i hle
   obtain ⟨f,h1,_⟩:=dh.1 e;have h2:b - S.nr < g.fs.length:=(dq.1 h1).1;rw [h.fs,uh,<- h.lens] at h2;rw [aV.mem,iW,pZ h.u9];omega
  ·simp at e
 live b o hb:=by
  rw [aV.mem,iW,pZ h.u9];rcases IM h.u9 hb with ⟨p,r,h1,_,_⟩ | ⟨i,q,rfl,h2,h3⟩
  ·have:=(dq.1 h1).1
   simp only [aV.nr]; omega
  ·have:=(dq.1 h2).1
   omega
 iV b x e:=by
  simp only [Env.sub,dh] at e;obtain ⟨b',_,e⟩:=e;exact hk.iV b' x e
 nR:=hk.nR
 lr b q e:=by
  simp only [Env.sub] at e;split at e
  ·obtain ⟨f,_,e⟩:=dh.1 e
   obtain ⟨f',_,e⟩:=dh.1 e;exact hk.lr _ _ (SU e).1
  ·simp at e
 fresh:=hk.fresh
 mem:=hk.mem
 ar:=by
  have alR:∀ b p,(E.sub A g.bs g.fs S.nr).α b=some p->S.nr<=b/\b - S.nr < g.fs.length/\∃ f,E.α f=some p:=by
   intro b p e;simp only [Env.sub] at e;split at e
   ·rename_i hle
    obtain ⟨f,h1,e⟩:=dh.1 e;obtain ⟨f',_,e⟩:=dh.1 e;exact ⟨hle,(dq.1 h1).1,f',e⟩
   ·simp at e
  refine ⟨fun b v hb=>?_,fun b v hb=>?_,fun x q=>?_,fun b c v u x L N L' N' h1 h2 h3 h4=>?_,fun b c v u x y L N L' N' cs e own q k cu e' rH k' h1 h2 h3 h4 h5 h6=>?_,fun b x e=>?_,fun b p e=>?_,fun b x L N e=>?_,fun b v x L N cs e own q k h1 h2 h3=>?_,fun b v hb=>?_⟩
  ·obtain ⟨i,T,rfl,h1⟩:=h.arj hb
   rcases h1 with ⟨h1,h2,h3⟩ | ⟨f,m,N,es,acc,h1,h2,h3⟩
   ·obtain ⟨pO,aE,e1,e2,_⟩:=Q7 (P:=P) (E:=E) (t:=T) (n:=0) (es:=[]) (acc:=qV) (bK:=[]) ⟨rfl,fun i hi=>by omega,rfl⟩ .nil
    rw [e1] at h3;refine ⟨T,0,pO,aE,h3,e2,h2,.inl ⟨rfl,?_⟩⟩;rw [Env.IL,h1]; rfl
   ·obtain ⟨T2,N2,pO,aE,e,ht,fZ,Av⟩:=hk.ar.arr f _ h2
    simp only [KV.ts.injEq] at e;obtain ⟨rfl,rfl,rfl,rfl,rfl⟩:=e;rcases Av with ⟨h4,h5⟩ | ⟨x,cs,cp,bK,h4,h5,h6,h7⟩
    ·subst h4
     have VT:es = []:=pP.1 ht.len.symm;subst VT;obtain ⟨pO,aE,e1,e2,_⟩:=Q7 (P:=P) (E:=E) (bK:=[]) ht .nil;rw [e1] at h3;refine ⟨T,0,pO,aE,h3,e2,fZ,.inl ⟨rfl,?_⟩⟩;rw [Env.IL,h1]; exact h5
    ·obtain ⟨pO,aE,e1,e2,e3⟩:=Q7 ht h6
     rw [e1] at h3;refine ⟨T,N,pO,aE,h3,e2,fZ,.inr ⟨x,cs,cp,bK,?_,h5,bC.zEs (E:=E) (E0:=E.sub A g.bs g.fs S.nr) (.of rfl) e3 e2.typed,h7⟩⟩;rw [Env.IL,h1]; exact h4
  ·rcases IM h.u9 hb with ⟨p,r,_,_,h3⟩ | ⟨i,q,rfl,h2,h3⟩
   ·simp at h3
   ·subst h3
    obtain ⟨fi,_,_,h6⟩:=h.fact h2;rcases h6 with ⟨_,_,e,_⟩ | ⟨_,_,e,_⟩ <;> simp at e
  ·obtain ⟨h1,h2⟩:=hk.ar.z x (h.ar q)
   refine ⟨h1,fun c e=>?_⟩;simp only [Env.sub,dh] at e;obtain ⟨b',_,e⟩:=e;exact h2 b' e
  ·obtain ⟨i,f,u1,rfl,k1,k2,k3⟩:=h.IP h1 h3
   obtain ⟨j,f',u2,rfl,k1',k2',k3'⟩:=h.IP h2 h4;have:=hk.ar.inj f f' u1 u2 x L N L' N' k2 k2' k3 k3';subst this;have:=zd h.ae3 i j f k1 k1';omega
  ·obtain ⟨i,f,u1,rfl,k1,k2,k3⟩:=h.IP h1 h3
   obtain ⟨j,f',u2,rfl,k1',k2',k3'⟩:=h.IP h2 h4;have:=hk.ar.xH f f' u1 u2 x y L N L' N' cs e own q k cu e' rH k' k2 k2' k3 k3' h5 h6;subst this;have:=zd h.ae3 i j f k1 k1';omega
  ·cases tD:(E.sub A g.bs g.fs S.nr).α b with
   | none=>rfl
   | some p=>
    obtain ⟨h1,_,_⟩:=alR b p tD;simp only [Env.sub,dh] at e;obtain ⟨b',h2,_⟩:=e;have:b < g.bs.length:=(dq.1 h2).1;rw [h.agv] at this;simp only [aV.nr] at h1; omega
  ·obtain ⟨h1,h2,_⟩:=alR b p e
   rw [h.fs,uh,<- h.lens] at h2;rw [aV.mem,iW,pZ h.u9];omega
  ·obtain ⟨_,_,f,e⟩:=alR b _ e
   exact hk.ar.iV f x L N e
  ·obtain ⟨i,f,u,rfl,k1,k2,k3⟩:=h.IP h1 h2
   obtain ⟨h4,h5,h6⟩:=hk.ar.vJ f u x L N cs e own q k k2 k3 h3;refine ⟨h4,fun c e=>?_,fun y hy de=>?_⟩
   ·simp only [Env.sub] at e
    split at e
    ·obtain ⟨f1,_,e⟩:=dh.1 e
     obtain ⟨f',_,e⟩:=dh.1 e;exact h5 f' (SU e).1
    ·simp at e
   ·obtain ⟨h7,h8,h9⟩:=h6 y hy de
    refine ⟨h7,fun q=>h8 (h.ar q),fun c e=>?_⟩;simp only [Env.sub,dh] at e;obtain ⟨b',_,e⟩:=e;exact h9 b' e
  ·rcases IM h.u9 hb with ⟨p,r,_,_,h3⟩ | ⟨i,q,rfl,h2,_⟩
   ·simp at h3
   ·refine ⟨?_,?_⟩
    ·rw [aV.mem,iW,pZ h.u9]
     have:=(dq.1 h2).1;omega
    ·simp only [Env.sub]
     rw [List.getElem?_eq_none (by rw [h.agv]; simp only [aV.nr]; omega)];rfl
structure Co (base:Nat) (E:Env) (A:aw) (B:St) (ρ:Ren) (w:World) (E' : Env) (A' : aw) (B' : St) (bd:Ren) (w' : World):Prop where
 gN:l7 base ρ B w bd B' w'
 z:∀ b r,E.z b=some r->E'.z b=some r
 ij:∀ x,x < B.next->(∀ b,E.κ b≠some x)->¬ AT A E B x->B'.get x=B.get x
 new:∀ b x,E'.κ b=some x->(∃ c,E.κ c=some x)\/B.next<=x
 wH:∀ b r,E'.z b=some r->E.z b=some r\/AR A E b\/B.next<=b
 wI:∀ b g,E'.φ b=some g->(∃ c,E.φ c=some g)\/B.next<=g
 su:∀ g,g < B.next->(∀ b,E.φ b≠some g)->¬ AF A E B g->B'.members g=B.members g
 oX:∀ x,AR A' E' x->AR A E x\/B.next<=x
 pw:∀ g,AF A' E' B' g->AF A E B g\/B.next<=g
 yC:∀ g y,y∈B'.members g->y∈B.members g\/B.next<=y
 pY:∀ y,AT A' E' B' y->AT A E B y\/B.next<=y
 rows:∀ y,y < B.next->∀ cs e own cp,B'.get y=some (.row cs e own cp)->∃ nK,B.get y=some (.row nK e own cp)/\nK.length=cs.length
theorem Co.trans {base:Nat} {E1 E2 E3:Env} {A1 A2 A3:aw} {B1 B2 B3:St} {od yD ρ3:Ren} {w1 w2 w3:World} (h:Co base E1 A1 B1 od w1 E2 A2 B2 yD w2) (k:Co base E2 A2 B2 yD w2 E3 A3 B3 ρ3 w3):Co base E1 A1 B1 od w1 E3 A3 B3 ρ3 w3 where
 gN:=h.gN.trans k.gN
 z b r e:=k.z b r (h.z b r e)
 ij x hx hn ha:=by
  refine (k.ij x (nI hx h.gN.next) (fun b e=>?_) fun q=>?_).trans (h.ij x hx hn ha)
  ·rcases h.new b x e with ⟨c,e⟩ | e
   ·exact hn c e
   ·omega
  ·rcases h.pY x q with e | e
   ·exact ha e
   ·omega
 new b x e:=by
  rcases k.new b x e with ⟨c,e⟩ | e
  ·exact h.new c x e
  ·have:=h.gN.next; exact .inr (by omega)
 wH b r e:=by
  rcases k.wH b r e with e | e | e
  ·exact h.wH b r e
  ·exact .inr (h.oX b e)
  ·have:=h.gN.next; exact .inr (.inr (by omega))
 wI b g e:=by
  rcases k.wI b g e with ⟨c,e⟩ | e
  ·exact h.wI c g e
  ·have:=h.gN.next; exact .inr (by omega)
 su g hg hn ha:=by
  refine (k.su g (nI hg h.gN.next) (fun b e=>?_) fun q=>?_).trans (h.su g hg hn ha)
  ·rcases h.wI b g e with ⟨c,e⟩ | e
   ·exact hn c e
   ·omega
  ·rcases h.pw g q with e | e
   ·exact ha e
   ·omega
 oX x e:=by
  rcases k.oX x e with e | e
  ·exact h.oX x e
  ·have:=h.gN.next; exact .inr (by omega)
 pw g e:=by
  rcases k.pw g e with e | e
  ·exact h.pw g e
  ·have:=h.gN.next; exact .inr (by omega)
 yC g y e:=by
  rcases k.yC g y e with e | e
  ·exact h.yC g y e
  ·have:=h.gN.next; exact .inr (by omega)
 pY y e:=by
  rcases k.pY y e with e | e
  ·exact h.pY y e
  ·have:=h.gN.next; exact .inr (by omega)
 rows y hy cs e own cp q:=by
  obtain ⟨c1,h1,h2⟩:=k.rows y (nI hy h.gN.next) cs e own cp q;obtain ⟨c0,h3,h4⟩:=h.rows y hy c1 e own cp h1;exact ⟨c0,h3,h4.trans h2⟩
theorem Ev.co {base:Nat} {A A1:aw} {B B1:St} {ρ od:Ren} {w w1:World} {E1:Env} {S:aV} {t:bO} {g:GR} (h:Ev P base E A B ρ w E1 A1 B1 od w1) (hG:dU P S t A1 g):Co base E A B ρ w (E1.sub A1 g.bs g.fs S.nr) (S.mem P g.vs g.rs) B1 od w1 where
 gN:=h.gN
 z:=h.le.z
 ij:=h.ij
 new b x e:=by
  simp only [Env.sub,dh] at e;obtain ⟨b',_,e⟩:=e;exact (h.new b' x e).imp (fun e=>⟨_,e⟩) id
 wH:=h.wH
 wI b g e:=by
  simp only [Env.sub] at e;split at e
  ·obtain ⟨f,_,e⟩:=dh.1 e
   obtain ⟨f',_,e⟩:=dh.1 e;exact h.wI _ _ (SU e).1
  ·simp at e
 su:=h.su
 oX x q:=h.oX x (hG.ar q)
 pw g q:=h.pw g (hG.af q)
 yC:=h.yC
 pY y q:=h.pY y (hG.at q)
 rows:=h.rows
def Yd (nr:Nat):List CD->Bool
 | []=>true
 | .ref w::ds=>acx nr w&&Yd nr ds
 | _::ds=>Yd nr ds
theorem IQ {nr:Nat} {bs:List Nat} : ∀ {ds:List CD} {vs:List KV},Gw nr bs ds vs=true->vs.length=ds.length->Yd nr ds=true
 | [],_,_,_=>rfl
 | _::_,[],_,e=>by simp at e
 | .k c::ds,v::vs,h,e=>IQ (ds:=ds) (vs:=vs) h (by simpa using e)
 | .lit c::ds,v::vs,h,e=>IQ (ds:=ds) (vs:=vs) h (by simpa using e)
 | .bA c::ds,v::vs,h,e=>IQ (ds:=ds) (vs:=vs) h (by simpa using e)
 | .arr c::ds,v::vs,h,e=>IQ (ds:=ds) (vs:=vs) h (by simpa using e)
 | .ref w::ds,v::vs,h,e=>by
  simp only [Gw,aA] at h;simp only [Yd,aA];exact ⟨h.1,IQ h.2.2 (by simpa using e)⟩
def V7 (E1 E2:Env) (i j n:Nat):Prop:=∀ m,m < n->(∀ g,E1.φ (i+m)=some g->E2.φ (j+m)=some g)/\∀ p,E1.α (i+m)=some p->E2.α (j+m)=some p
theorem V7.tail {E1 E2:Env} {i j n:Nat} (h:V7 E1 E2 i j (n+1)):V7 E1 E2 (i+1) (j+1) n:=fun m hm=>by
 have:=h (m+1) (by omega);rw [show i+(m+1)=i+1+m by omega,show j+(m+1)=j+1+m by omega] at this;exact this
theorem V7.left {E1 E2:Env} {i j n n' : Nat} (h:V7 E1 E2 i j n') (hn:n<=n'):V7 E1 E2 i j n:=fun m hm=>h m (by omega)
theorem V7.right {E1 E2:Env} {i j n n' : Nat} (h:V7 E1 E2 i j (n+n')):V7 E1 E2 (i+n) (j+n) n':=fun m hm=>by
 have:=h (n+m) (by omega);rw [<- Hd,<- Hd] at this;exact this
theorem bC.Cq {E1 E2:Env} (hz:E2.z=E1.z) {nr:Nat} {V8 bs2:List Nat} (hk:Rk E1 E2 nr V8 bs2):∀ {ds:List CD} {vs:List KV} {us:List Value} {i j:Nat},bC P E1 (sA i V8 ds vs) us->dT ds vs=true->Yd nr ds=true->V7 E1 E2 i j (tG ds)->bC P E2 (sA j bs2 ds vs) us
 | [],[],us,_,_,h,_,_,_=>by rw [h.cw]; exact .nil
 | [],_::_,_,_,_,_,hg,_,_=>by simp [dT] at hg
 | _::_,[],_,_,_,_,hg,_,_=>by simp [dT] at hg
 | d::ds,v::vs,us,i,j,h,hg,hw,hf=>by
  simp only [dT,aA] at hg;cases d with
  | k c=>
   obtain ⟨y,ys,rfl,h1,h2⟩:=bC.cons_inv (show bC P E1 (v::sA i V8 ds vs) us from h);exact .cons (h1.gCD (d:=.k c) hz hg.1 (by simp)) (bC.Cq hz hk h2 hg.2 hw hf)
  | lit w=>
   obtain ⟨y,ys,rfl,h1,h2⟩:=bC.cons_inv (show bC P E1 (v::sA i V8 ds vs) us from h);exact .cons (h1.gCD (d:=.lit w) hz hg.1 (by simp)) (bC.Cq hz hk h2 hg.2 hw hf)
  | ref w=>
   simp only [Yd,aA] at hw;obtain ⟨y,ys,rfl,h1,h2⟩:=bC.cons_inv (show bC P E1 (inst V8 w::sA i V8 ds vs) us from h);exact .cons (VK.inst hk hw.1 h1) (bC.Cq hz hk h2 hg.2 hw.2 hf)
  | bA t=>
   obtain ⟨y,ys,rfl,h1,h2⟩:=bC.cons_inv (show bC P E1 (Ol i v::sA (i+1) V8 ds vs) us from h);refine .cons ?_ (bC.Cq (i:=i+1) (j:=j+1) hz hk h2 hg.2 hw (V7.tail hf));have hv:∃ n es acc,v = .ts t .any n es acc:=by
    have hg1:kindOk (.slice t) v=true:=hg.1;cases v <;> simp [kindOk] at hg1;rename_i t' m n es acc;cases m <;> simp at hg1;subst hg1; exact ⟨_,_,_,rfl⟩
   obtain ⟨n,es,acc,rfl⟩:=hv;exact VK.swap hz (show VK P E1 (.ts t (.bA i) n es acc) y from h1) fun sz a cap _ hm=>by
    refine ⟨hm.1,hm.2.imp id ?_⟩;rintro ⟨b,r,g,q1,q2,q3,q4,q5⟩;exact ⟨b,r,g,q1,by rw [hz]; exact q2,q3,(hf 0 (by simp [tG])).1 g q4,q5⟩
  | arr t=>
   obtain ⟨y,ys,rfl,h1,h2⟩:=bC.cons_inv (show bC P E1 (SQ i v::sA (i+1) V8 ds vs) us from h);refine .cons ?_ (bC.Cq (i:=i+1) (j:=j+1) hz hk h2 hg.2 hw (V7.tail hf));have hv:∃ n es acc,v = .ts t .any n es acc:=by
    have hg1:kindOk (.slice t) v=true:=hg.1;cases v <;> simp [kindOk] at hg1;rename_i t' m n es acc;cases m <;> simp at hg1;subst hg1; exact ⟨_,_,_,rfl⟩
   obtain ⟨n,es,acc,rfl⟩:=hv;show VK P E2 (.al t j 0 n) y;rcases (show VK P E1 (.al t i 0 n) y from h1).y9 with ⟨q1,q2,q3⟩ | ⟨x,L,N,c,q1,q2⟩
   ·exact .T1 (.inl ⟨q1,q2,q3⟩)
   ·exact .T1 (.inr ⟨x,L,N,c,(hf 0 (by simp [tG])).2 _ q1,q2⟩)
theorem ase (j:Nat) (bs:List Nat) (d:VD) (cs:List KV):acz j bs d (.agg cs) = .agg (sA j bs d.ks cs):=rfl
theorem akF {j:Nat} {bs:List Nat} {d:VD} {v:KV} (h:∀ cs,v≠.agg cs) {c:CD} (hc:d.ks = [c]) : [acz j bs d v] = sA j bs d.ks [v]:=by
 have e:acz j bs d v=(match d.ks with | [.bA _]=>Ol j v | [.arr _]=>SQ j v | [.ref w]=>inst bs w | _=>v):=by
  cases v <;> first | rfl | exact absurd rfl (h _)
 rw [e,hc];cases c <;> rfl
theorem VK.avF {E1 E2:Env} (hz:E2.z=E1.z) {nr:Nat} {V8 bs2:List Nat} (hk:Rk E1 E2 nr V8 bs2) {d:VD} {v:KV} {u:Value} {i j:Nat} (h:VK P E1 (acz i V8 d v) u) (hg:zb d v=true) (hw:Yd nr d.ks=true) (hf:V7 E1 E2 i j (tG d.ks)):VK P E2 (acz j bs2 d v) u:=by
 rcases A7 hg with ⟨cs,rfl,_,h2⟩ | ⟨h0,_,c,h1,h2⟩
 ·rw [ase] at h ⊢
  obtain ⟨l,rfl,k⟩:=h.mh;exact .rU (bC.Cq hz hk k h2 hw hf)
 ·have k:bC P E1 (sA i V8 d.ks [v]) [u]:=by rw [<- akF h0 h1]; exact .cons h .nil
  have k2:=bC.Cq hz hk k (by rw [h1]; simp [dT,h2]) hw hf;rw [<- akF h0 h1] at k2;obtain ⟨y,e,k3⟩:=k2.fN;simp at e; subst e; exact k3
def xO (P:Program) (E1 E2:Env):List (Nat×KV)->List (Nat×KV)->Prop
 | [],[]=>True
 | x::xs,y::ys=>x.1=y.1/\(∀ u,VK P E1 x.2 u->VK P E2 y.2 u)/\xO P E1 E2 xs ys
 | _,_=>False
theorem xO.append {E1 E2:Env} : ∀ {a b c d:List (Nat×KV)},xO P E1 E2 a b->xO P E1 E2 c d->xO P E1 E2 (a++c) (b++d)
 | [],[],_,_,_,h=>h
 | [],_::_,_,_,h,_=>h.elim
 | _::_,[],_,_,h,_=>h.elim
 | _::_,_::_,_,_,h,k=>⟨h.1,h.2.1,xO.append h.2.2 k⟩
theorem xO.get {E1 E2:Env} : ∀ {a b:List (Nat×KV)},xO P E1 E2 a b->∀ i,((nj a).get i=none/\(nj b).get i=none)\/∃ x y,(nj a).get i=some x/\(nj b).get i=some y/\∀ u,VK P E1 x u->VK P E2 y u
 | [],[],_,i=>.inl (by simp [nj])
 | [],_::_,h,_=>h.elim
 | _::_,[],h,_=>h.elim
 | x::a,y::b,h,i=>by
  rw [nj,nj,Trie.qT,Trie.qT];by_cases e:i=x.1
  ·rw [aY e,aY (by rw [e,h.1])]
   exact .inr ⟨_,_,rfl,rfl,h.2.1⟩
  ·rw [av e,av (by rw [<- h.1]; exact e)]
   exact xO.get h.2.2 i
theorem lK.atC {E1 E2:Env} {ρ:Ren} {l m:List (Nat×KV)} {N:Nat} {a:Act} (h:lK P E1 ρ (K.nj l) N a) (hp:xO P E1 E2 l m):lK P E2 ρ (K.nj m) N a:=by
 refine ⟨h.size,fun i=>?_,fun i hi=>?_⟩
 ·rcases hp.get i with ⟨_,h2⟩ | ⟨x,y,h1,h2,h3⟩
  ·rw [h2]; exact .ao
  ·have:=h.val i
   rw [h1] at this;rw [h2];obtain ⟨u,k1,k2⟩:=this;exact ⟨u,h3 u k1,k2⟩
 ·rcases hp.get i with ⟨_,h2⟩ | ⟨x,y,h1,h2,h3⟩
  ·exact h2
  ·have:=h.none i hi
   rw [h1] at this; simp at this
def wsV (nr:Nat):List (Tmp×VD)->Bool
 | []=>true
 | p::ps=>Yd nr p.2.ks&&wsV nr ps
theorem ark {A:aw} {t:bO} {nr:Nat} {bs:List Nat} : ∀ {ps:List (Tmp×VD)},Q2 nr bs t ps=true->jT ps (rY P t A ps)=true->wsV nr ps=true
 | [],_,_=>rfl
 | p::ps,h,hg=>by
  simp only [Q2,aA] at h;simp only [rY,jT,aA] at hg;simp only [wsV,aA];exact ⟨IQ h.1 (J2 hg.1),ark h.2 hg.2⟩
theorem akG {E1 E2:Env} (hz:E2.z=E1.z) {nr:Nat} {V8 bs2:List Nat} (hk:Rk E1 E2 nr V8 bs2):∀ {ps:List (Tmp×VD)} {vs:List KV} {i j:Nat},jT ps vs=true->wsV nr ps=true->V7 E1 E2 i j (px ps)->xO P E1 E2 (acA i V8 ps vs) (acA j bs2 ps vs)
 | [],[],_,_,_,_,_=>trivial
 | [],_::_,_,_,hg,_,_=>by simp [jT] at hg
 | _::_,[],_,_,hg,_,_=>by simp [jT] at hg
 | p::ps,v::vs,i,j,hg,hw,hf=>by
  simp only [wsV,aA] at hw;simp only [jT,aA] at hg;have hf:V7 E1 E2 i j (tG p.2.ks+px ps):=hf;exact ⟨rfl,fun u h=>h.avF hz hk hg.1 hw.1 (hf.left (Nat.le_add_right _ _)),akG hz hk hg.2 hw.2 hf.right⟩
theorem an1 {E1 E2:Env} {ids bs:List Nat} : ∀ {ps:List (Tmp×Nat×Nat)},(∀ p∈ps,∀ x,E1.κ (ids.getD p.2.1 0)=some x->E2.κ (bs.getD p.2.1 0)=some x)->xO P E1 E2 (Cn ids ps) (Cn bs ps)
 | [],_=>trivial
 | p::ps,h=>⟨rfl,fun u k=>by
   obtain ⟨x,h1,rfl⟩:=(show VK P E1 (.ptr (ids.getD p.2.1 0) p.2.2) u from k).j8;exact .BM (h p (by simp) x h1),an1 fun q hq=>h q (by simp [hq])⟩
end Go.K
end
section
namespace Go.K
open Go Go.aB
variable {P:Program} {E:Env}
theorem H0:∀ (ps:List (Tmp×List CD×Nat)) (j k:Nat),Cp j ps k=j+Cp 0 ps k
 | [],j,k=>by simp [Cp]
 | _::_,j,0=>by simp [Cp]
 | p::ps,j,k+1=>by
  simp only [Cp];rw [H0 ps (j+tG p.2.1) k,H0 ps (0+tG p.2.1) k];omega
theorem mem_row {S:aV} {vs:List KV} {rs:List (List KV)} (h:rs.length=S.rows.length) {k:Nat} {p:Tmp×List CD×Nat} {r:List KV} (hp:S.rows[k]? = some p) (hr:rs[k]? = some r):(S.mem P vs rs).get k=some (.row (sA (Cp (S.nr+px S.gS) S.rows k) S.ids p.2.1 r) p.2.2):=by
 have hk:k < S.nr:=(dq.1 hp).1;rw [aV.mem,Hs (by rw [pZ h]; exact hk)];have:=ari (A:=.empty) hp (show (S.IJ S.nr S.ids rs)[k]? = some _ from SS hp hr);simpa [aw.empty] using this
theorem Ye {S:aV} {vs:List KV} {rs:List (List KV)} (h:rs.length=S.rows.length) {i:Nat} {q:kU} (hq:(S.lens P vs rs)[i]? = some q):(S.mem P vs rs).get (S.nr+i)=some q:=by
 have:=Q3 (A:=tH .empty S.rows (S.IJ S.nr S.ids rs)) hq;rw [pZ h] at this;exact this
def Env.up (E E1:Env) (nr nx:Nat):Env:={ κ:=E.κ,z:=E1.z,φ:=fun b=>if nx<=b then E1.φ (nr+(b - nx)) else E.φ b,α:=fun b=>if nx<=b then E1.α (nr+(b - nx)) else E.α b }
theorem Env.C6 {E1:Env} {nr nx j:Nat} : (E.up E1 nr nx).φ (nx+j)=E1.φ (nr+j):=by
 simp only [Env.up];rw [aY (by omega),show nx+j - nx=j by omega]
theorem Env.C7 {E1:Env} {nr nx b:Nat} (h:b < nx):(E.up E1 nr nx).φ b=E.φ b:=by
 simp only [Env.up];rw [av (by omega)]
theorem Env.MB {E1:Env} {nr nx j:Nat} : (E.up E1 nr nx).α (nx+j)=E1.α (nr+j):=by
 simp only [Env.up];rw [aY (by omega),show nx+j - nx=j by omega]
theorem Env.MC {E1:Env} {nr nx b:Nat} (h:b < nx):(E.up E1 nr nx).α b=E.α b:=by
 simp only [Env.up];rw [av (by omega)]
theorem fX.awE {A:aw} {B:St} (h:fX P E A B) {b x:Nat} (hx:E.κ b=some x) : ¬ AT A E B x:=by
 rintro (q | ⟨g,⟨c,v,y,L,N,cs,e,own,k,h1,h2,h3⟩,hm⟩)
 ·exact (h.ar.z x q).2 b hx
 ·by_cases CO:x=y
  ·subst CO
   exact (h.ar.z x ⟨c,v,L,N,h1,h2⟩).2 b hx
  ·exact ((h.ar.vJ c v y L N cs e own g k h1 h2 h3).2.2 x hm CO).2.2 b hx
theorem akH {S:aV} {t:bO} {A:aw} {B B1:St} {g:GR} {ρ od:Ren} {base N:Nat} {w w1:World} {a1:Act} {vs:List KV} {rs:List (List KV)} {E1:Env} (hG:dU P S t A g) (hk:fX P E A B)
  (ht:lK P E1 od (S.tm S.nr S.ids vs) N a1) (hs:fX P E1 (S.mem P vs rs) B1) (Ay:Co base (E.sub A g.bs g.fs S.nr) (S.mem P g.vs g.rs) B ρ w E1 (S.mem P vs rs) B1 od w1) (JD:∀ k,k < S.rows.length->E1.κ k=(E.sub A g.bs g.fs S.nr).κ k)
  (hv:jT S.gS vs=true) (S7:rs.length=S.rows.length) (hrg:∀ (k:Nat) p r,S.rows[k]? = some p->rs[k]? = some r->dT p.2.1 r=true) :
  lK P (E.up E1 S.nr A.next) od (S.tm A.next g.bs vs) N a1/\Ev P base E A B ρ w (E.up E1 S.nr A.next) (S.back P g.bs g.fs vs rs A) B1 od w1:=by
 have hle:E.le (E.up E1 S.nr A.next):=⟨fun b p e=>by rw [Env.MC (hk.ar.lV b p e)]; exact e,fun _ _ e=>e,fun b r e=>Ay.z b r e,fun b q e=>by rw [Env.C7 (hk.nQ b q e)]; exact e⟩
 have atD:∀ (k b:Nat),g.bs[k]? = some b->E1.κ k=E.κ b:=fun k b hb=>by
  rw [JD k (by rw [<- hG.agv]; exact (dq.1 hb).1)];simp [Env.sub,hb]
 have j6:(BX (pT A g.bs S.rows (S.IJ A.next g.bs rs)) g.fs).next=A.next:=by rw [J3,V5]
 have Oi:∀ x,x < B.next->(∀ (k b:Nat),g.bs[k]? = some b->E.κ b≠some x)->¬ AT (S.mem P g.vs g.rs) (E.sub A g.bs g.fs S.nr) B x->B1.get x=B.get x:=fun x hx de ha=>Ay.ij x hx (fun k e=>by
  simp only [Env.sub,dh] at e;obtain ⟨b,h1,e⟩:=e;exact de k b h1 e) ha
 have hfs:∀ f,f∈lu g.fs->∃ i:Nat,g.fs[i]? = some (some f)/\((∃ n sz,A.get f=some (.bA n sz))\/∃ v,A.get f=some (.arr v)):=by
  intro f hf;obtain ⟨i,hi⟩:=List.getElem?_of_mem (yK.1 hf);have bG:i < (S.lens P g.vs g.rs).length:=by rw [hG.lens,<- uh,<- hG.fs]; exact (dq.1 hi).1
  obtain ⟨fi,_,h2,h3⟩:=hG.fact (dr bG);rw [hi] at h2; simp at h2;rcases h3 with ⟨n,sz,_,⟨h3,_⟩ | ⟨f',h3,h4⟩⟩ | ⟨T,v,_,⟨h3,_⟩ | ⟨f',m,N,es,acc,h3,h4,_⟩⟩
  ·rw [h3] at h2; simp at h2
  ·rw [h3] at h2; simp at h2; subst h2; exact ⟨i,hi,.inl ⟨_,_,h4⟩⟩
  ·rw [h3] at h2; simp at h2
  ·rw [h3] at h2; simp at h2; subst h2; exact ⟨i,hi,.inr ⟨_,h4⟩⟩
 have awF:∀ f v,f∈lu g.fs->A.get f=some v->(∃ n sz,v = .bA n sz)\/∃ u,v = .arr u:=by
  intro f v hf hv;obtain ⟨_,_,⟨n,sz,h1⟩ | ⟨u,h1⟩⟩:=hfs f hf
  ·rw [hv] at h1; simp at h1; exact .inl ⟨n,sz,h1⟩
  ·rw [hv] at h1; simp at h1; exact .inr ⟨u,h1⟩
 have hrk:Rk E1 (E.up E1 S.nr A.next) S.rows.length S.ids g.bs:=fun j x hj e=>by
  have bG:j < g.bs.length:=by rw [hG.agv]; exact hj
  rw [iK,Mx S j hj,ee] at e;rw [iK,dr bG,ee];show E.κ _=some x;rw [<- atD j _ (dr bG)]; exact e
 have aau:∀ (k b:Nat),g.bs[k]? = some b->∃ (p:Tmp×List CD×Nat) (r:List KV) (x:Nat) (cu:List Value),S.rows[k]? = some p/\rs[k]? = some r/\E.κ b=some x/\B1.get x=some (.row cu p.2.2 true none)/\bC P (E.up E1 S.nr A.next) (sA (Cp (A.next+px S.gS) S.rows k) g.bs p.2.1 r) cu/\
   (BX (pT A g.bs S.rows (S.IJ A.next g.bs rs)) g.fs).get b=some (.row (sA (Cp (A.next+px S.gS) S.rows k) g.bs p.2.1 r) p.2.2)/\b ∉ lu g.fs:=by
  intro k b hb;have bG:k < S.rows.length:=by rw [<- hG.agv]; exact (dq.1 hb).1
  have hp:=dr bG;have hr:=dr (show k < rs.length by rw [S7]; exact bG);obtain ⟨b',cs,q1,q2,_⟩:=hG.row hp;rw [hb] at q1; simp at q1; subst q1;obtain ⟨x,cu,h1,h2,h3⟩:=hs.row k _ _ (mem_row S7 hp hr);have hnf:b ∉ lu g.fs:=fun hf=>by
   rcases awF b _ hf q2 with ⟨_,_,e⟩ | ⟨_,e⟩ <;> simp at e
  refine ⟨_,_,x,cu,hp,hr,by rw [<- atD k b hb]; exact h1,h2,?_,?_,hnf⟩
  ·have hws:Yd S.rows.length S.rows[k].2.1=true:=by
    obtain ⟨_,nK,_,_,Qn,hc0,_,_⟩:=hG.row hp;have:=V6 hG.au8 hp;rw [hc0] at this;exact IQ this Qn
   refine bC.Cq (E1:=E1) (E2:=E.up E1 S.nr A.next) rfl hrk h3 (hrg _ _ _ hp hr) hws fun m _=>⟨fun q e=>?_,fun q e=>?_⟩
   ·rw [H0,show A.next+px S.gS+Cp 0 S.rows k+m=A.next+(px S.gS+Cp 0 S.rows k+m) by omega,Env.C6]
    rw [H0,show S.nr+px S.gS+Cp 0 S.rows k+m=S.nr+(px S.gS+Cp 0 S.rows k+m) by omega] at e;exact e
   ·rw [H0,show A.next+px S.gS+Cp 0 S.rows k+m=A.next+(px S.gS+Cp 0 S.rows k+m) by omega,Env.MB]
    rw [H0,show S.nr+px S.gS+Cp 0 S.rows k+m=S.nr+(px S.gS+Cp 0 S.rows k+m) by omega] at e;exact e
  ·rw [IK,av hnf]
   exact anV hG.nodup hb hp (show (S.IJ A.next g.bs rs)[k]? = some _ from SS hp hr)
 have sq:∀ b,b∈g.bs->∃ k:Nat,g.bs[k]? = some b:=fun b hb=>List.getElem?_of_mem hb;have SV:∀ c q,(E.sub A g.bs g.fs S.nr).φ c=some q->∃ f n sz,f∈lu g.fs/\E.φ f=some q/\A.get f=some (.bA n sz):=by
  intro c q e;simp only [Env.sub] at e;split at e
  ·obtain ⟨f,h1,e⟩:=dh.1 e
   obtain ⟨f',h2,e⟩:=dh.1 e;subst h2;obtain ⟨e1,e2⟩:=SU e;obtain ⟨n,sz,e3⟩:=anY e2;exact ⟨f',n,sz,yK.2 (jC h1),e1,e3⟩
  ·simp at e
 have hinv:∀ b o,(S.back P g.bs g.fs vs rs A).get b=some o->(b∈g.bs/\∃ cs e,o = .row cs e/\(BX (pT A g.bs S.rows (S.IJ A.next g.bs rs)) g.fs).get b=some (.row cs e))\/(b ∉ g.bs/\b ∉ lu g.fs/\A.get b=some o)\/(b∈lu g.fs/\o = .dead)\/∃ i q,b=A.next+i/\(S.lens P vs rs)[i]? = some q/\o=q:=by
  intro b o hb;rcases Yb hb with hb | ⟨i,q,h1,h2,h3⟩
  ·by_cases hbs:b∈g.bs
   ·obtain ⟨k,yo⟩:=sq b hbs
    obtain ⟨p,r,x,cu,h1,h2,h3,h4,h5,h6,h7⟩:=aau k b yo;rw [h6] at hb; simp at hb;exact .inl ⟨hbs,_,_,hb.symm,h6⟩
   ·rw [IK] at hb
    split at hb
    ·rename_i hf; simp at hb; exact .inr (.inr (.inl ⟨hf,hb.symm⟩))
    ·rename_i hf
     rw [Q4 hbs] at hb;exact .inr (.inl ⟨hbs,hf,hb⟩)
  ·rw [j6] at h1
   exact .inr (.inr (.inr ⟨i,q,h1,h2,h3⟩))
 have hnewobj:∀ i q,(S.lens P vs rs)[i]? = some q->(S.mem P vs rs).get (S.nr+i)=some q:=fun i q hq=>Ye S7 hq;have arl:∀ (i:Nat) (q:kU),(S.lens P vs rs)[i]? = some q->(∃ n sz,q=kU.bA n sz)\/∃ v,q=kU.arr v:=by
  have one:∀ (ds:List CD) (vs:List KV),∀ q∈ri P ds vs,(∃ n sz,q = .bA n sz)\/∃ v,q = .arr v:=by
   intro ds
   induction ds with
   | nil=>intro vs q hq; simp [ri] at hq
   | cons d ds ih=>
    intro vs q hq;cases vs with
    | nil=>cases d <;> simp [ri] at hq
    | cons v vs=>
     cases d <;> simp only [ri,fA] at hq
     ·exact ih vs q hq
     ·exact ih vs q hq
     ·rcases hq with rfl | hq
      ·exact .inl ⟨_,_,rfl⟩
      ·exact ih vs q hq
     ·rcases hq with rfl | hq
      ·exact .inr ⟨_,rfl⟩
      ·exact ih vs q hq
     ·exact ih vs q hq
  have two:∀ (ps:List (Tmp×VD)) (vs:List KV),∀ q∈Ax P ps vs,(∃ n sz,q = .bA n sz)\/∃ v,q = .arr v:=by
   intro ps
   induction ps with
   | nil=>intro vs q hq; simp [Ax] at hq
   | cons p ps ih=>
    intro vs q hq;cases vs with
    | nil=>simp [Ax] at hq
    | cons v vs=>
     simp only [Ax,nG] at hq;exact hq.elim (one _ _ q) (ih vs q)
  have three:∀ (ps:List (Tmp×List CD×Nat)) (rs:List (List KV)),∀ q∈BV P ps rs,(∃ n sz,q = .bA n sz)\/∃ v,q = .arr v:=by
   intro ps
   induction ps with
   | nil=>intro vs q hq; simp [BV] at hq
   | cons p ps ih=>
    intro vs q hq;cases vs with
    | nil=>simp [BV] at hq
    | cons v vs=>
     simp only [BV,nG] at hq;exact hq.elim (one _ _ q) (ih vs q)
  intro i q hq;have:=jC hq;simp only [aV.lens,nG] at this;exact this.elim (two _ _ q) (three _ _ q)
 have yF:∀ b v,(S.back P g.bs g.fs vs rs A).get b=some (.arr v)->(b < A.next/\b ∉ lu g.fs/\A.get b=some (.arr v)/\(E.up E1 S.nr A.next).α b=E.α b)\/∃ i,b=A.next+i/\(S.mem P vs rs).get (S.nr+i)=some (.arr v)/\(E.up E1 S.nr A.next).α b=E1.α (S.nr+i):=by
  intro b v hb;rcases hinv b _ hb with ⟨_,_,_,e,_⟩ | ⟨_,PZ,h1⟩ | ⟨_,e⟩ | ⟨i,q,rfl,h2,e⟩
  ·simp at e
  ·exact .inl ⟨hk.live b _ h1,PZ,h1,Env.MC (hk.live b _ h1)⟩
  ·simp at e
  ·subst e; exact .inr ⟨i,rfl,Ye S7 h2,Env.MB⟩
 have au9:∀ {b v x L N},b ∉ lu g.fs->A.get b=some (.arr v)->E.α b=some (x,L,N)->¬ AR (S.mem P g.vs g.rs) (E.sub A g.bs g.fs S.nr) x:=by
  intro b v x L N PZ hb hx q;obtain ⟨f,u,L',N',h1,h2,h3⟩:=hG.AR q;have:=hk.ar.inj b f v u x L N L' N' hb h2 hx h3;subst this;exact PZ h1
 have awG:∀ {b v x L N},b ∉ lu g.fs->A.get b=some (.arr v)->E.α b=some (x,L,N)->¬ AT (S.mem P g.vs g.rs) (E.sub A g.bs g.fs S.nr) B x:=by
  intro b v x L N PZ hb hx q;rcases q with q | ⟨bA,q,hm⟩
  ·exact au9 PZ hb hx q
  ·obtain ⟨f,u,y,L',N',cs,e,own,m,h1,h2,h3,h4⟩:=hG.AF q
   by_cases CO:x=y
   ·subst CO
    have:=hk.ar.inj b f v u x L N L' N' hb h2 hx h3;subst this;exact PZ h1
   ·exact ((hk.ar.vJ f u y L' N' cs e own bA m h2 h3 h4).2.2 x hm CO).2.1 ⟨b,v,L,N,hb,hx⟩
 have MD:∀ {b v x L N},b ∉ lu g.fs->A.get b=some (.arr v)->E.α b=some (x,L,N)->B1.get x=B.get x:=by
  intro b v x L N PZ hb hx;exact Oi x (hk.ar.iV b x L N hx) (fun k c _ e=>(hk.ar.z x ⟨b,v,L,N,hb,hx⟩).2 c e) (awG PZ hb hx)
 have atE:∀ {i v x L N},(S.mem P vs rs).get (S.nr+i)=some (.arr v)->E1.α (S.nr+i)=some (x,L,N)->(∃ f u L' N',f∈lu g.fs/\A.get f=some (.arr u)/\E.α f=some (x,L',N'))\/B.next<=x:=by
  intro i v x L N h1 h2;rcases Ay.oX x ⟨_,v,L,N,h1,h2⟩ with q | q
  ·obtain ⟨f,u,L',N',q1,q2,q3⟩:=hG.AR q
   exact .inl ⟨f,u,L',N',q1,q2,q3⟩
  ·exact .inr q
 have atF:∀ x,AR (S.back P g.bs g.fs vs rs A) (E.up E1 S.nr A.next) x->AR A E x\/AR (S.mem P vs rs) E1 x:=by
  rintro x ⟨b,v,L,N,h1,h2⟩;rcases yF b v h1 with ⟨q1,q2,q3,q4⟩ | ⟨i,rfl,q2,q3⟩
  ·rw [q4] at h2; exact .inl ⟨b,v,L,N,q3,h2⟩
  ·rw [q3] at h2; exact .inr ⟨_,v,L,N,q2,h2⟩
 have atG:∀ q,AF (S.back P g.bs g.fs vs rs A) (E.up E1 S.nr A.next) B1 q->AF A E B q\/AF (S.mem P vs rs) E1 B1 q:=by
  rintro q ⟨b,v,x,L,N,cs,e,own,k,h1,h2,h3⟩;rcases yF b v h1 with ⟨q1,q2,q3,q4⟩ | ⟨i,rfl,q2,q3⟩
  ·rw [q4] at h2
   rw [MD q2 q3 h2] at h3;exact .inl ⟨b,v,x,L,N,cs,e,own,k,q3,h2,h3⟩
  ·rw [q3] at h2; exact .inr ⟨_,v,x,L,N,cs,e,own,k,q2,h2,h3⟩
 have alS:∀ x,AR (S.back P g.bs g.fs vs rs A) (E.up E1 S.nr A.next) x->AR A E x\/B.next<=x:=fun x q=>by
  rcases atF x q with q | q
  ·exact .inl q
  ·exact (Ay.oX x q).imp hG.ar id
 have arn:∀ q,AF (S.back P g.bs g.fs vs rs A) (E.up E1 S.nr A.next) B1 q->AF A E B q\/B.next<=q:=fun x q=>by
  rcases atG x q with q | q
  ·exact .inl q
  ·exact (Ay.pw x q).imp hG.af id
 have atH:∀ x,x < B.next->E.z x=none->¬ AR (S.mem P g.vs g.rs) (E.sub A g.bs g.fs S.nr) x->E1.z x=none:=fun x hx h1 h2=>by
  cases hz:E1.z x with
  | none=>rfl
  | some r=>
   rcases Ay.wH x r hz with e | e | e
   ·have e:E.z x=some r:=e
    rw [h1] at e; simp at e
   ·exact (h2 e).elim
   ·omega
 have ava:∀ {b v x L N cs e own q k},b ∉ lu g.fs->A.get b=some (.arr v)->E.α b=some (x,L,N)->B.get x=some (.row cs e own (some (q,k)))->¬ AF (S.mem P g.vs g.rs) (E.sub A g.bs g.fs S.nr) B q:=by
  intro b v x L N cs e own q k PZ hb hx hO r;obtain ⟨f,u,y,L',N',cu,e',rH,m,h1,h2,h3,h4⟩:=hG.AF r;have:=hk.ar.xH b f v u x y L N L' N' cs e own q k cu e' rH m hb h2 hx h3 hO h4;subst this;exact PZ h1
 have uf:NU P (E.up E1 S.nr A.next) (S.back P g.bs g.fs vs rs A) B1:=by
  refine ⟨?_,?_,?_,?_,?_,?_,?_,?_,?_,?_⟩
  ·intro b v hb
   rcases yF b v hb with ⟨q1,q2,q3,q4⟩ | ⟨i,rfl,q2,q3⟩
   ·obtain ⟨T,N,es,acc,h1,h2,h3,h4⟩:=hk.ar.arr b v q3
    refine ⟨T,N,es,acc,h1,h2,h3,?_⟩;rcases h4 with ⟨h4,h5⟩ | ⟨x,cs,cp,bK,h4,h5,h6,h7⟩
    ·exact .inl ⟨h4,by rw [q4]; exact h5⟩
    ·exact .inr ⟨x,cs,cp,bK,by rw [q4]; exact h4,by rw [MD q2 q3 h4]; exact h5,h6.mono hle,h7⟩
   ·obtain ⟨T,N,es,acc,h1,h2,h3,h4⟩:=hs.ar.arr _ v q2
    refine ⟨T,N,es,acc,h1,h2,h3,?_⟩;rcases h4 with ⟨h4,h5⟩ | ⟨x,cs,cp,bK,h4,h5,h6,h7⟩
    ·exact .inl ⟨h4,by rw [q3]; exact h5⟩
    ·exact .inr ⟨x,cs,cp,bK,by rw [q3]; exact h4,h5,bC.zEs (E:=E1) (E0:=E.up E1 S.nr A.next) (.of rfl) h6 h2.typed,h7⟩
  ·intro b v hb
   rcases hinv b _ hb with ⟨_,_,_,e,_⟩ | ⟨_,_,h1⟩ | ⟨_,e⟩ | ⟨i,q,_,h2,e⟩
   ·simp at e
   ·obtain ⟨T,N,es,acc,h2,h3,h4,h5⟩:=hk.ar.kV b v h1
    have tD:(E.up E1 S.nr A.next).α b=E.α b:=Env.MC (hk.live b _ h1);refine ⟨T,N,es,acc,h2,h3,h4,?_⟩;rcases h5 with ⟨h5,h6⟩ | ⟨x,r,bK,h5,h6,h7,h8,h9⟩
    ·exact .inl ⟨h5,by rw [tD]; exact h6⟩
    ·exact .inr ⟨x,r,bK,by rw [tD]; exact h5,Ay.z x r h6,h7,h8.mono hle,h9⟩
   ·simp at e
   ·rcases arl i q h2 with ⟨_,_,e2⟩ | ⟨_,e2⟩ <;> rw [<- e] at e2 <;> simp at e2
  ·rintro x ⟨b,v,L,N,h1,h2⟩
   rcases yF b v h1 with ⟨q1,q2,q3,q4⟩ | ⟨i,rfl,q2,q3⟩
   ·rw [q4] at h2
    obtain ⟨h3,h4⟩:=hk.ar.z x ⟨b,v,L,N,q3,h2⟩;exact ⟨atH x (hk.ar.iV b x L N h2) h3 (au9 q2 q3 h2),h4⟩
   ·rw [q3] at h2
    refine ⟨(hs.ar.z x ⟨_,v,L,N,q2,h2⟩).1,fun c e=>?_⟩;rcases Ay.oX x ⟨_,v,L,N,q2,h2⟩ with q | q
    ·exact (hk.ar.z x (hG.ar q)).2 c e
    ·have:=hk.iV c x e; omega
  ·intro b c v u x L N L' N' hb hc e1 e2
   have Ix:∀ {b v c u L N L' N'},b ∉ lu g.fs->A.get b=some (.arr v)->E.α b=some (x,L,N)->(S.mem P vs rs).get (S.nr+c)=some (.arr u)->E1.α (S.nr+c)=some (x,L',N')->False:=by
    intro b v c u L N L' N' h1 h2 h3 h4 h5;rcases atE h4 h5 with ⟨f,u',L2,N2,k1,k2,k3⟩ | k
    ·have:=hk.ar.inj b f v u' x L N L2 N2 h2 k2 h3 k3
     subst this;exact h1 k1
    ·have:=hk.ar.iV b x L N h3; omega
   rcases yF b v hb with ⟨q1,q2,q3,q4⟩ | ⟨i,rfl,q2,q3⟩ <;> rcases yF c u hc with ⟨r1,r2,r3,r4⟩ | ⟨j,rfl,r2,r3⟩
   ·rw [q4] at e1; rw [r4] at e2
    exact hk.ar.inj b c v u x L N L' N' q3 r3 e1 e2
   ·rw [q4] at e1; rw [r3] at e2
    exact (Ix q2 q3 e1 r2 e2).elim
   ·rw [q3] at e1; rw [r4] at e2
    exact (Ix r2 r3 e2 q2 e1).elim
   ·rw [q3] at e1; rw [r3] at e2
    have:=hs.ar.inj _ _ v u x L N L' N' q2 r2 e1 e2;omega
  ·intro b c v u x y L N L' N' cs e own q k cu e' rH k' hb hc e1 e2 w1 w2
   have Ix:∀ {b v c u x y L N L' N' cs e own k cu e' rH k'},b ∉ lu g.fs->A.get b=some (.arr v)->E.α b=some (x,L,N)->(S.mem P vs rs).get (S.nr+c)=some (.arr u)->E1.α (S.nr+c)=some (y,L',N')->B1.get x=some (.row cs e own (some (q,k)))->B1.get y=some (.row cu e' rH (some (q,k')))->False:=by
    intro b v c u x y L N L' N' cs e own k cu e' rH k' h1 h2 h3 h4 h5 w1 w2;rw [MD h1 h2 h3] at w1;rcases Ay.pw q ⟨_,u,y,L',N',cu,e',rH,k',h4,h5,w2⟩ with r | r
    ·exact ava h1 h2 h3 w1 r
    ·have:=(hk.ar.vJ b v x L N cs e own q k h2 h3 w1).1; omega
   rcases yF b v hb with ⟨q1,q2,q3,q4⟩ | ⟨i,rfl,q2,q3⟩ <;> rcases yF c u hc with ⟨r1,r2,r3,r4⟩ | ⟨j,rfl,r2,r3⟩
   ·rw [q4] at e1; rw [r4] at e2
    rw [MD q2 q3 e1] at w1; rw [MD r2 r3 e2] at w2;exact hk.ar.xH b c v u x y L N L' N' cs e own q k cu e' rH k' q3 r3 e1 e2 w1 w2
   ·rw [q4] at e1; rw [r3] at e2
    exact (Ix q2 q3 e1 r2 e2 w1 w2).elim
   ·rw [q3] at e1; rw [r4] at e2
    exact (Ix r2 r3 e2 q2 e1 w2 w1).elim
   ·rw [q3] at e1; rw [r3] at e2
    have:=hs.ar.xH _ _ v u x y L N L' N' cs e own q k cu e' rH k' q2 r2 e1 e2 w1 w2;omega
  ·intro b x hb
   have hb:E.κ b=some x:=hb;rw [Env.MC (hk.lV b x hb)];exact hk.ar.dis b x hb
  ·intro b p hb
   rw [aV.back,iW,j6];by_cases h1:b < A.next
   ·omega
   ·obtain ⟨i,rfl⟩:=Nat.exists_eq_add_of_le (Nat.le_of_not_lt h1)
    rw [Env.MB] at hb;have:=hs.ar.lV _ _ hb;rw [aV.mem,iW,pZ S7] at this;omega
  ·intro b x L N hb
   by_cases h1:b < A.next
   ·rw [Env.MC h1] at hb
    have:=hk.ar.iV b x L N hb; have:=Ay.gN.next; omega
   ·obtain ⟨i,rfl⟩:=Nat.exists_eq_add_of_le (Nat.le_of_not_lt h1)
    rw [Env.MB] at hb;exact hs.ar.iV _ _ _ _ hb
  ·intro b v x L N cs e own q k hb hx hO
   rcases yF b v hb with ⟨q1,q2,q3,q4⟩ | ⟨i,rfl,q2,q3⟩
   ·rw [q4] at hx
    have apM:=hO;rw [MD q2 q3 hx] at apM;obtain ⟨h1,h2,h3⟩:=hk.ar.vJ b v x L N cs e own q k q3 hx apM;have hm:B1.members q=B.members q:=Ay.su q h1 (fun c e=>by
     obtain ⟨f',_,_,_,k2,_⟩:=SV c q e;exact h2 f' k2) (ava q2 q3 hx apM)
    refine ⟨by have:=Ay.gN.next; omega,fun f e=>?_,fun y hy de=>?_⟩
    ·by_cases hf:f < A.next
     ·rw [Env.C7 hf] at e; exact h2 f e
     ·obtain ⟨j,rfl⟩:=Nat.exists_eq_add_of_le (Nat.le_of_not_lt hf)
      rw [Env.C6] at e;rcases Ay.wI _ _ e with ⟨c,e⟩ | e
      ·obtain ⟨f',_,_,_,k2,_⟩:=SV c q e
       exact h2 f' k2
      ·omega
    ·rw [hm] at hy
     obtain ⟨h4,h5,h6⟩:=h3 y hy de;have bG:=hk.mem q y hy;refine ⟨atH y bG h4 fun r=>h5 (hG.ar r),fun r=>?_,h6⟩;rcases alS y r with r | r
     ·exact h5 r
     ·omega
   ·rw [q3] at hx
    obtain ⟨h1,h2,h3⟩:=hs.ar.vJ _ v x L N cs e own q k q2 hx hO;have CR:=Ay.pw q ⟨_,v,x,L,N,cs,e,own,k,q2,hx,hO⟩;refine ⟨h1,fun f e=>?_,fun y hy de=>?_⟩
    ·by_cases hf:f < A.next
     ·rw [Env.C7 hf] at e
      rcases CR with r | r
      ·obtain ⟨f0,u,x0,L0,N0,nK,e0,atI,m,k1,k2,k3,k4⟩:=hG.AF r
       exact (hk.ar.vJ f0 u x0 L0 N0 nK e0 atI q m k2 k3 k4).2.1 f e
      ·have:=hk.lr f q e; omega
     ·obtain ⟨j,rfl⟩:=Nat.exists_eq_add_of_le (Nat.le_of_not_lt hf)
      rw [Env.C6] at e;exact h2 _ e
    ·obtain ⟨h4,h5,h6⟩:=h3 y hy de
     have C0:y∈B.members q->(∀ c,c ∉ lu g.fs->∀ v' L' N',A.get c=some (.arr v')->E.α c≠some (y,L',N'))/\∀ c,E.κ c≠some y:=by
      intro hm;rcases CR with r | r
      ·obtain ⟨f0,u,x0,L0,N0,nK,e0,atI,m,k1,k2,k3,k4⟩:=hG.AF r
       by_cases hy0:y=x0
       ·subst hy0
        refine ⟨fun c hc v' L' N' p1 p2=>?_,(hk.ar.z y ⟨f0,u,L0,N0,k2,k3⟩).2⟩;have:=hk.ar.inj c f0 v' u y L' N' L0 N0 p1 k2 p2 k3;subst this;exact hc k1
       ·obtain ⟨_,p5,p6⟩:=(hk.ar.vJ f0 u x0 L0 N0 nK e0 atI q m k2 k3 k4).2.2 y hm hy0
        exact ⟨fun c _ v' L' N' p1 p2=>p5 ⟨c,v',L',N',p1,p2⟩,p6⟩
      ·rw [hk.fresh q r] at hm; simp at hm
     refine ⟨h4,?_,fun c e=>?_⟩
     ·rintro ⟨c,v',L',N',r1,r2⟩
      rcases yF c v' r1 with ⟨p1,p2,p3,p4⟩ | ⟨j,rfl,p2,p3⟩
      ·rw [p4] at r2
       rcases Ay.yC q y hy with hm | hm
       ·exact (C0 hm).1 c p2 v' L' N' p3 r2
       ·have:=hk.ar.iV c y L' N' r2; omega
      ·rw [p3] at r2
       exact h5 ⟨_,v',L',N',p2,r2⟩
     ·have e:E.κ c=some y:=e
      rcases Ay.yC q y hy with hm | hm
      ·exact (C0 hm).2 c e
      ·have:=hk.iV c y e; omega
  ·intro b v hb
   rw [aV.back,iW,j6];rcases yF b v hb with ⟨q1,q2,q3,q4⟩ | ⟨i,rfl,q2,q3⟩
   ·obtain ⟨k1,k2⟩:=hk.ar.nk b v q3
    exact ⟨by omega,k2⟩
   ·refine ⟨?_,?_⟩
    ·have:=hs.live _ _ q2
     rw [aV.mem,iW,pZ S7] at this;omega
    ·show E.κ (A.next+i)=none
     cases hq:E.κ (A.next+i) with
     | none=>rfl
     | some x=>have:=hk.lV _ x hq; omega
 refine ⟨?_,⟨⟨?_,?_,hs.z,?_,hk.inj,?_,?_,?_,?_,?_,hs.nR,?_,hs.fresh,hs.mem,?_⟩,Ay.gN,hle,?_,?_,fun _ _ e=>.inl e,?_,?_,?_,?_,?_,Ay.yC,?_,Ay.rows⟩⟩
 ·refine lK.atC ht (xO.append (akG (E1:=E1) (E2:=E.up E1 S.nr A.next) rfl hrk hv (ark hG.au7 (hG.vs ▸ hG.gS)) fun m _=>⟨fun q e=>by rw [Env.C6]; exact e,fun q e=>by rw [Env.MB]; exact e⟩) (an1 fun p hp x e=>?_))
  obtain ⟨b,_,h2⟩:=Q6 hG.acy p hp;have bG:p.2.1 < S.rows.length:=by rw [<- hG.agv]; exact (dq.1 h2).1
  rw [iK,Mx S _ bG] at e;rw [iK,h2];have e:E1.κ p.2.1=some x:=e;rw [atD _ _ h2] at e;exact e
 ·intro b cs cg hb
  rcases hinv b _ hb with ⟨hbs,_,_,e,h1⟩ | ⟨hbs,_,h1⟩ | ⟨_,e⟩ | ⟨i,q,_,hq,e⟩
  ·obtain ⟨k,yo⟩:=sq b hbs
   obtain ⟨p,r,x,cu,q1,q2,q3,q4,q5,q6,q7⟩:=aau k b yo;rw [h1] at q6;simp only [kU.row.injEq] at e;obtain ⟨rfl,rfl⟩:=e;simp only [di,kU.row.injEq] at q6;obtain ⟨rfl,rfl⟩:=q6;exact ⟨x,cu,q3,q4,q5⟩
  ·obtain ⟨x,c,q1,q2,q3⟩:=hk.row b cs cg h1
   refine ⟨x,c,q1,?_,q3.mono hle⟩;rw [Oi x (hk.iV b x q1) (fun k b' hb' e=>?_) fun q=>hk.awE q1 (hG.at q)]
   ·exact q2
   ·have:=hk.inj _ _ _ q1 e
    subst this;exact hbs (jC hb')
  ·simp at e
  ·rcases arl i q hq with ⟨_,_,e2⟩ | ⟨_,e2⟩ <;> rw [<- e] at e2 <;> simp at e2
 ·intro b top sz hb
  rcases hinv b _ hb with ⟨_,_,_,e,_⟩ | ⟨hbs,PZ,h1⟩ | ⟨_,e⟩ | ⟨i,q,rfl,h2,e⟩
  ·simp at e
  ·rcases hk.bA b top sz h1 with ⟨h2,h3⟩ | ⟨q,h2,h3,h4⟩
   ·exact .inl ⟨h2,by rw [Env.C7 (hk.live b _ h1)]; exact h3⟩
   ·have hq:=hk.lr b q h2
    refine .inr ⟨q,by rw [Env.C7 (hk.live b _ h1)]; exact h2,h3,fun x hx cs e own f k hO=>?_⟩;have hmq:B1.members q=B.members q:=Ay.su q hq (fun c e=>by
     obtain ⟨f',_,_,h5,h6,h7⟩:=SV c q e;have:=hk.kQ b f' q _ _ _ _ h1 h7 h2 h6;subst this;exact PZ h5) fun k=>by
      obtain ⟨c,v,y,L,N,cs,e,own,m,h5,h6,h7⟩:=hG.af k;exact (hk.ar.vJ c v y L N cs e own q m h5 h6 h7).2.1 b h2
    rw [hmq] at hx;obtain ⟨nK,q1,q2⟩:=Ay.rows x (hk.mem q x hx) _ _ _ _ hO;obtain ⟨q3,q4⟩:=h4 x hx nK e own f k q1;exact ⟨q3,by rw [<- q2]; exact q4⟩
  ·simp at e
  ·subst e
   have:=hs.bA _ _ _ (Ye S7 h2);rw [Env.C6];exact this
 ·intro b x hb
  have hx:=hk.iV b x hb;show E1.z x=none;cases hz:E1.z x with
  | none=>rfl
  | some r=>
   rcases Ay.wH x r hz with e | e | e
   ·have e:E.z x=some r:=e
    rw [hk.apart b x hb] at e; simp at e
   ·exact absurd hb ((hk.ar.z x (hG.ar e)).2 b)
   ·omega
 ·intro b c q tb sb tc sc hb hc e1 e2
  have key:∀ {b tb sb},(S.back P g.bs g.fs vs rs A).get b=some (.bA tb sb)->(b < A.next/\b ∉ lu g.fs/\A.get b=some (.bA tb sb))\/∃ i,b=A.next+i/\(S.mem P vs rs).get (S.nr+i)=some (.bA tb sb):=by
   intro b tb sb hb;rcases hinv b _ hb with ⟨_,_,_,e,_⟩ | ⟨_,PZ,h1⟩ | ⟨_,e⟩ | ⟨i,q,rfl,h2,e⟩
   ·simp at e
   ·exact .inl ⟨hk.live b _ h1,PZ,h1⟩
   ·simp at e
   ·subst e
    exact .inr ⟨i,rfl,Ye S7 h2⟩
  have Ix:∀ {b c tb sb i},b < A.next->b ∉ lu g.fs->A.get b=some (.bA tb sb)->c=A.next+i->E.φ b=some q->E1.φ (S.nr+i)=some q->False:=by
   intro b c tb sb i _ h2 h3 _ h5 h6;rcases Ay.wI _ _ h6 with ⟨c',e⟩ | e
   ·obtain ⟨f',_,_,k1,k2,k3⟩:=SV c' q e
    have:=hk.kQ b f' q _ _ _ _ h3 k3 h5 k2;subst this;exact h2 k1
   ·have:=hk.lr b q h5; omega
  rcases key hb with ⟨h1,h2,h3⟩ | ⟨i,rfl,h2⟩ <;> rcases key hc with ⟨k1,k2,k3⟩ | ⟨j,rfl,k2⟩
  ·rw [Env.C7 h1] at e1; rw [Env.C7 k1] at e2
   exact hk.kQ b c q _ _ _ _ h3 k3 e1 e2
  ·rw [Env.C7 h1] at e1; rw [Env.C6] at e2
   exact (Ix h1 h2 h3 rfl e1 e2).elim
  ·rw [Env.C6] at e1; rw [Env.C7 k1] at e2
   exact (Ix k1 k2 k3 rfl e2 e1).elim
  ·rw [Env.C6] at e1 e2
   have:=hs.kQ _ _ q _ _ _ _ h2 k2 e1 e2;omega
 ·intro b x hb; have h1:=hk.lV b x hb; rw [aV.back,iW,j6]; omega
 ·intro b q hb
  rw [aV.back,iW,j6];by_cases h1:b < A.next
  ·omega
  ·obtain ⟨i,rfl⟩:=Nat.exists_eq_add_of_le (Nat.le_of_not_lt h1)
   rw [Env.C6] at hb;have:=hs.nQ _ _ hb;rw [aV.mem,iW,pZ S7] at this;omega
 ·intro b o hb
  rw [aV.back,iW,j6];rcases hinv b _ hb with ⟨hbs,_⟩ | ⟨_,_,h1⟩ | ⟨h1,_⟩ | ⟨i,q,rfl,h2,_⟩
  ·obtain ⟨k,yo⟩:=sq b hbs
   obtain ⟨p,r,x,cu,_,_,h3,_⟩:=aau k b yo;have:=hk.lV b x h3; omega
  ·have:=hk.live b _ h1; omega
  ·obtain ⟨_,_,⟨_,_,h3⟩ | ⟨_,h3⟩⟩:=hfs b h1
   ·have:=hk.live b _ h3; omega
   ·have:=hk.live b _ h3; omega
  ·have:=(dq.1 h2).1; omega
 ·intro b x hb; have:=hk.iV b x hb; have:=Ay.gN.next; omega
 ·intro b q hb
  by_cases h1:b < A.next
  ·rw [Env.C7 h1] at hb
   have:=hk.lr b q hb; have:=Ay.gN.next; omega
  ·obtain ⟨i,rfl⟩:=Nat.exists_eq_add_of_le (Nat.le_of_not_lt h1)
   rw [Env.C6] at hb;exact hs.lr _ _ hb
 ·exact uf
 ·rw [aV.back,iW,j6]; omega
 ·intro x hx de hna
  exact Oi x hx (fun k b _ e=>de b e) fun q=>hna (hG.at q)
 ·intro b r e
  exact (Ay.wH b r e).imp id (fun e=>e.imp hG.ar id)
 ·intro b q hb
  by_cases h1:b < A.next
  ·rw [Env.C7 h1] at hb; exact .inl ⟨b,hb⟩
  ·obtain ⟨i,rfl⟩:=Nat.exists_eq_add_of_le (Nat.le_of_not_lt h1)
   rw [Env.C6] at hb;rcases Ay.wI _ _ hb with ⟨c,e⟩ | e
   ·obtain ⟨f',_,_,_,k2,_⟩:=SV c q e
    exact .inl ⟨f',k2⟩
   ·exact .inr e
 ·intro q hq de hna
  refine Ay.su q hq (fun c e=>?_) fun k=>hna (hG.af k);obtain ⟨f',_,_,_,k2,_⟩:=SV c q e;exact de f' k2
 ·exact alS
 ·exact arn
 ·rintro y (q | ⟨q,h1,h2⟩)
  ·exact (alS y q).imp .inl id
  ·rcases Ay.yC q y h2 with h2 | h2
   ·rcases arn q h1 with h1 | h1
    ·exact .inl (.inr ⟨q,h1,h2⟩)
    ·rw [hk.fresh q h1] at h2; simp at h2
   ·exact .inr h2
theorem restore {S:aV} {t:bO} {A:aw} {B B1:St} {g:GR} {ρ od:Ren} {base N:Nat} {w w1:World} {a1:Act} {vs:List KV} {rs:List (List KV)} {E1:Env} (hG:dU P S t A g) (hk:fX P E A B)
  (ht:lK P E1 od (S.tm S.nr S.ids vs) N a1) (hs:fX P E1 (S.mem P vs rs) B1) (Ay:Co base (E.sub A g.bs g.fs S.nr) (S.mem P g.vs g.rs) B ρ w E1 (S.mem P vs rs) B1 od w1) (JD:∀ k,k < S.rows.length->E1.κ k=(E.sub A g.bs g.fs S.nr).κ k)
  (hv:jT S.gS vs=true) (S7:rs.length=S.rows.length) (hrg:∀ (k:Nat) p r,S.rows[k]? = some p->rs[k]? = some r->dT p.2.1 r=true) :
  ∃ E',lK P E' od (S.tm A.next g.bs vs) N a1/\Ev P base E A B ρ w E' (S.back P g.bs g.fs vs rs A) B1 od w1:=⟨_,akH hG hk ht hs Ay JD hv S7 hrg⟩
end Go.K
end
section
namespace Go.K
open Go Go.aB
variable {P:Program} {E:Env}
structure D2 (P:Program) (S:aV) (vs:List KV) (rs:List (List KV)):Prop where
 v:jT S.gS vs=true
 u9:rs.length=S.rows.length
 Ao:∀ (k:Nat) p r,S.rows[k]? = some p->rs[k]? = some r->dT p.2.1 r=true
 vn:∃ t A,vs=rY P t A S.gS
 rn:∀ (k:Nat) p,S.rows[k]? = some p->∃ A nK,rs[k]? = some (gm P A p.2.1 nK)/\nK.length=p.2.1.length
theorem dU.Pl {S:aV} {t:bO} {A:aw} {g:GR} (h:dU P S t A g):D2 P S g.vs g.rs:=
 ⟨h.gS,h.u9,h.Ao,⟨t,A,h.vs⟩,fun _ _ hp=>by obtain ⟨_,cs,_,_,h1,_,h2,_⟩:=h.row hp; exact ⟨A,cs,h2,h1⟩⟩
section
variable {cfg:fE} {L n:Nat} {f:FuncId} {S:aV} {root body:Code} {p N:Nat}
theorem apN (hP:P.funcs.toList.all o9=true) (hm:P.follows .mixedOrders=true) (j9:uZ P cfg.pc) (oY:Aw P cfg) {fn:Func} (hf:P.funcs[f]? = some fn) (hb:fn.body=some root) (hs:Sub root p (.loop body)) (hc:codeOk N body=true)
  {vs cX:List KV} {rs oZ:List (List KV)} {e:ae} (hr:dB P cfg L n f p body S vs rs=some (e,cX,oZ)) {B:St} {ρ:Ren} {base:Nat} {a:Act} {w:World} {Q:Exit->Act->World->Prop} (dt:D2 P S vs rs)
  (ht:lK P E ρ (S.tm S.nr S.ids vs) N a) (hj:KJ P E (S.mem P vs rs) B ρ base w)
  (hq:∀ E' B' bd a' w',lK P E' bd (S.tm S.nr S.ids cX) N a'->a'.defers=a.defers->KJ P E' (S.mem P cX oZ) B' bd base w'->Co base E (S.mem P vs rs) B ρ w E' (S.mem P cX oZ) B' bd w'->(∀ k,k < S.rows.length->E'.κ k=E.κ k)->D2 P S cX oZ->Q e.out a' w'):body.wp P Q a w:=by
 have xD:=xh (R:=ae×List KV×List (List KV)) hP hm j9 oY L n;refine mD j9 xD hm (oY.2 f fn root hf hb) body (2 * p) hs.loop hc _ _ _ _ E B ρ base a w Q hr ht hj fun e' t' E1 A1 B1 od a1 w1 h1 h2 h3 h4=>?_;cases hi:yJ (S.gP P t' A1).bs S.ids with
 | false=>
  simp only [hi,ba] at h1;exact absurd h1 (by simp)
 | true=>
  simp only [hi,ak] at h1;cases ho:(S.gP P t' A1).ok with
  | false=>simp only [ho] at h1; exact absurd h1 (by simp)
  | true=>
   simp only [ho,di,fS] at h1;obtain ⟨rfl,rfl,rfl⟩:=h1;have hG:=Mz ho;have atJ:=Q5 hi;refine hq _ B1 od a1 w1 (hG.tkr h2) h3 ⟨hG.kA h4.kA,h4.gN.kA⟩ (h4.co hG) (fun k hk=>?_) hG.Pl;have hp:=dr hk;have hr':=dr (show k < rs.length by rw [dt.u9]; exact hk);obtain ⟨x,_,hx,_⟩:=hj.k.row k _ _ (mem_row dt.u9 hp hr');have e1:(E1.sub A1 (S.gP P t' A1).bs (S.gP P t' A1).fs S.nr).κ k=E1.κ k:=by
    simp only [Env.sub];rw [atJ,Mx S k hk,fy]
   rw [e1,hx];exact h4.le.κ k x hx
theorem akI (hP:P.funcs.toList.all o9=true) (hm:P.follows .mixedOrders=true) (j9:uZ P cfg.pc) (oY:Aw P cfg) {fn:Func} (hf:P.funcs[f]? = some fn) (hb:fn.body=some root) (hs:Sub root p (.loop body)) (hc:codeOk N body=true)
  {e:ae} {cX:List KV} {oZ:List (List KV)} : ∀ (m:Nat) {vs:List KV} {rs:List (List KV)},BZ (dB P cfg L n f p body S) m vs rs=some (e,cX,oZ)->∀ {E:Env} {B:St} {ρ:Ren} {base:Nat} {a:Act} {w:World} {Q:Exit->Act->World->Prop},D2 P S vs rs->
  lK P E ρ (S.tm S.nr S.ids vs) N a->KJ P E (S.mem P vs rs) B ρ base w->
  (∀ E' B' bd a' w',lK P E' bd (S.tm S.nr S.ids cX) N a'->a'.defers=a.defers->KJ P E' (S.mem P cX oZ) B' bd base w'->Co base E (S.mem P vs rs) B ρ w E' (S.mem P cX oZ) B' bd w'->(∀ k,k < S.rows.length->E'.κ k=E.κ k)->D2 P S cX oZ->Q e.out a' w')->Code.rounds P body Q m a w
 | 0,vs,rs,h,E,B,ρ,base,a,w,Q,dt,ht,hj,hq=>by simp [BZ] at h
 | m+1,vs,rs,h,E,B,ρ,base,a,w,Q,dt,ht,hj,hq=>by
  unfold BZ at h;split at h
  ·rename_i e1 vs1 rs1 hr
   rw [rounds_succ];refine apN hP hm j9 oY hf hb hs hc hr dt ht hj fun E' B' bd a' w' h1 h2 h3 h4 h5 h6=>?_;have fin:u7 e1=false->some (e1,vs1,rs1)=some (e,cX,oZ)->Q e1.out a' w':=by
    intro _ h;simp only [di,fS] at h;obtain ⟨rfl,rfl,rfl⟩:=h;exact hq E' B' bd a' w' h1 h2 h3 h4 h5 h6
   cases e1 with
   | normal=>
    have h:BZ (dB P cfg L n f p body S) m vs1 rs1=some (e,cX,oZ):=h;exact akI hP hm j9 oY hf hb hs hc m h h6 h1 h3 fun JG Lg wG a'' JB q1 q2 q3 q4 q5 q6=>hq JG Lg wG a'' JB q1 (q2.trans h2) q3 (h4.trans q4) (fun k hk=>(q5 k hk).trans (h5 k hk)) q6
   | exit id=>exact fin rfl h
   | goto l=>exact fin rfl h
   | ret=>exact fin rfl h
  ·simp at h
theorem aaU {R:Type} {bs:List Nat} {fs:List (Option Nat)} {A:aw} {k:KE R} {r:R} : ∀ (x:vY),(x.tell P S bs fs A).run k=some r->∃ e cX oZ,x.ev=some (e,cX,oZ)/\k e (S.tm A.next bs cX) (S.back P bs fs cX oZ A)=some r
 | .no,h=>absurd h (by simp [vY.tell,CX.run])
 | .out e vs rs,h=>⟨e,vs,rs,rfl,h⟩
 | .br c x y,h=>by
  have h:Bool.rec (motive:=fun _=>Option R) ((y.tell P S bs fs A).run k) ((x.tell P S bs fs A).run k) c=some r:=h;cases c with
  | true=>exact aaU x h
  | false=>exact aaU y h
theorem apO (hP:P.funcs.toList.all o9=true) (hm:P.follows .mixedOrders=true) (j9:uZ P cfg.pc) (oY:Aw P cfg) {fn:Func} (hf:P.funcs[f]? = some fn) (hb:fn.body=some root) (hs:Sub root p (.loop body)) (hc:codeOk N body=true) {F:LFn}
  (hF:∀ vs rs e cX oZ,D2 P S vs rs->(F vs rs).ev=some (e,cX,oZ)->BZ (dB P cfg L n f p body S) iH vs rs=some (e,cX,oZ)):SN P N body (anU P S F):=by
 intro R k r t A E B ρ base a w Q h ht hj hq;cases hpe:S.au6 t A with
 | true=>
  unfold VH anU at h;rw [hpe] at h;exact absurd h (by simp [CX.run])
 | false=>
 have h:VH (anU P S F) k t A=some r:=h;unfold VH anU at h;rw [hpe,ba] at h;have h:Bool.rec (motive:=fun _=>Option R) none (((F (S.gP P t A).vs (S.gP P t A).rs).tell P S (S.gP P t A).bs (S.gP P t A).fs A).run k) (S.gP P t A).ok=some r:=h;cases ho:(S.gP P t A).ok with
 | false=>rw [ho] at h; exact absurd h (by simp)
 | true=>
  rw [ho] at h;have hG:=Mz ho;obtain ⟨e,cX,oZ,h9,vV⟩:=aaU _ h;have hm':=hF _ _ e cX oZ hG.Pl h9;refine akI hP hm j9 oY hf hb hs hc iH hm' hG.Pl (hG.tkr ht) ⟨hG.kA hj.k,hj.s⟩ fun E' B' bd a' w' q1 q2 q3 q4 q5 q6=>?_;obtain ⟨E2,r1,r2⟩:=restore hG hj.k q1 q3.k q4 q5 q6.v q6.u9 q6.Ao;exact hq e _ E2 _ B' bd a' w' vV r1 q2 r2
end
end Go.K
end
section
namespace Go.K
open Go Go.aB
variable {P:Program} {E:Env}
def Env.re (E:Env) (f n:Nat):Env:={ κ:=E.κ,z:=E.z,φ:=E.φ,α:=fun b=>if b=f then E.α n else E.α b }
theorem Env.atK {f n:Nat} (h:∀ p,E.α f=some p->E.α n=some p):E.le (E.re f n):=⟨fun b p e=>by
 simp only [Env.re];split
 ·rename_i e1; subst e1; exact h p e
 ·exact e,fun _ _ e=>e,fun _ _ e=>e,fun _ _ e=>e⟩
theorem Env.apP {f n:Nat} : (E.re f n).α f=E.α n:=by simp [Env.re]
theorem Env.Ex {f n b:Nat} (h:b≠f):(E.re f n).α b=E.α b:=by simp [Env.re,h]
theorem fX.swap {A:aw} {B:St} {f n:Nat} {v:KV} (h:fX P E A B) (hf:A.get f=some .dead) (hn:A.get n=some (.arr v)) (JD:E.κ f=none) (tD:∀ p,E.α f=some p->E.α n=some p) :
  fX P (E.re f n) ((A.put f (.arr v)).put n .dead) B/\(∀ x,AR ((A.put f (.arr v)).put n .dead) (E.re f n) x->AR A E x)/\∀ g,AF ((A.put f (.arr v)).put n .dead) (E.re f n) B g->AF A E B g:=by
 have de:f≠n:=fun e=>by rw [e,hn] at hf; simp at hf
 have hle:=Env.atK tD;have lC:∀ b o,((A.put f (.arr v)).put n .dead).get b=some o->(b=n/\o = .dead)\/(b=f/\o = .arr v)\/(b≠f/\b≠n/\A.get b=some o):=fun b o hb=>by
  rw [aw.cz] at hb;split at hb
  ·rename_i e; simp at hb; exact .inl ⟨e,hb.symm⟩
  ·rename_i e
   rw [aw.cz] at hb;split at hb
   ·rename_i e2; simp at hb; exact .inr (.inl ⟨e2,hb.symm⟩)
   ·rename_i e2; exact .inr (.inr ⟨e2,e,hb⟩)
 have hA:∀ b u,((A.put f (.arr v)).put n .dead).get b=some (.arr u)->∃ c,A.get c=some (.arr u)/\(E.re f n).α b=E.α c/\((b=f/\c=n)\/(b≠f/\b≠n/\c=b)):=fun b u hb=>by
  rcases lC b _ hb with ⟨_,e⟩ | ⟨e,e2⟩ | ⟨e,e2,e3⟩
  ·simp at e
  ·simp at e2; subst e2 e; exact ⟨n,hn,Env.apP,.inl ⟨rfl,rfl⟩⟩
  ·exact ⟨b,e3,Env.Ex e,.inr ⟨e,e2,rfl⟩⟩
 have agi:∀ {b c d:Nat},((b=f/\d=n)\/(b≠f/\b≠n/\d=b))->((c=f/\d=n)\/(c≠f/\c≠n/\d=c))->b=c:=fun h1 h2=>by
  rcases h1 with ⟨a1,a2⟩ | ⟨a1,a2,a3⟩ <;> rcases h2 with ⟨b1,b2⟩ | ⟨b1,b2,b3⟩ <;> omega
 have uf:∀ x,AR ((A.put f (.arr v)).put n .dead) (E.re f n) x->AR A E x:=fun x ⟨b,u,L,N,h1,h2⟩=>by
  obtain ⟨c,h3,h4,_⟩:=hA b u h1;exact ⟨c,u,L,N,h3,by rw [<- h4]; exact h2⟩
 have Lf:∀ g,AF ((A.put f (.arr v)).put n .dead) (E.re f n) B g->AF A E B g:=fun g ⟨b,u,x,L,N,cs,e,own,k,h1,h2,h3⟩=>by
  obtain ⟨c,h4,h5,_⟩:=hA b u h1;exact ⟨c,u,x,L,N,cs,e,own,k,h4,by rw [<- h5]; exact h2,h3⟩
 have hold:∀ b o,((A.put f (.arr v)).put n .dead).get b=some o->b < A.next:=fun b o hb=>by
  rcases lC b _ hb with ⟨e,_⟩ | ⟨e,_⟩ | ⟨_,_,e⟩
  ·rw [e]; exact h.live n _ hn
  ·rw [e]; exact h.live f _ hf
  ·exact h.live b o e
 refine ⟨⟨fun b cs cg hb=>?_,fun b top sz hb=>?_,h.z,h.apart,h.inj,fun b c g tb sb tc sc hb hc=>?_,h.lV,h.nQ,hold,h.iV,h.nR,h.lr,h.fresh,h.mem,?_⟩,uf,Lf⟩
 ·rcases lC b _ hb with ⟨_,e⟩ | ⟨_,e⟩ | ⟨_,_,e⟩
  ·simp at e
  ·simp at e
  ·obtain ⟨x,cu,h1,h2,h3⟩:=h.row b cs cg e
   exact ⟨x,cu,h1,h2,h3.mono hle⟩
 ·rcases lC b _ hb with ⟨_,e⟩ | ⟨_,e⟩ | ⟨_,_,e⟩
  ·simp at e
  ·simp at e
  ·exact h.bA b top sz e
 ·rcases lC b _ hb with ⟨_,e⟩ | ⟨_,e⟩ | ⟨_,_,hb⟩
  ·simp at e
  ·simp at e
  rcases lC c _ hc with ⟨_,e⟩ | ⟨_,e⟩ | ⟨_,_,hc⟩
  ·simp at e
  ·simp at e
  exact h.kQ b c g tb sb tc sc hb hc
 ·refine ⟨fun b u hb=>?_,fun b u hb=>?_,fun x q=>h.ar.z x (uf x q),fun b c u u' x L N L' N' h1 h2 h3 h4=>?_,fun b c u u' x y L N L' N' cs e own g k cu e' rH k' h1 h2 h3 h4 h5 h6=>?_,fun b x e=>?_,fun b p e=>?_,fun b x L N e=>?_,fun b u x L N cs e own g k h1 h2 h3=>?_,fun b u hb=>?_⟩
  ·obtain ⟨c,h1,h2,_⟩:=hA b u hb
   obtain ⟨T,N,es,acc,q1,q2,q3,q4⟩:=h.ar.arr c u h1;refine ⟨T,N,es,acc,q1,q2,q3,?_⟩;rw [h2];exact q4.imp id fun ⟨x,cs,cp,bK,r1,r2,r3,r4⟩=>⟨x,cs,cp,bK,r1,r2,r3.mono hle,r4⟩
  ·rcases lC b _ hb with ⟨_,e⟩ | ⟨_,e⟩ | ⟨e1,_,e⟩
   ·simp at e
   ·simp at e
   ·exact (h.ar.kV b u e).mono hle (Env.Ex e1)
  ·obtain ⟨b',k1,k2,k3⟩:=hA b u h1
   obtain ⟨c',l1,l2,l3⟩:=hA c u' h2;rw [k2] at h3; rw [l2] at h4;have:=h.ar.inj b' c' u u' x L N L' N' k1 l1 h3 h4;subst this;exact agi k3 l3
  ·obtain ⟨b',k1,k2,k3⟩:=hA b u h1
   obtain ⟨c',l1,l2,l3⟩:=hA c u' h2;rw [k2] at h3; rw [l2] at h4;have:=h.ar.xH b' c' u u' x y L N L' N' cs e own g k cu e' rH k' k1 l1 h3 h4 h5 h6;subst this;exact agi k3 l3
  ·have hb:b≠f:=fun e2=>by rw [e2] at e; rw [show (E.re f n).κ f=E.κ f from rfl,JD] at e; simp at e
   rw [Env.Ex hb];exact h.ar.dis b x e
  ·by_cases hb:b=f
   ·rw [hb]; exact h.live f _ hf
   ·rw [Env.Ex hb] at e; exact h.ar.lV b p e
  ·by_cases hb:b=f
   ·rw [hb,Env.apP] at e; exact h.ar.iV n x L N e
   ·rw [Env.Ex hb] at e; exact h.ar.iV b x L N e
  ·obtain ⟨c,k1,k2,_⟩:=hA b u h1
   rw [k2] at h2;obtain ⟨q1,q2,q3⟩:=h.ar.vJ c u x L N cs e own g k k1 h2 h3;exact ⟨q1,q2,fun y hy hy2=>⟨(q3 y hy hy2).1,fun q=>(q3 y hy hy2).2.1 (uf y q),(q3 y hy hy2).2.2⟩⟩
  ·refine ⟨hold b _ hb,?_⟩
   rcases lC b _ hb with ⟨_,e⟩ | ⟨e,_⟩ | ⟨_,_,e⟩
   ·simp at e
   ·rw [e]; exact JD
   ·exact (h.ar.nk b u e).2
structure Sw (E:Env) (A:aw) (B:St) (E' : Env) (A' : aw):Prop where
 le:E.le E'
 κ:E'.κ=E.κ
 z:E'.z=E.z
 φ:E'.φ=E.φ
 next:A'.next=A.next
 ar:∀ x,AR A' E' x->AR A E x
 af:∀ g,AF A' E' B g->AF A E B g
theorem Sw.refl {A:aw} {B:St} : Sw E A B E A:=⟨Env.le_refl _,rfl,rfl,rfl,rfl,fun _ h=>h,fun _ h=>h⟩
theorem Sw.trans {E1 E2 E3:Env} {A1 A2 A3:aw} {B:St} (h:Sw E1 A1 B E2 A2) (k:Sw E2 A2 B E3 A3):Sw E1 A1 B E3 A3:=
 ⟨Env.le_trans h.le k.le,k.κ.trans h.κ,k.z.trans h.z,k.φ.trans h.φ,k.next.trans h.next,fun x q=>h.ar x (k.ar x q),fun g q=>h.af g (k.af g q)⟩
theorem Ev.sw {base:Nat} {E1 E2 E3:Env} {A1 A2 A3:aw} {B1 B2:St} {od yD:Ren} {w1 w2:World} (h:Ev P base E1 A1 B1 od w1 E2 A2 B2 yD w2) (hk:fX P E3 A3 B2) (k:Sw E2 A2 B2 E3 A3):Ev P base E1 A1 B1 od w1 E3 A3 B2 yD w2 where
 kA:=hk
 gN:=h.gN
 le:=Env.le_trans h.le k.le
 next:=by rw [k.next]; exact h.next
 ij:=h.ij
 new b x e:=h.new b x (by rw [<- k.κ]; exact e)
 wH b r e:=h.wH b r (by rw [<- k.z]; exact e)
 wI b g e:=h.wI b g (by rw [<- k.φ]; exact e)
 su:=h.su
 oX x q:=h.oX x (k.ar x q)
 pw g q:=h.pw g (k.af g q)
 yC:=h.yC
 pY y q:=h.pY y (q.imp (k.ar y) fun ⟨g,q1,q2⟩=>⟨g,k.af g q1,q2⟩)
 rows:=h.rows
noncomputable section
def Hu:List (Option Nat)->Nat->Bool
 | [],_=>true
 | some f::fs,j=>Nat.beq f j&&Hu fs (Nat.succ j)
 | none::_,_=>false
theorem acG:∀ {fs:List (Option Nat)} {j i:Nat} {x:Option Nat},Hu fs j=true->fs[i]? = some x->x=some (j+i)
 | [],_,_,_,_,e=>by simp at e
 | none::_,_,_,_,h,_=>by simp [Hu] at h
 | some f::fs,j,0,x,h,e=>by
  simp only [Hu,aA] at h;simp at e;rw [<- e,bu h.1];rfl
 | some f::fs,j,i+1,x,h,e=>by
  simp only [Hu,aA] at h;have:=acG (i:=i) (x:=x) h.2 (by simpa using e);rw [this];congr 1;omega
def atL (A:aw) (f j:Nat) (o:kU):aw:=
 match o with
 | .arr v=>(A.put f (.arr v)).put j .dead
 | _=>A
def Hv (A:aw):List (Option Nat)->Nat->List kU->aw
 | some f::fs,j,o::os=>Hv (atL A f j o) fs (Nat.succ j) os
 | none::fs,j,_::os=>Hv A fs (Nat.succ j) os
 | _,_,_=>A
structure akJ (E:Env) (A:aw) (fs:List (Option Nat)) (j:Nat) (os:List kU):Prop where
 one:∀ (i:Nat) f v,fs[i]? = some (some f)->os[i]? = some (.arr v)->A.get f=some .dead/\E.κ f=none/\A.get (j+i)=some (.arr v)/\∀ p,E.α f=some p->E.α (j+i)=some p
 lt:∀ (i f:Nat),fs[i]? = some (some f)->f < j
 nodup:∀ (i k f:Nat),fs[i]? = some (some f)->fs[k]? = some (some f)->i=k
theorem akJ.tail {E1:Env} {A A1:aw} {x:Option Nat} {o:kU} {fs:List (Option Nat)} {os:List kU} {j:Nat} (h:akJ E A (x::fs) j (o::os)) (tD:∀ b,x≠some b->E1.α b=E.α b) (JD:E1.κ=E.κ) (hg:∀ b,x≠some b->b≠j->A1.get b=A.get b):akJ E1 A1 fs (Nat.succ j) os where
 one i f v e1 e2:=by
  obtain ⟨h1,h3,h4,h5⟩:=h.one (i+1) f v (by simpa using e1) (by simpa using e2);have bG:=h.lt (i+1) f (by simpa using e1);rw [show j+(i+1)=Nat.succ j+i by omega] at h4 h5;have hf:x≠some f:=fun e=>by have:=h.nodup (i+1) 0 f (by simpa using e1) (by simp [e]); omega
  have hn:x≠some (Nat.succ j+i):=fun e=>by have:=h.lt 0 (Nat.succ j+i) (by simp [e]); omega
  exact ⟨by rw [hg f hf (by omega)]; exact h1,by rw [JD]; exact h3,by rw [hg _ hn (by omega)]; exact h4,fun p e=>by rw [tD f hf] at e; rw [tD _ hn]; exact h5 p e⟩
 lt i f e:=by have:=h.lt (i+1) f (by simpa using e); omega
 nodup i k f e1 e2:=by have:=h.nodup (i+1) (k+1) f (by simpa using e1) (by simpa using e2); omega
theorem aaV {B:St} : ∀ {fs:List (Option Nat)} {os:List kU} {j:Nat} {E:Env} {A:aw},fX P E A B->akJ E A fs j os->∃ E',fX P E' (Hv A fs j os) B/\Sw E A B E' (Hv A fs j os)/\
  (∀ (i:Nat) f v,fs[i]? = some (some f)->os[i]? = some (.arr v)->E'.α f=E.α (j+i))/\(∀ b,(∀ i:Nat,fs[i]?≠some (some b))->E'.α b=E.α b)
 | [],os,j,E,A,h,_=>⟨E,h,.refl,fun i f v e=>by simp at e,fun _ _=>rfl⟩
 | x::fs,[],j,E,A,h,_=>⟨E,by cases x <;> exact h,by cases x <;> exact .refl,fun i f v _ e=>by simp at e,fun _ _=>rfl⟩
 | none::fs,o::os,j,E,A,h,ho=>by
  obtain ⟨E',h1,h2,h3,h4⟩:=aaV h (ho.tail (fun _ _=>rfl) rfl fun _ _ _=>rfl);refine ⟨E',h1,h2,fun i f v e1 e2=>?_,fun b hb=>h4 b fun i=>by have:=hb (i+1); simpa using this⟩;cases i with
  | zero=>simp at e1
  | succ i=>
   rw [h3 i f v (by simpa using e1) (by simpa using e2)];congr 1;omega
 | some f0::fs,o::os,j,E,A,h,ho=>by
  have awH:∀ i:Nat,fs[i]?≠some (some f0):=fun i e=>by have:=ho.nodup (i+1) 0 f0 (by simpa using e) (by simp); omega
  have step:∀ {E1:Env} {A1:aw},fX P E1 A1 B->Sw E A B E1 A1->atL A f0 j o=A1->(∀ b,b≠f0->E1.α b=E.α b)->(∀ v,o = .arr v->E1.α f0=E.α j)->akJ E1 A1 fs (Nat.succ j) os->
    ∃ E',fX P E' (Hv A (some f0::fs) j (o::os)) B/\Sw E A B E' (Hv A (some f0::fs) j (o::os))/\(∀ (i:Nat) f v,(some f0::fs)[i]? = some (some f)->(o::os)[i]? = some (.arr v)->E'.α f=E.α (j+i))/\(∀ b,(∀ i:Nat,(some f0::fs)[i]?≠some (some b))->E'.α b=E.α b):=by
   intro E1 A1 k1 k2 k3 k4 k5 k6;obtain ⟨E',h1,h2,h3,h4⟩:=aaV k1 k6;have e0:Hv A (some f0::fs) j (o::os)=Hv A1 fs (Nat.succ j) os:=by rw [<- k3]; rfl
   rw [e0];refine ⟨E',h1,k2.trans h2,fun i f v e1 e2=>?_,fun b hb=>?_⟩
   ·cases i with
    | zero=>
     simp at e1 e2;subst e1;rw [h4 f0 awH];exact k5 v e2
    | succ i=>
     rw [h3 i f v (by simpa using e1) (by simpa using e2),k4 _ fun e=>by have:=ho.lt 0 f0 (by simp); omega];congr 1;omega
   ·rw [h4 b fun i=>by have:=hb (i+1); simpa using this]
    exact k4 b fun e=>hb 0 (by simp [e])
  cases o with
  | arr v=>
   obtain ⟨h1,h2,h3,h4⟩:=ho.one 0 f0 v (by simp) (by simp);obtain ⟨q1,q2,q3⟩:=h.swap (n:=j) h1 h3 h2 h4;have pg:∀ b,some f0≠some b->b≠j->((A.put f0 (.arr v)).put j .dead).get b=A.get b:=fun b e1 e2=>by
    rw [aw.cz,av e2,aw.cz,av fun e=>e1 (by rw [e])]
   exact step q1 ⟨Env.atK h4,rfl,rfl,rfl,by rw [aw.uN,aw.uN],q2,q3⟩ rfl (fun b hb=>Env.Ex hb) (fun _ _=>Env.apP) (ho.tail (fun b hb=>Env.Ex fun e=>hb (by rw [e])) rfl pg)
  | _=>exact step h .refl rfl (fun _ _=>rfl) (fun v e=>by simp at e) (ho.tail (fun _ _=>rfl) rfl fun _ _ _=>rfl)
def rnB (fs:List (Option Nat)) (nx b:Nat):Nat:=cond (Nat.ble nx b) (match akm (b - nx) fs with
 | some (some f)=>f
 | _=>b) b
def rn1 (fs:List (Option Nat)) (nx:Nat) (v:KV):KV:=
 match v with
 | .al t b o n=>.al t (rnB fs nx b) o n
 | v=>v
def atM (fs:List (Option Nat)) (nx:Nat):List KV->List KV
 | []=>[]
 | v::vs=>rn1 fs nx v::atM fs nx vs
def rnV (fs:List (Option Nat)) (nx:Nat) (v:KV):KV:=
 match v with
 | .agg cs=>.agg (atM fs nx cs)
 | v=>rn1 fs nx v
def atN (fs:List (Option Nat)) (nx:Nat):List (Nat×KV)->List (Nat×KV)
 | []=>[]
 | q::qs=>(q.1,rnV fs nx q.2)::atN fs nx qs
def an2 (E1 E2:Env) (fs:List (Option Nat)) (nx:Nat):Prop:=E1.le E2/\∀ (i f:Nat),fs[i]? = some (some f)->∀ p,E1.α (nx+i)=some p->E2.α f=some p
theorem auz {E1 E2:Env} {fs:List (Option Nat)} {nx b:Nat} (h:an2 E1 E2 fs nx) {p:Nat×Nat×Nat} (e:E1.α b=some p):E2.α (rnB fs nx b)=some p:=by
 unfold rnB;cases hb:Nat.ble nx b with
 | false=>exact h.1.α b p e
 | true=>
  simp only [ak];have hb:=fR hb;rw [afT];split
  ·rename_i f hf
   exact h.2 _ f hf p (by rw [show nx+(b - nx)=b by omega]; exact e)
  ·exact h.1.α b p e
theorem aro {E1 E2:Env} {fs:List (Option Nat)} {nx:Nat} (h:an2 E1 E2 fs nx) {v:KV} {u:Value} (hv:VK P E1 v u):VK P E2 (rn1 fs nx v) u:=by
 unfold rn1;split
 ·rename_i t b o n
  refine .T1 ?_;rcases hv.y9 with q | ⟨x,L,N,c,q1,q2⟩
  ·exact .inl q
  ·exact .inr ⟨x,L,N,c,auz h q1,q2⟩
 ·exact hv.mono h.1
theorem an3 {E1 E2:Env} {fs:List (Option Nat)} {nx:Nat} (h:an2 E1 E2 fs nx):∀ {vs:List KV} {us:List Value},bC P E1 vs us->bC P E2 (atM fs nx vs) us
 | [],us,hv=>by rw [hv.cw]; exact .nil
 | v::vs,us,hv=>by
  obtain ⟨u,us',rfl,h1,h2⟩:=hv.cons_inv;exact .cons (aro h h1) (an3 h h2)
theorem auA {E1 E2:Env} {fs:List (Option Nat)} {nx:Nat} (h:an2 E1 E2 fs nx) {v:KV} {u:Value} (hv:VK P E1 v u):VK P E2 (rnV fs nx v) u:=by
 unfold rnV;split
 ·obtain ⟨m,rfl,h1⟩:=hv.mh
  exact .rU (an3 h h1)
 ·exact aro h hv
theorem acH {E1 E2:Env} {fs:List (Option Nat)} {nx:Nat} (h:an2 E1 E2 fs nx):∀ (l:List (Nat×KV)),xO P E1 E2 l (atN fs nx l)
 | []=>trivial
 | _::qs=>⟨rfl,fun _ hv=>auA h hv,acH h qs⟩
end
end Go.K
end
section
namespace Go.K
open Go Go.aB
variable {P:Program} {E:Env}
noncomputable section
def Yf:List CD->Bool
 | []=>true
 | .bA _::_=>false
 | _::ds=>Yf ds
def ae4:List (Tmp×VD)->Bool
 | []=>true
 | p::ps=>Yf p.2.ks&&ae4 ps
def ae5:List (Tmp×List CD×Nat)->Bool
 | []=>true
 | p::ps=>Yf p.2.1&&ae5 ps
def aV.stays (S:aV):Bool:=ae4 S.gS&&ae5 S.rows
theorem Ey:∀ {ds:List CD} {vs:List KV},Yf ds=true->∀ q∈ri P ds vs,∃ v,q = .arr v
 | [],_,_,q,hq=>by simp [ri] at hq
 | d::ds,[],_,q,hq=>by cases d <;> simp [ri] at hq
 | d::ds,v::vs,h,q,hq=>by
  cases d <;> simp only [Yf,ri,fA] at h hq
  ·exact Ey h q hq
  ·exact Ey h q hq
  ·simp at h
  ·rcases hq with rfl | hq
   ·exact ⟨_,rfl⟩
   ·exact Ey h q hq
  ·exact Ey h q hq
theorem agw:∀ {ps:List (Tmp×VD)} {vs:List KV},ae4 ps=true->∀ q∈Ax P ps vs,∃ v,q = .arr v
 | [],_,_,q,hq=>by simp [Ax] at hq
 | p::ps,[],_,q,hq=>by simp [Ax] at hq
 | p::ps,v::vs,h,q,hq=>by
  simp only [ae4,aA,Ax,nG] at h hq;exact hq.elim (Ey h.1 q) (agw h.2 q)
theorem agx:∀ {ps:List (Tmp×List CD×Nat)} {rs:List (List KV)},ae5 ps=true->∀ q∈BV P ps rs,∃ v,q = .arr v
 | [],_,_,q,hq=>by simp [BV] at hq
 | p::ps,[],_,q,hq=>by simp [BV] at hq
 | p::ps,r::rs,h,q,hq=>by
  simp only [ae5,aA,BV,nG] at h hq;exact hq.elim (Ey h.1 q) (agx h.2 q)
theorem akK {S:aV} (h:S.stays=true) {vs:List KV} {rs:List (List KV)} {i:Nat} {q:kU} (hq:(S.lens P vs rs)[i]? = some q):∃ v,q = .arr v:=by
 simp only [aV.stays,aA] at h;have:=jC hq;simp only [aV.lens,nG] at this;exact this.elim (agw h.1 q) (agx h.2 q)
theorem SW {S:aV} {vs:List KV} {rs:List (List KV)} (hv:jT S.gS vs=true) (hl:rs.length=S.rows.length) (hg:∀ (k:Nat) p r,S.rows[k]? = some p->rs[k]? = some r->dT p.2.1 r=true):(S.lens P vs rs).length=px S.gS+(S.rows.map fun p=>tG p.2.1).sum:=by
 rw [aV.lens,nF,Fo hv,Lm hl hg rfl]
def aV.kb (S:aV) (nx:Nat) (bs:List Nat) (fs:List (Option Nat)) (vs:List KV):bO:=nj (atN fs nx (acA nx bs S.gS vs++Cn bs S.acy))
def aV.agy (S:aV) (P:Program) (bs:List Nat) (fs:List (Option Nat)) (vs:List KV) (rs:List (List KV)) (A:aw):aw:=Hv (S.back P bs fs vs rs A) fs A.next (S.lens P vs rs)
def arp (S:aV) (E E' : Env):Prop:=∀ (i:Nat) p,E.α (S.nr+i)=some p->E'.α (S.nr+i)=some p
theorem akL {S:aV} {t:bO} {A:aw} {B B1:St} {g:GR} {ρ od:Ren} {base N:Nat} {w w1:World} {a1:Act} {vs:List KV} {rs:List (List KV)} {E1:Env} (gQ:S.stays=true) (hG:dU P S t A g) (hk:fX P E A B)
  (ht:lK P E1 od (S.tm S.nr S.ids vs) N a1) (hs:fX P E1 (S.mem P vs rs) B1) (Ay:Co base (E.sub A g.bs g.fs S.nr) (S.mem P g.vs g.rs) B ρ w E1 (S.mem P vs rs) B1 od w1) (JD:∀ k,k < S.rows.length->E1.κ k=(E.sub A g.bs g.fs S.nr).κ k)
  (hpl:arp S (E.sub A g.bs g.fs S.nr) E1)
  (hv:jT S.gS vs=true) (S7:rs.length=S.rows.length) (hrg:∀ (k:Nat) p r,S.rows[k]? = some p->rs[k]? = some r->dT p.2.1 r=true) :
  ∃ E',lK P E' od (S.kb A.next g.bs g.fs vs) N a1/\Ev P base E A B ρ w E' (S.agy P g.bs g.fs vs rs A) B1 od w1:=by
 obtain ⟨ht0,yG⟩:=akH hG hk ht hs Ay JD hv S7 hrg;have j6:(BX (pT A g.bs S.rows (S.IJ A.next g.bs rs)) g.fs).next=A.next:=by rw [J3,V5]
 have hlen:(S.lens P vs rs).length=g.fs.length:=by
  rw [SW hv S7 hrg,hG.fs,uh,<- hG.lens,SW hG.gS hG.u9 hG.Ao]
 have hold:∀ (i:Nat) f,g.fs[i]? = some (some f)->∃ u,A.get f=some (.arr u):=by
  intro i f hi;have bG:i < (S.lens P g.vs g.rs).length:=by rw [hG.lens,<- uh,<- hG.fs]; exact (dq.1 hi).1
  obtain ⟨fi,_,h2,h3⟩:=hG.fact (dr bG);rw [hi] at h2; simp at h2;obtain ⟨u0,hu0⟩:=akK gQ (dr bG);rcases h3 with ⟨n,sz,e,_⟩ | ⟨T,v,_,⟨h3,_⟩ | ⟨f',m,N,es,acc,h3,h4,_⟩⟩
  ·rw [hu0] at e; simp at e
  ·rw [h3] at h2; simp at h2
  ·rw [h3] at h2; simp at h2; subst h2; exact ⟨_,h4⟩
 have xI:∀ (i f:Nat),g.fs[i]? = some (some f)->∀ p,(E.up E1 S.nr A.next).α f=some p->(E.up E1 S.nr A.next).α (A.next+i)=some p:=fun i f hi p e=>by
  obtain ⟨u,hu⟩:=hold i f hi;rw [Env.MC (hk.live f _ hu)] at e;rw [Env.MB];exact hpl i p (by rw [Env.IL,hi]; exact e)
 have hsw:akJ (E.up E1 S.nr A.next) (S.back P g.bs g.fs vs rs A) g.fs A.next (S.lens P vs rs):=by
  refine ⟨fun i f v hi hv=>?_,fun i f hi=>?_,fun i k f h1 h2=>zd hG.ae3 i k f h1 h2⟩
  ·obtain ⟨u,hu⟩:=hold i f hi
   refine ⟨?_,(hk.ar.nk f u hu).2,?_,xI i f hi⟩
   ·rw [aV.back,Hs (by rw [j6]; exact hk.live f _ hu),IK,aY (yK.2 (jC hi))]
   ·have:=Q3 (A:=BX (pT A g.bs S.rows (S.IJ A.next g.bs rs)) g.fs) hv
    rw [j6] at this;exact this
  ·obtain ⟨u,hu⟩:=hold i f hi
   exact hk.live f _ hu
 obtain ⟨E',q1,q2,q3,_⟩:=aaV yG.kA hsw;refine ⟨E',?_,yG.sw q1 q2⟩;refine lK.atC ht0 (acH ⟨q2.le,fun i f hi p e=>?_⟩ _);have bG:i < (S.lens P vs rs).length:=by rw [hlen]; exact (dq.1 hi).1
 obtain ⟨v,Ih⟩:=akK gQ (dr bG);rw [q3 i f v hi (by rw [dr bG,Ih])];exact e
def aV.akM (S:aV) (P:Program) (t:bO) (A:aw):Bool:=cond (yJ (S.gP P t A).bs S.ids) (cond (Hu (S.gP P t A).fs S.nr) (S.gP P t A).ok false) false
theorem an4 {S:aV} {t:bO} {A:aw} (h:S.akM P t A=true):yJ (S.gP P t A).bs S.ids=true/\Hu (S.gP P t A).fs S.nr=true/\(S.gP P t A).ok=true:=by
 unfold aV.akM at h;cases h1:yJ (S.gP P t A).bs S.ids with
 | false=>rw [h1] at h; simp at h
 | true=>
  cases h2:Hu (S.gP P t A).fs S.nr with
  | false=>rw [h1,h2] at h; simp at h
  | true=>rw [h1,h2] at h; exact ⟨rfl,rfl,h⟩
def Yg (P:Program) (cfg:fE) (L n:Nat) (f:FuncId) (p:Nat) (body:Code) (S:aV) (vs:List KV) (rs:List (List KV)):Option (ae×List KV×List (List KV)):=
 rX P cfg (JV P cfg L n) L f body (2 * p) (fun e t A=>
  Bool.rec (motive:=fun _=>Option (ae×List KV×List (List KV))) none (some (e,(S.gP P t A).vs,(S.gP P t A).rs)) (S.akM P t A)) (S.tm S.nr S.ids vs) (S.mem P vs rs)
theorem an5 {S:aV} {t:bO} {A:aw} {B0:St} {E1:Env} {g:GR} {vs:List KV} {rs:List (List KV)} (hG:dU P S t A g) (hf:Hu g.fs S.nr=true) (dt:D2 P S vs rs) (hs:fX P E (S.mem P vs rs) B0) (hle:E.le E1):arp S E (E1.sub A g.bs g.fs S.nr):=fun i p e=>by
 have hd:=hs.ar.lV _ p e;rw [aV.mem,iW,pZ dt.u9,SW dt.v dt.u9 dt.Ao] at hd;have bG:i < g.fs.length:=by
  rw [hG.fs,uh,<- hG.lens,SW hG.gS hG.u9 hG.Ao];omega
 have h1:=dr bG;rw [Env.IL,h1,acG hf h1];exact hle.α _ p e
section
variable {cfg:fE} {L n:Nat} {f:FuncId} {S:aV} {root body:Code} {p N:Nat}
theorem akN {t' : bO} {A1:aw} {B B1:St} {ρ od:Ren} {base:Nat} {w w1:World} {E1:Env} {vs:List KV} {rs:List (List KV)} (dt:D2 P S vs rs) (hj:KJ P E (S.mem P vs rs) B ρ base w) (h4:Ev P base E (S.mem P vs rs) B ρ w E1 A1 B1 od w1) (_:dU P S t' A1 (S.gP P t' A1)) (hi:yJ (S.gP P t' A1).bs S.ids=true) :
  ∀ k,k < S.rows.length->(E1.sub A1 (S.gP P t' A1).bs (S.gP P t' A1).fs S.nr).κ k=E.κ k:=fun k hk=>by
 have atJ:=Q5 hi;have hp:=dr hk;have hr':=dr (show k < rs.length by rw [dt.u9]; exact hk);obtain ⟨x,_,hx,_⟩:=hj.k.row k _ _ (mem_row dt.u9 hp hr');have e1:(E1.sub A1 (S.gP P t' A1).bs (S.gP P t' A1).fs S.nr).κ k=E1.κ k:=by
  simp only [Env.sub];rw [atJ,Mx S k hk,fy]
 rw [e1,hx];exact h4.le.κ k x hx
theorem an6 (hP:P.funcs.toList.all o9=true) (hm:P.follows .mixedOrders=true) (j9:uZ P cfg.pc) (oY:Aw P cfg) {fn:Func} (hf:P.funcs[f]? = some fn) (hb:fn.body=some root) (hs:Sub root p (.loop body)) (hc:codeOk N body=true)
  {vs cX:List KV} {rs oZ:List (List KV)} {e:ae} (hr:Yg P cfg L n f p body S vs rs=some (e,cX,oZ)) {B:St} {ρ:Ren} {base:Nat} {a:Act} {w:World} {Q:Exit->Act->World->Prop} (dt:D2 P S vs rs)
  (ht:lK P E ρ (S.tm S.nr S.ids vs) N a) (hj:KJ P E (S.mem P vs rs) B ρ base w)
  (hq:∀ E' B' bd a' w',lK P E' bd (S.tm S.nr S.ids cX) N a'->a'.defers=a.defers->KJ P E' (S.mem P cX oZ) B' bd base w'->Co base E (S.mem P vs rs) B ρ w E' (S.mem P cX oZ) B' bd w'->(∀ k,k < S.rows.length->E'.κ k=E.κ k)->D2 P S cX oZ->arp S E E'->Q e.out a' w'):body.wp P Q a w:=by
 have xD:=xh (R:=ae×List KV×List (List KV)) hP hm j9 oY L n;refine mD j9 xD hm (oY.2 f fn root hf hb) body (2 * p) hs.loop hc _ _ _ _ E B ρ base a w Q hr ht hj fun e' t' E1 A1 B1 od a1 w1 h1 h2 h3 h4=>?_;cases hi:S.akM P t' A1 with
 | false=>simp only [hi] at h1; exact absurd h1 (by simp)
 | true=>
  simp only [hi,di,fS] at h1;obtain ⟨rfl,rfl,rfl⟩:=h1;obtain ⟨i1,i2,i3⟩:=an4 hi;have hG:=Mz i3;exact hq _ B1 od a1 w1 (hG.tkr h2) h3 ⟨hG.kA h4.kA,h4.gN.kA⟩ (h4.co hG) (akN dt hj h4 hG i1) hG.Pl (an5 hG i2 dt hj.k h4.le)
theorem agz (hP:P.funcs.toList.all o9=true) (hm:P.follows .mixedOrders=true) (j9:uZ P cfg.pc) (oY:Aw P cfg) {fn:Func} (hf:P.funcs[f]? = some fn) (hb:fn.body=some root) (hs:Sub root p (.loop body)) (hc:codeOk N body=true)
  {e:ae} {cX:List KV} {oZ:List (List KV)} : ∀ (m:Nat) {vs:List KV} {rs:List (List KV)},BZ (Yg P cfg L n f p body S) m vs rs=some (e,cX,oZ)->∀ {E:Env} {B:St} {ρ:Ren} {base:Nat} {a:Act} {w:World} {Q:Exit->Act->World->Prop},D2 P S vs rs->
  lK P E ρ (S.tm S.nr S.ids vs) N a->KJ P E (S.mem P vs rs) B ρ base w->
  (∀ E' B' bd a' w',lK P E' bd (S.tm S.nr S.ids cX) N a'->a'.defers=a.defers->KJ P E' (S.mem P cX oZ) B' bd base w'->Co base E (S.mem P vs rs) B ρ w E' (S.mem P cX oZ) B' bd w'->(∀ k,k < S.rows.length->E'.κ k=E.κ k)->D2 P S cX oZ->arp S E E'->Q e.out a' w')->Code.rounds P body Q m a w
 | 0,vs,rs,h,E,B,ρ,base,a,w,Q,dt,ht,hj,hq=>by simp [BZ] at h
 | m+1,vs,rs,h,E,B,ρ,base,a,w,Q,dt,ht,hj,hq=>by
  unfold BZ at h;split at h
  ·rename_i e1 vs1 rs1 hr
   rw [rounds_succ];refine an6 hP hm j9 oY hf hb hs hc hr dt ht hj fun E' B' bd a' w' h1 h2 h3 h4 h5 h6 h7=>?_;have fin:u7 e1=false->some (e1,vs1,rs1)=some (e,cX,oZ)->Q e1.out a' w':=by
    intro _ h;simp only [di,fS] at h;obtain ⟨rfl,rfl,rfl⟩:=h;exact hq E' B' bd a' w' h1 h2 h3 h4 h5 h6 h7
   cases e1 with
   | normal=>
    have h:BZ (Yg P cfg L n f p body S) m vs1 rs1=some (e,cX,oZ):=h;exact agz hP hm j9 oY hf hb hs hc m h h6 h1 h3 fun JG Lg wG a'' JB q1 q2 q3 q4 q5 q6 q7=>hq JG Lg wG a'' JB q1 (q2.trans h2) q3 (h4.trans q4) (fun k hk=>(q5 k hk).trans (h5 k hk)) q6 fun i p e=>q7 i p (h7 i p e)
   | exit id=>exact fin rfl h
   | goto l=>exact fin rfl h
   | ret=>exact fin rfl h
  ·simp at h
def vY.Q8 (P:Program) (S:aV) (bs:List Nat) (fs:List (Option Nat)) (A:aw):vY->CX
 | .no=>.no
 | .out e vs rs=>.out e (S.kb A.next bs fs vs) (S.agy P bs fs vs rs A)
 | .br c x y=>.br c (x.Q8 P S bs fs A) (y.Q8 P S bs fs A)
def atO (P:Program) (S:aV) (F:LFn):bO->aw->CX:=fun t A=>
 .br (cond S.stays (S.gP P t A).ok false) ((F (S.gP P t A).vs (S.gP P t A).rs).Q8 P S (S.gP P t A).bs (S.gP P t A).fs A) .no
theorem V9 {R:Type} {bs:List Nat} {fs:List (Option Nat)} {A:aw} {k:KE R} {r:R} : ∀ (x:vY),(x.Q8 P S bs fs A).run k=some r->∃ e cX oZ,x.ev=some (e,cX,oZ)/\k e (S.kb A.next bs fs cX) (S.agy P bs fs cX oZ A)=some r
 | .no,h=>absurd h (by simp [vY.Q8,CX.run])
 | .out e vs rs,h=>⟨e,vs,rs,rfl,h⟩
 | .br c x y,h=>by
  have h:Bool.rec (motive:=fun _=>Option R) ((y.Q8 P S bs fs A).run k) ((x.Q8 P S bs fs A).run k) c=some r:=h;cases c with
  | true=>exact V9 x h
  | false=>exact V9 y h
theorem an7 (hP:P.funcs.toList.all o9=true) (hm:P.follows .mixedOrders=true) (j9:uZ P cfg.pc) (oY:Aw P cfg) {fn:Func} (hf:P.funcs[f]? = some fn) (hb:fn.body=some root) (hs:Sub root p (.loop body)) (hc:codeOk N body=true) {F:LFn}
  (hF:∀ vs rs e cX oZ,D2 P S vs rs->(F vs rs).ev=some (e,cX,oZ)->BZ (Yg P cfg L n f p body S) iH vs rs=some (e,cX,oZ)):SN P N body (atO P S F):=by
 intro R k r t A E B ρ base a w Q h ht hj hq;have h:Bool.rec (motive:=fun _=>Option R) none (((F (S.gP P t A).vs (S.gP P t A).rs).Q8 P S (S.gP P t A).bs (S.gP P t A).fs A).run k) (cond S.stays (S.gP P t A).ok false)=some r:=h;cases gQ:S.stays with
 | false=>rw [gQ] at h; exact absurd h (by simp)
 | true=>
  rw [gQ,ak] at h;cases ho:(S.gP P t A).ok with
  | false=>rw [ho] at h; exact absurd h (by simp)
  | true=>
   rw [ho] at h;have hG:=Mz ho;obtain ⟨e,cX,oZ,h9,vV⟩:=V9 _ h;have hm':=hF _ _ e cX oZ hG.Pl h9;refine agz hP hm j9 oY hf hb hs hc iH hm' hG.Pl (hG.tkr ht) ⟨hG.kA hj.k,hj.s⟩ fun E' B' bd a' w' q1 q2 q3 q4 q5 q6 q7=>?_;obtain ⟨E2,r1,r2⟩:=akL gQ hG hj.k q1 q3.k q4 q5 q7 q6.v q6.u9 q6.Ao;exact hq e _ E2 _ B' bd a' w' vV r1 q2 r2
end
def alT:ae->Bool
 | .normal=>true
 | .ret=>true
 | _=>false
def apQ (P:Program) (cfg:fE) (L n:Nat) (g:FuncId) (S:aV) (vs:List KV) (rs:List (List KV)):Option (ae×List KV×List (List KV)):=
 match P.funcs.toList[g]? with
 | some fn=>match fn.body with
  | some c=>cond fn.results.toList.isEmpty (rX P cfg (JV P cfg L n) L g c 1 (fun e t A=>
    Bool.rec (motive:=fun _=>Option (ae×List KV×List (List KV))) none (some (.ret,(S.gP P t A).vs,(S.gP P t A).rs)) (cond (alT e) (S.akM P t A) false)) (S.tm S.nr S.ids vs) (S.mem P vs rs)) none
  | none=>none
 | none=>none
def vY.Q9 (P:Program) (S:aV) (bs:List Nat) (fs:List (Option Nat)) (A:aw):vY->xB
 | .no=>.no
 | .out _ vs rs=>.out (.na []) (S.agy P bs fs vs rs A)
 | .br c x y=>.br c (x.Q9 P S bs fs A) (y.Q9 P S bs fs A)
def avb (P:Program) (S:aV) (F:LFn):List KV->aw->xB:=fun args A=>
 .br (cond S.stays (S.gP P (pM args 0 .leaf) A).ok false) ((F (S.gP P (pM args 0 .leaf) A).vs (S.gP P (pM args 0 .leaf) A).rs).Q9 P S (S.gP P (pM args 0 .leaf) A).bs (S.gP P (pM args 0 .leaf) A).fs A) .no
theorem Wa {R:Type} {S:aV} {bs:List Nat} {fs:List (Option Nat)} {A:aw} {k:KV->aw->Option R} {r:R} : ∀ (x:vY),xB.run k (x.Q9 P S bs fs A)=some r->∃ e cX oZ,x.ev=some (e,cX,oZ)/\k (.na []) (S.agy P bs fs cX oZ A)=some r
 | .no,h=>absurd h (by simp [vY.Q9,xB.run])
 | .out e vs rs,h=>⟨e,vs,rs,rfl,h⟩
 | .br c x y,h=>by
  have h:Bool.rec (motive:=fun _=>Option R) (xB.run k (y.Q9 P S bs fs A)) (xB.run k (x.Q9 P S bs fs A)) c=some r:=h;cases c with
  | true=>exact Wa x h
  | false=>exact Wa y h
theorem asf {ρ:Ren} {args:List KV} {hZ:List Value} (hv:ug P E ρ args hZ) (m:Nat):lK P E ρ (pM args 0 .leaf) (max m args.length) { tmps:=hZ.toArray++Array.replicate (m - hZ.toArray.size) undef,defers:=[] }:=by
 obtain ⟨apI,S6,Vs⟩:=hv;have hlen:hZ.length=args.length:=by rw [Vs.length,S6.length]
 have fZ:(hZ.toArray++Array.replicate (m - hZ.toArray.size) undef).size=max m args.length:=by
  simp [hlen];omega
 refine ⟨fZ,fun i=>?_,fun i hi=>?_⟩
 ·rw [ID]
  simp only [E7,true_and,bM,Nat.sub_zero,Trie.Sy];by_cases hi:i < args.length
  ·rw [aY hi]
   obtain ⟨u,hu⟩:∃ u,args[i]? = some u:=⟨_,dr hi⟩
   obtain ⟨m',h1,h2⟩:=S6.get hu;obtain ⟨u',h3,h4⟩:=Vs.get h1;rw [hu];have:(hZ.toArray++Array.replicate (m - hZ.toArray.size) undef).getD i undef=u':=by
    rw [jB,Array.getElem?_append_left (by simpa [hlen] using hi)];simp [h3]
   rw [this];exact ⟨m',h2,h4⟩
  ·rw [av hi]
   exact VC.ao
 ·rw [ID,av,Trie.Sy]
  simp only [E7,true_and,bM];have:=Nat.le_max_right m args.length;omega
theorem apR {cfg:fE} {L n:Nat} {g:FuncId} {S:aV} {F:LFn} (hP:P.funcs.toList.all o9=true) (hm:P.follows .mixedOrders=true) (j9:uZ P cfg.pc) (oY:Aw P cfg) (hy:Nat.blt g yB=true)
  (hF:∀ vs rs e cX oZ,D2 P S vs rs->(F vs rs).ev=some (e,cX,oZ)->apQ P cfg L n g S vs rs=some (e,cX,oZ)) {R:Type} {args:List KV} {A:aw} {k:KV->aw->Option R} {r:R} (h:xB.run k (avb P S F args A)=some r):Cl P g/\
  ∀ (E:Env) (B:St) (ρ:Ren) (base:Nat) (w:World) (hZ:List Value),ug P E ρ args hZ->KJ P E A B ρ base w->
   Calls P g hZ.toArray w fun e w'=>∃ v v' E' A' B' bd,e = .returned v'/\VC P E' bd v v'/\Ev P base E A B ρ w E' A' B' bd w'/\k v A' = some r:=by
 have h:Bool.rec (motive:=fun _=>Option R) none (xB.run k ((F (S.gP P (pM args 0 .leaf) A).vs (S.gP P (pM args 0 .leaf) A).rs).Q9 P S (S.gP P (pM args 0 .leaf) A).bs (S.gP P (pM args 0 .leaf) A).fs A)) (cond S.stays (S.gP P (pM args 0 .leaf) A).ok false)=some r:=h;cases gQ:S.stays with
 | false=>rw [gQ] at h; exact absurd h (by simp)
 | true=>
 rw [gQ,ak] at h;cases ho:(S.gP P (pM args 0 .leaf) A).ok with
 | false=>rw [ho] at h; exact absurd h (by simp)
 | true=>
 rw [ho] at h;have hG:=Mz ho;obtain ⟨e0,cX,oZ,h9,vV⟩:=Wa _ h;have mW:=hF _ _ e0 cX oZ hG.Pl h9;unfold apQ at mW;split at mW
 ·rename_i fn hf
  split at mW
  ·rename_i c hc
   cases hre:fn.results.toList.isEmpty with
   | false=>rw [hre] at mW; exact absurd mW (by simp)
   | true=>
   rw [hre,ak] at mW;have hf' : P.funcs[g]? = some fn:=by simpa using hf
   have dt:=ig.1 hP fn (jC hf);unfold o9 at dt;rw [hc] at dt;simp only [aA,mw] at dt;refine ⟨⟨hy,fn,hf',by simp [hc],dt.2⟩,fun E B ρ base w hZ hv hj=>?_⟩;refine calls_of_wp hf' hc ?_;have ht:=asf hv fn.ntmps;have akx:codeOk (max fn.ntmps args.length) c=true:=nM (Nat.le_max_left _ _) c dt.1;have xD:=xh (R:=ae×List KV×List (List KV)) hP hm j9 oY L n;refine mD (L:=L) (f:=g) (N:=max fn.ntmps args.length) j9 xD hm (oY.2 g fn c hf' hc) c 1 .root akx _ _ _ _ (E.sub A (S.gP P (pM args 0 .leaf) A).bs (S.gP P (pM args 0 .leaf) A).fs S.nr) B ρ base _ w _ mW (hG.tkr ht) ⟨hG.kA hj.k,hj.s⟩ fun e t' E1 A1 B1 od a1 w1 h1 h2 h3 h4=>?_;cases he:alT e with
   | false=>simp only [he,ba] at h1; exact absurd h1 (by simp)
   | true=>
   simp only [he,ak] at h1;cases hi:S.akM P t' A1 with
   | false=>simp only [hi] at h1; exact absurd h1 (by simp)
   | true=>
   simp only [hi,di,fS] at h1;obtain ⟨_,rfl,rfl⟩:=h1;obtain ⟨i1,i2,i3⟩:=an4 hi;have hG1:=Mz i3;have D0:KJ P (E.sub A (S.gP P (pM args 0 .leaf) A).bs (S.gP P (pM args 0 .leaf) A).fs S.nr) (S.mem P (S.gP P (pM args 0 .leaf) A).vs (S.gP P (pM args 0 .leaf) A).rs) B ρ base w:=⟨hG.kA hj.k,hj.s⟩
   obtain ⟨E2,_,r2⟩:=akL gQ hG hj.k (hG1.tkr h2) (hG1.kA h4.kA) (h4.co hG1) (akN hG.Pl D0 h4 hG1 i1) (an5 hG1 i2 hG.Pl D0.k h4.le) hG1.Pl.v hG1.Pl.u9 hG1.Pl.Ao;have Qp:fn.results.toList = []:=List.isEmpty_iff.1 hre;have anQ:(results fn a1.tmps).run P w1 = .ok (.tuple #[]) w1:=by
    rw [aca,Sem.run_bind,Array.mapM_eq_mapM_toList,Sem.run_map,Qp];rfl
   have agn:bodyPost P fn (fun e w'=>∃ v v' E' A' B' bd,e = .returned v'/\VC P E' bd v v'/\Ev P base E A B ρ w E' A' B' bd w'/\k v A' = some r) .ret a1 w1:=
    ⟨h3,_,anQ,_,_,E2,_,B1,od,rfl,⟨_,.afO .nil,VR.mkTuple .nil⟩,r2,vV⟩
   cases e with
   | normal=>exact agn
   | ret=>exact agn
   | exit id=>simp [alT] at he
   | goto l=>simp [alT] at he
  ·simp at mW
 ·simp at mW
end
end Go.K
end
section
namespace Go.K
open Go Go.aB
variable {P:Program} {E:Env}
def alU:Code->Bool->Option Code
 | .seq a _,false=>some a
 | .seq _ b,true=>some b
 | .cond _ a _,false=>some a
 | .cond _ _ b,true=>some b
 | .block _ a,false=>some a
 | .loop a,false=>some a
 | .scope a,false=>some a
 | _,_=>none
def tI:Nat->Code->Nat->Option Code
 | 0,_,_=>none
 | n+1,root,p=>cond (Nat.ble p 1) (cond (Nat.beq p 1) (some root) none) ((tI n root (p / 2)).bind fun c=>alU c (Nat.beq (p % 2) 1))
theorem Yh:∀ {n:Nat} {root c:Code} {p:Nat},tI n root p=some c->tI (n+1) root p=some c
 | 0,_,_,_,h=>by simp [tI] at h
 | n+1,root,c,p,h=>by
  unfold tI at h ⊢;cases hp:Nat.ble p 1 with
  | true=>rw [hp] at h; exact h
  | false=>
   rw [hp] at h;simp only [ba] at h ⊢;obtain ⟨d,h1,h2⟩:=dh.1 h;exact dh.2 ⟨d,Yh h1,h2⟩
theorem Wb {root c:Code} {p n:Nat} (h:tI n root p=some c):∀ k,tI (n+k) root p=some c
 | 0=>h
 | k+1=>Yh (Wb h k)
theorem Sub.pos {root c:Code} {p:Nat} (h:Sub root p c):1<=p:=by induction h <;> omega
theorem Sub.at {root c:Code} {p:Nat} (h:Sub root p c):∃ n,tI n root p=some c:=by
 have left:∀ {q n:Nat} {d:Code},1<=q->tI n root q=some d->tI (n+1) root (2 * q)=alU d false:=by
  intro q n d hq hd;unfold tI;have:Nat.ble (2 * q) 1=false:=by
   cases hb:Nat.ble (2 * q) 1 with
   | false=>rfl
   | true=>have:=fR hb; omega
  rw [this,ba,show 2 * q / 2=q by omega,hd,show 2 * q % 2=0 by omega];rfl
 have right:∀ {q n:Nat} {d:Code},1<=q->tI n root q=some d->tI (n+1) root (2 * q+1)=alU d true:=by
  intro q n d hq hd;unfold tI;have:Nat.ble (2 * q+1) 1=false:=by
   cases hb:Nat.ble (2 * q+1) 1 with
   | false=>rfl
   | true=>have:=fR hb; omega
  rw [this,ba,show (2 * q+1) / 2=q by omega,hd,show (2 * q+1) % 2=1 by omega];rfl
 induction h with
 | root=>exact ⟨1,rfl⟩
 | au2 hs ih=>obtain ⟨n,hn⟩:=ih; exact ⟨n+1,left hs.pos hn⟩
 | au3 hs ih=>obtain ⟨n,hn⟩:=ih; exact ⟨n+1,right hs.pos hn⟩
 | ats hs ih=>obtain ⟨n,hn⟩:=ih; exact ⟨n+1,left hs.pos hn⟩
 | att hs ih=>obtain ⟨n,hn⟩:=ih; exact ⟨n+1,right hs.pos hn⟩
 | block hs ih=>obtain ⟨n,hn⟩:=ih; exact ⟨n+1,left hs.pos hn⟩
 | loop hs ih=>obtain ⟨n,hn⟩:=ih; exact ⟨n+1,left hs.pos hn⟩
 | scope hs ih=>obtain ⟨n,hn⟩:=ih; exact ⟨n+1,left hs.pos hn⟩
theorem Sub.uniq {root c d:Code} {p n:Nat} (h:Sub root p c) (k:tI n root p=some d):c=d:=by
 obtain ⟨m,hm⟩:=h.at;have h1:=Wb hm n;have h2:=Wb k m;rw [Nat.add_comm] at h1;rw [h1] at h2;simpa using h2
def dF (P:Program) (f p:Nat):Code:=
 match P.funcs.toList[f]? with
 | some fn=>match fn.body with
  | some c=>match tI 200 c p with
   | some (.loop b)=>b
   | _=>.skip
  | none=>.skip
 | none=>.skip
structure Lp where
 f:Nat
 p:Nat
 S:aV
 F:LFn
 st:Bool
noncomputable def arq (st:Bool) (P:Program) (cfg:fE) (L n:Nat) (f:FuncId) (p:Nat) (body:Code) (S:aV) (vs:List KV) (rs:List (List KV)):Option (ae×List KV×List (List KV)):=
 cond st (Yg P cfg L n f p body S vs rs) (dB P cfg L n f p body S vs rs)
noncomputable def agA (P:Program):List Lp->FuncId->Nat->Option (bO->aw->CX)
 | [],_,_=>none
 | l::ls,f,p=>cond (Nat.beq l.f f&&Nat.beq l.p p) (some (cond l.st (atO P l.S l.F) (anU P l.S l.F))) (agA P ls f p)
def Lp.Ok (P:Program) (l:Lp):Prop:=∃ cfg L n,uZ P cfg.pc/\Aw P cfg/\
 ∀ vs rs e cX oZ,D2 P l.S vs rs->(l.F vs rs).ev=some (e,cX,oZ)->BZ (arq l.st P cfg L n l.f l.p (dF P l.f l.p) l.S) iH vs rs=some (e,cX,oZ)
def bZ (P:Program) (f p:Nat):Bool:=
 match P.funcs.toList[f]? with
 | some fn=>match fn.body with
  | some c=>match tI 200 c p with
   | some (.loop _)=>true
   | _=>false
  | none=>false
 | none=>false
theorem art (hP:P.funcs.toList.all o9=true) (hm:P.follows .mixedOrders=true) {pc:FuncId->Option (List KV->KR KV)} {x:am7} : ∀ {ls:List Lp},(∀ l∈ls,Lp.Ok P l/\bZ P l.f l.p=true)->∀ f fn c,P.funcs[f]? = some fn->fn.body=some c->arc P ⟨pc,agA P ls,x⟩ f c
 | [],_=>fun f fn c hf hb p F body h=>by simp [agA] at h
 | l::ls,hl=>fun f fn c hf hb p F body h hs N hc=>by
  have h:agA P (l::ls) f p=some F:=h;unfold agA at h;cases hk:(Nat.beq l.f f&&Nat.beq l.p p) with
  | false=>
   rw [hk] at h;exact art hP hm (pc:=pc) (x:=x) (fun l' ux=>hl l' (yW _ ux)) f fn c hf hb p F body h hs N hc
  | true=>
   rw [hk] at h;simp only [ak,di] at h;subst h;simp only [aA] at hk;have e1:=bu hk.1;have e2:=bu hk.2;obtain ⟨⟨cfg,L,n,j9,oY,hF⟩,hth⟩:=hl l (by simp);rw [e1,e2] at hF hth;have hf' : P.funcs.toList[f]? = some fn:=by simpa using hf
   have avG:dF P f p=body:=by
    unfold bZ at hth;unfold dF;simp only [hf',hb] at hth ⊢;split at hth
    ·rename_i b CQ
     have:=hs.uniq CQ;simp at this;exact this.symm
    ·simp at hth
   rw [avG] at hF;cases gQ:l.st with
   | true=>
    rw [gQ] at hF;exact an7 hP hm j9 oY hf hb hs hc hF
   | false=>
    rw [gQ] at hF;exact apO hP hm j9 oY hf hb hs hc hF
theorem ae6 (hP:P.funcs.toList.all o9=true) (hm:P.follows .mixedOrders=true) {pc:FuncId->Option (List KV->KR KV)} {x:am7} (hx:akA P x.ac) {ls:List Lp} (hl:∀ l∈ls,Lp.Ok P l/\bZ P l.f l.p=true):Aw P ⟨pc,agA P ls,x⟩:=
 ⟨hx,art hP hm hl⟩
structure Fc where
 g:Nat
 S:aV
 F:LFn
noncomputable def akO (P:Program):List Fc->FuncId->Option (List KV->aw->xB)
 | [],_=>none
 | c::cs,g=>cond (Nat.beq c.g g) (some (avb P c.S c.F)) (akO P cs g)
def Fc.Ok (P:Program) (c:Fc):Prop:=Nat.blt c.g yB=true/\∃ cfg L n,uZ P cfg.pc/\Aw P cfg/\
 ∀ vs rs e cX oZ,D2 P c.S vs rs->(c.F vs rs).ev=some (e,cX,oZ)->apQ P cfg L n c.g c.S vs rs=some (e,cX,oZ)
theorem ae7 (hP:P.funcs.toList.all o9=true) (hm:P.follows .mixedOrders=true):∀ {cs:List Fc},(∀ c∈cs,Fc.Ok P c)->akA P (akO P cs)
 | [],_=>fun g F h=>by simp [akO] at h
 | c::cs,hc=>fun g F h=>by
  have h:akO P (c::cs) g=some F:=h;unfold akO at h;cases hk:Nat.beq c.g g with
  | false=>
   rw [hk] at h;intro R args A k r hr;exact ae7 hP hm (fun c' hc'=>hc c' (yW _ hc')) g F h args A k r hr
  | true=>
   rw [hk] at h;simp only [ak,di] at h;subst h;have e1:=bu hk;subst e1;obtain ⟨hy,cfg,L,n,j9,oY,hF⟩:=hc c (by simp);intro R args A k r hr;exact apR hP hm j9 oY hy hF hr
end Go.K
end
