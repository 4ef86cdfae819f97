/- Part of the proof of WorldMat: the machine, shown to be the model's, and plain models. No conditions. -/
import Derived.Test.YtckbdndhmcoihaaGreatEp
set_option linter.unusedSimpArgs false
set_option linter.unusedVariables false
section
namespace Go.K
open Go Go.aB
noncomputable section
inductive CD where
 | k (c:CK)
 | lit (v:KV)
 | bA (t:TypeId)
 | arr (t:TypeId)
 | ref (w:KV)
def aaS (bs:List Nat) (v:KV):KV:=
 match v with
 | .ptr j o=>.ptr (bs.getD j 0) o
 | v=>v
def Br (bs:List Nat):List KV->List KV
 | []=>[]
 | v::vs=>aaS bs v::Br bs vs
def inst (bs:List Nat) (v:KV):KV:=
 match v with
 | .ptr j o=>.ptr (bs.getD j 0) o
 | .fn f first cap=>.fn f (Br bs first) (Br bs cap)
 | v=>v
def isP (nr:Nat):KV->Bool
 | .ptr j _=>Nat.blt j nr
 | _=>false
def agq (nr:Nat):List KV->Bool
 | []=>true
 | v::vs=>isP nr v&&agq nr vs
def acz (nr:Nat):KV->Bool
 | .ptr j _=>Nat.blt j nr
 | .fn (.func _) first cap=>agq nr first&&agq nr cap
 | _=>false
def eqP:KV->KV->Bool
 | .ptr a o,.ptr b q=>Nat.beq a b&&Nat.beq o q
 | _,_=>false
def agr:List KV->List KV->Bool
 | [],[]=>true
 | v::vs,u::us=>eqP v u&&agr vs us
 | _,_=>false
def Q2:KV->KV->Bool
 | .ptr a o,.ptr b q=>Nat.beq a b&&Nat.beq o q
 | .fn (.func f) a b,.fn (.func g) c d=>Nat.beq f g&&agr a c&&agr b d
 | _,_=>false
def yK:KV->KV->Bool
 | .fn (.func f) [] [],.fn (.func g) [] []=>Nat.beq f g
 | .G1,.G1=>true
 | .lY,.lY=>true
 | .CV,.CV=>true
 | .Ip,.Ip=>true
 | .Iq,.Iq=>true
 | _,_=>false
def Q3 (A:aw) (t:TypeId) (v:KV):KV:=
 match v with
 | .lY=>.ts t .any 0 [] qX
 | .al t' b o _=>match A.get b with
  | some (.arr (.ts t2 _ N es acc))=>cond (Nat.beq t t'&&Nat.beq t t2&&Nat.beq o 0) (.ts t .any N es acc) .ao
  | _=>.ao
 | _=>.ao
def gm (P:Program) (A:aw) (d:CD) (v:KV):KV:=
 match d with
 | .k c=>cond (kindOk c (oY c v)) (ai P aj (leaf c (oY c v))) .ao
 | .lit w=>cond (yK w v) w .ao
 | .bA t=>match v with
  | .lY=>ai P aj (.ts t .any 0 [] qX)
  | .ts t' (.bA _) n es acc=>cond (Nat.beq t t') (ai P aj (.ts t .any n es acc)) .ao
  | _=>.ao
 | .arr t=>ai P aj (Q3 A t v)
 | .ref w=>w
def gp (P:Program) (A:aw):List CD->List KV->List KV
 | d::ds,v::vs=>gm P A d v::gp P A ds vs
 | _,_=>[]
def lk (d:CD) (v:KV):Bool:=
 match d with
 | .k c=>kindOk c v
 | .lit w=>yK w v
 | .bA t=>kindOk (.slice t) v
 | .arr t=>kindOk (.slice t) v
 | .ref w=>Q2 w v
def dT:List CD->List KV->Bool
 | [],[]=>true
 | d::ds,v::vs=>lk d v&&dT ds vs
 | _,_=>false
structure VD where
 agg:Bool
 ks:List CD
def xP (P:Program) (A:aw) (d:VD) (v:KV):KV:=
 match v with
 | .agg cs=>cond (d.agg&&Nat.beq cs.length d.ks.length) (.agg (gp P A d.ks cs)) .ao
 | v=>cond d.agg .ao (match d.ks with
  | [c]=>gm P A c v
  | _=>.ao)
def zd (d:VD) (v:KV):Bool:=
 match v with
 | .agg cs=>d.agg&&dT d.ks cs
 | v=>!d.agg&&dT d.ks [v]
structure aV where
 gT:List (Tmp×VD)
 rows:List (Tmp×List CD×Nat)
 acA:List (Tmp×Nat×Nat)
def valOf (t:bO) (i:Tmp):KV:=(t.get i).getD .ao
def r5 (P:Program) (t:bO) (A:aw):List (Tmp×VD)->List KV
 | []=>[]
 | p::ps=>xP P A p.2 (valOf t p.1)::r5 P t A ps
def jU:List (Tmp×VD)->List KV->Bool
 | [],[]=>true
 | p::ps,v::vs=>zd p.2 v&&jU ps vs
 | _,_=>false
def au7:Option KV->Option Nat
 | some (.ptr b _)=>some b
 | _=>none
def awD (t:bO) (i:Nat):Option Nat:=
 cond (Nat.blt i 100000) (au7 (t.get i)) (match t.get (i % 100000) with
  | some (.fn _ first cap)=>au7 (ako (i / 100000 - 1) (first++cap))
  | _=>none)
def rowOf (t:bO) (A:aw) (p:Tmp×List CD×Nat):Option (Nat×List KV):=
 match awD t p.1 with
 | some b=>match A.get b with
  | some (.row cs e)=>cond (Nat.beq e p.2.2&&Nat.beq cs.length p.2.1.length) (some (b,cs)) none
  | _=>none
 | _=>none
def arf (t:bO) (A:aw) (p:Tmp×List CD×Nat):Nat:=((rowOf t A p).getD (0,[])).1
def IJ (t:bO) (A:aw) (p:Tmp×List CD×Nat):List KV:=((rowOf t A p).getD (0,[])).2
def BV (t:bO) (A:aw):List (Tmp×List CD×Nat)->List Nat
 | []=>[]
 | p::ps=>arf t A p::BV t A ps
def Ll (P:Program) (t:bO) (A:aw):List (Tmp×List CD×Nat)->List (List KV)
 | []=>[]
 | p::ps=>gp P A p.2.1 (IJ t A p)::Ll P t A ps
def Bs (P:Program) (t:bO) (A:aw):List (Tmp×List CD×Nat)->Bool
 | []=>true
 | p::ps=>(rowOf t A p).isSome&&(dT p.2.1 (gp P A p.2.1 (IJ t A p))&&Bs P t A ps)
def atz (v:Option KV) (b:Option Nat) (off:Nat):Bool:=
 match v,b with
 | some (.ptr b o),some b'=>Nat.beq o off&&Nat.beq b b'
 | _,_=>false
def SR (t:bO) (bs:List Nat):List (Tmp×Nat×Nat)->Bool
 | []=>true
 | p::ps=>atz (t.get p.1) bs[p.2.1]? p.2.2&&SR t bs ps
def ze:List Nat->Bool
 | []=>true
 | b::bs=>bs.all (fun c=>!Nat.beq b c)&&ze bs
structure FI where
 ok:Bool
 f:Option Nat
 fm:Bool
def szL (P:Program) (t:TypeId):Nat:=(bB P t).ks.length
def vZ (P:Program) (A:aw) (t:TypeId) (v:KV):FI:=
 match v with
 | .lY=>⟨true,none,true⟩
 | .ts _ (.bA f) n _ _=>match A.get f with
  | some (.bA top sz)=>⟨cond (Nat.beq sz (szL P t)) (bz top n) false,some f,true⟩
  | _=>⟨false,none,true⟩
 | _=>⟨false,none,true⟩
def Lm (P:Program) (A:aw) (t:TypeId) (v:KV):FI:=
 match v with
 | .lY=>⟨Nat.ble 1 (szL P t),none,false⟩
 | .al _ b _ n=>match A.get b with
  | some (.arr (.ts _ _ N _ _))=>⟨bz N n,some b,false⟩
  | _=>⟨false,none,false⟩
 | _=>⟨false,none,false⟩
def BX:Option kV->Bool
 | some (.bA _ _)=>true
 | _=>false
theorem akD (P:Program) (A:aw) (t:TypeId) (v:KV):(vZ P A t v).fm=true:=by
 unfold vZ;split
 ·rfl
 ·split <;> rfl
 ·rfl
theorem ase (P:Program) (A:aw) (t:TypeId) (v:KV):(Lm P A t v).fm=false:=by
 unfold Lm;split
 ·rfl
 ·split <;> rfl
 ·rfl
theorem asf {P:Program} {A:aw} {t:TypeId} {v:KV} {x:Nat} (h:(vZ P A t v).f=some x):BX (A.get x)=true:=by
 unfold vZ at h;split at h
 ·simp at h
 ·split at h
  ·rename_i e; simp at h; subst h; rw [e]; rfl
  ·simp at h
 ·simp at h
def nf (P:Program) (A:aw):List CD->List KV->List FI
 | .bA t::ds,v::vs=>vZ P A t v::nf P A ds vs
 | .arr t::ds,v::vs=>Lm P A t v::nf P A ds vs
 | _::ds,_::vs=>nf P A ds vs
 | _,_=>[]
def Gx (P:Program) (t:bO) (A:aw):List (Tmp×VD)->List FI
 | []=>[]
 | p::ps=>nf P A p.2.ks (valOf t p.1).cells++Gx P t A ps
def IK (P:Program) (t:bO) (A:aw):List (Tmp×List CD×Nat)->List FI
 | []=>[]
 | p::ps=>nf P A p.2.1 (IJ t A p)++IK P t A ps
def aaT:List FI->Bool
 | []=>true
 | x::xs=>cond (aaT xs) x.ok false
def Om:List FI->List (Option Nat)
 | []=>[]
 | x::xs=>x.f::Om xs
def lx:List (Option Nat)->List Nat
 | []=>[]
 | some f::xs=>f::lx xs
 | none::xs=>lx xs
def Gy (nr:Nat) (bs:List Nat):List CD->List KV->Bool
 | .ref w::ds,v::vs=>acz nr w&&(Q2 (inst bs w) v&&Gy nr bs ds vs)
 | _::ds,_::vs=>Gy nr bs ds vs
 | _,_=>true
def Q4 (nr:Nat) (bs:List Nat) (t:bO):List (Tmp×VD)->Bool
 | []=>true
 | p::ps=>Gy nr bs p.2.ks (valOf t p.1).cells&&Q4 nr bs t ps
def aaU (nr:Nat) (bs:List Nat) (t:bO) (A:aw):List (Tmp×List CD×Nat)->Bool
 | []=>true
 | p::ps=>Gy nr bs p.2.1 (IJ t A p)&&aaU nr bs t A ps
structure GR where
 ok:Bool
 bs:List Nat
 fs:List (Option Nat)
 vs:List KV
 rs:List (List KV)
def aV.Te (S:aV) (P:Program) (t:bO) (A:aw):List FI:=Gx P t A S.gT++IK P t A S.rows
def aV.gQ (S:aV) (P:Program) (t:bO) (A:aw):GR:=
 ⟨cond (Bs P t A S.rows&&ze (BV t A S.rows)&&SR t (BV t A S.rows) S.acA&&jU S.gT (r5 P t A S.gT)&&ze (lx (Om (S.Te P t A)))&&Q4 S.rows.length (BV t A S.rows) t S.gT&&aaU S.rows.length (BV t A S.rows) t A S.rows) (aaT (S.Te P t A)) false,
  BV t A S.rows,Om (S.Te P t A),r5 P t A S.gT,Ll P t A S.rows⟩
def Oo (j:Nat) (v:KV):KV:=
 match v with
 | .ts t _ n es acc=>.ts t (.bA j) n es acc
 | v=>v
def SS (j:Nat) (v:KV):KV:=
 match v with
 | .ts t _ n _ _=>.al t j 0 n
 | v=>v
def tI:List CD->Nat
 | []=>0
 | .bA _::ds=>Nat.succ (tI ds)
 | .arr _::ds=>Nat.succ (tI ds)
 | _::ds=>tI ds
def sC (j:Nat) (bs:List Nat):List CD->List KV->List KV
 | .bA _::ds,v::vs=>Oo j v::sC (Nat.succ j) bs ds vs
 | .arr _::ds,v::vs=>SS j v::sC (Nat.succ j) bs ds vs
 | .ref w::ds,_::vs=>inst bs w::sC j bs ds vs
 | _::ds,v::vs=>v::sC j bs ds vs
 | _,_=>[]
def acB (j:Nat) (bs:List Nat) (d:VD) (v:KV):KV:=
 match v with
 | .agg cs=>.agg (sC j bs d.ks cs)
 | v=>match d.ks with
  | [.bA _]=>Oo j v
  | [.arr _]=>SS j v
  | [.ref w]=>inst bs w
  | _=>v
def acC (j:Nat) (bs:List Nat):List (Tmp×VD)->List KV->List (Nat×KV)
 | p::ps,v::vs=>(p.1,acB j bs p.2 v)::acC (j+tI p.2.ks) bs ps vs
 | _,_=>[]
def pz:List (Tmp×VD)->Nat
 | []=>0
 | p::ps=>tI p.2.ks+pz ps
def acD (j:Nat) (bs:List Nat):List (Tmp×List CD×Nat)->List (List KV)->List (List KV)
 | p::ps,r::rs=>sC j bs p.2.1 r::acD (j+tI p.2.1) bs ps rs
 | _,_=>[]
def rl (P:Program):List CD->List KV->List kV
 | .bA t::ds,v::vs=>.bA (lenOf v) (szL P t)::rl P ds vs
 | .arr _::ds,v::vs=>.arr v::rl P ds vs
 | _::ds,_::vs=>rl P ds vs
 | _,_=>[]
def Az (P:Program):List (Tmp×VD)->List KV->List kV
 | p::ps,v::vs=>rl P p.2.ks v.cells++Az P ps vs
 | _,_=>[]
def BZ (P:Program):List (Tmp×List CD×Nat)->List (List KV)->List kV
 | p::ps,r::rs=>rl P p.2.1 r++BZ P ps rs
 | _,_=>[]
def aV.lens (S:aV) (P:Program) (vs:List KV) (rs:List (List KV)):List kV:=Az P S.gT vs++BZ P S.rows rs
def Cq (bs:List Nat):List (Tmp×Nat×Nat)->List (Nat×KV)
 | []=>[]
 | p::ps=>(p.1,.ptr (bs.getD p.2.1 0) p.2.2)::Cq bs ps
def aV.tm (S:aV) (fb:Nat) (bs:List Nat) (vs:List KV):bO:=nm (acC fb bs S.gT vs++Cq bs S.acA)
def aV.IL (S:aV) (fb:Nat) (bs:List Nat) (rs:List (List KV)):List (List KV):=acD (fb+pz S.gT) bs S.rows rs
def u9 (A:aw):List kV->aw
 | []=>A
 | p::ps=>u9 (A.new p) ps
def B4 (A:aw):List (Option Nat)->aw
 | []=>A
 | some f::fs=>B4 (A.put f .dead) fs
 | none::fs=>B4 A fs
def pV (A:aw):List Nat->List (Tmp×List CD×Nat)->List (List KV)->aw
 | b::bs,p::ps,r::rs=>pV (A.put b (.row r p.2.2)) bs ps rs
 | _,_,_=>A
def aV.back (S:aV) (P:Program) (bs:List Nat) (fs:List (Option Nat)) (vs:List KV) (rs:List (List KV)) (A:aw):aw:=
 u9 (B4 (pV A bs S.rows (S.IL A.next bs rs)) fs) (S.lens P vs rs)
def tJ (A:aw):List (Tmp×List CD×Nat)->List (List KV)->aw
 | p::ps,r::rs=>tJ (A.new (.row r p.2.2)) ps rs
 | _,_=>A
def aV.nr (S:aV):Nat:=S.rows.length
def upto:Nat->List Nat->List Nat
 | 0,l=>l
 | n+1,l=>upto n (n::l)
def aV.ids (S:aV):List Nat:=upto S.rows.length []
def aV.mem (S:aV) (P:Program) (vs:List KV) (rs:List (List KV)):aw:=u9 (tJ .empty S.rows (S.IL S.nr S.ids rs)) (S.lens P vs rs)
def yL:List Nat->List Nat->Bool
 | [],[]=>true
 | a::aw9,b::bs=>Nat.beq a b&&yL aw9 bs
 | _,_=>false
def dB (P:Program) (cfg:fE) (L n:Nat) (f:FuncId) (p:Nat) (body:Code) (S:aV) (vs:List KV) (rs:List (List KV)):Option (ae×List KV×List (List KV)):=
 rZ P cfg (JX P cfg L n) L f body (2 * p) (fun e t A=>
  Bool.rec (motive:=fun _=>Option (ae×List KV×List (List KV))) none (some (e,(S.gQ P t A).vs,(S.gQ P t A).rs)) (cond (yL (S.gQ P t A).bs S.ids) (S.gQ P t A).ok false)) (S.tm S.nr S.ids vs) (S.mem P vs rs)
def va:ae->Bool
 | .normal=>true
 | _=>false
def B5 (rd:List KV->List (List KV)->Option (ae×List KV×List (List KV))):Nat->List KV->List (List KV)->Option (ae×List KV×List (List KV))
 | 0,_,_=>none
 | n+1,vs,rs=>match rd vs rs with
  | some (e,cX,o5)=>cond (va e) (B5 rd n cX o5) (some (e,cX,o5))
  | none=>none
inductive v7 where
 | no
 | out (e:ae) (vs:List KV) (rs:List (List KV))
 | br (c:Bool) (x y:v7)
def v7.ev:v7->Option (ae×List KV×List (List KV))
 | .no=>none
 | .out e vs rs=>some (e,vs,rs)
 | .br c x y=>cond c x.ev y.ev
def v7.tell (P:Program) (S:aV) (bs:List Nat) (fs:List (Option Nat)) (A:aw):v7->CZ
 | .no=>.no
 | .out e vs rs=>.out e (S.tm A.next bs vs) (S.back P bs fs vs rs A)
 | .br c x y=>.br c (x.tell P S bs fs A) (y.tell P S bs fs A)
abbrev LFn:=List KV->List (List KV)->v7
def isExact (v:KV):Bool:=
 match v with
 | .ts _ .exact _ _ _=>true
 | _=>false
def Yb:List CD->List KV->Bool
 | .bA _::ds,v::vs=>isExact v||Yb ds vs
 | .arr _::ds,v::vs=>isExact v||Yb ds vs
 | _::ds,_::vs=>Yb ds vs
 | _,_=>false
def arh (t:bO):List (Tmp×VD)->Bool
 | []=>false
 | p::ps=>Yb p.2.ks (valOf t p.1).cells||arh t ps
def ari (t:bO) (A:aw):List (Tmp×List CD×Nat)->Bool
 | []=>false
 | p::ps=>Yb p.2.1 (IJ t A p)||ari t A ps
def aV.au8 (S:aV) (t:bO) (A:aw):Bool:=arh t S.gT||ari t A S.rows
def anW (P:Program) (S:aV) (F:LFn):bO->aw->CZ:=fun t A=>
 cond (S.au8 t A) .once <| .br (S.gQ P t A).ok ((F (S.gQ P t A).vs (S.gQ P t A).rs).tell P S (S.gQ P t A).bs (S.gQ P t A).fs A) .no
end
end Go.K
end
section
namespace Go.K
open Go Go.aB
variable {P:Program} {E:Env}
theorem akE {w v:KV} (h:yK w v=true):v=w:=by
 unfold yK at h;split at h <;> simp at h
 ·rename_i f g; rw [h]
 all_goals rfl
theorem apL {w v:KV} (h:yK w v=true) {E0:Env} {u:Value} (k:VK P E v u):VK P E0 v u:=by
 have:=akE h;subst this;unfold yK at h;split at h <;> try (simp at h)
 ·obtain ⟨l,m,rfl,h1,h2⟩:=k.JY
  rw [h1.cw,h2.cw];exact .ani .nil .nil
 all_goals exact k
theorem VK.mix {T:TypeId} {m m' : Mk} {n:Nat} {es pQ:List KV} {acc aE:Nat->KV} {u:Value} (h:VK P E (.ts T m n es acc) u) (k:VK P E (.ts T m' n pQ aE) u):VK P E (.ts T m n pQ aE) u:=by
 obtain ⟨_,bK,_,a,cap,rfl,h2,_,h4⟩:=h.mD;obtain ⟨ht,awE,k1,a',afz,e,_,k3,_⟩:=k.mD;simp only [Value.slice.injEq] at e;obtain ⟨rfl,_,rfl⟩:=e;simp only [VK];exact ⟨ht,awE,k1,a,cap,rfl,h2,k3,h4⟩
theorem VK.swap {E0:Env} (hz:E0.z=E.z) {T:TypeId} {m m' : Mk} {n:Nat} {es:List KV} {acc:Nat->KV} {u:Value} (h:VK P E (.ts T m n es acc) u) (hm:∀ sz a cap,u = .slice a n cap->SJ E sz a n cap m->SJ E0 sz a n cap m'):VK P E0 (.ts T m' n es acc) u:=by
 obtain ⟨ht,bK,h1,a,cap,rfl,h2,h3,h4⟩:=h.mD;simp only [VK];refine ⟨ht,bK,bC.zEs (.of hz) h1 ht.typed,a,cap,rfl,h2,?_,hm _ _ _ rfl h4⟩;refine h3.imp id ?_;rintro ⟨b,off,r,e1,e2,e3⟩;exact ⟨b,off,r,e1,by rw [hz]; exact e2,e3⟩
theorem V5 (t:TypeId) (m:Mk) (n:Nat) (es:List KV) (acc:Nat->KV):∃ pQ aE,ai P aj (.ts t m n es acc) = .ts t .any n pQ aE:=⟨_,_,rfl⟩
theorem apM {c:CK} {v:KV} (h:kindOk c v=true):leaf c v=v:=by
 cases c <;> cases v <;> simp [kindOk] at h
 ·subst h; rfl
 ·rfl
 ·rfl
 ·rename_i t t' m n es acc
  cases m <;> simp at h;subst h; rfl
theorem VK.nCD {A:aw} {d:CD} {v:KV} {u:Value} (h:VK P E v u) (hd:∀ w,d≠.ref w) (ha:∀ t,d≠.arr t):VK P E (gm P A d v) u:=by
 cases d with
 | ref w=>exact absurd rfl (hd w)
 | arr t=>exact absurd rfl (ha t)
 | k c=>
  show VK P E (cond (kindOk c (K.oY c v)) (K.ai P aj (leaf c (K.oY c v))) .ao) u;cases hb:kindOk c (K.oY c v) with
  | false=>exact .uY
  | true=>
   rw [ak,apM hb];exact VK.ai _ h.oY
 | lit w=>
  show VK P E (cond (yK w v) w .ao) u;cases hb:yK w v with
  | true=>rw [akE hb] at h; exact h
  | false=>exact .uY
 | bA t=>
  unfold gm;cases v with
  | lY=>have:=h.pZ; subst this; exact VK.ai _ .apw
  | ts t' m n es acc=>
   cases m with
   | bA f=>
    show VK P E (cond (Nat.beq t t') _ .ao) u;cases hb:Nat.beq t t' with
    | false=>exact .uY
    | true=>
     have:=bu hb;subst this;exact VK.ai aj h.atf
   | _=>exact .uY
  | _=>exact .uY
def Lk (E E0:Env) (f:Option Nat) (j:Nat):Prop:=∀ x g,f=some x->E.φ x=some g->E0.φ j=some g
theorem VK.arj {E0:Env} (hz:E0.z=E.z) {A:aw} {t:TypeId} {v:KV} {u:Value} {j:Nat} (h:VK P E v u) (hg:lk (.bA t) (gm P A (.bA t) v)=true) (hl:Lk E E0 (vZ P A t v).f j) (dt:(vZ P A t v).ok=true):VK P E0 (Oo j (gm P A (.bA t) v)) u:=by
 cases v with
 | lY=>
  have:=h.pZ; subst this;have h1:VK P E (K.ai P aj (.ts t .any 0 [] qX)) (.slice none 0 0):=VK.ai _ .apw;obtain ⟨pQ,aE,e⟩:=V5 (P:=P) t .any 0 [] qX;show VK P E0 (Oo j (K.ai P aj (.ts t .any 0 [] qX))) _;rw [e] at h1 ⊢;exact h1.swap hz fun sz a cap he _=>by
   simp only [Value.slice.injEq] at he;obtain ⟨rfl,_,rfl⟩:=he;exact ⟨rfl,.inl ⟨rfl,rfl⟩⟩
 | ts t' m n es acc=>
  cases m with
  | bA f=>
   have e1:gm P A (.bA t) (.ts t' (.bA f) n es acc)=cond (Nat.beq t t') (K.ai P aj (.ts t .any n es acc)) .ao:=rfl;rw [e1] at hg ⊢;cases hb:Nat.beq t t' with
   | false=>rw [hb] at hg; simp [lk,kindOk] at hg
   | true=>
    have:=bu hb;subst this;have h1:=VK.ai (P:=P) aj h.atf;obtain ⟨pQ,aE,e⟩:=V5 (P:=P) t .any n es acc;rw [ak,e];rw [e] at h1;have hf:(vZ P A t (.ts t (.bA f) n es acc)).f=some f:=by
     revert dt
     unfold vZ;simp only;split
     ·intro _; rfl
     ·intro dt; simp at dt
    exact (h.mix h1).swap hz fun sz a cap he hm=>by
     refine ⟨hm.1,hm.2.imp id ?_⟩;rintro ⟨b,r,g,q1,q2,q3,q4,q5⟩;exact ⟨b,r,g,q1,by rw [hz]; exact q2,q3,hl f g hf q4,q5⟩
  | any=>simp [vZ] at dt
  | exact=>simp [vZ] at dt
 | _=>simp [vZ] at dt
def La (E E0:Env) (f:Option Nat) (j:Nat):Prop:=∀ x p,f=some x->E.α x=some p->E0.α j=some p
theorem apN:K.ai P aj .ao = .ao:=rfl
theorem aaV {A:aw} {t:TypeId} {v:KV} (hg:lk (.arr t) (gm P A (.arr t) v)=true):v = .lY\/∃ b n m N es acc,v = .al t b 0 n/\A.get b=some (.arr (.ts t m N es acc))/\gm P A (.arr t) v=K.ai P aj (.ts t .any N es acc):=by
 have hu:∀ w,w=KV.ao->lk (.arr t) (K.ai P aj w)=false:=fun w e=>by rw [e]; rfl
 have hg:lk (.arr t) (K.ai P aj (Q3 A t v))=true:=hg;have e0:gm P A (.arr t) v=K.ai P aj (Q3 A t v):=rfl;rw [e0];cases v with
 | lY=>exact .inl rfl
 | al t' b o n=>
  have e1:Q3 A t (.al t' b o n)=(match A.get b with
   | some (.arr (.ts t2 _ N es acc))=>cond (Nat.beq t t'&&Nat.beq t t2&&Nat.beq o 0) (.ts t .any N es acc) .ao
   | _=>.ao):=rfl
  rw [e1] at hg ⊢;split at hg
  ·rename_i t2 m N es acc hb
   cases hc:(Nat.beq t t'&&Nat.beq t t2&&Nat.beq o 0) with
   | false=>rw [hc,ba,hu _ rfl] at hg; simp at hg
   | true=>
    simp only [aA] at hc;have:=bu hc.1.1;subst this;have:=bu hc.1.2;subst this;have:=bu hc.2;subst this;refine .inr ⟨b,n,m,N,es,acc,rfl,hb,?_⟩;rw [ak]
  ·rw [hu _ rfl] at hg; simp at hg
 | _=>exact absurd (hg.symm.trans (hu _ rfl)) (by simp)
theorem VK.atA {E0:Env} {A:aw} {t:TypeId} {v:KV} {u:Value} {j:Nat} (h:VK P E v u) (hg:lk (.arr t) (gm P A (.arr t) v)=true) (hl:La E E0 (Lm P A t v).f j) (dt:(Lm P A t v).ok=true):VK P E0 (SS j (gm P A (.arr t) v)) u:=by
 rcases aaV hg with rfl | ⟨b,n,m,N,es,acc,rfl,hb,he⟩
 ·have:=h.pZ; subst this
  exact .T4 (.inl ⟨rfl,rfl,rfl⟩)
 ·obtain ⟨pQ,aE,e⟩:=V5 (P:=P) t .any N es acc
  rw [he,e];have hao:Lm P A t (.al t b 0 n)=⟨bz N n,some b,false⟩:=by simp only [Lm,hb]
  rw [hao] at dt hl;have hN:N=n:=bu dt;subst hN;show VK P E0 (.al t j 0 N) u;rcases h.zb with ⟨q1,_,q2⟩ | ⟨x,L,M,c,q1,q2⟩
  ·exact .T4 (.inl ⟨q1,rfl,q2⟩)
  ·exact .T4 (.inr ⟨x,L,M,c,hl b _ rfl q1,q2⟩)
theorem VK.gCD {E0:Env} (hz:E0.z=E.z) {d:CD} {v:KV} {u:Value} (h:VK P E v u) (hg:lk d v=true) (hd:∀ w,d≠.ref w):VK P E0 v u:=by
 cases d with
 | ref w=>exact absurd rfl (hd w)
 | arr t=>exact h.zK (c:=.slice t) (.of hz) hg
 | k c=>exact h.zK (.of hz) hg
 | lit w=>exact apL hg h
 | bA t=>exact h.zK (c:=.slice t) (.of hz) hg
theorem ml {A:aw} : ∀ {ds:List CD} {vs:List KV},vs.length=ds.length->(nf P A ds vs).length=tI ds
 | [],[],_=>rfl
 | [],_::_,e=>by simp at e
 | _::_,[],e=>by simp at e
 | .k c::ds,v::vs,e=>by simp only [nf,tI]; exact ml (by simpa using e)
 | .lit w::ds,v::vs,e=>by simp only [nf,tI]; exact ml (by simpa using e)
 | .bA t::ds,v::vs,e=>by simp only [nf,tI,CI]; rw [ml (by simpa using e)]
 | .arr t::ds,v::vs,e=>by simp only [nf,tI,CI]; rw [ml (by simpa using e)]
 | .ref w::ds,v::vs,e=>by simp only [nf,tI]; exact ml (by simpa using e)
theorem auz {a b:KV} (h:eqP a b=true):a=b:=by
 unfold eqP at h;split at h
 ·simp only [aA] at h
  rw [bu h.1,bu h.2]
 ·simp at h
theorem ags:∀ {a b:List KV},agr a b=true->a=b
 | [],[],_=>rfl
 | [],_::_,h=>by simp [agr] at h
 | _::_,[],h=>by simp [agr] at h
 | x::a,y::b,h=>by
  simp only [agr,aA] at h;rw [auz h.1,ags h.2]
theorem SU {a b:KV} (h:Q2 a b=true):a=b:=by
 unfold Q2 at h;split at h
 ·simp only [aA] at h
  rw [bu h.1,bu h.2]
 ·simp only [aA] at h
  rw [bu h.1.1,ags h.1.2,ags h.2]
 ·simp at h
def Rk (E E0:Env) (nr:Nat) (bs Ln:List Nat):Prop:=∀ j x,j < nr->E.κ (bs.getD j 0)=some x->E0.κ (Ln.getD j 0)=some x
theorem VK.aaS {E0:Env} {nr:Nat} {bs Ln:List Nat} (hk:Rk E E0 nr bs Ln) {w:KV} {u:Value} (hw:isP nr w=true) (h:VK P E (K.aaS bs w) u):VK P E0 (K.aaS Ln w) u:=by
 cases w <;> simp [isP] at hw;rename_i j o;obtain ⟨x,h1,rfl⟩:=(show VK P E (.ptr (bs.getD j 0) o) u from h).j9;exact .BO (hk j x hw h1)
theorem bC.Br {E0:Env} {nr:Nat} {bs Ln:List Nat} (hk:Rk E E0 nr bs Ln):∀ {ws:List KV} {us:List Value},agq nr ws=true->bC P E (K.Br bs ws) us->bC P E0 (K.Br Ln ws) us
 | [],us,_,h=>by rw [h.cw]; exact .nil
 | w::ws,us,hw,h=>by
  simp only [agq,aA] at hw;obtain ⟨y,ys,rfl,h1,h2⟩:=bC.cons_inv (show bC P E (K.aaS bs w::K.Br bs ws) us from h);exact .cons (VK.aaS hk hw.1 h1) (bC.Br hk hw.2 h2)
theorem VK.inst {E0:Env} {nr:Nat} {bs Ln:List Nat} (hk:Rk E E0 nr bs Ln) {w:KV} {u:Value} (hw:acz nr w=true) (h:VK P E (K.inst bs w) u):VK P E0 (K.inst Ln w) u:=by
 cases w with
 | ptr j o=>
  obtain ⟨x,h1,rfl⟩:=(show VK P E (.ptr (bs.getD j 0) o) u from h).j9;exact .BO (hk j x (by simpa [acz] using hw) h1)
 | fn f first cap=>
  cases f with
  | func f=>
   simp only [acz,aA] at hw;obtain ⟨l,m,rfl,h1,h2⟩:=(show VK P E (.fn (.func f) (K.Br bs first) (K.Br bs cap)) u from h).JY;exact .ani (bC.Br hk hw.1 h1) (bC.Br hk hw.2 h2)
  | _=>simp [acz] at hw
 | _=>simp [acz] at hw
def rm (E E0:Env) (l:List FI) (j:Nat):Prop:=∀ (i:Nat) fi,l[i]? = some fi->fi.ok=true/\(fi.fm=true->Lk E E0 fi.f (j+i))/\La E E0 fi.f (j+i)
theorem rm.left {E0:Env} {l m:List FI} {j:Nat} (h:rm E E0 (l++m) j):rm E E0 l j:=fun i fi e=>h i fi (by rw [r7 (dq.1 e).1]; exact e)
theorem rm.right {E0:Env} {l m:List FI} {j:Nat} (h:rm E E0 (l++m) j):rm E E0 m (j+l.length):=fun i fi e=>by
 have:=h (l.length+i) fi (by rw [uC (by omega)]; simpa using e);rw [Hg]; exact this
theorem rm.head {E0:Env} {x:FI} {l:List FI} {j:Nat} (h:rm E E0 (x::l) j):x.ok=true/\(x.fm=true->Lk E E0 x.f j)/\La E E0 x.f j:=h 0 x rfl
theorem rm.tail {E0:Env} {x:FI} {l:List FI} {j:Nat} (h:rm E E0 (x::l) j):rm E E0 l (j+1):=fun i fi e=>by
 have:=h (i+1) fi (by simpa using e);rw [show j+1+i=j+(i+1) by omega]; exact this
theorem bC.cellsIn {E0:Env} (hz:E0.z=E.z) {A:aw} {nr:Nat} {bs Ln:List Nat} (hk:Rk E E0 nr bs Ln):∀ {ds:List CD} {vs:List KV} {us:List Value} {j:Nat},bC P E vs us->vs.length=ds.length->dT ds (gp P A ds vs)=true->rm E E0 (nf P A ds vs) j->Gy nr bs ds vs=true->bC P E0 (sC j Ln ds (gp P A ds vs)) us
 | [],[],us,j,h,_,_,_,_=>by rw [h.cw]; exact .nil
 | [],_::_,_,_,_,e,_,_,_=>by simp at e
 | _::_,[],_,_,_,e,_,_,_=>by simp at e
 | d::ds,v::vs,us,j,h,e,hg,hf,hr=>by
  simp only [gp,dT,aA] at hg;obtain ⟨y,ys,rfl,h1,h2⟩:=h.cons_inv;have e' : vs.length=ds.length:=by simpa using e
  cases d with
  | k c=>exact .cons ((h1.nCD (by simp) (by simp)).gCD (d:=.k c) hz hg.1 (by simp)) (bC.cellsIn hz hk h2 e' hg.2 hf hr)
  | lit w=>exact .cons ((h1.nCD (by simp) (by simp)).gCD (d:=.lit w) hz hg.1 (by simp)) (bC.cellsIn hz hk h2 e' hg.2 hf hr)
  | bA t=>exact .cons (h1.arj hz hg.1 (hf.head.2.1 (akD ..)) hf.head.1) (bC.cellsIn hz hk h2 e' hg.2 hf.tail hr)
  | arr t=>exact .cons (h1.atA hg.1 hf.head.2.2 hf.head.1) (bC.cellsIn hz hk h2 e' hg.2 hf.tail hr)
  | ref w=>
   simp only [Gy,aA] at hr;exact .cons (VK.inst hk hr.1 (by rw [SU hr.2.1]; exact h1)) (bC.cellsIn hz hk h2 e' hg.2 hf hr.2.2)
theorem alS {ds:List CD} {v:KV} (h:dT ds [v] = true):∃ d,ds = [d]/\lk d v=true:=by
 cases ds with
 | nil=>simp [dT] at h
 | cons d ds=>
  simp only [dT,aA] at h;cases ds with
  | nil=>exact ⟨d,rfl,h.1⟩
  | cons e ds=>simp [dT] at h
theorem A9 {d:VD} {v:KV} (h:zd d v=true):(∃ cs,v = .agg cs/\d.agg=true/\dT d.ks cs=true)\/((∀ cs,v≠.agg cs)/\d.agg=false/\∃ c,d.ks = [c]/\lk c v=true):=by
 by_cases ha:∃ cs,v = .agg cs
 ·obtain ⟨cs,rfl⟩:=ha
  simp only [zd,aA] at h;exact .inl ⟨cs,rfl,h.1,h.2⟩
 ·have h:(!d.agg&&dT d.ks [v])=true:=by
   cases v <;> first | exact h | exact absurd ⟨_,rfl⟩ ha
  simp only [aA,mz] at h;exact .inr ⟨fun cs e=>ha ⟨cs,e⟩,h.1,alS h.2⟩
theorem Ba {A:aw} {d:VD} {v:KV} (h:zd d (xP P A d v)=true):(∃ cs,v = .agg cs/\cs.length=d.ks.length/\xP P A d v = .agg (gp P A d.ks cs)/\dT d.ks (gp P A d.ks cs)=true)\/
  ((∀ cs,v≠.agg cs)/\∃ c,d.ks = [c]/\xP P A d v=gm P A c v/\lk c (gm P A c v)=true/\v.cells = [v]/\(∀ cs,gm P A c v≠.agg cs)):=by
 have atB:zd d .ao=false:=by
  cases hb:zd d .ao with
  | false=>rfl
  | true=>
   rcases A9 hb with ⟨cs,e,_⟩ | ⟨_,_,c,_,hc⟩
   ·simp at e
   ·cases c with
    | k c=>cases c <;> simp [lk,kindOk] at hc
    | lit w=>cases w <;> first | (simp [lk,yK] at hc; done) | (rename_i f a b; cases f <;> cases a <;> cases b <;> simp [lk,yK] at hc)
    | bA t=>simp [lk,kindOk] at hc
    | arr t=>simp [lk,kindOk] at hc
    | ref w=>
     have hc:Q2 w .ao=true:=hc;have:=SU hc;subst this;simp [Q2] at hc
 by_cases ha:∃ cs,v = .agg cs
 ·obtain ⟨cs,rfl⟩:=ha
  have e:xP P A d (.agg cs)=cond (d.agg&&Nat.beq cs.length d.ks.length) (.agg (gp P A d.ks cs)) .ao:=rfl;cases hb:(d.agg&&Nat.beq cs.length d.ks.length) with
  | false=>rw [e,hb,ba,atB] at h; simp at h
  | true=>
   rw [e,hb,ak] at h;simp only [aA] at hb;simp only [zd,aA] at h;exact .inl ⟨cs,rfl,bu hb.2,by rw [e]; simp only [hb.1,hb.2,dk,ak],h.2⟩
 ·have e:xP P A d v=cond d.agg .ao (match d.ks with | [c]=>gm P A c v | _=>.ao):=by
   cases v <;> first | rfl | exact absurd ⟨_,rfl⟩ ha
  have vR:v.cells = [v]:=by cases v <;> first | rfl | exact absurd ⟨_,rfl⟩ ha
  cases BP:d.agg with
  | true=>rw [e,BP,ak,atB] at h; simp at h
  | false=>
   rw [BP,ba] at e;rw [e] at h;split at h
   ·rename_i c hc
    rw [hc] at e;simp only at e;rcases A9 h with ⟨cs,e2,h2,_⟩ | ⟨h1,_,c',h2,h3⟩
    ·rw [BP] at h2; simp at h2
    ·rw [hc] at h2
     simp only [List.cons.injEq,and_true] at h2;subst h2;exact .inr ⟨fun cs ec=>ha ⟨cs,ec⟩,c,hc,e,h3,vR,h1⟩
   ·rw [atB] at h; simp at h
theorem J4 {A:aw} {d:VD} {v:KV} (h:zd d (xP P A d v)=true):v.cells.length=d.ks.length:=by
 rcases Ba h with ⟨cs,rfl,h1,_⟩ | ⟨_,c,h1,_,_,h2,_⟩
 ·exact h1
 ·rw [h1,h2]; rfl
theorem VK.awF {E0:Env} (hz:E0.z=E.z) {A:aw} {nr:Nat} {bs Ln:List Nat} (hk:Rk E E0 nr bs Ln) {d:VD} {v:KV} {u:Value} {j:Nat} (h:VK P E v u) (hg:zd d (xP P A d v)=true) (hf:rm E E0 (nf P A d.ks v.cells) j) (hr:Gy nr bs d.ks v.cells=true):VK P E0 (acB j Ln d (xP P A d v)) u:=by
 rcases Ba hg with ⟨cs,rfl,h1,h2,h3⟩ | ⟨h0,c,h1,h2,h3,h4,h5⟩
 ·rw [h2]
  obtain ⟨l,rfl,k⟩:=h.mi;exact .rW (bC.cellsIn hz hk k h1 h3 hf hr)
 ·rw [h2]
  have e:acB j Ln d (gm P A c v)=(match d.ks with | [.bA _]=>Oo j (gm P A c v) | [.arr _]=>SS j (gm P A c v) | [.ref w]=>K.inst Ln w | _=>gm P A c v):=by
   generalize gm P A c v=w at h5;cases w <;> first | rfl | exact absurd rfl (h5 _)
  rw [e,h1];rw [h1,h4] at hf hr;cases c with
  | k c=>exact (h.nCD (by simp) (by simp)).gCD (d:=.k c) hz h3 (by simp)
  | lit w=>exact (h.nCD (by simp) (by simp)).gCD (d:=.lit w) hz h3 (by simp)
  | bA t=>exact h.arj hz h3 (hf.head.2.1 (akD ..)) hf.head.1
  | arr t=>exact h.atA h3 hf.head.2.2 hf.head.1
  | ref w=>
   simp only [Gy,aA] at hr;exact VK.inst hk hr.1 (by rw [SU hr.2.1]; exact h)
theorem VK.aaH {A:aw} {nr:Nat} {bs:List Nat} {d:VD} {t:bO} {i:Tmp} (h:zd d (xP P A d (valOf t i))=true) (hr:Gy nr bs d.ks (valOf t i).cells=true):∃ v,t.get i=some v:=by
 cases hg:t.get i with
 | some v=>exact ⟨v,rfl⟩
 | none=>
  exfalso;have e:valOf t i = .ao:=by simp [valOf,hg]
  rw [e] at h hr;rcases Ba h with ⟨cs,e2,_⟩ | ⟨_,c,ug,_,h3,_,_⟩
  ·simp at e2
  ·cases c with
   | ref w=>
    rw [ug] at hr;have hr:(acz nr w&&(Q2 (K.inst bs w) .ao&&true))=true:=hr;simp only [aA] at hr;have h1:=hr.2.1;have:=SU h1;rw [this] at h1;simp [Q2] at h1
   | k c=>
    have h4:kindOk c (K.oY c .ao)=false:=by cases c <;> rfl
    have h5:gm P A (.k c) .ao = .ao:=by
     show cond (kindOk c (K.oY c .ao)) (K.ai P aj (leaf c (K.oY c .ao))) KV.ao=KV.ao;rw [h4]; rfl
    rw [h5] at h3;cases c <;> simp [lk,kindOk] at h3
   | lit w=>cases w <;> first | (simp [gm,lk,yK] at h3; done) | (rename_i f a b; cases f <;> cases a <;> cases b <;> simp [gm,lk,yK] at h3)
   | bA t=>simp [gm,lk,kindOk] at h3
   | arr t=>exact absurd h3 (by simp [gm,Q3,apN,lk,kindOk])
end Go.K
end
section
namespace Go.K
open Go Go.aB
variable {P:Program} {E:Env}
theorem agt:∀ {bs:List Nat},ze bs=true->∀ (i j b:Nat),bs[i]? = some b->bs[j]? = some b->i=j
 | [],_,i,j,b,hi,_=>by simp at hi
 | a::bs,h,i,j,b,hi,hj=>by
  simp only [ze,aA,ij,mz] at h;cases i with
  | zero=>
   cases j with
   | zero=>rfl
   | succ j=>
    simp at hi hj; subst hi;have:=h.1 a (jD hj);exact absurd (yZ a) (by rw [this]; simp)
  | succ i=>
   cases j with
   | zero=>
    simp at hi hj; subst hj;have:=h.1 a (jD hi);exact absurd (yZ a) (by rw [this]; simp)
   | succ j=>
    simp at hi hj;rw [agt h.2 i j b hi hj]
theorem yM:∀ {l:List (Option Nat)} {f:Nat},f∈lx l↔some f∈l
 | [],f=>by simp [lx]
 | some g::l,f=>by simp [lx,yM (l:=l)]
 | none::l,f=>by simp [lx,yM (l:=l)]
theorem zf:∀ {l:List (Option Nat)},ze (lx l)=true->∀ (i j f:Nat),l[i]? = some (some f)->l[j]? = some (some f)->i=j
 | [],_,i,j,b,hi,_=>by simp at hi
 | none::l,h,i,j,f,hi,hj=>by
  cases i with
  | zero=>simp at hi
  | succ i=>
   cases j with
   | zero=>simp at hj
   | succ j=>
    simp at hi hj;rw [zf (l:=l) h i j f hi hj]
 | some g::l,h,i,j,f,hi,hj=>by
  simp only [lx,ze,aA,ij,mz] at h;have key:∀ {k:Nat},l[k]? = some (some g)->False:=by
   intro k hk;have:=h.1 g (yM.2 (jD hk));exact absurd (yZ g) (by rw [this]; simp)
  cases i with
  | zero=>
   cases j with
   | zero=>rfl
   | succ j=>
    simp at hi hj; subst hi;exact (key hj).elim
  | succ i=>
   cases j with
   | zero=>
    simp at hi hj; subst hj;exact (key hi).elim
   | succ j=>
    simp at hi hj;rw [zf (l:=l) h.2 i j f hi hj]
theorem Oq:∀ {l:List FI} {i:Nat} {x:FI},l[i]? = some x->(Om l)[i]? = some x.f
 | [],_,_,h=>by simp at h
 | y::l,0,x,h=>by simp at h; subst h; rfl
 | y::l,i+1,x,h=>by simp at h; simpa [Om] using Oq h
theorem uj:∀ {l:List FI},(Om l).length=l.length
 | []=>rfl
 | y::l=>by simp [Om,uj]
theorem V6:∀ {l:List FI},aaT l=true->∀ x∈l,x.ok=true
 | [],_,x,h=>by simp at h
 | y::l,h,x,hx=>by
  simp only [aaT] at h;cases hl:aaT l with
  | false=>rw [hl] at h; simp at h
  | true=>
   rw [hl,ak] at h;rcases fA.1 hx with rfl | hx
   ·exact h
   ·exact V6 hl x hx
theorem iX:∀ (l:List kV) (A:aw),(u9 A l).next=A.next+l.length
 | [],_=>rfl
 | p::l,A=>by rw [u9,iX l]; simp; omega
theorem Hu:∀ {l:List kV} {A:aw} {x:Nat},x < A.next->(u9 A l).get x=A.get x
 | [],_,_,_=>rfl
 | p::l,A,x,h=>by rw [u9,Hu (by simp; omega),aw.dz,av (by omega)]
theorem Q5:∀ {l:List kV} {A:aw} {i:Nat} {p:kV},l[i]? = some p->(u9 A l).get (A.next+i)=some p
 | [],_,_,_,h=>by simp at h
 | q::l,A,0,p,h=>by
  simp at h; subst h;rw [u9,CH,Hu (by simp),aw.dz,aY rfl]
 | q::l,A,i+1,p,h=>by
  simp at h;have:=Q5 (A:=A.new q) h;rw [aw.cC] at this;rw [u9,show A.next+(i+1)=A.next+1+i by omega];exact this
theorem Yc:∀ {l:List kV} {A:aw} {x:Nat} {o:kV},(u9 A l).get x=some o->(A.get x=some o/\x < A.next+l.length)\/(x < A.next/\A.get x=some o)\/(∃ i p,x=A.next+i/\l[i]? = some p/\o=p)\/A.get x=some o
 | [],_,_,_,h=>.inr (.inr (.inr h))
 | p::l,A,x,o,h=>by
  rw [u9] at h;have key:(A.new p).get x=some o->(∃ i q,x=A.next+i/\(p::l)[i]? = some q/\o=q)\/A.get x=some o:=by
   intro h;rw [aw.dz] at h;split at h
   ·rename_i e; simp at h; exact .inl ⟨0,p,by omega,rfl,h.symm⟩
   ·exact .inr h
  rcases Yc h with ⟨h,_⟩ | ⟨_,h⟩ | ⟨i,q,e,h1,h2⟩ | h
  ·exact .inr (.inr (key h))
  ·exact .inr (.inr (key h))
  ·exact .inr (.inr (.inl ⟨i+1,q,by rw [e]; simp; omega,by simpa using h1,h2⟩))
  ·exact .inr (.inr (key h))
theorem Yd {l:List kV} {A:aw} {x:Nat} {o:kV} (h:(u9 A l).get x=some o):A.get x=some o\/∃ i p,x=A.next+i/\l[i]? = some p/\o=p:=by
 rcases Yc h with ⟨h,_⟩ | ⟨_,h⟩ | h | h
 ·exact .inl h
 ·exact .inl h
 ·exact .inr h
 ·exact .inl h
theorem J5:∀ (l:List (Option Nat)) (A:aw),(B4 A l).next=A.next
 | [],_=>rfl
 | some f::l,A=>by rw [B4,J5 l]; rfl
 | none::l,A=>by rw [B4,J5 l]
theorem IM:∀ {l:List (Option Nat)} {A:aw} {x:Nat},(B4 A l).get x=if x∈lx l then some .dead else A.get x
 | [],A,x=>by simp [B4,lx]
 | none::l,A,x=>by rw [B4,IM,lx]
 | some f::l,A,x=>by
  rw [B4,IM,lx,aw.cz];by_cases h1:x∈lx l
  ·rw [aY h1,aY (yY _ h1)]
  ·rw [av h1]
   by_cases h2:x=f
   ·rw [aY h2,aY (by simp [h2])]
   ·rw [av h2,av (by simp [h1,h2])]
theorem V7:∀ (bs:List Nat) (ps:List (Tmp×List CD×Nat)) (rs:List (List KV)) (A:aw),(pV A bs ps rs).next=A.next
 | [],_,_,_=>rfl
 | _::_,[],_,_=>rfl
 | _::_,_::_,[],_=>rfl
 | b::bs,p::ps,r::rs,A=>by rw [pV,V7 bs ps rs]; rfl
theorem Q6:∀ {bs:List Nat} {ps:List (Tmp×List CD×Nat)} {rs:List (List KV)} {A:aw} {x:Nat},x ∉ bs->(pV A bs ps rs).get x=A.get x
 | [],_,_,_,_,_=>rfl
 | _::_,[],_,_,_,_=>rfl
 | _::_,_::_,[],_,_,_=>rfl
 | b::bs,p::ps,r::rs,A,x,h=>by
  simp only [fA,not_or] at h;rw [pV,Q6 h.2,aw.cz,av h.1]
theorem anX:∀ {bs:List Nat} {ps:List (Tmp×List CD×Nat)} {rs:List (List KV)} {A:aw} {k b:Nat} {p:Tmp×List CD×Nat} {r:List KV},ze bs=true->bs[k]? = some b->ps[k]? = some p->rs[k]? = some r->(pV A bs ps rs).get b=some (.row r p.2.2)
 | [],_,_,_,_,_,_,_,_,h,_,_=>by simp at h
 | _::_,[],_,_,_,_,_,_,_,_,h,_=>by simp at h
 | _::_,_::_,[],_,_,_,_,_,_,_,_,h=>by simp at h
 | b::bs,p::ps,r::rs,A,k,x,p',r',hn,hb,hp,hr=>by
  have NL:=hn;simp only [ze,aA] at hn;cases k with
  | zero=>
   simp at hb hp hr;subst hb hp hr;rw [pV,Q6,aw.cz,aY rfl];intro hm;have:=ij.1 hn.1 b hm;simp at this
  | succ k=>
   simp only [Sz] at hb hp hr;rw [pV];exact anX hn.2 hb hp hr
theorem akF:∀ {ps:List (Tmp×List CD×Nat)} {rs:List (List KV)} {A:aw},rs.length=ps.length->(tJ A ps rs).next=A.next+ps.length
 | [],[],_,_=>rfl
 | [],_::_,_,h=>by simp at h
 | _::_,[],_,h=>by simp at h
 | p::ps,r::rs,A,h=>by rw [tJ,akF (by simpa using h)]; simp; omega
theorem anY:∀ {ps:List (Tmp×List CD×Nat)} {rs:List (List KV)} {A:aw} {x:Nat},x < A.next->(tJ A ps rs).get x=A.get x
 | [],_,_,_,_=>rfl
 | _::_,[],_,_,_=>rfl
 | p::ps,r::rs,A,x,h=>by rw [tJ,anY (by simp; omega),aw.dz,av (by omega)]
theorem ark:∀ {ps:List (Tmp×List CD×Nat)} {rs:List (List KV)} {A:aw} {k:Nat} {p:Tmp×List CD×Nat} {r:List KV},ps[k]? = some p->rs[k]? = some r->(tJ A ps rs).get (A.next+k)=some (.row r p.2.2)
 | [],_,_,_,_,_,h,_=>by simp at h
 | _::_,[],_,_,_,_,_,h=>by simp at h
 | p::ps,r::rs,A,k,p',r',hp,hr=>by
  cases k with
  | zero=>
   simp at hp hr; subst hp hr;rw [tJ,CH,anY (by simp),aw.dz,aY rfl]
  | succ k=>
   simp only [Sz] at hp hr;have:=ark (A:=A.new (.row r p.2.2)) hp hr;rw [tJ];simpa [Nat.add_comm,Nat.add_left_comm] using this
theorem anZ:∀ {ps:List (Tmp×List CD×Nat)} {rs:List (List KV)} {A:aw} {x:Nat} {o:kV},(tJ A ps rs).get x=some o->A.get x=some o\/∃ k p r,x=A.next+k/\ps[k]? = some p/\rs[k]? = some r/\o = .row r p.2.2
 | [],_,_,_,_,h=>.inl h
 | _::_,[],_,_,_,h=>.inl h
 | p::ps,r::rs,A,x,o,h=>by
  rw [tJ] at h;rcases anZ h with h | ⟨k,p',r',rfl,h1,h2,h3⟩
  ·rw [aw.dz] at h
   by_cases e:x=A.next
   ·rw [aY e] at h; simp at h
    exact .inr ⟨0,p,r,by omega,rfl,rfl,h.symm⟩
   ·rw [av e] at h; exact .inl h
  ·exact .inr ⟨k+1,p',r',by simp; omega,by simpa using h1,by simpa using h2,h3⟩
theorem akG:∀ (n:Nat) (l:List Nat) (k:Nat),(upto n l)[k]? = if k < n then some k else l[k - n]?
 | 0,l,k=>by simp [upto]
 | n+1,l,k=>by
  rw [upto,akG n];by_cases h:k < n
  ·rw [aY h,aY (by omega)]
  ·rw [av h]
   by_cases h2:k=n
   ·subst h2
    rw [aY (by omega)];simp
   ·rw [av (by omega),show k - n=(k - (n+1))+1 by omega]
    simp
theorem MA (S:aV) (k:Nat) (h:k < S.rows.length):S.ids[k]? = some k:=by rw [aV.ids,akG,aY h]
theorem Q7:∀ {a b:List Nat},yL a b=true->a=b
 | [],[],_=>rfl
 | [],_::_,h=>by simp [yL] at h
 | _::_,[],h=>by simp [yL] at h
 | x::a,y::b,h=>by
  simp only [yL,aA] at h;rw [bu h.1,Q7 h.2]
theorem J6 {t:bO} {A:aw} {p:Tmp×List CD×Nat} (h:(rowOf t A p).isSome=true):∃ b cs,A.get b=some (.row cs p.2.2)/\cs.length=p.2.1.length/\arf t A p=b/\IJ t A p=cs:=by
 unfold rowOf at h;split at h
 ·rename_i b hb
  split at h
  ·rename_i cs e hr
   cases hc:(Nat.beq e p.2.2&&Nat.beq cs.length p.2.1.length) with
   | false=>rw [hc] at h; simp at h
   | true=>
    have hro:rowOf t A p=some (b,cs):=by simp only [rowOf,hb,hr,hc,ak]
    simp only [aA] at hc;have he:=bu hc.1;subst he;exact ⟨b,cs,hr,bu hc.2,by simp [arf,hro],by simp [IJ,hro]⟩
  ·simp at h
 ·simp at h
structure dU (P:Program) (S:aV) (t:bO) (A:aw) (g:GR):Prop where
 rows:Bs P t A S.rows=true
 nodup:ze g.bs=true
 acA:SR t g.bs S.acA=true
 gT:jU S.gT g.vs=true
 ae5:ze (lx g.fs)=true
 au9:Q4 S.rows.length g.bs t S.gT=true
 ava:aaU S.rows.length g.bs t A S.rows=true
 xK:aaT (S.Te P t A)=true
 bs:g.bs=BV t A S.rows
 fs:g.fs=Om (S.Te P t A)
 vs:g.vs=r5 P t A S.gT
 rs:g.rs=Ll P t A S.rows
theorem MB {S:aV} {t:bO} {A:aw} (h:(S.gQ P t A).ok=true):dU P S t A (S.gQ P t A):=by
 unfold aV.gQ at h ⊢;simp only at h ⊢;cases hc:(Bs P t A S.rows&&ze (BV t A S.rows)&&SR t (BV t A S.rows) S.acA&&jU S.gT (r5 P t A S.gT)&&ze (lx (Om (S.Te P t A)))&&Q4 S.rows.length (BV t A S.rows) t S.gT&&aaU S.rows.length (BV t A S.rows) t A S.rows) with
 | false=>rw [hc] at h; simp at h
 | true=>
  rw [hc,ak] at h;simp only [aA] at hc;exact ⟨hc.1.1.1.1.1.1,hc.1.1.1.1.1.2,hc.1.1.1.1.2,hc.1.1.1.2,hc.1.1.2,hc.1.2,hc.2,h,rfl,rfl,rfl,rfl⟩
theorem agu {t:bO} {A:aw} : ∀ {ps:List (Tmp×List CD×Nat)} {k:Nat} {p:Tmp×List CD×Nat},ps[k]? = some p->(BV t A ps)[k]? = some (arf t A p)
 | [],_,_,h=>by simp at h
 | p::ps,0,q,h=>by simp at h; subst h; rfl
 | p::ps,k+1,q,h=>by simp at h; simpa [BV] using agu h
theorem Fo {t:bO} {A:aw} : ∀ {ps:List (Tmp×List CD×Nat)},(BV t A ps).length=ps.length
 | []=>rfl
 | p::ps=>by simp [BV,Fo]
theorem Ug {t:bO} {A:aw} : ∀ {ps:List (Tmp×List CD×Nat)},(Ll P t A ps).length=ps.length
 | []=>rfl
 | p::ps=>by simp [Ll,Ug]
theorem acE {t:bO} {A:aw} : ∀ {ps:List (Tmp×List CD×Nat)},Bs P t A ps=true->∀ {k:Nat} {p:Tmp×List CD×Nat},ps[k]? = some p->(rowOf t A p).isSome=true/\dT p.2.1 (gp P A p.2.1 (IJ t A p))=true
 | [],_,k,p,h=>by simp at h
 | q::ps,h,k,p,hp=>by
  simp only [Bs,aA] at h;cases k with
  | zero=>simp at hp; subst hp; exact ⟨h.1,h.2.1⟩
  | succ k=>simp at hp; exact acE h.2.2 hp
theorem Ye:∀ {ps:List (Tmp×List CD×Nat)} {rs:List (List KV)},rs.length=ps.length->∀ (j:Nat) (bs:List Nat),(acD j bs ps rs).length=ps.length
 | [],[],_,_,_=>rfl
 | [],_::_,h,_,_=>by simp at h
 | _::_,[],h,_,_=>by simp at h
 | p::ps,r::rs,h,j,bs=>by simp [acD,Ye (by simpa using h)]
def Cr (j:Nat):List (Tmp×List CD×Nat)->Nat->Nat
 | [],_=>j
 | _::_,0=>j
 | p::ps,k+1=>Cr (j+tI p.2.1) ps k
theorem SV {bs:List Nat} : ∀ {ps:List (Tmp×List CD×Nat)} {rs:List (List KV)} {j k:Nat} {p:Tmp×List CD×Nat} {r:List KV},ps[k]? = some p->rs[k]? = some r->(acD j bs ps rs)[k]? = some (sC (Cr j ps k) bs p.2.1 r)
 | [],_,_,_,_,_,h,_=>by simp at h
 | _::_,[],_,_,_,_,_,h=>by simp at h
 | p::ps,r::rs,j,0,p',r',h1,h2=>by simp at h1 h2; subst h1 h2; rfl
 | p::ps,r::rs,j,k+1,p',r',h1,h2=>by
  simp at h1 h2;simp only [acD,Sz];exact SV h1 h2
theorem agv {E0:Env} {t:bO} {A:aw} : ∀ {ps:List (Tmp×List CD×Nat)} {j:Nat},Bs P t A ps=true->rm E E0 (IK P t A ps) j->∀ {k:Nat} {p:Tmp×List CD×Nat},ps[k]? = some p->rm E E0 (nf P A p.2.1 (IJ t A p)) (Cr j ps k)
 | [],_,_,_,_,_,h=>by simp at h
 | q::ps,j,hr,hf,k,p,hp=>by
  simp only [Bs,aA] at hr;obtain ⟨b,cs,_,hl,_,hC⟩:=J6 hr.1;cases k with
  | zero=>simp at hp; subst hp; exact hf.left
  | succ k=>
   simp at hp;have:=hf.right;rw [ml (by rw [hC]; exact hl)] at this;exact agv hr.2.2 this hp
theorem Fp {t:bO} {A:aw} : ∀ {ps:List (Tmp×VD)},jU ps (r5 P t A ps)=true->(Gx P t A ps).length=pz ps
 | [],_=>rfl
 | p::ps,h=>by
  simp only [r5,jU,aA] at h;simp only [Gx,pz,nH];rw [ml (J4 h.1),Fp h.2]
def MC (P:Program) (A:aw) (x:FI) (q:kV):Prop:=
 (∃ n sz,q = .bA n sz/\((x.f=none/\n=0)\/∃ f,x.f=some f/\A.get f=some (.bA n sz)))\/
 ∃ t v,q = .arr v/\((x.f=none/\1<=bD P t/\v=K.ai P aj (.ts t .any 0 [] qX))\/∃ f m N es acc,x.f=some f/\A.get f=some (.arr (.ts t m N es acc))/\v=K.ai P aj (.ts t .any N es acc))
theorem atC {A:aw} {t:TypeId} {v:KV} (dt:(Lm P A t v).ok=true) (hg:lk (.arr t) (gm P A (.arr t) v)=true):MC P A (Lm P A t v) (.arr (gm P A (.arr t) v)):=by
 rcases aaV hg with rfl | ⟨b,n,m,N,es,acc,rfl,hb,he⟩
 ·exact .inr ⟨t,_,rfl,.inl ⟨rfl,fR dt,rfl⟩⟩
 ·refine .inr ⟨t,_,rfl,.inr ⟨b,m,N,es,acc,?_,hb,he⟩⟩
  simp only [Lm,hb]
theorem atD {A:aw} {t:TypeId} {v:KV} (dt:(vZ P A t v).ok=true) (hg:lk (.bA t) (gm P A (.bA t) v)=true):MC P A (vZ P A t v) (.bA (lenOf (gm P A (.bA t) v)) (szL P t)):=by
 refine .inl ⟨_,_,rfl,?_⟩;cases v with
 | lY=>exact .inl ⟨rfl,rfl⟩
 | ts t' m n es acc=>
  cases m with
  | bA f=>
   have e1:gm P A (.bA t) (.ts t' (.bA f) n es acc)=cond (Nat.beq t t') (K.ai P aj (.ts t .any n es acc)) .ao:=rfl;rw [e1] at hg ⊢;cases hb:Nat.beq t t' with
   | false=>rw [hb] at hg; simp [lk,kindOk] at hg
   | true=>
    rw [ak];refine .inr ⟨f,?_,?_⟩
    ·revert dt
     unfold vZ;simp only;split
     ·intro _; rfl
     ·intro dt; simp at dt
    ·revert dt
     unfold vZ;simp only;split
     ·rename_i top sz he
      intro dt;simp only at dt;cases hs:Nat.beq sz (szL P t) with
      | false=>rw [hs] at dt; simp at dt
      | true=>
       rw [hs,ak] at dt;have h1:=bu hs;have h2:=bu (show Nat.beq top n=true from dt);subst h1 h2;exact he
     ·intro dt; simp at dt
  | any=>simp [vZ] at dt
  | exact=>simp [vZ] at dt
 | _=>simp [vZ] at dt
theorem yN {A:aw} : ∀ {ds:List CD} {vs:List KV} {i:Nat} {x:FI},vs.length=ds.length->dT ds (gp P A ds vs)=true->(nf P A ds vs)[i]? = some x->x.ok=true->∃ q,(rl P ds (gp P A ds vs))[i]? = some q/\MC P A x q
 | [],[],_,_,_,_,h,_=>by simp [nf] at h
 | [],_::_,_,_,e,_,_,_=>by simp at e
 | _::_,[],_,_,e,_,_,_=>by simp at e
 | .k c::ds,v::vs,i,x,e,hg,h,dt=>by
  simp only [gp,dT,aA] at hg;have h' : (nf P A ds vs)[i]? = some x:=h;exact yN (ds:=ds) (vs:=vs) (by simpa using e) hg.2 h' dt
 | .lit c::ds,v::vs,i,x,e,hg,h,dt=>by
  simp only [gp,dT,aA] at hg;have h' : (nf P A ds vs)[i]? = some x:=h;exact yN (ds:=ds) (vs:=vs) (by simpa using e) hg.2 h' dt
 | .ref c::ds,v::vs,i,x,e,hg,h,dt=>by
  simp only [gp,dT,aA] at hg;have h' : (nf P A ds vs)[i]? = some x:=h;exact yN (ds:=ds) (vs:=vs) (by simpa using e) hg.2 h' dt
 | .bA t::ds,v::vs,i,x,e,hg,h,dt=>by
  simp only [gp,dT,aA] at hg;cases i with
  | zero=>
   simp [nf] at h;subst h;exact ⟨_,rfl,atD dt hg.1⟩
  | succ i=>
   simp [nf] at h;obtain ⟨q,h1,h2⟩:=yN (by simpa using e) hg.2 h dt;exact ⟨q,by simpa [rl,gp] using h1,h2⟩
 | .arr t::ds,v::vs,i,x,e,hg,h,dt=>by
  simp only [gp,dT,aA] at hg;cases i with
  | zero=>
   simp [nf] at h;subst h;exact ⟨_,rfl,atC dt hg.1⟩
  | succ i=>
   simp [nf] at h;obtain ⟨q,h1,h2⟩:=yN (by simpa using e) hg.2 h dt;exact ⟨q,by simpa [rl,gp] using h1,h2⟩
theorem pI:∀ {ds:List CD} {vs:List KV},vs.length=ds.length->(rl P ds vs).length=tI ds
 | [],[],_=>rfl
 | [],_::_,e=>by simp at e
 | _::_,[],e=>by simp at e
 | .k c::ds,v::vs,e=>by simp only [rl,tI]; exact pI (by simpa using e)
 | .lit w::ds,v::vs,e=>by simp only [rl,tI]; exact pI (by simpa using e)
 | .ref w::ds,v::vs,e=>by simp only [rl,tI]; exact pI (by simpa using e)
 | .bA t::ds,v::vs,e=>by simp only [rl,tI,CI]; rw [pI (by simpa using e)]
 | .arr t::ds,v::vs,e=>by simp only [rl,tI,CI]; rw [pI (by simpa using e)]
theorem Hv:∀ {ds:List CD} {vs:List KV},dT ds vs=true->vs.length=ds.length
 | [],[],_=>rfl
 | [],_::_,h=>by simp [dT] at h
 | _::_,[],h=>by simp [dT] at h
 | d::ds,v::vs,h=>by
  simp only [dT,aA] at h;simp [Hv h.2]
theorem acF {d:VD} {v:KV} (h:zd d v=true):v.cells.length=d.ks.length:=by
 rcases A9 h with ⟨cs,rfl,_,h1⟩ | ⟨h0,_,c,h1,_⟩
 ·exact Hv h1
 ·have:v.cells = [v]:=by cases v <;> first | rfl | exact absurd rfl (h0 _)
  rw [this,h1]; rfl
theorem Fq:∀ {ps:List (Tmp×VD)} {vs:List KV},jU ps vs=true->(Az P ps vs).length=pz ps
 | [],[],_=>rfl
 | [],_::_,h=>by simp [jU] at h
 | _::_,[],h=>by simp [jU] at h
 | p::ps,v::vs,h=>by
  simp only [jU,aA] at h;simp only [Az,pz,nH];rw [pI (acF h.1),Fq h.2]
theorem acG {t:bO} {A:aw} : ∀ {ps:List (Tmp×VD)} {i:Nat} {x:FI},jU ps (r5 P t A ps)=true->(Gx P t A ps)[i]? = some x->x.ok=true->∃ p,(Az P ps (r5 P t A ps))[i]? = some p/\MC P A x p
 | [],_,_,_,h,_=>by simp [Gx] at h
 | p::ps,i,x,hg,h,dt=>by
  simp only [r5,jU,aA] at hg;simp only [Gx] at h;have hl:=J4 hg.1;by_cases hi:i < (nf P A p.2.ks (valOf t p.1).cells).length
  ·rw [r7 hi] at h
   have hg' : dT p.2.ks (gp P A p.2.ks (valOf t p.1).cells)=true/\(xP P A p.2 (valOf t p.1)).cells=gp P A p.2.ks (valOf t p.1).cells:=by
    rcases Ba hg.1 with ⟨cs,e,_,h2,h3⟩ | ⟨_,c,h1,h2,h3,h4,h5⟩
    ·rw [e] at h2 ⊢; exact ⟨h3,by rw [h2]; rfl⟩
    ·rw [h4,h1]
     refine ⟨by simp [gp,dT,h3],?_⟩;rw [h2];show (gm P A c (valOf t p.1)).cells = [gm P A c (valOf t p.1)];generalize gm P A c (valOf t p.1)=w at h5 ⊢;cases w <;> first | rfl | exact absurd rfl (h5 _)
   obtain ⟨q,h2,h3⟩:=yN hl hg'.1 h dt;refine ⟨q,?_,h3⟩;simp only [r5,Az];rw [hg'.2,r7 (dq.1 h2).1];exact h2
  ·rw [uC (by omega)] at h
   obtain ⟨q,h1,h2⟩:=acG hg.2 h dt;refine ⟨q,?_,h2⟩;simp only [r5,Az];have e1:(rl P p.2.ks (xP P A p.2 (valOf t p.1)).cells).length=(nf P A p.2.ks (valOf t p.1).cells).length:=by rw [pI (acF hg.1),ml hl]
   rw [uC (by omega),e1];exact h1
theorem acH {t:bO} {A:aw} : ∀ {ps:List (Tmp×List CD×Nat)} {i:Nat} {x:FI},Bs P t A ps=true->(IK P t A ps)[i]? = some x->x.ok=true->∃ p,(BZ P ps (Ll P t A ps))[i]? = some p/\MC P A x p
 | [],_,_,_,h,_=>by simp [IK] at h
 | p::ps,i,x,hg,h,dt=>by
  simp only [Bs,aA] at hg;simp only [IK] at h;obtain ⟨b,cs,_,hl,_,hC⟩:=J6 hg.1;rw [<- hC] at hl;by_cases hi:i < (nf P A p.2.1 (IJ t A p)).length
  ·rw [r7 hi] at h
   obtain ⟨q,h2,h3⟩:=yN hl hg.2.1 h dt;refine ⟨q,?_,h3⟩;simp only [Ll,BZ];rw [r7 (dq.1 h2).1];exact h2
  ·rw [uC (by omega)] at h
   obtain ⟨q,h1,h2⟩:=acH hg.2.2 h dt;refine ⟨q,?_,h2⟩;simp only [Ll,BZ];have e1:(rl P p.2.1 (gp P A p.2.1 (IJ t A p))).length=(nf P A p.2.1 (IJ t A p)).length:=by rw [pI (Hv hg.2.1),ml hl]
   rw [uC (by omega),e1];exact h1
theorem Lo:∀ {ps:List (Tmp×List CD×Nat)} {rs:List (List KV)},rs.length=ps.length->(∀ (k:Nat) p r,ps[k]? = some p->rs[k]? = some r->dT p.2.1 r=true)->∀ {l:Nat},l=(ps.map fun p=>tI p.2.1).sum->(BZ P ps rs).length=l
 | [],[],_,_,l,hl=>by subst hl; rfl
 | [],_::_,h,_,_,_=>by simp at h
 | _::_,[],h,_,_,_=>by simp at h
 | p::ps,r::rs,h,hk,l,hl=>by
  simp only [BZ,nH];rw [pI (Hv (hk 0 p r rfl rfl)),Lo (by simpa using h) (fun k p r h1 h2=>hk (k+1) p r (by simpa using h1) (by simpa using h2)) rfl,hl];simp
theorem Uh {t:bO} {A:aw} : ∀ {ps:List (Tmp×List CD×Nat)},Bs P t A ps=true->(IK P t A ps).length=(ps.map fun p=>tI p.2.1).sum
 | [],_=>rfl
 | p::ps,h=>by
  simp only [Bs,aA] at h;obtain ⟨b,cs,_,hl,_,hC⟩:=J6 h.1;simp only [IK,nH,List.map_cons,List.sum_cons];rw [ml (by rw [hC]; exact hl),Uh h.2.2]
end Go.K
end
section
namespace Go.K
open Go Go.aB
variable {P:Program} {E:Env}
noncomputable def Env.sub (E:Env) (A:aw) (bs:List Nat) (fs:List (Option Nat)) (nr:Nat):Env:=
 { κ:=fun i=>(bs[i]?).bind E.κ,z:=E.z,φ:=fun i=>if nr<=i then (fs[i - nr]?).bind (fun f=>f.bind fun x=>cond (BX (A.get x)) (E.φ x) none) else none,α:=fun i=>if nr<=i then (fs[i - nr]?).bind (fun f=>f.bind E.α) else none }
theorem SW {E:Env} {A:aw} {x q:Nat} (e:cond (BX (A.get x)) (E.φ x) none=some q):E.φ x=some q/\BX (A.get x)=true:=by
 cases h:BX (A.get x) with
 | true=>rw [h] at e; exact ⟨e,rfl⟩
 | false=>rw [h] at e; simp at e
theorem an0 {A:aw} {x:Nat} (h:BX (A.get x)=true):∃ n sz,A.get x=some (.bA n sz):=by
 unfold BX at h;split at h
 ·rename_i n sz e; exact ⟨n,sz,e⟩
 ·simp at h
theorem Env.agw {A:aw} {bs:List Nat} {fs:List (Option Nat)} {nr i:Nat} : (E.sub A bs fs nr).φ (nr+i)=(fs[i]?).bind (fun f=>f.bind fun x=>cond (BX (A.get x)) (E.φ x) none):=by
 simp only [Env.sub];rw [aY (by omega),show nr+i - nr=i by omega]
theorem Env.IP {A:aw} {bs:List Nat} {fs:List (Option Nat)} {nr i:Nat} : (E.sub A bs fs nr).α (nr+i)=(fs[i]?).bind (fun f=>f.bind E.α):=by
 simp only [Env.sub];rw [aY (by omega),show nr+i - nr=i by omega]
theorem Ot:∀ {l:List (Nat×KV)} {i:Nat} {v:KV},(nm l).get i=some v->(i,v)∈l
 | [],i,v,h=>by simp [nm] at h
 | p::ps,i,v,h=>by
  rw [nm,Trie.qV] at h;split at h
  ·rename_i e
   simp at h; subst h e;simp
  ·exact yY _ (Ot h)
theorem lL.nm {ρ:Ren} {l:List (Nat×KV)} {N:Nat} {a:Act} (hs:a.tmps.size=N) (h:∀ q∈l,q.1 < N/\VC P E ρ q.2 (a.tmps.getD q.1 undef)):lL P E ρ (K.nm l) N a:=by
 refine ⟨hs,fun i=>?_,fun i hi=>?_⟩
 ·cases hg:(K.nm l).get i with
  | none=>exact .ao
  | some v=>exact (h _ (Ot hg)).2
 ·cases hg:(K.nm l).get i with
  | none=>rfl
  | some v=>have:=(h _ (Ot hg)).1; exact absurd hi (Nat.not_le_of_lt this)
theorem Ey {A:aw} {x:Nat} : ∀ {ds:List CD} {vs:List KV} {fi:FI},fi∈nf P A ds vs->fi.fm=true->fi.f=some x->BX (A.get x)=true
 | [],_,_,h,_,_=>by simp [nf] at h
 | d::ds,[],_,h,_,_=>by cases d <;> simp [nf] at h
 | d::ds,v::vs,fi,h,hm,hx=>by
  cases d <;> simp only [nf,fA] at h
  ·exact Ey h hm hx
  ·exact Ey h hm hx
  ·rcases h with rfl | h
   ·exact asf hx
   ·exact Ey h hm hx
  ·rcases h with rfl | h
   ·rw [ase] at hm; simp at hm
   ·exact Ey h hm hx
  ·exact Ey h hm hx
theorem aV.auA (S:aV) {t:bO} {A:aw} {x:Nat} {fi:FI} (h:fi∈S.Te P t A) (hm:fi.fm=true) (hx:fi.f=some x):BX (A.get x)=true:=by
 have one:∀ {ps:List (Tmp×VD)},fi∈Gx P t A ps->BX (A.get x)=true:=by
  intro ps
  induction ps with
  | nil=>intro h; simp [Gx] at h
  | cons p ps ih=>
   intro h;simp only [Gx,nI] at h;exact h.elim (fun h=>Ey h hm hx) ih
 have two:∀ {ps:List (Tmp×List CD×Nat)},fi∈IK P t A ps->BX (A.get x)=true:=by
  intro ps
  induction ps with
  | nil=>intro h; simp [IK] at h
  | cons p ps ih=>
   intro h;simp only [IK,nI] at h;exact h.elim (fun h=>Ey h hm hx) ih
 simp only [aV.Te,nI] at h;exact h.elim one two
theorem dU.hyp {S:aV} {t:bO} {A:aw} {g:GR} (h:dU P S t A g):rm E (E.sub A g.bs g.fs S.nr) (S.Te P t A) S.nr:=fun i fi hi=>by
 refine ⟨V6 h.xK fi (jD hi),fun hm x q hx hq=>?_,fun x q hx hq=>?_⟩
 ·rw [Env.agw,h.fs,Oq hi,fy,hx,fy,S.auA (jD hi) hm hx]
  exact hq
 ·rw [Env.IP,h.fs,Oq hi,fy,hx,fy]
  exact hq
theorem an1 {E0:Env} {t:bO} {A:aw} {ρ:Ren} {N nr:Nat} {bs Ln:List Nat} {a:Act} (hz:E0.z=E.z) (hk:Rk E E0 nr bs Ln) (ht:lL P E ρ t N a):∀ {ps:List (Tmp×VD)} {j:Nat},jU ps (r5 P t A ps)=true->rm E E0 (Gx P t A ps) j->Q4 nr bs t ps=true->∀ q∈acC j Ln ps (r5 P t A ps),q.1 < N/\VC P E0 ρ q.2 (a.tmps.getD q.1 undef)
 | [],_,_,_,_,q,hq=>by simp [acC] at hq
 | p::ps,j,hg,hf,hr,q,hq=>by
  simp only [Q4,aA] at hr;simp only [r5,jU,aA] at hg;simp only [r5,acC,fA] at hq;rcases hq with rfl | hq
  ·refine ⟨?_,?_⟩
   ·obtain ⟨v,hv⟩:=VK.aaH hg.1 hr.1
    by_cases hN:N<=p.1
    ·rw [ht.none _ hN] at hv; simp at hv
    ·exact Nat.lt_of_not_le hN
   ·obtain ⟨u,h1,h2⟩:=ht.val p.1
    exact ⟨u,h1.awF hz hk hg.1 hf.left hr.1,h2⟩
  ·have h2:=hf.right
   rw [ml (J4 hg.1)] at h2;exact an1 hz hk ht hg.2 h2 hr.2 q hq
theorem Ui {bs:List Nat} : ∀ {ps:List (Tmp×Nat×Nat)} {q:Nat×KV},q∈Cq bs ps->∃ p∈ps,q=(p.1,.ptr (bs.getD p.2.1 0) p.2.2)
 | [],_,h=>by simp [Cq] at h
 | p::ps,q,h=>by
  simp only [Cq,fA] at h;rcases h with rfl | h
  ·exact ⟨p,by simp,rfl⟩
  ·obtain ⟨p',h1,h2⟩:=Ui h
   exact ⟨p',yY _ h1,h2⟩
theorem Q8 {t:bO} {bs:List Nat} : ∀ {ps:List (Tmp×Nat×Nat)},SR t bs ps=true->∀ q∈ps,∃ b,t.get q.1=some (.ptr b q.2.2)/\bs[q.2.1]? = some b
 | [],_,q,hq=>by simp at hq
 | p::ps,h,q,hq=>by
  simp only [SR,aA] at h;rcases fA.1 hq with rfl | hq
  ·have h1:=h.1
   unfold atz at h1;split at h1
   ·rename_i b o b' e1 e2
    simp only [aA] at h1;have:=bu h1.1;have:=bu h1.2
    subst_vars
    exact ⟨_,e1,e2⟩
   ·simp at h1
  ·exact Q8 h.2 q hq
theorem dU.rk {S:aV} {t:bO} {A:aw} {g:GR} (h:dU P S t A g):Rk E (E.sub A g.bs g.fs S.nr) S.rows.length g.bs S.ids:=fun j x hj e=>by
 have bG:j < g.bs.length:=by rw [h.bs,Fo]; exact hj
 rw [iL,dr bG] at e;rw [iL,MA S j hj];simp only [Env.sub,ee,dr bG,fy];exact e
theorem dU.tkr {S:aV} {t:bO} {A:aw} {g:GR} {ρ:Ren} {N:Nat} {a:Act} (h:dU P S t A g) (ht:lL P E ρ t N a):lL P (E.sub A g.bs g.fs S.nr) ρ (S.tm S.nr S.ids g.vs) N a:=by
 refine lL.nm ht.size fun q hq=>?_;have hh:rm E (E.sub A g.bs g.fs S.nr) (S.Te P t A) S.nr:=h.hyp;rcases nI.1 hq with hq | hq
 ·rw [h.vs] at hq
  exact an1 (E:=E) (E0:=E.sub A g.bs g.fs S.nr) (A:=A) rfl h.rk ht (h.vs ▸ h.gT) hh.left h.au9 q hq
 ·obtain ⟨p,hp,rfl⟩:=Ui hq
  obtain ⟨b,h1,h2⟩:=Q8 h.acA p hp;refine ⟨?_,?_⟩
  ·by_cases hN:N<=p.1
   ·rw [ht.none _ hN] at h1; simp at h1
   ·exact Nat.lt_of_not_le hN
  ·have hk:p.2.1 < S.rows.length:=by
    have:=(dq.1 h2).1;rw [h.bs,Fo] at this; exact this
   have hv:=ht.val p.1;rw [h1] at hv;obtain ⟨u,h3,h4⟩:=hv;refine ⟨u,?_,h4⟩;obtain ⟨x,h5,rfl⟩:=(show VK P E (.ptr b p.2.2) u from h3).j9;have:S.ids.getD p.2.1 0=p.2.1:=by rw [iL,MA S _ hk]; rfl
   rw [this];exact .BO (by simp [Env.sub,h2,h5])
theorem dU.row {S:aV} {t:bO} {A:aw} {g:GR} (h:dU P S t A g) {k:Nat} {p:Tmp×List CD×Nat} (hp:S.rows[k]? = some p):∃ b cs,g.bs[k]? = some b/\A.get b=some (.row cs p.2.2)/\cs.length=p.2.1.length/\IJ t A p=cs/\g.rs[k]? = some (gp P A p.2.1 cs)/\dT p.2.1 (gp P A p.2.1 cs)=true:=by
 obtain ⟨h1,h2⟩:=acE h.rows hp;obtain ⟨b,cs,h4,h5,h6,h7⟩:=J6 h1;refine ⟨b,cs,by rw [h.bs,agu hp,h6],h4,h5,h7,?_,by rw [<- h7]; exact h2⟩;have:∀ {ps:List (Tmp×List CD×Nat)} {k:Nat},ps[k]? = some p->(Ll P t A ps)[k]? = some (gp P A p.2.1 (IJ t A p)):=by
  intro ps
  induction ps with
  | nil=>intro k h; simp at h
  | cons q ps ih=>
   intro k h;cases k with
   | zero=>simp at h; subst h; rfl
   | succ k=>simp at h; simpa [Ll] using ih h
 rw [h.rs,this hp,h7]
theorem dU.vb {S:aV} {t:bO} {A:aw} {g:GR} (h:dU P S t A g):g.rs.length=S.rows.length:=by rw [h.rs,Ug]
theorem dU.agx {S:aV} {t:bO} {A:aw} {g:GR} (h:dU P S t A g):g.bs.length=S.rows.length:=by rw [h.bs,Fo]
theorem dU.Aq {S:aV} {t:bO} {A:aw} {g:GR} (h:dU P S t A g):∀ (k:Nat) p r,S.rows[k]? = some p->g.rs[k]? = some r->dT p.2.1 r=true:=fun k p r hp hr=>by
 obtain ⟨b,cs,_,_,_,_,h1,h2⟩:=h.row hp;rw [hr] at h1; simp at h1; subst h1; exact h2
theorem dU.lens {S:aV} {t:bO} {A:aw} {g:GR} (h:dU P S t A g):(S.lens P g.vs g.rs).length=(S.Te P t A).length:=by
 simp only [aV.lens,aV.Te,nH];rw [Fq h.gT,Lo h.vb h.Aq rfl,Uh h.rows,Fp (h.vs ▸ h.gT)]
theorem dU.fact {S:aV} {t:bO} {A:aw} {g:GR} (h:dU P S t A g) {i:Nat} {q:kV} (hq:(S.lens P g.vs g.rs)[i]? = some q):∃ fi,(S.Te P t A)[i]? = some fi/\g.fs[i]? = some fi.f/\MC P A fi q:=by
 have bG:i < (S.Te P t A).length:=by rw [<- h.lens]; exact (dq.1 hq).1
 have hfi:=dr bG;have dt:=V6 h.xK _ (List.getElem_mem bG);refine ⟨_,hfi,by rw [h.fs]; exact Oq hfi,?_⟩;have hv:(Gx P t A S.gT).length=pz S.gT:=Fp (h.vs ▸ h.gT);have hlv:(Az P S.gT g.vs).length=pz S.gT:=Fq h.gT;simp only [aV.lens] at hq;have an2:=hfi;simp only [aV.Te] at an2;by_cases hi:i < pz S.gT
 ·rw [r7 (by omega)] at hq an2
  obtain ⟨p,h1,h2⟩:=acG (h.vs ▸ h.gT) an2 dt;rw [h.vs,h1] at hq;simp at hq; subst hq; exact h2
 ·rw [uC (by omega)] at hq an2
  obtain ⟨p,h1,h2⟩:=acH h.rows an2 dt;rw [h.rs,hlv,<- hv,h1] at hq;simp at hq; subst hq; exact h2
theorem V8 {t:bO} {A:aw} {nr:Nat} {bs:List Nat} : ∀ {ps:List (Tmp×List CD×Nat)},aaU nr bs t A ps=true->∀ {k:Nat} {p:Tmp×List CD×Nat},ps[k]? = some p->Gy nr bs p.2.1 (IJ t A p)=true
 | [],_,k,p,h=>by simp at h
 | q::ps,h,k,p,hp=>by
  simp only [aaU,aA] at h;cases k with
  | zero=>simp at hp; subst hp; exact h.1
  | succ k=>simp at hp; exact V8 h.2 hp
theorem p8 {S:aV} {rs:List (List KV)} (h:rs.length=S.rows.length):(tJ .empty S.rows (S.IL S.nr S.ids rs)).next=S.nr:=by
 show (tJ .empty S.rows (acD (S.nr+pz S.gT) S.ids S.rows rs)).next=S.nr;rw [akF (Ye h _ _)];simp [aw.empty,aV.nr]
theorem IQ {S:aV} {vs:List KV} {rs:List (List KV)} (h:rs.length=S.rows.length) {b:Nat} {o:kV} (hb:(S.mem P vs rs).get b=some o) :
  (∃ p r,S.rows[b]? = some p/\rs[b]? = some r/\o = .row (sC (Cr (S.nr+pz S.gT) S.rows b) S.ids p.2.1 r) p.2.2)\/∃ i q,b=S.nr+i/\(S.lens P vs rs)[i]? = some q/\o=q:=by
 rcases Yd hb with hb | ⟨i,q,h1,h2,h3⟩
 ·rcases anZ hb with e | ⟨k,p,r,rfl,h1,h2,h3⟩
  ·simp [aw.empty,aw.get] at e
  ·have hk:(aw.empty.next+k)=k:=by simp [aw.empty]
   rw [hk];have bG:k < rs.length:=by rw [h]; exact (dq.1 h1).1
   have e1:=dr bG;have e2:=SV (bs:=S.ids) (j:=S.nr+pz S.gT) h1 e1;have h2:(acD (S.nr+pz S.gT) S.ids S.rows rs)[k]? = some r:=h2;rw [e2] at h2;simp at h2;exact .inl ⟨p,_,h1,e1,by rw [h3,<- h2]⟩
 ·rw [p8 h] at h1
  exact .inr ⟨i,q,h1,h2,h3⟩
theorem Q9 {t:TypeId} {n:Nat} {es:List KV} {acc:Nat->KV} {bK:List Value} (ht:ku P t n es acc) (h:bC P E es bK):∃ pQ aE,K.ai P aj (.ts t .any n es acc) = .ts t .any n pQ aE/\ku P t n pQ aE/\bC P E pQ bK:=by
 refine ⟨(List.range n).map fun i=>ax P (K.ai P 5) t (acc i),fun i=>ax P (K.ai P 5) t (acc i),rfl,?_⟩;have C2:∀ i,i < n->∃ e e',es[i]? = some e/\bK[i]? = some e'/\acc i=e/\cP (bB P t) e=true/\VK P E e e':=by
  intro i hi;have hl:i < es.length:=by rw [<- ht.len]; exact hi
  have e1:=dr hl;obtain ⟨e',e2,e3⟩:=h.get e1;exact ⟨_,e',e1,e2,by rw [ht.acc i hi,iL,e1]; rfl,kv ht.typed e1,e3⟩
 have hlen:bK.length=n:=by rw [h.length,ht.len]
 refine ⟨⟨by simp,fun i hi=>?_,?_⟩,?_⟩
 ·rw [iL,CG,List.getElem?_range hi]; rfl
 ·refine rK fun i e he=>?_
  rw [CG] at he;by_cases hi:i < n
  ·rw [List.getElem?_range hi] at he
   simp only [Option.map_some,di] at he;obtain ⟨x,x',_,_,q3,q4,_⟩:=C2 i hi;rw [<- he,q3,ax];obtain ⟨r1,r2,_⟩:=NZ q4;rw [r1];exact af4 q4 (Iy 5 r2) (by simp)
  ·rw [List.getElem?_eq_none (by simp; omega)] at he; simp at he
 ·refine bC.Xt (by simp [hlen]) fun i e e' he K8=>?_
  rw [CG] at he;by_cases hi:i < n
  ·rw [List.getElem?_range hi] at he
   simp only [Option.map_some,di] at he;obtain ⟨x,x',_,q2,q3,q4,q5⟩:=C2 i hi;rw [K8] at q2;simp only [di] at q2;subst q2;rw [<- he,q3];exact VK.ax 5 q4 q5
  ·rw [List.getElem?_eq_none (by simp; omega)] at he; simp at he
theorem dU.arl {S:aV} {t:bO} {A:aw} {g:GR} (h:dU P S t A g) {b:Nat} {v:KV} (hb:(S.mem P g.vs g.rs).get b=some (.arr v)) :
  ∃ i T,b=S.nr+i/\((g.fs[i]? = some none/\1<=bD P T/\v=K.ai P aj (.ts T .any 0 [] qX))\/∃ f m N es acc,g.fs[i]? = some (some f)/\A.get f=some (.arr (.ts T m N es acc))/\v=K.ai P aj (.ts T .any N es acc)):=by
 rcases IQ h.vb hb with ⟨p,r,_,_,h3⟩ | ⟨i,q,rfl,h2,h3⟩
 ·simp at h3
 ·subst h3
  obtain ⟨fi,h4,h5,h6⟩:=h.fact h2;rcases h6 with ⟨_,_,e,_⟩ | ⟨T,v',e,h6⟩
  ·simp at e
  ·simp only [kV.arr.injEq] at e
   subst e;rcases h6 with ⟨h6,h7⟩ | ⟨f,m,N,es,acc,h6,h7⟩
   ·exact ⟨i,T,rfl,.inl ⟨by rw [h5,h6],h7⟩⟩
   ·exact ⟨i,T,rfl,.inr ⟨f,m,N,es,acc,by rw [h5,h6],h7⟩⟩
theorem dU.IU {S:aV} {t:bO} {A:aw} {g:GR} (h:dU P S t A g) {b:Nat} {v:KV} (hb:(S.mem P g.vs g.rs).get b=some (.arr v)) {p:Nat×Nat×Nat} (hp:(E.sub A g.bs g.fs S.nr).α b=some p) :
  ∃ i f u,b=S.nr+i/\g.fs[i]? = some (some f)/\A.get f=some (.arr u)/\E.α f=some p:=by
 obtain ⟨i,T,rfl,h1⟩:=h.arl hb;rw [Env.IP] at hp;rcases h1 with ⟨h1,_⟩ | ⟨f,m,N,es,acc,h1,h2,_⟩
 ·rw [h1] at hp; simp at hp
 ·rw [h1] at hp; exact ⟨i,f,_,rfl,h1,h2,hp⟩
theorem dU.AR {S:aV} {t:bO} {A:aw} {g:GR} (h:dU P S t A g) {x:Nat} (q:K.AR (S.mem P g.vs g.rs) (E.sub A g.bs g.fs S.nr) x):∃ f u L N,f∈lx g.fs/\A.get f=some (.arr u)/\E.α f=some (x,L,N):=by
 obtain ⟨b,v,L,N,h1,h2⟩:=q;obtain ⟨i,f,u,_,h3,h4,h5⟩:=h.IU h1 h2;exact ⟨f,u,L,N,yM.2 (jD h3),h4,h5⟩
theorem dU.ar {S:aV} {t:bO} {A:aw} {g:GR} (h:dU P S t A g) {x:Nat} (q:K.AR (S.mem P g.vs g.rs) (E.sub A g.bs g.fs S.nr) x):K.AR A E x:=by
 obtain ⟨f,u,L,N,_,h2,h3⟩:=h.AR q;exact ⟨f,u,L,N,h2,h3⟩
theorem dU.AF {S:aV} {t:bO} {A:aw} {B:St} {g:GR} (h:dU P S t A g) {q:Nat} (k:K.AF (S.mem P g.vs g.rs) (E.sub A g.bs g.fs S.nr) B q):∃ f u x L N cs e own m,f∈lx g.fs/\A.get f=some (.arr u)/\E.α f=some (x,L,N)/\B.get x=some (.row cs e own (some (q,m))):=by
 obtain ⟨b,v,x,L,N,cs,e,own,m,h1,h2,h3⟩:=k;obtain ⟨i,f,u,_,h4,h5,h6⟩:=h.IU h1 h2;exact ⟨f,u,x,L,N,cs,e,own,m,yM.2 (jD h4),h5,h6,h3⟩
theorem dU.af {S:aV} {t:bO} {A:aw} {B:St} {g:GR} (h:dU P S t A g) {q:Nat} (k:K.AF (S.mem P g.vs g.rs) (E.sub A g.bs g.fs S.nr) B q):K.AF A E B q:=by
 obtain ⟨f,u,x,L,N,cs,e,own,m,_,h1,h2,h3⟩:=h.AF k;exact ⟨f,u,x,L,N,cs,e,own,m,h1,h2,h3⟩
theorem dU.at {S:aV} {t:bO} {A:aw} {B:St} {g:GR} (h:dU P S t A g) {y:Nat} (k:K.AT (S.mem P g.vs g.rs) (E.sub A g.bs g.fs S.nr) B y):K.AT A E B y:=k.imp h.ar fun ⟨q,h1,h2⟩=>⟨q,h.af h1,h2⟩
theorem dU.kC {S:aV} {t:bO} {A:aw} {B:St} {g:GR} (h:dU P S t A g) (hk:fX P E A B):fX P (E.sub A g.bs g.fs S.nr) (S.mem P g.vs g.rs) B where
 row b cs cg hb:=by
  rcases IQ h.vb hb with ⟨p,r,h1,h2,h3⟩ | ⟨i,q,_,h2,h3⟩
  ·simp only [kV.row.injEq] at h3
   obtain ⟨rfl,rfl⟩:=h3;obtain ⟨b',cs,h4,h5,h6,h7,h8,h9⟩:=h.row h1;rw [h2] at h8; simp at h8; subst h8;obtain ⟨x,cu,vX,JH,h12⟩:=hk.row _ _ _ h5;refine ⟨x,cu,by simp [Env.sub,h4,vX],JH,?_⟩;have hh:rm E (E.sub A g.bs g.fs S.nr) (S.Te P t A) S.nr:=h.hyp;have hr:=hh.right;rw [Fp (h.vs ▸ h.gT)] at hr;have:=agv h.rows hr h1;rw [h7] at this;have hrr:=V8 h.ava h1;rw [h7] at hrr;exact bC.cellsIn (E:=E) (E0:=E.sub A g.bs g.fs S.nr) rfl h.rk h12 h6 h9 this hrr
  ·subst h3
   obtain ⟨fi,_,_,h6⟩:=h.fact h2;rcases h6 with ⟨_,_,e,_⟩ | ⟨_,_,e,_⟩ <;> simp at e
 bA b top sz hb:=by
  rcases IQ h.vb hb with ⟨p,r,_,_,h3⟩ | ⟨i,q,rfl,h2,h3⟩
  ·simp at h3
  ·subst h3
   obtain ⟨fi,h4,h5,h6⟩:=h.fact h2;rcases h6 with ⟨_,_,e,h6⟩ | ⟨_,_,e,_⟩
   ·simp only [kV.bA.injEq] at e
    obtain ⟨rfl,rfl⟩:=e;rw [Env.agw,h5,fy];rcases h6 with ⟨h6,h7⟩ | ⟨f,h6,h7⟩
    ·rw [h6]; exact .inl ⟨h7,rfl⟩
    ·rw [h6,fy,show BX (A.get f)=true by rw [h7]; rfl,ak]; exact hk.bA f _ _ h7
   ·simp at e
 z:=hk.z
 apart b x e:=by
  simp only [Env.sub,dh] at e;obtain ⟨b',_,e⟩:=e;exact hk.apart b' x e
 inj b c x e1 e2:=by
  simp only [Env.sub,dh] at e1 e2;obtain ⟨b',h1,e1⟩:=e1;obtain ⟨c',h2,e2⟩:=e2;have:=hk.inj _ _ _ e1 e2;subst this;exact agt h.nodup _ _ _ h1 h2
 kR b c q tb sb tc sc hb hc e1 e2:=by
  have key:∀ {b t s},(S.mem P g.vs g.rs).get b=some (.bA t s)->∃ i,b=S.nr+i/\((g.fs[i]? = some none)\/∃ f,g.fs[i]? = some (some f)/\A.get f=some (.bA t s)):=by
   intro b t s hb;rcases IQ h.vb hb with ⟨p,r,_,_,h3⟩ | ⟨i,q1,rfl,h2,h3⟩
   ·simp at h3
   subst h3;obtain ⟨fi,h4,h5,h6⟩:=h.fact h2;rcases h6 with ⟨_,_,e,h6⟩ | ⟨_,_,e,_⟩
   ·simp only [kV.bA.injEq] at e
    obtain ⟨rfl,rfl⟩:=e;rcases h6 with ⟨h6,_⟩ | ⟨f,h6,h7⟩
    ·exact ⟨i,rfl,.inl (by rw [h5,h6])⟩
    ·exact ⟨i,rfl,.inr ⟨f,by rw [h5,h6],h7⟩⟩
   ·simp at e
  obtain ⟨i,rfl,h1⟩:=key hb;obtain ⟨j,rfl,h2⟩:=key hc;rw [Env.agw] at e1 e2;rcases h1 with h1 | ⟨f,h1,h3⟩
  ·rw [h1] at e1; simp at e1
  rcases h2 with h2 | ⟨f',h2,h4⟩
  ·rw [h2] at e2; simp at e2
  rw [h1,fy,fy] at e1;rw [h2,fy,fy] at e2;rw [show BX (A.get f)=true by rw [h3]; rfl,ak] at e1;rw [show BX (A.get f')=true by rw [h4]; rfl,ak] at e2;have:=hk.kR f f' q _ _ _ _ h3 h4 e1 e2;subst this;have:=zf h.ae5 i j f h1 h2;omega
 lW b x e:=by
  simp only [Env.sub,dh] at e;obtain ⟨b',h1,_⟩:=e;have:b < g.bs.length:=(dq.1 h1).1;rw [aV.mem,iX,p8 h.vb];rw [h.agx] at this;simp only [aV.nr]; omega
 nS b q e:=by
  simp only [Env.sub] at e;split at e
  ·rename_i hle
   obtain ⟨f,h1,_⟩:=dh.1 e;have h2:b - S.nr < g.fs.length:=(dq.1 h1).1;rw [h.fs,uj,<- h.lens] at h2;rw [aV.mem,iX,p8 h.vb];omega
  ·simp at e
 live b o hb:=by
  rw [aV.mem,iX,p8 h.vb];rcases IQ h.vb hb with ⟨p,r,h1,_,_⟩ | ⟨i,q,rfl,h2,h3⟩
  ·have:=(dq.1 h1).1
   simp only [aV.nr]; omega
  ·have:=(dq.1 h2).1
   omega
 iW b x e:=by
  simp only [Env.sub,dh] at e;obtain ⟨b',_,e⟩:=e;exact hk.iW b' x e
 nT:=hk.nT
 lu b q e:=by
  simp only [Env.sub] at e;split at e
  ·obtain ⟨f,_,e⟩:=dh.1 e
   obtain ⟨f',_,e⟩:=dh.1 e;exact hk.lu _ _ (SW e).1
  ·simp at e
 fresh:=hk.fresh
 mem:=hk.mem
 ar:=by
  have alT:∀ b p,(E.sub A g.bs g.fs S.nr).α b=some p->S.nr<=b/\b - S.nr < g.fs.length/\∃ f,E.α f=some p:=by
   intro b p e;simp only [Env.sub] at e;split at e
   ·rename_i hle
    obtain ⟨f,h1,e⟩:=dh.1 e;obtain ⟨f',_,e⟩:=dh.1 e;exact ⟨hle,(dq.1 h1).1,f',e⟩
   ·simp at e
  refine ⟨fun b v hb=>?_,fun b v hb=>?_,fun x q=>?_,fun b c v u x L N L' N' h1 h2 h3 h4=>?_,fun b c v u x y L N L' N' cs e own q k cu e' rJ k' h1 h2 h3 h4 h5 h6=>?_,fun b x e=>?_,fun b p e=>?_,fun b x L N e=>?_,fun b v x L N cs e own q k h1 h2 h3=>?_,fun b v hb=>?_⟩
  ·obtain ⟨i,T,rfl,h1⟩:=h.arl hb
   rcases h1 with ⟨h1,h2,h3⟩ | ⟨f,m,N,es,acc,h1,h2,h3⟩
   ·obtain ⟨pQ,aE,e1,e2,_⟩:=Q9 (P:=P) (E:=E) (t:=T) (n:=0) (es:=[]) (acc:=qX) (bK:=[]) ⟨rfl,fun i hi=>by omega,rfl⟩ .nil
    rw [e1] at h3;refine ⟨T,0,pQ,aE,h3,e2,h2,.inl ⟨rfl,?_⟩⟩;rw [Env.IP,h1]; rfl
   ·obtain ⟨T2,N2,pQ,aE,e,ht,fZ,Ax⟩:=hk.ar.arr f _ h2
    simp only [KV.ts.injEq] at e;obtain ⟨rfl,rfl,rfl,rfl,rfl⟩:=e;rcases Ax with ⟨h4,h5⟩ | ⟨x,cs,cp,bK,h4,h5,h6,h7⟩
    ·subst h4
     have VV:es = []:=pR.1 ht.len.symm;subst VV;obtain ⟨pQ,aE,e1,e2,_⟩:=Q9 (P:=P) (E:=E) (bK:=[]) ht .nil;rw [e1] at h3;refine ⟨T,0,pQ,aE,h3,e2,fZ,.inl ⟨rfl,?_⟩⟩;rw [Env.IP,h1]; exact h5
    ·obtain ⟨pQ,aE,e1,e2,e3⟩:=Q9 ht h6
     rw [e1] at h3;refine ⟨T,N,pQ,aE,h3,e2,fZ,.inr ⟨x,cs,cp,bK,?_,h5,bC.zEs (E:=E) (E0:=E.sub A g.bs g.fs S.nr) (.of rfl) e3 e2.typed,h7⟩⟩;rw [Env.IP,h1]; exact h4
  ·rcases IQ h.vb hb with ⟨p,r,_,_,h3⟩ | ⟨i,q,rfl,h2,h3⟩
   ·simp at h3
   ·subst h3
    obtain ⟨fi,_,_,h6⟩:=h.fact h2;rcases h6 with ⟨_,_,e,_⟩ | ⟨_,_,e,_⟩ <;> simp at e
  ·obtain ⟨h1,h2⟩:=hk.ar.z x (h.ar q)
   refine ⟨h1,fun c e=>?_⟩;simp only [Env.sub,dh] at e;obtain ⟨b',_,e⟩:=e;exact h2 b' e
  ·obtain ⟨i,f,u1,rfl,k1,k2,k3⟩:=h.IU h1 h3
   obtain ⟨j,f',u2,rfl,k1',k2',k3'⟩:=h.IU h2 h4;have:=hk.ar.inj f f' u1 u2 x L N L' N' k2 k2' k3 k3';subst this;have:=zf h.ae5 i j f k1 k1';omega
  ·obtain ⟨i,f,u1,rfl,k1,k2,k3⟩:=h.IU h1 h3
   obtain ⟨j,f',u2,rfl,k1',k2',k3'⟩:=h.IU h2 h4;have:=hk.ar.xK f f' u1 u2 x y L N L' N' cs e own q k cu e' rJ k' k2 k2' k3 k3' h5 h6;subst this;have:=zf h.ae5 i j f k1 k1';omega
  ·cases tF:(E.sub A g.bs g.fs S.nr).α b with
   | none=>rfl
   | some p=>
    obtain ⟨h1,_,_⟩:=alT b p tF;simp only [Env.sub,dh] at e;obtain ⟨b',h2,_⟩:=e;have:b < g.bs.length:=(dq.1 h2).1;rw [h.agx] at this;simp only [aV.nr] at h1; omega
  ·obtain ⟨h1,h2,_⟩:=alT b p e
   rw [h.fs,uj,<- h.lens] at h2;rw [aV.mem,iX,p8 h.vb];omega
  ·obtain ⟨_,_,f,e⟩:=alT b _ e
   exact hk.ar.iW f x L N e
  ·obtain ⟨i,f,u,rfl,k1,k2,k3⟩:=h.IU h1 h2
   obtain ⟨h4,h5,h6⟩:=hk.ar.vL f u x L N cs e own q k k2 k3 h3;refine ⟨h4,fun c e=>?_,fun y hy de=>?_⟩
   ·simp only [Env.sub] at e
    split at e
    ·obtain ⟨f1,_,e⟩:=dh.1 e
     obtain ⟨f',_,e⟩:=dh.1 e;exact h5 f' (SW e).1
    ·simp at e
   ·obtain ⟨h7,h8,h9⟩:=h6 y hy de
    refine ⟨h7,fun q=>h8 (h.ar q),fun c e=>?_⟩;simp only [Env.sub,dh] at e;obtain ⟨b',_,e⟩:=e;exact h9 b' e
  ·rcases IQ h.vb hb with ⟨p,r,_,_,h3⟩ | ⟨i,q,rfl,h2,_⟩
   ·simp at h3
   ·refine ⟨?_,?_⟩
    ·rw [aV.mem,iX,p8 h.vb]
     have:=(dq.1 h2).1;omega
    ·simp only [Env.sub]
     rw [List.getElem?_eq_none (by rw [h.agx]; simp only [aV.nr]; omega)];rfl
structure Co (base:Nat) (E:Env) (A:aw) (B:St) (ρ:Ren) (w:World) (E' : Env) (A' : aw) (B' : St) (bd:Ren) (w' : World):Prop where
 gP:l8 base ρ B w bd B' w'
 z:∀ b r,E.z b=some r->E'.z b=some r
 ik:∀ x,x < B.next->(∀ b,E.κ b≠some x)->¬ AT A E B x->B'.get x=B.get x
 new:∀ b x,E'.κ b=some x->(∃ c,E.κ c=some x)\/B.next<=x
 wK:∀ b r,E'.z b=some r->E.z b=some r\/AR A E b\/B.next<=b
 wL:∀ b g,E'.φ b=some g->(∃ c,E.φ c=some g)\/B.next<=g
 sA:∀ g,g < B.next->(∀ b,E.φ b≠some g)->¬ AF A E B g->B'.members g=B.members g
 oZ:∀ x,AR A' E' x->AR A E x\/B.next<=x
 py:∀ g,AF A' E' B' g->AF A E B g\/B.next<=g
 yE:∀ g y,y∈B'.members g->y∈B.members g\/B.next<=y
 p0:∀ y,AT A' E' B' y->AT A E B y\/B.next<=y
 rows:∀ y,y < B.next->∀ cs e own cp,B'.get y=some (.row cs e own cp)->∃ nM,B.get y=some (.row nM e own cp)/\nM.length=cs.length
theorem Co.trans {base:Nat} {E1 E2 E3:Env} {A1 A2 A3:aw} {B1 B2 B3:St} {og yF ρ3:Ren} {w1 w2 w3:World} (h:Co base E1 A1 B1 og w1 E2 A2 B2 yF w2) (k:Co base E2 A2 B2 yF w2 E3 A3 B3 ρ3 w3):Co base E1 A1 B1 og w1 E3 A3 B3 ρ3 w3 where
 gP:=h.gP.trans k.gP
 z b r e:=k.z b r (h.z b r e)
 ik x hx hn ha:=by
  refine (k.ik x (nK hx h.gP.next) (fun b e=>?_) fun q=>?_).trans (h.ik x hx hn ha)
  ·rcases h.new b x e with ⟨c,e⟩ | e
   ·exact hn c e
   ·omega
  ·rcases h.p0 x q with e | e
   ·exact ha e
   ·omega
 new b x e:=by
  rcases k.new b x e with ⟨c,e⟩ | e
  ·exact h.new c x e
  ·have:=h.gP.next; exact .inr (by omega)
 wK b r e:=by
  rcases k.wK b r e with e | e | e
  ·exact h.wK b r e
  ·exact .inr (h.oZ b e)
  ·have:=h.gP.next; exact .inr (.inr (by omega))
 wL b g e:=by
  rcases k.wL b g e with ⟨c,e⟩ | e
  ·exact h.wL c g e
  ·have:=h.gP.next; exact .inr (by omega)
 sA g hg hn ha:=by
  refine (k.sA g (nK hg h.gP.next) (fun b e=>?_) fun q=>?_).trans (h.sA g hg hn ha)
  ·rcases h.wL b g e with ⟨c,e⟩ | e
   ·exact hn c e
   ·omega
  ·rcases h.py g q with e | e
   ·exact ha e
   ·omega
 oZ x e:=by
  rcases k.oZ x e with e | e
  ·exact h.oZ x e
  ·have:=h.gP.next; exact .inr (by omega)
 py g e:=by
  rcases k.py g e with e | e
  ·exact h.py g e
  ·have:=h.gP.next; exact .inr (by omega)
 yE g y e:=by
  rcases k.yE g y e with e | e
  ·exact h.yE g y e
  ·have:=h.gP.next; exact .inr (by omega)
 p0 y e:=by
  rcases k.p0 y e with e | e
  ·exact h.p0 y e
  ·have:=h.gP.next; exact .inr (by omega)
 rows y hy cs e own cp q:=by
  obtain ⟨c1,h1,h2⟩:=k.rows y (nK hy h.gP.next) cs e own cp q;obtain ⟨c0,h3,h4⟩:=h.rows y hy c1 e own cp h1;exact ⟨c0,h3,h4.trans h2⟩
theorem Ev.co {base:Nat} {A A1:aw} {B B1:St} {ρ og:Ren} {w w1:World} {E1:Env} {S:aV} {t:bO} {g:GR} (h:Ev P base E A B ρ w E1 A1 B1 og w1) (hG:dU P S t A1 g):Co base E A B ρ w (E1.sub A1 g.bs g.fs S.nr) (S.mem P g.vs g.rs) B1 og w1 where
 gP:=h.gP
 z:=h.le.z
 ik:=h.ik
 new b x e:=by
  simp only [Env.sub,dh] at e;obtain ⟨b',_,e⟩:=e;exact (h.new b' x e).imp (fun e=>⟨_,e⟩) id
 wK:=h.wK
 wL b g e:=by
  simp only [Env.sub] at e;split at e
  ·obtain ⟨f,_,e⟩:=dh.1 e
   obtain ⟨f',_,e⟩:=dh.1 e;exact h.wL _ _ (SW e).1
  ·simp at e
 sA:=h.sA
 oZ x q:=h.oZ x (hG.ar q)
 py g q:=h.py g (hG.af q)
 yE:=h.yE
 p0 y q:=h.p0 y (hG.at q)
 rows:=h.rows
def Yf (nr:Nat):List CD->Bool
 | []=>true
 | .ref w::ds=>acz nr w&&Yf nr ds
 | _::ds=>Yf nr ds
theorem IV {nr:Nat} {bs:List Nat} : ∀ {ds:List CD} {vs:List KV},Gy nr bs ds vs=true->vs.length=ds.length->Yf nr ds=true
 | [],_,_,_=>rfl
 | _::_,[],_,e=>by simp at e
 | .k c::ds,v::vs,h,e=>IV (ds:=ds) (vs:=vs) h (by simpa using e)
 | .lit c::ds,v::vs,h,e=>IV (ds:=ds) (vs:=vs) h (by simpa using e)
 | .bA c::ds,v::vs,h,e=>IV (ds:=ds) (vs:=vs) h (by simpa using e)
 | .arr c::ds,v::vs,h,e=>IV (ds:=ds) (vs:=vs) h (by simpa using e)
 | .ref w::ds,v::vs,h,e=>by
  simp only [Gy,aA] at h;simp only [Yf,aA];exact ⟨h.1,IV h.2.2 (by simpa using e)⟩
def V9 (E1 E2:Env) (i j n:Nat):Prop:=∀ m,m < n->(∀ g,E1.φ (i+m)=some g->E2.φ (j+m)=some g)/\∀ p,E1.α (i+m)=some p->E2.α (j+m)=some p
theorem V9.tail {E1 E2:Env} {i j n:Nat} (h:V9 E1 E2 i j (n+1)):V9 E1 E2 (i+1) (j+1) n:=fun m hm=>by
 have:=h (m+1) (by omega);rw [show i+(m+1)=i+1+m by omega,show j+(m+1)=j+1+m by omega] at this;exact this
theorem V9.left {E1 E2:Env} {i j n n' : Nat} (h:V9 E1 E2 i j n') (hn:n<=n'):V9 E1 E2 i j n:=fun m hm=>h m (by omega)
theorem V9.right {E1 E2:Env} {i j n n' : Nat} (h:V9 E1 E2 i j (n+n')):V9 E1 E2 (i+n) (j+n) n':=fun m hm=>by
 have:=h (n+m) (by omega);rw [<- Hg,<- Hg] at this;exact this
theorem bC.Cs {E1 E2:Env} (hz:E2.z=E1.z) {nr:Nat} {Wa bs2:List Nat} (hk:Rk E1 E2 nr Wa bs2):∀ {ds:List CD} {vs:List KV} {us:List Value} {i j:Nat},bC P E1 (sC i Wa ds vs) us->dT ds vs=true->Yf nr ds=true->V9 E1 E2 i j (tI ds)->bC P E2 (sC j bs2 ds vs) us
 | [],[],us,_,_,h,_,_,_=>by rw [h.cw]; exact .nil
 | [],_::_,_,_,_,_,hg,_,_=>by simp [dT] at hg
 | _::_,[],_,_,_,_,hg,_,_=>by simp [dT] at hg
 | d::ds,v::vs,us,i,j,h,hg,hw,hf=>by
  simp only [dT,aA] at hg;cases d with
  | k c=>
   obtain ⟨y,ys,rfl,h1,h2⟩:=bC.cons_inv (show bC P E1 (v::sC i Wa ds vs) us from h);exact .cons (h1.gCD (d:=.k c) hz hg.1 (by simp)) (bC.Cs hz hk h2 hg.2 hw hf)
  | lit w=>
   obtain ⟨y,ys,rfl,h1,h2⟩:=bC.cons_inv (show bC P E1 (v::sC i Wa ds vs) us from h);exact .cons (h1.gCD (d:=.lit w) hz hg.1 (by simp)) (bC.Cs hz hk h2 hg.2 hw hf)
  | ref w=>
   simp only [Yf,aA] at hw;obtain ⟨y,ys,rfl,h1,h2⟩:=bC.cons_inv (show bC P E1 (inst Wa w::sC i Wa ds vs) us from h);exact .cons (VK.inst hk hw.1 h1) (bC.Cs hz hk h2 hg.2 hw.2 hf)
  | bA t=>
   obtain ⟨y,ys,rfl,h1,h2⟩:=bC.cons_inv (show bC P E1 (Oo i v::sC (i+1) Wa ds vs) us from h);refine .cons ?_ (bC.Cs (i:=i+1) (j:=j+1) hz hk h2 hg.2 hw (V9.tail hf));have hv:∃ n es acc,v = .ts t .any n es acc:=by
    have hg1:kindOk (.slice t) v=true:=hg.1;cases v <;> simp [kindOk] at hg1;rename_i t' m n es acc;cases m <;> simp at hg1;subst hg1; exact ⟨_,_,_,rfl⟩
   obtain ⟨n,es,acc,rfl⟩:=hv;exact VK.swap hz (show VK P E1 (.ts t (.bA i) n es acc) y from h1) fun sz a cap _ hm=>by
    refine ⟨hm.1,hm.2.imp id ?_⟩;rintro ⟨b,r,g,q1,q2,q3,q4,q5⟩;exact ⟨b,r,g,q1,by rw [hz]; exact q2,q3,(hf 0 (by simp [tI])).1 g q4,q5⟩
  | arr t=>
   obtain ⟨y,ys,rfl,h1,h2⟩:=bC.cons_inv (show bC P E1 (SS i v::sC (i+1) Wa ds vs) us from h);refine .cons ?_ (bC.Cs (i:=i+1) (j:=j+1) hz hk h2 hg.2 hw (V9.tail hf));have hv:∃ n es acc,v = .ts t .any n es acc:=by
    have hg1:kindOk (.slice t) v=true:=hg.1;cases v <;> simp [kindOk] at hg1;rename_i t' m n es acc;cases m <;> simp at hg1;subst hg1; exact ⟨_,_,_,rfl⟩
   obtain ⟨n,es,acc,rfl⟩:=hv;show VK P E2 (.al t j 0 n) y;rcases (show VK P E1 (.al t i 0 n) y from h1).zb with ⟨q1,q2,q3⟩ | ⟨x,L,N,c,q1,q2⟩
   ·exact .T4 (.inl ⟨q1,q2,q3⟩)
   ·exact .T4 (.inr ⟨x,L,N,c,(hf 0 (by simp [tI])).2 _ q1,q2⟩)
theorem asg (j:Nat) (bs:List Nat) (d:VD) (cs:List KV):acB j bs d (.agg cs) = .agg (sC j bs d.ks cs):=rfl
theorem akH {j:Nat} {bs:List Nat} {d:VD} {v:KV} (h:∀ cs,v≠.agg cs) {c:CD} (hc:d.ks = [c]) : [acB j bs d v] = sC j bs d.ks [v]:=by
 have e:acB j bs d v=(match d.ks with | [.bA _]=>Oo j v | [.arr _]=>SS j v | [.ref w]=>inst bs w | _=>v):=by
  cases v <;> first | rfl | exact absurd rfl (h _)
 rw [e,hc];cases c <;> rfl
theorem VK.avH {E1 E2:Env} (hz:E2.z=E1.z) {nr:Nat} {Wa bs2:List Nat} (hk:Rk E1 E2 nr Wa bs2) {d:VD} {v:KV} {u:Value} {i j:Nat} (h:VK P E1 (acB i Wa d v) u) (hg:zd d v=true) (hw:Yf nr d.ks=true) (hf:V9 E1 E2 i j (tI d.ks)):VK P E2 (acB j bs2 d v) u:=by
 rcases A9 hg with ⟨cs,rfl,_,h2⟩ | ⟨h0,_,c,h1,h2⟩
 ·rw [asg] at h ⊢
  obtain ⟨l,rfl,k⟩:=h.mi;exact .rW (bC.Cs hz hk k h2 hw hf)
 ·have k:bC P E1 (sC i Wa d.ks [v]) [u]:=by rw [<- akH h0 h1]; exact .cons h .nil
  have k2:=bC.Cs hz hk k (by rw [h1]; simp [dT,h2]) hw hf;rw [<- akH h0 h1] at k2;obtain ⟨y,e,k3⟩:=k2.fN;simp at e; subst e; exact k3
def xQ (P:Program) (E1 E2:Env):List (Nat×KV)->List (Nat×KV)->Prop
 | [],[]=>True
 | x::xs,y::ys=>x.1=y.1/\(∀ u,VK P E1 x.2 u->VK P E2 y.2 u)/\xQ P E1 E2 xs ys
 | _,_=>False
theorem xQ.append {E1 E2:Env} : ∀ {a b c d:List (Nat×KV)},xQ P E1 E2 a b->xQ P E1 E2 c d->xQ P E1 E2 (a++c) (b++d)
 | [],[],_,_,_,h=>h
 | [],_::_,_,_,h,_=>h.elim
 | _::_,[],_,_,h,_=>h.elim
 | _::_,_::_,_,_,h,k=>⟨h.1,h.2.1,xQ.append h.2.2 k⟩
theorem xQ.get {E1 E2:Env} : ∀ {a b:List (Nat×KV)},xQ P E1 E2 a b->∀ i,((nm a).get i=none/\(nm b).get i=none)\/∃ x y,(nm a).get i=some x/\(nm b).get i=some y/\∀ u,VK P E1 x u->VK P E2 y u
 | [],[],_,i=>.inl (by simp [nm])
 | [],_::_,h,_=>h.elim
 | _::_,[],h,_=>h.elim
 | x::a,y::b,h,i=>by
  rw [nm,nm,Trie.qV,Trie.qV];by_cases e:i=x.1
  ·rw [aY e,aY (by rw [e,h.1])]
   exact .inr ⟨_,_,rfl,rfl,h.2.1⟩
  ·rw [av e,av (by rw [<- h.1]; exact e)]
   exact xQ.get h.2.2 i
theorem lL.atE {E1 E2:Env} {ρ:Ren} {l m:List (Nat×KV)} {N:Nat} {a:Act} (h:lL P E1 ρ (K.nm l) N a) (hp:xQ P E1 E2 l m):lL P E2 ρ (K.nm m) N a:=by
 refine ⟨h.size,fun i=>?_,fun i hi=>?_⟩
 ·rcases hp.get i with ⟨_,h2⟩ | ⟨x,y,h1,h2,h3⟩
  ·rw [h2]; exact .ao
  ·have:=h.val i
   rw [h1] at this;rw [h2];obtain ⟨u,k1,k2⟩:=this;exact ⟨u,h3 u k1,k2⟩
 ·rcases hp.get i with ⟨_,h2⟩ | ⟨x,y,h1,h2,h3⟩
  ·exact h2
  ·have:=h.none i hi
   rw [h1] at this; simp at this
def wsV (nr:Nat):List (Tmp×VD)->Bool
 | []=>true
 | p::ps=>Yf nr p.2.ks&&wsV nr ps
theorem arn {A:aw} {t:bO} {nr:Nat} {bs:List Nat} : ∀ {ps:List (Tmp×VD)},Q4 nr bs t ps=true->jU ps (r5 P t A ps)=true->wsV nr ps=true
 | [],_,_=>rfl
 | p::ps,h,hg=>by
  simp only [Q4,aA] at h;simp only [r5,jU,aA] at hg;simp only [wsV,aA];exact ⟨IV h.1 (J4 hg.1),arn h.2 hg.2⟩
theorem akI {E1 E2:Env} (hz:E2.z=E1.z) {nr:Nat} {Wa bs2:List Nat} (hk:Rk E1 E2 nr Wa bs2):∀ {ps:List (Tmp×VD)} {vs:List KV} {i j:Nat},jU ps vs=true->wsV nr ps=true->V9 E1 E2 i j (pz ps)->xQ P E1 E2 (acC i Wa ps vs) (acC j bs2 ps vs)
 | [],[],_,_,_,_,_=>trivial
 | [],_::_,_,_,hg,_,_=>by simp [jU] at hg
 | _::_,[],_,_,hg,_,_=>by simp [jU] at hg
 | p::ps,v::vs,i,j,hg,hw,hf=>by
  simp only [wsV,aA] at hw;simp only [jU,aA] at hg;have hf:V9 E1 E2 i j (tI p.2.ks+pz ps):=hf;exact ⟨rfl,fun u h=>h.avH hz hk hg.1 hw.1 (hf.left (Nat.le_add_right _ _)),akI hz hk hg.2 hw.2 hf.right⟩
theorem an3 {E1 E2:Env} {ids bs:List Nat} : ∀ {ps:List (Tmp×Nat×Nat)},(∀ p∈ps,∀ x,E1.κ (ids.getD p.2.1 0)=some x->E2.κ (bs.getD p.2.1 0)=some x)->xQ P E1 E2 (Cq ids ps) (Cq bs ps)
 | [],_=>trivial
 | p::ps,h=>⟨rfl,fun u k=>by
   obtain ⟨x,h1,rfl⟩:=(show VK P E1 (.ptr (ids.getD p.2.1 0) p.2.2) u from k).j9;exact .BO (h p (by simp) x h1),an3 fun q hq=>h q (by simp [hq])⟩
end Go.K
end
section
namespace Go.K
open Go Go.aB
variable {P:Program} {E:Env}
theorem H5:∀ (ps:List (Tmp×List CD×Nat)) (j k:Nat),Cr j ps k=j+Cr 0 ps k
 | [],j,k=>by simp [Cr]
 | _::_,j,0=>by simp [Cr]
 | p::ps,j,k+1=>by
  simp only [Cr];rw [H5 ps (j+tI p.2.1) k,H5 ps (0+tI p.2.1) k];omega
theorem mem_row {S:aV} {vs:List KV} {rs:List (List KV)} (h:rs.length=S.rows.length) {k:Nat} {p:Tmp×List CD×Nat} {r:List KV} (hp:S.rows[k]? = some p) (hr:rs[k]? = some r):(S.mem P vs rs).get k=some (.row (sC (Cr (S.nr+pz S.gT) S.rows k) S.ids p.2.1 r) p.2.2):=by
 have hk:k < S.nr:=(dq.1 hp).1;rw [aV.mem,Hu (by rw [p8 h]; exact hk)];have:=ark (A:=.empty) hp (show (S.IL S.nr S.ids rs)[k]? = some _ from SV hp hr);simpa [aw.empty] using this
theorem Yg {S:aV} {vs:List KV} {rs:List (List KV)} (h:rs.length=S.rows.length) {i:Nat} {q:kV} (hq:(S.lens P vs rs)[i]? = some q):(S.mem P vs rs).get (S.nr+i)=some q:=by
 have:=Q5 (A:=tJ .empty S.rows (S.IL S.nr S.ids rs)) hq;rw [p8 h] at this;exact this
def Env.up (E E1:Env) (nr nx:Nat):Env:={ κ:=E.κ,z:=E1.z,φ:=fun b=>if nx<=b then E1.φ (nr+(b - nx)) else E.φ b,α:=fun b=>if nx<=b then E1.α (nr+(b - nx)) else E.α b }
theorem Env.C8 {E1:Env} {nr nx j:Nat} : (E.up E1 nr nx).φ (nx+j)=E1.φ (nr+j):=by
 simp only [Env.up];rw [aY (by omega),show nx+j - nx=j by omega]
theorem Env.C9 {E1:Env} {nr nx b:Nat} (h:b < nx):(E.up E1 nr nx).φ b=E.φ b:=by
 simp only [Env.up];rw [av (by omega)]
theorem Env.MD {E1:Env} {nr nx j:Nat} : (E.up E1 nr nx).α (nx+j)=E1.α (nr+j):=by
 simp only [Env.up];rw [aY (by omega),show nx+j - nx=j by omega]
theorem Env.MF {E1:Env} {nr nx b:Nat} (h:b < nx):(E.up E1 nr nx).α b=E.α b:=by
 simp only [Env.up];rw [av (by omega)]
theorem fX.awG {A:aw} {B:St} (h:fX P E A B) {b x:Nat} (hx:E.κ b=some x) : ¬ AT A E B x:=by
 rintro (q | ⟨g,⟨c,v,y,L,N,cs,e,own,k,h1,h2,h3⟩,hm⟩)
 ·exact (h.ar.z x q).2 b hx
 ·by_cases CQ:x=y
  ·subst CQ
   exact (h.ar.z x ⟨c,v,L,N,h1,h2⟩).2 b hx
  ·exact ((h.ar.vL c v y L N cs e own g k h1 h2 h3).2.2 x hm CQ).2.2 b hx
theorem akJ {S:aV} {t:bO} {A:aw} {B B1:St} {g:GR} {ρ og:Ren} {base N:Nat} {w w1:World} {a1:Act} {vs:List KV} {rs:List (List KV)} {E1:Env} (hG:dU P S t A g) (hk:fX P E A B)
  (ht:lL P E1 og (S.tm S.nr S.ids vs) N a1) (hs:fX P E1 (S.mem P vs rs) B1) (AA:Co base (E.sub A g.bs g.fs S.nr) (S.mem P g.vs g.rs) B ρ w E1 (S.mem P vs rs) B1 og w1) (JF:∀ k,k < S.rows.length->E1.κ k=(E.sub A g.bs g.fs S.nr).κ k)
  (hv:jU S.gT vs=true) (S9:rs.length=S.rows.length) (hrg:∀ (k:Nat) p r,S.rows[k]? = some p->rs[k]? = some r->dT p.2.1 r=true) :
  lL P (E.up E1 S.nr A.next) og (S.tm A.next g.bs vs) N a1/\Ev P base E A B ρ w (E.up E1 S.nr A.next) (S.back P g.bs g.fs vs rs A) B1 og w1:=by
 have hle:E.le (E.up E1 S.nr A.next):=⟨fun b p e=>by rw [Env.MF (hk.ar.lW b p e)]; exact e,fun _ _ e=>e,fun b r e=>AA.z b r e,fun b q e=>by rw [Env.C9 (hk.nS b q e)]; exact e⟩
 have atF:∀ (k b:Nat),g.bs[k]? = some b->E1.κ k=E.κ b:=fun k b hb=>by
  rw [JF k (by rw [<- hG.agx]; exact (dq.1 hb).1)];simp [Env.sub,hb]
 have j7:(B4 (pV A g.bs S.rows (S.IL A.next g.bs rs)) g.fs).next=A.next:=by rw [J5,V7]
 have Ol:∀ x,x < B.next->(∀ (k b:Nat),g.bs[k]? = some b->E.κ b≠some x)->¬ AT (S.mem P g.vs g.rs) (E.sub A g.bs g.fs S.nr) B x->B1.get x=B.get x:=fun x hx de ha=>AA.ik x hx (fun k e=>by
  simp only [Env.sub,dh] at e;obtain ⟨b,h1,e⟩:=e;exact de k b h1 e) ha
 have hfs:∀ f,f∈lx g.fs->∃ i:Nat,g.fs[i]? = some (some f)/\((∃ n sz,A.get f=some (.bA n sz))\/∃ v,A.get f=some (.arr v)):=by
  intro f hf;obtain ⟨i,hi⟩:=List.getElem?_of_mem (yM.1 hf);have bG:i < (S.lens P g.vs g.rs).length:=by rw [hG.lens,<- uj,<- hG.fs]; exact (dq.1 hi).1
  obtain ⟨fi,_,h2,h3⟩:=hG.fact (dr bG);rw [hi] at h2; simp at h2;rcases h3 with ⟨n,sz,_,⟨h3,_⟩ | ⟨f',h3,h4⟩⟩ | ⟨T,v,_,⟨h3,_⟩ | ⟨f',m,N,es,acc,h3,h4,_⟩⟩
  ·rw [h3] at h2; simp at h2
  ·rw [h3] at h2; simp at h2; subst h2; exact ⟨i,hi,.inl ⟨_,_,h4⟩⟩
  ·rw [h3] at h2; simp at h2
  ·rw [h3] at h2; simp at h2; subst h2; exact ⟨i,hi,.inr ⟨_,h4⟩⟩
 have awH:∀ f v,f∈lx g.fs->A.get f=some v->(∃ n sz,v = .bA n sz)\/∃ u,v = .arr u:=by
  intro f v hf hv;obtain ⟨_,_,⟨n,sz,h1⟩ | ⟨u,h1⟩⟩:=hfs f hf
  ·rw [hv] at h1; simp at h1; exact .inl ⟨n,sz,h1⟩
  ·rw [hv] at h1; simp at h1; exact .inr ⟨u,h1⟩
 have hrk:Rk E1 (E.up E1 S.nr A.next) S.rows.length S.ids g.bs:=fun j x hj e=>by
  have bG:j < g.bs.length:=by rw [hG.agx]; exact hj
  rw [iL,MA S j hj,ee] at e;rw [iL,dr bG,ee];show E.κ _=some x;rw [<- atF j _ (dr bG)]; exact e
 have aaw:∀ (k b:Nat),g.bs[k]? = some b->∃ (p:Tmp×List CD×Nat) (r:List KV) (x:Nat) (cu:List Value),S.rows[k]? = some p/\rs[k]? = some r/\E.κ b=some x/\B1.get x=some (.row cu p.2.2 true none)/\bC P (E.up E1 S.nr A.next) (sC (Cr (A.next+pz S.gT) S.rows k) g.bs p.2.1 r) cu/\
   (B4 (pV A g.bs S.rows (S.IL A.next g.bs rs)) g.fs).get b=some (.row (sC (Cr (A.next+pz S.gT) S.rows k) g.bs p.2.1 r) p.2.2)/\b ∉ lx g.fs:=by
  intro k b hb;have bG:k < S.rows.length:=by rw [<- hG.agx]; exact (dq.1 hb).1
  have hp:=dr bG;have hr:=dr (show k < rs.length by rw [S9]; exact bG);obtain ⟨b',cs,q1,q2,_⟩:=hG.row hp;rw [hb] at q1; simp at q1; subst q1;obtain ⟨x,cu,h1,h2,h3⟩:=hs.row k _ _ (mem_row S9 hp hr);have hnf:b ∉ lx g.fs:=fun hf=>by
   rcases awH b _ hf q2 with ⟨_,_,e⟩ | ⟨_,e⟩ <;> simp at e
  refine ⟨_,_,x,cu,hp,hr,by rw [<- atF k b hb]; exact h1,h2,?_,?_,hnf⟩
  ·have hws:Yf S.rows.length S.rows[k].2.1=true:=by
    obtain ⟨_,nM,_,_,Qp,hc0,_,_⟩:=hG.row hp;have:=V8 hG.ava hp;rw [hc0] at this;exact IV this Qp
   refine bC.Cs (E1:=E1) (E2:=E.up E1 S.nr A.next) rfl hrk h3 (hrg _ _ _ hp hr) hws fun m _=>⟨fun q e=>?_,fun q e=>?_⟩
   ·rw [H5,show A.next+pz S.gT+Cr 0 S.rows k+m=A.next+(pz S.gT+Cr 0 S.rows k+m) by omega,Env.C8]
    rw [H5,show S.nr+pz S.gT+Cr 0 S.rows k+m=S.nr+(pz S.gT+Cr 0 S.rows k+m) by omega] at e;exact e
   ·rw [H5,show A.next+pz S.gT+Cr 0 S.rows k+m=A.next+(pz S.gT+Cr 0 S.rows k+m) by omega,Env.MD]
    rw [H5,show S.nr+pz S.gT+Cr 0 S.rows k+m=S.nr+(pz S.gT+Cr 0 S.rows k+m) by omega] at e;exact e
  ·rw [IM,av hnf]
   exact anX hG.nodup hb hp (show (S.IL A.next g.bs rs)[k]? = some _ from SV hp hr)
 have su:∀ b,b∈g.bs->∃ k:Nat,g.bs[k]? = some b:=fun b hb=>List.getElem?_of_mem hb;have SX:∀ c q,(E.sub A g.bs g.fs S.nr).φ c=some q->∃ f n sz,f∈lx g.fs/\E.φ f=some q/\A.get f=some (.bA n sz):=by
  intro c q e;simp only [Env.sub] at e;split at e
  ·obtain ⟨f,h1,e⟩:=dh.1 e
   obtain ⟨f',h2,e⟩:=dh.1 e;subst h2;obtain ⟨e1,e2⟩:=SW e;obtain ⟨n,sz,e3⟩:=an0 e2;exact ⟨f',n,sz,yM.2 (jD h1),e1,e3⟩
  ·simp at e
 have hinv:∀ b o,(S.back P g.bs g.fs vs rs A).get b=some o->(b∈g.bs/\∃ cs e,o = .row cs e/\(B4 (pV A g.bs S.rows (S.IL A.next g.bs rs)) g.fs).get b=some (.row cs e))\/(b ∉ g.bs/\b ∉ lx g.fs/\A.get b=some o)\/(b∈lx g.fs/\o = .dead)\/∃ i q,b=A.next+i/\(S.lens P vs rs)[i]? = some q/\o=q:=by
  intro b o hb;rcases Yd hb with hb | ⟨i,q,h1,h2,h3⟩
  ·by_cases hbs:b∈g.bs
   ·obtain ⟨k,yq⟩:=su b hbs
    obtain ⟨p,r,x,cu,h1,h2,h3,h4,h5,h6,h7⟩:=aaw k b yq;rw [h6] at hb; simp at hb;exact .inl ⟨hbs,_,_,hb.symm,h6⟩
   ·rw [IM] at hb
    split at hb
    ·rename_i hf; simp at hb; exact .inr (.inr (.inl ⟨hf,hb.symm⟩))
    ·rename_i hf
     rw [Q6 hbs] at hb;exact .inr (.inl ⟨hbs,hf,hb⟩)
  ·rw [j7] at h1
   exact .inr (.inr (.inr ⟨i,q,h1,h2,h3⟩))
 have hnewobj:∀ i q,(S.lens P vs rs)[i]? = some q->(S.mem P vs rs).get (S.nr+i)=some q:=fun i q hq=>Yg S9 hq;have aro:∀ (i:Nat) (q:kV),(S.lens P vs rs)[i]? = some q->(∃ n sz,q=kV.bA n sz)\/∃ v,q=kV.arr v:=by
  have one:∀ (ds:List CD) (vs:List KV),∀ q∈rl P ds vs,(∃ n sz,q = .bA n sz)\/∃ v,q = .arr v:=by
   intro ds
   induction ds with
   | nil=>intro vs q hq; simp [rl] at hq
   | cons d ds ih=>
    intro vs q hq;cases vs with
    | nil=>cases d <;> simp [rl] at hq
    | cons v vs=>
     cases d <;> simp only [rl,fA] at hq
     ·exact ih vs q hq
     ·exact ih vs q hq
     ·rcases hq with rfl | hq
      ·exact .inl ⟨_,_,rfl⟩
      ·exact ih vs q hq
     ·rcases hq with rfl | hq
      ·exact .inr ⟨_,rfl⟩
      ·exact ih vs q hq
     ·exact ih vs q hq
  have two:∀ (ps:List (Tmp×VD)) (vs:List KV),∀ q∈Az P ps vs,(∃ n sz,q = .bA n sz)\/∃ v,q = .arr v:=by
   intro ps
   induction ps with
   | nil=>intro vs q hq; simp [Az] at hq
   | cons p ps ih=>
    intro vs q hq;cases vs with
    | nil=>simp [Az] at hq
    | cons v vs=>
     simp only [Az,nI] at hq;exact hq.elim (one _ _ q) (ih vs q)
  have three:∀ (ps:List (Tmp×List CD×Nat)) (rs:List (List KV)),∀ q∈BZ P ps rs,(∃ n sz,q = .bA n sz)\/∃ v,q = .arr v:=by
   intro ps
   induction ps with
   | nil=>intro vs q hq; simp [BZ] at hq
   | cons p ps ih=>
    intro vs q hq;cases vs with
    | nil=>simp [BZ] at hq
    | cons v vs=>
     simp only [BZ,nI] at hq;exact hq.elim (one _ _ q) (ih vs q)
  intro i q hq;have:=jD hq;simp only [aV.lens,nI] at this;exact this.elim (two _ _ q) (three _ _ q)
 have yH:∀ b v,(S.back P g.bs g.fs vs rs A).get b=some (.arr v)->(b < A.next/\b ∉ lx g.fs/\A.get b=some (.arr v)/\(E.up E1 S.nr A.next).α b=E.α b)\/∃ i,b=A.next+i/\(S.mem P vs rs).get (S.nr+i)=some (.arr v)/\(E.up E1 S.nr A.next).α b=E1.α (S.nr+i):=by
  intro b v hb;rcases hinv b _ hb with ⟨_,_,_,e,_⟩ | ⟨_,P1,h1⟩ | ⟨_,e⟩ | ⟨i,q,rfl,h2,e⟩
  ·simp at e
  ·exact .inl ⟨hk.live b _ h1,P1,h1,Env.MF (hk.live b _ h1)⟩
  ·simp at e
  ·subst e; exact .inr ⟨i,rfl,Yg S9 h2,Env.MD⟩
 have avb:∀ {b v x L N},b ∉ lx g.fs->A.get b=some (.arr v)->E.α b=some (x,L,N)->¬ AR (S.mem P g.vs g.rs) (E.sub A g.bs g.fs S.nr) x:=by
  intro b v x L N P1 hb hx q;obtain ⟨f,u,L',N',h1,h2,h3⟩:=hG.AR q;have:=hk.ar.inj b f v u x L N L' N' hb h2 hx h3;subst this;exact P1 h1
 have awI:∀ {b v x L N},b ∉ lx g.fs->A.get b=some (.arr v)->E.α b=some (x,L,N)->¬ AT (S.mem P g.vs g.rs) (E.sub A g.bs g.fs S.nr) B x:=by
  intro b v x L N P1 hb hx q;rcases q with q | ⟨bA,q,hm⟩
  ·exact avb P1 hb hx q
  ·obtain ⟨f,u,y,L',N',cs,e,own,m,h1,h2,h3,h4⟩:=hG.AF q
   by_cases CQ:x=y
   ·subst CQ
    have:=hk.ar.inj b f v u x L N L' N' hb h2 hx h3;subst this;exact P1 h1
   ·exact ((hk.ar.vL f u y L' N' cs e own bA m h2 h3 h4).2.2 x hm CQ).2.1 ⟨b,v,L,N,hb,hx⟩
 have MG:∀ {b v x L N},b ∉ lx g.fs->A.get b=some (.arr v)->E.α b=some (x,L,N)->B1.get x=B.get x:=by
  intro b v x L N P1 hb hx;exact Ol x (hk.ar.iW b x L N hx) (fun k c _ e=>(hk.ar.z x ⟨b,v,L,N,hb,hx⟩).2 c e) (awI P1 hb hx)
 have atG:∀ {i v x L N},(S.mem P vs rs).get (S.nr+i)=some (.arr v)->E1.α (S.nr+i)=some (x,L,N)->(∃ f u L' N',f∈lx g.fs/\A.get f=some (.arr u)/\E.α f=some (x,L',N'))\/B.next<=x:=by
  intro i v x L N h1 h2;rcases AA.oZ x ⟨_,v,L,N,h1,h2⟩ with q | q
  ·obtain ⟨f,u,L',N',q1,q2,q3⟩:=hG.AR q
   exact .inl ⟨f,u,L',N',q1,q2,q3⟩
  ·exact .inr q
 have atH:∀ x,AR (S.back P g.bs g.fs vs rs A) (E.up E1 S.nr A.next) x->AR A E x\/AR (S.mem P vs rs) E1 x:=by
  rintro x ⟨b,v,L,N,h1,h2⟩;rcases yH b v h1 with ⟨q1,q2,q3,q4⟩ | ⟨i,rfl,q2,q3⟩
  ·rw [q4] at h2; exact .inl ⟨b,v,L,N,q3,h2⟩
  ·rw [q3] at h2; exact .inr ⟨_,v,L,N,q2,h2⟩
 have atI:∀ q,AF (S.back P g.bs g.fs vs rs A) (E.up E1 S.nr A.next) B1 q->AF A E B q\/AF (S.mem P vs rs) E1 B1 q:=by
  rintro q ⟨b,v,x,L,N,cs,e,own,k,h1,h2,h3⟩;rcases yH b v h1 with ⟨q1,q2,q3,q4⟩ | ⟨i,rfl,q2,q3⟩
  ·rw [q4] at h2
   rw [MG q2 q3 h2] at h3;exact .inl ⟨b,v,x,L,N,cs,e,own,k,q3,h2,h3⟩
  ·rw [q3] at h2; exact .inr ⟨_,v,x,L,N,cs,e,own,k,q2,h2,h3⟩
 have alU:∀ x,AR (S.back P g.bs g.fs vs rs A) (E.up E1 S.nr A.next) x->AR A E x\/B.next<=x:=fun x q=>by
  rcases atH x q with q | q
  ·exact .inl q
  ·exact (AA.oZ x q).imp hG.ar id
 have arp:∀ q,AF (S.back P g.bs g.fs vs rs A) (E.up E1 S.nr A.next) B1 q->AF A E B q\/B.next<=q:=fun x q=>by
  rcases atI x q with q | q
  ·exact .inl q
  ·exact (AA.py x q).imp hG.af id
 have atJ:∀ x,x < B.next->E.z x=none->¬ AR (S.mem P g.vs g.rs) (E.sub A g.bs g.fs S.nr) x->E1.z x=none:=fun x hx h1 h2=>by
  cases hz:E1.z x with
  | none=>rfl
  | some r=>
   rcases AA.wK x r hz with e | e | e
   ·have e:E.z x=some r:=e
    rw [h1] at e; simp at e
   ·exact (h2 e).elim
   ·omega
 have avc:∀ {b v x L N cs e own q k},b ∉ lx g.fs->A.get b=some (.arr v)->E.α b=some (x,L,N)->B.get x=some (.row cs e own (some (q,k)))->¬ AF (S.mem P g.vs g.rs) (E.sub A g.bs g.fs S.nr) B q:=by
  intro b v x L N cs e own q k P1 hb hx hQ r;obtain ⟨f,u,y,L',N',cu,e',rJ,m,h1,h2,h3,h4⟩:=hG.AF r;have:=hk.ar.xK b f v u x y L N L' N' cs e own q k cu e' rJ m hb h2 hx h3 hQ h4;subst this;exact P1 h1
 have uh:NW P (E.up E1 S.nr A.next) (S.back P g.bs g.fs vs rs A) B1:=by
  refine ⟨?_,?_,?_,?_,?_,?_,?_,?_,?_,?_⟩
  ·intro b v hb
   rcases yH b v hb with ⟨q1,q2,q3,q4⟩ | ⟨i,rfl,q2,q3⟩
   ·obtain ⟨T,N,es,acc,h1,h2,h3,h4⟩:=hk.ar.arr b v q3
    refine ⟨T,N,es,acc,h1,h2,h3,?_⟩;rcases h4 with ⟨h4,h5⟩ | ⟨x,cs,cp,bK,h4,h5,h6,h7⟩
    ·exact .inl ⟨h4,by rw [q4]; exact h5⟩
    ·exact .inr ⟨x,cs,cp,bK,by rw [q4]; exact h4,by rw [MG q2 q3 h4]; exact h5,h6.mono hle,h7⟩
   ·obtain ⟨T,N,es,acc,h1,h2,h3,h4⟩:=hs.ar.arr _ v q2
    refine ⟨T,N,es,acc,h1,h2,h3,?_⟩;rcases h4 with ⟨h4,h5⟩ | ⟨x,cs,cp,bK,h4,h5,h6,h7⟩
    ·exact .inl ⟨h4,by rw [q3]; exact h5⟩
    ·exact .inr ⟨x,cs,cp,bK,by rw [q3]; exact h4,h5,bC.zEs (E:=E1) (E0:=E.up E1 S.nr A.next) (.of rfl) h6 h2.typed,h7⟩
  ·intro b v hb
   rcases hinv b _ hb with ⟨_,_,_,e,_⟩ | ⟨_,_,h1⟩ | ⟨_,e⟩ | ⟨i,q,_,h2,e⟩
   ·simp at e
   ·obtain ⟨T,N,es,acc,h2,h3,h4,h5⟩:=hk.ar.kW b v h1
    have tF:(E.up E1 S.nr A.next).α b=E.α b:=Env.MF (hk.live b _ h1);refine ⟨T,N,es,acc,h2,h3,h4,?_⟩;rcases h5 with ⟨h5,h6⟩ | ⟨x,r,bK,h5,h6,h7,h8,h9⟩
    ·exact .inl ⟨h5,by rw [tF]; exact h6⟩
    ·exact .inr ⟨x,r,bK,by rw [tF]; exact h5,AA.z x r h6,h7,h8.mono hle,h9⟩
   ·simp at e
   ·rcases aro i q h2 with ⟨_,_,e2⟩ | ⟨_,e2⟩ <;> rw [<- e] at e2 <;> simp at e2
  ·rintro x ⟨b,v,L,N,h1,h2⟩
   rcases yH b v h1 with ⟨q1,q2,q3,q4⟩ | ⟨i,rfl,q2,q3⟩
   ·rw [q4] at h2
    obtain ⟨h3,h4⟩:=hk.ar.z x ⟨b,v,L,N,q3,h2⟩;exact ⟨atJ x (hk.ar.iW b x L N h2) h3 (avb q2 q3 h2),h4⟩
   ·rw [q3] at h2
    refine ⟨(hs.ar.z x ⟨_,v,L,N,q2,h2⟩).1,fun c e=>?_⟩;rcases AA.oZ x ⟨_,v,L,N,q2,h2⟩ with q | q
    ·exact (hk.ar.z x (hG.ar q)).2 c e
    ·have:=hk.iW c x e; omega
  ·intro b c v u x L N L' N' hb hc e1 e2
   have Iz:∀ {b v c u L N L' N'},b ∉ lx g.fs->A.get b=some (.arr v)->E.α b=some (x,L,N)->(S.mem P vs rs).get (S.nr+c)=some (.arr u)->E1.α (S.nr+c)=some (x,L',N')->False:=by
    intro b v c u L N L' N' h1 h2 h3 h4 h5;rcases atG h4 h5 with ⟨f,u',L2,N2,k1,k2,k3⟩ | k
    ·have:=hk.ar.inj b f v u' x L N L2 N2 h2 k2 h3 k3
     subst this;exact h1 k1
    ·have:=hk.ar.iW b x L N h3; omega
   rcases yH b v hb with ⟨q1,q2,q3,q4⟩ | ⟨i,rfl,q2,q3⟩ <;> rcases yH c u hc with ⟨r1,r2,r3,r4⟩ | ⟨j,rfl,r2,r3⟩
   ·rw [q4] at e1; rw [r4] at e2
    exact hk.ar.inj b c v u x L N L' N' q3 r3 e1 e2
   ·rw [q4] at e1; rw [r3] at e2
    exact (Iz q2 q3 e1 r2 e2).elim
   ·rw [q3] at e1; rw [r4] at e2
    exact (Iz r2 r3 e2 q2 e1).elim
   ·rw [q3] at e1; rw [r3] at e2
    have:=hs.ar.inj _ _ v u x L N L' N' q2 r2 e1 e2;omega
  ·intro b c v u x y L N L' N' cs e own q k cu e' rJ k' hb hc e1 e2 w1 w2
   have Iz:∀ {b v c u x y L N L' N' cs e own k cu e' rJ k'},b ∉ lx g.fs->A.get b=some (.arr v)->E.α b=some (x,L,N)->(S.mem P vs rs).get (S.nr+c)=some (.arr u)->E1.α (S.nr+c)=some (y,L',N')->B1.get x=some (.row cs e own (some (q,k)))->B1.get y=some (.row cu e' rJ (some (q,k')))->False:=by
    intro b v c u x y L N L' N' cs e own k cu e' rJ k' h1 h2 h3 h4 h5 w1 w2;rw [MG h1 h2 h3] at w1;rcases AA.py q ⟨_,u,y,L',N',cu,e',rJ,k',h4,h5,w2⟩ with r | r
    ·exact avc h1 h2 h3 w1 r
    ·have:=(hk.ar.vL b v x L N cs e own q k h2 h3 w1).1; omega
   rcases yH b v hb with ⟨q1,q2,q3,q4⟩ | ⟨i,rfl,q2,q3⟩ <;> rcases yH c u hc with ⟨r1,r2,r3,r4⟩ | ⟨j,rfl,r2,r3⟩
   ·rw [q4] at e1; rw [r4] at e2
    rw [MG q2 q3 e1] at w1; rw [MG r2 r3 e2] at w2;exact hk.ar.xK b c v u x y L N L' N' cs e own q k cu e' rJ k' q3 r3 e1 e2 w1 w2
   ·rw [q4] at e1; rw [r3] at e2
    exact (Iz q2 q3 e1 r2 e2 w1 w2).elim
   ·rw [q3] at e1; rw [r4] at e2
    exact (Iz r2 r3 e2 q2 e1 w2 w1).elim
   ·rw [q3] at e1; rw [r3] at e2
    have:=hs.ar.xK _ _ v u x y L N L' N' cs e own q k cu e' rJ k' q2 r2 e1 e2 w1 w2;omega
  ·intro b x hb
   have hb:E.κ b=some x:=hb;rw [Env.MF (hk.lW b x hb)];exact hk.ar.dis b x hb
  ·intro b p hb
   rw [aV.back,iX,j7];by_cases h1:b < A.next
   ·omega
   ·obtain ⟨i,rfl⟩:=Nat.exists_eq_add_of_le (Nat.le_of_not_lt h1)
    rw [Env.MD] at hb;have:=hs.ar.lW _ _ hb;rw [aV.mem,iX,p8 S9] at this;omega
  ·intro b x L N hb
   by_cases h1:b < A.next
   ·rw [Env.MF h1] at hb
    have:=hk.ar.iW b x L N hb; have:=AA.gP.next; omega
   ·obtain ⟨i,rfl⟩:=Nat.exists_eq_add_of_le (Nat.le_of_not_lt h1)
    rw [Env.MD] at hb;exact hs.ar.iW _ _ _ _ hb
  ·intro b v x L N cs e own q k hb hx hQ
   rcases yH b v hb with ⟨q1,q2,q3,q4⟩ | ⟨i,rfl,q2,q3⟩
   ·rw [q4] at hx
    have apO:=hQ;rw [MG q2 q3 hx] at apO;obtain ⟨h1,h2,h3⟩:=hk.ar.vL b v x L N cs e own q k q3 hx apO;have hm:B1.members q=B.members q:=AA.sA q h1 (fun c e=>by
     obtain ⟨f',_,_,_,k2,_⟩:=SX c q e;exact h2 f' k2) (avc q2 q3 hx apO)
    refine ⟨by have:=AA.gP.next; omega,fun f e=>?_,fun y hy de=>?_⟩
    ·by_cases hf:f < A.next
     ·rw [Env.C9 hf] at e; exact h2 f e
     ·obtain ⟨j,rfl⟩:=Nat.exists_eq_add_of_le (Nat.le_of_not_lt hf)
      rw [Env.C8] at e;rcases AA.wL _ _ e with ⟨c,e⟩ | e
      ·obtain ⟨f',_,_,_,k2,_⟩:=SX c q e
       exact h2 f' k2
      ·omega
    ·rw [hm] at hy
     obtain ⟨h4,h5,h6⟩:=h3 y hy de;have bG:=hk.mem q y hy;refine ⟨atJ y bG h4 fun r=>h5 (hG.ar r),fun r=>?_,h6⟩;rcases alU y r with r | r
     ·exact h5 r
     ·omega
   ·rw [q3] at hx
    obtain ⟨h1,h2,h3⟩:=hs.ar.vL _ v x L N cs e own q k q2 hx hQ;have CT:=AA.py q ⟨_,v,x,L,N,cs,e,own,k,q2,hx,hQ⟩;refine ⟨h1,fun f e=>?_,fun y hy de=>?_⟩
    ·by_cases hf:f < A.next
     ·rw [Env.C9 hf] at e
      rcases CT with r | r
      ·obtain ⟨f0,u,x0,L0,N0,nM,e0,atK,m,k1,k2,k3,k4⟩:=hG.AF r
       exact (hk.ar.vL f0 u x0 L0 N0 nM e0 atK q m k2 k3 k4).2.1 f e
      ·have:=hk.lu f q e; omega
     ·obtain ⟨j,rfl⟩:=Nat.exists_eq_add_of_le (Nat.le_of_not_lt hf)
      rw [Env.C8] at e;exact h2 _ e
    ·obtain ⟨h4,h5,h6⟩:=h3 y hy de
     have C2:y∈B.members q->(∀ c,c ∉ lx g.fs->∀ v' L' N',A.get c=some (.arr v')->E.α c≠some (y,L',N'))/\∀ c,E.κ c≠some y:=by
      intro hm;rcases CT with r | r
      ·obtain ⟨f0,u,x0,L0,N0,nM,e0,atK,m,k1,k2,k3,k4⟩:=hG.AF r
       by_cases hy0:y=x0
       ·subst hy0
        refine ⟨fun c hc v' L' N' p1 p2=>?_,(hk.ar.z y ⟨f0,u,L0,N0,k2,k3⟩).2⟩;have:=hk.ar.inj c f0 v' u y L' N' L0 N0 p1 k2 p2 k3;subst this;exact hc k1
       ·obtain ⟨_,p5,p6⟩:=(hk.ar.vL f0 u x0 L0 N0 nM e0 atK q m k2 k3 k4).2.2 y hm hy0
        exact ⟨fun c _ v' L' N' p1 p2=>p5 ⟨c,v',L',N',p1,p2⟩,p6⟩
      ·rw [hk.fresh q r] at hm; simp at hm
     refine ⟨h4,?_,fun c e=>?_⟩
     ·rintro ⟨c,v',L',N',r1,r2⟩
      rcases yH c v' r1 with ⟨p1,p2,p3,p4⟩ | ⟨j,rfl,p2,p3⟩
      ·rw [p4] at r2
       rcases AA.yE q y hy with hm | hm
       ·exact (C2 hm).1 c p2 v' L' N' p3 r2
       ·have:=hk.ar.iW c y L' N' r2; omega
      ·rw [p3] at r2
       exact h5 ⟨_,v',L',N',p2,r2⟩
     ·have e:E.κ c=some y:=e
      rcases AA.yE q y hy with hm | hm
      ·exact (C2 hm).2 c e
      ·have:=hk.iW c y e; omega
  ·intro b v hb
   rw [aV.back,iX,j7];rcases yH b v hb with ⟨q1,q2,q3,q4⟩ | ⟨i,rfl,q2,q3⟩
   ·obtain ⟨k1,k2⟩:=hk.ar.nk b v q3
    exact ⟨by omega,k2⟩
   ·refine ⟨?_,?_⟩
    ·have:=hs.live _ _ q2
     rw [aV.mem,iX,p8 S9] at this;omega
    ·show E.κ (A.next+i)=none
     cases hq:E.κ (A.next+i) with
     | none=>rfl
     | some x=>have:=hk.lW _ x hq; omega
 refine ⟨?_,⟨⟨?_,?_,hs.z,?_,hk.inj,?_,?_,?_,?_,?_,hs.nT,?_,hs.fresh,hs.mem,?_⟩,AA.gP,hle,?_,?_,fun _ _ e=>.inl e,?_,?_,?_,?_,?_,AA.yE,?_,AA.rows⟩⟩
 ·refine lL.atE ht (xQ.append (akI (E1:=E1) (E2:=E.up E1 S.nr A.next) rfl hrk hv (arn hG.au9 (hG.vs ▸ hG.gT)) fun m _=>⟨fun q e=>by rw [Env.C8]; exact e,fun q e=>by rw [Env.MD]; exact e⟩) (an3 fun p hp x e=>?_))
  obtain ⟨b,_,h2⟩:=Q8 hG.acA p hp;have bG:p.2.1 < S.rows.length:=by rw [<- hG.agx]; exact (dq.1 h2).1
  rw [iL,MA S _ bG] at e;rw [iL,h2];have e:E1.κ p.2.1=some x:=e;rw [atF _ _ h2] at e;exact e
 ·intro b cs cg hb
  rcases hinv b _ hb with ⟨hbs,_,_,e,h1⟩ | ⟨hbs,_,h1⟩ | ⟨_,e⟩ | ⟨i,q,_,hq,e⟩
  ·obtain ⟨k,yq⟩:=su b hbs
   obtain ⟨p,r,x,cu,q1,q2,q3,q4,q5,q6,q7⟩:=aaw k b yq;rw [h1] at q6;simp only [kV.row.injEq] at e;obtain ⟨rfl,rfl⟩:=e;simp only [di,kV.row.injEq] at q6;obtain ⟨rfl,rfl⟩:=q6;exact ⟨x,cu,q3,q4,q5⟩
  ·obtain ⟨x,c,q1,q2,q3⟩:=hk.row b cs cg h1
   refine ⟨x,c,q1,?_,q3.mono hle⟩;rw [Ol x (hk.iW b x q1) (fun k b' hb' e=>?_) fun q=>hk.awG q1 (hG.at q)]
   ·exact q2
   ·have:=hk.inj _ _ _ q1 e
    subst this;exact hbs (jD hb')
  ·simp at e
  ·rcases aro i q hq with ⟨_,_,e2⟩ | ⟨_,e2⟩ <;> rw [<- e] at e2 <;> simp at e2
 ·intro b top sz hb
  rcases hinv b _ hb with ⟨_,_,_,e,_⟩ | ⟨hbs,P1,h1⟩ | ⟨_,e⟩ | ⟨i,q,rfl,h2,e⟩
  ·simp at e
  ·rcases hk.bA b top sz h1 with ⟨h2,h3⟩ | ⟨q,h2,h3,h4⟩
   ·exact .inl ⟨h2,by rw [Env.C9 (hk.live b _ h1)]; exact h3⟩
   ·have hq:=hk.lu b q h2
    refine .inr ⟨q,by rw [Env.C9 (hk.live b _ h1)]; exact h2,h3,fun x hx cs e own f k hQ=>?_⟩;have hmq:B1.members q=B.members q:=AA.sA q hq (fun c e=>by
     obtain ⟨f',_,_,h5,h6,h7⟩:=SX c q e;have:=hk.kR b f' q _ _ _ _ h1 h7 h2 h6;subst this;exact P1 h5) fun k=>by
      obtain ⟨c,v,y,L,N,cs,e,own,m,h5,h6,h7⟩:=hG.af k;exact (hk.ar.vL c v y L N cs e own q m h5 h6 h7).2.1 b h2
    rw [hmq] at hx;obtain ⟨nM,q1,q2⟩:=AA.rows x (hk.mem q x hx) _ _ _ _ hQ;obtain ⟨q3,q4⟩:=h4 x hx nM e own f k q1;exact ⟨q3,by rw [<- q2]; exact q4⟩
  ·simp at e
  ·subst e
   have:=hs.bA _ _ _ (Yg S9 h2);rw [Env.C8];exact this
 ·intro b x hb
  have hx:=hk.iW b x hb;show E1.z x=none;cases hz:E1.z x with
  | none=>rfl
  | some r=>
   rcases AA.wK x r hz with e | e | e
   ·have e:E.z x=some r:=e
    rw [hk.apart b x hb] at e; simp at e
   ·exact absurd hb ((hk.ar.z x (hG.ar e)).2 b)
   ·omega
 ·intro b c q tb sb tc sc hb hc e1 e2
  have key:∀ {b tb sb},(S.back P g.bs g.fs vs rs A).get b=some (.bA tb sb)->(b < A.next/\b ∉ lx g.fs/\A.get b=some (.bA tb sb))\/∃ i,b=A.next+i/\(S.mem P vs rs).get (S.nr+i)=some (.bA tb sb):=by
   intro b tb sb hb;rcases hinv b _ hb with ⟨_,_,_,e,_⟩ | ⟨_,P1,h1⟩ | ⟨_,e⟩ | ⟨i,q,rfl,h2,e⟩
   ·simp at e
   ·exact .inl ⟨hk.live b _ h1,P1,h1⟩
   ·simp at e
   ·subst e
    exact .inr ⟨i,rfl,Yg S9 h2⟩
  have Iz:∀ {b c tb sb i},b < A.next->b ∉ lx g.fs->A.get b=some (.bA tb sb)->c=A.next+i->E.φ b=some q->E1.φ (S.nr+i)=some q->False:=by
   intro b c tb sb i _ h2 h3 _ h5 h6;rcases AA.wL _ _ h6 with ⟨c',e⟩ | e
   ·obtain ⟨f',_,_,k1,k2,k3⟩:=SX c' q e
    have:=hk.kR b f' q _ _ _ _ h3 k3 h5 k2;subst this;exact h2 k1
   ·have:=hk.lu b q h5; omega
  rcases key hb with ⟨h1,h2,h3⟩ | ⟨i,rfl,h2⟩ <;> rcases key hc with ⟨k1,k2,k3⟩ | ⟨j,rfl,k2⟩
  ·rw [Env.C9 h1] at e1; rw [Env.C9 k1] at e2
   exact hk.kR b c q _ _ _ _ h3 k3 e1 e2
  ·rw [Env.C9 h1] at e1; rw [Env.C8] at e2
   exact (Iz h1 h2 h3 rfl e1 e2).elim
  ·rw [Env.C8] at e1; rw [Env.C9 k1] at e2
   exact (Iz k1 k2 k3 rfl e2 e1).elim
  ·rw [Env.C8] at e1 e2
   have:=hs.kR _ _ q _ _ _ _ h2 k2 e1 e2;omega
 ·intro b x hb; have h1:=hk.lW b x hb; rw [aV.back,iX,j7]; omega
 ·intro b q hb
  rw [aV.back,iX,j7];by_cases h1:b < A.next
  ·omega
  ·obtain ⟨i,rfl⟩:=Nat.exists_eq_add_of_le (Nat.le_of_not_lt h1)
   rw [Env.C8] at hb;have:=hs.nS _ _ hb;rw [aV.mem,iX,p8 S9] at this;omega
 ·intro b o hb
  rw [aV.back,iX,j7];rcases hinv b _ hb with ⟨hbs,_⟩ | ⟨_,_,h1⟩ | ⟨h1,_⟩ | ⟨i,q,rfl,h2,_⟩
  ·obtain ⟨k,yq⟩:=su b hbs
   obtain ⟨p,r,x,cu,_,_,h3,_⟩:=aaw k b yq;have:=hk.lW b x h3; omega
  ·have:=hk.live b _ h1; omega
  ·obtain ⟨_,_,⟨_,_,h3⟩ | ⟨_,h3⟩⟩:=hfs b h1
   ·have:=hk.live b _ h3; omega
   ·have:=hk.live b _ h3; omega
  ·have:=(dq.1 h2).1; omega
 ·intro b x hb; have:=hk.iW b x hb; have:=AA.gP.next; omega
 ·intro b q hb
  by_cases h1:b < A.next
  ·rw [Env.C9 h1] at hb
   have:=hk.lu b q hb; have:=AA.gP.next; omega
  ·obtain ⟨i,rfl⟩:=Nat.exists_eq_add_of_le (Nat.le_of_not_lt h1)
   rw [Env.C8] at hb;exact hs.lu _ _ hb
 ·exact uh
 ·rw [aV.back,iX,j7]; omega
 ·intro x hx de hna
  exact Ol x hx (fun k b _ e=>de b e) fun q=>hna (hG.at q)
 ·intro b r e
  exact (AA.wK b r e).imp id (fun e=>e.imp hG.ar id)
 ·intro b q hb
  by_cases h1:b < A.next
  ·rw [Env.C9 h1] at hb; exact .inl ⟨b,hb⟩
  ·obtain ⟨i,rfl⟩:=Nat.exists_eq_add_of_le (Nat.le_of_not_lt h1)
   rw [Env.C8] at hb;rcases AA.wL _ _ hb with ⟨c,e⟩ | e
   ·obtain ⟨f',_,_,_,k2,_⟩:=SX c q e
    exact .inl ⟨f',k2⟩
   ·exact .inr e
 ·intro q hq de hna
  refine AA.sA q hq (fun c e=>?_) fun k=>hna (hG.af k);obtain ⟨f',_,_,_,k2,_⟩:=SX c q e;exact de f' k2
 ·exact alU
 ·exact arp
 ·rintro y (q | ⟨q,h1,h2⟩)
  ·exact (alU y q).imp .inl id
  ·rcases AA.yE q y h2 with h2 | h2
   ·rcases arp q h1 with h1 | h1
    ·exact .inl (.inr ⟨q,h1,h2⟩)
    ·rw [hk.fresh q h1] at h2; simp at h2
   ·exact .inr h2
theorem restore {S:aV} {t:bO} {A:aw} {B B1:St} {g:GR} {ρ og:Ren} {base N:Nat} {w w1:World} {a1:Act} {vs:List KV} {rs:List (List KV)} {E1:Env} (hG:dU P S t A g) (hk:fX P E A B)
  (ht:lL P E1 og (S.tm S.nr S.ids vs) N a1) (hs:fX P E1 (S.mem P vs rs) B1) (AA:Co base (E.sub A g.bs g.fs S.nr) (S.mem P g.vs g.rs) B ρ w E1 (S.mem P vs rs) B1 og w1) (JF:∀ k,k < S.rows.length->E1.κ k=(E.sub A g.bs g.fs S.nr).κ k)
  (hv:jU S.gT vs=true) (S9:rs.length=S.rows.length) (hrg:∀ (k:Nat) p r,S.rows[k]? = some p->rs[k]? = some r->dT p.2.1 r=true) :
  ∃ E',lL P E' og (S.tm A.next g.bs vs) N a1/\Ev P base E A B ρ w E' (S.back P g.bs g.fs vs rs A) B1 og w1:=⟨_,akJ hG hk ht hs AA JF hv S9 hrg⟩
end Go.K
end
section
namespace Go.K
open Go Go.aB
variable {P:Program} {E:Env}
structure D4 (P:Program) (S:aV) (vs:List KV) (rs:List (List KV)):Prop where
 v:jU S.gT vs=true
 vb:rs.length=S.rows.length
 Aq:∀ (k:Nat) p r,S.rows[k]? = some p->rs[k]? = some r->dT p.2.1 r=true
 vn:∃ t A,vs=r5 P t A S.gT
 rn:∀ (k:Nat) p,S.rows[k]? = some p->∃ A nM,rs[k]? = some (gp P A p.2.1 nM)/\nM.length=p.2.1.length
theorem dU.Pn {S:aV} {t:bO} {A:aw} {g:GR} (h:dU P S t A g):D4 P S g.vs g.rs:=
 ⟨h.gT,h.vb,h.Aq,⟨t,A,h.vs⟩,fun _ _ hp=>by obtain ⟨_,cs,_,_,h1,_,h2,_⟩:=h.row hp; exact ⟨A,cs,h2,h1⟩⟩
section
variable {cfg:fE} {L n:Nat} {f:FuncId} {S:aV} {root body:Code} {p N:Nat}
theorem apP (hP:P.funcs.toList.all pd=true) (hm:P.follows .mixedOrders=true) (kb:u6 P cfg.pc) (o4:Ay P cfg) {fn:Func} (hf:P.funcs[f]? = some fn) (hb:fn.body=some root) (hs:Sub root p (.loop body)) (hc:codeOk N body=true)
  {vs cX:List KV} {rs o5:List (List KV)} {e:ae} (hr:dB P cfg L n f p body S vs rs=some (e,cX,o5)) {B:St} {ρ:Ren} {base:Nat} {a:Act} {w:World} {Q:Exit->Act->World->Prop} (dt:D4 P S vs rs)
  (ht:lL P E ρ (S.tm S.nr S.ids vs) N a) (hj:KJ P E (S.mem P vs rs) B ρ base w)
  (hq:∀ E' B' bd a' w',lL P E' bd (S.tm S.nr S.ids cX) N a'->a'.defers=a.defers->KJ P E' (S.mem P cX o5) B' bd base w'->Co base E (S.mem P vs rs) B ρ w E' (S.mem P cX o5) B' bd w'->(∀ k,k < S.rows.length->E'.κ k=E.κ k)->D4 P S cX o5->Q e.out a' w'):body.wp P Q a w:=by
 have xG:=xk (R:=ae×List KV×List (List KV)) hP hm kb o4 L n;refine mF kb xG hm (o4.2 f fn root hf hb) body (2 * p) hs.loop hc _ _ _ _ E B ρ base a w Q hr ht hj fun e' t' E1 A1 B1 og a1 w1 h1 h2 h3 h4=>?_;cases hi:yL (S.gQ P t' A1).bs S.ids with
 | false=>
  simp only [hi,ba] at h1;exact absurd h1 (by simp)
 | true=>
  simp only [hi,ak] at h1;cases ho:(S.gQ P t' A1).ok with
  | false=>simp only [ho] at h1; exact absurd h1 (by simp)
  | true=>
   simp only [ho,di,fS] at h1;obtain ⟨rfl,rfl,rfl⟩:=h1;have hG:=MB ho;have atL:=Q7 hi;refine hq _ B1 og a1 w1 (hG.tkr h2) h3 ⟨hG.kC h4.kC,h4.gP.kC⟩ (h4.co hG) (fun k hk=>?_) hG.Pn;have hp:=dr hk;have hr':=dr (show k < rs.length by rw [dt.vb]; exact hk);obtain ⟨x,_,hx,_⟩:=hj.k.row k _ _ (mem_row dt.vb hp hr');have e1:(E1.sub A1 (S.gQ P t' A1).bs (S.gQ P t' A1).fs S.nr).κ k=E1.κ k:=by
    simp only [Env.sub];rw [atL,MA S k hk,fy]
   rw [e1,hx];exact h4.le.κ k x hx
theorem akK (hP:P.funcs.toList.all pd=true) (hm:P.follows .mixedOrders=true) (kb:u6 P cfg.pc) (o4:Ay P cfg) {fn:Func} (hf:P.funcs[f]? = some fn) (hb:fn.body=some root) (hs:Sub root p (.loop body)) (hc:codeOk N body=true)
  {e:ae} {cX:List KV} {o5:List (List KV)} : ∀ (m:Nat) {vs:List KV} {rs:List (List KV)},B5 (dB P cfg L n f p body S) m vs rs=some (e,cX,o5)->∀ {E:Env} {B:St} {ρ:Ren} {base:Nat} {a:Act} {w:World} {Q:Exit->Act->World->Prop},D4 P S vs rs->
  lL P E ρ (S.tm S.nr S.ids vs) N a->KJ P E (S.mem P vs rs) B ρ base w->
  (∀ E' B' bd a' w',lL P E' bd (S.tm S.nr S.ids cX) N a'->a'.defers=a.defers->KJ P E' (S.mem P cX o5) B' bd base w'->Co base E (S.mem P vs rs) B ρ w E' (S.mem P cX o5) B' bd w'->(∀ k,k < S.rows.length->E'.κ k=E.κ k)->D4 P S cX o5->Q e.out a' w')->Code.rounds P body Q m a w
 | 0,vs,rs,h,E,B,ρ,base,a,w,Q,dt,ht,hj,hq=>by simp [B5] at h
 | m+1,vs,rs,h,E,B,ρ,base,a,w,Q,dt,ht,hj,hq=>by
  unfold B5 at h;split at h
  ·rename_i e1 vs1 rs1 hr
   rw [rounds_succ];refine apP hP hm kb o4 hf hb hs hc hr dt ht hj fun E' B' bd a' w' h1 h2 h3 h4 h5 h6=>?_;have fin:va e1=false->some (e1,vs1,rs1)=some (e,cX,o5)->Q e1.out a' w':=by
    intro _ h;simp only [di,fS] at h;obtain ⟨rfl,rfl,rfl⟩:=h;exact hq E' B' bd a' w' h1 h2 h3 h4 h5 h6
   cases e1 with
   | normal=>
    have h:B5 (dB P cfg L n f p body S) m vs1 rs1=some (e,cX,o5):=h;exact akK hP hm kb o4 hf hb hs hc m h h6 h1 h3 fun JI Li wJ a'' JD q1 q2 q3 q4 q5 q6=>hq JI Li wJ a'' JD q1 (q2.trans h2) q3 (h4.trans q4) (fun k hk=>(q5 k hk).trans (h5 k hk)) q6
   | exit id=>exact fin rfl h
   | goto l=>exact fin rfl h
   | ret=>exact fin rfl h
  ·simp at h
theorem aaW {R:Type} {bs:List Nat} {fs:List (Option Nat)} {A:aw} {k:KE R} {r:R} : ∀ (x:v7),(x.tell P S bs fs A).run k=some r->∃ e cX o5,x.ev=some (e,cX,o5)/\k e (S.tm A.next bs cX) (S.back P bs fs cX o5 A)=some r
 | .no,h=>absurd h (by simp [v7.tell,CZ.run])
 | .out e vs rs,h=>⟨e,vs,rs,rfl,h⟩
 | .br c x y,h=>by
  have h:Bool.rec (motive:=fun _=>Option R) ((y.tell P S bs fs A).run k) ((x.tell P S bs fs A).run k) c=some r:=h;cases c with
  | true=>exact aaW x h
  | false=>exact aaW y h
theorem apQ (hP:P.funcs.toList.all pd=true) (hm:P.follows .mixedOrders=true) (kb:u6 P cfg.pc) (o4:Ay P cfg) {fn:Func} (hf:P.funcs[f]? = some fn) (hb:fn.body=some root) (hs:Sub root p (.loop body)) (hc:codeOk N body=true) {F:LFn}
  (hF:∀ vs rs e cX o5,D4 P S vs rs->(F vs rs).ev=some (e,cX,o5)->B5 (dB P cfg L n f p body S) iI vs rs=some (e,cX,o5)):SQ P N body (anW P S F):=by
 intro R k r t A E B ρ base a w Q h ht hj hq;cases hpe:S.au8 t A with
 | true=>
  unfold VJ anW at h;rw [hpe] at h;exact absurd h (by simp [CZ.run])
 | false=>
 have h:VJ (anW P S F) k t A=some r:=h;unfold VJ anW at h;rw [hpe,ba] at h;have h:Bool.rec (motive:=fun _=>Option R) none (((F (S.gQ P t A).vs (S.gQ P t A).rs).tell P S (S.gQ P t A).bs (S.gQ P t A).fs A).run k) (S.gQ P t A).ok=some r:=h;cases ho:(S.gQ P t A).ok with
 | false=>rw [ho] at h; exact absurd h (by simp)
 | true=>
  rw [ho] at h;have hG:=MB ho;obtain ⟨e,cX,o5,h9,vX⟩:=aaW _ h;have hm':=hF _ _ e cX o5 hG.Pn h9;refine akK hP hm kb o4 hf hb hs hc iI hm' hG.Pn (hG.tkr ht) ⟨hG.kC hj.k,hj.s⟩ fun E' B' bd a' w' q1 q2 q3 q4 q5 q6=>?_;obtain ⟨E2,r1,r2⟩:=restore hG hj.k q1 q3.k q4 q5 q6.v q6.vb q6.Aq;exact hq e _ E2 _ B' bd a' w' vX r1 q2 r2
end
end Go.K
end
section
namespace Go.K
open Go Go.aB
variable {P:Program} {E:Env}
def Env.re (E:Env) (f n:Nat):Env:={ κ:=E.κ,z:=E.z,φ:=E.φ,α:=fun b=>if b=f then E.α n else E.α b }
theorem Env.atM {f n:Nat} (h:∀ p,E.α f=some p->E.α n=some p):E.le (E.re f n):=⟨fun b p e=>by
 simp only [Env.re];split
 ·rename_i e1; subst e1; exact h p e
 ·exact e,fun _ _ e=>e,fun _ _ e=>e,fun _ _ e=>e⟩
theorem Env.apR {f n:Nat} : (E.re f n).α f=E.α n:=by simp [Env.re]
theorem Env.Ez {f n b:Nat} (h:b≠f):(E.re f n).α b=E.α b:=by simp [Env.re,h]
theorem fX.swap {A:aw} {B:St} {f n:Nat} {v:KV} (h:fX P E A B) (hf:A.get f=some .dead) (hn:A.get n=some (.arr v)) (JF:E.κ f=none) (tF:∀ p,E.α f=some p->E.α n=some p) :
  fX P (E.re f n) ((A.put f (.arr v)).put n .dead) B/\(∀ x,AR ((A.put f (.arr v)).put n .dead) (E.re f n) x->AR A E x)/\∀ g,AF ((A.put f (.arr v)).put n .dead) (E.re f n) B g->AF A E B g:=by
 have de:f≠n:=fun e=>by rw [e,hn] at hf; simp at hf
 have hle:=Env.atM tF;have lD:∀ b o,((A.put f (.arr v)).put n .dead).get b=some o->(b=n/\o = .dead)\/(b=f/\o = .arr v)\/(b≠f/\b≠n/\A.get b=some o):=fun b o hb=>by
  rw [aw.cz] at hb;split at hb
  ·rename_i e; simp at hb; exact .inl ⟨e,hb.symm⟩
  ·rename_i e
   rw [aw.cz] at hb;split at hb
   ·rename_i e2; simp at hb; exact .inr (.inl ⟨e2,hb.symm⟩)
   ·rename_i e2; exact .inr (.inr ⟨e2,e,hb⟩)
 have hA:∀ b u,((A.put f (.arr v)).put n .dead).get b=some (.arr u)->∃ c,A.get c=some (.arr u)/\(E.re f n).α b=E.α c/\((b=f/\c=n)\/(b≠f/\b≠n/\c=b)):=fun b u hb=>by
  rcases lD b _ hb with ⟨_,e⟩ | ⟨e,e2⟩ | ⟨e,e2,e3⟩
  ·simp at e
  ·simp at e2; subst e2 e; exact ⟨n,hn,Env.apR,.inl ⟨rfl,rfl⟩⟩
  ·exact ⟨b,e3,Env.Ez e,.inr ⟨e,e2,rfl⟩⟩
 have agk:∀ {b c d:Nat},((b=f/\d=n)\/(b≠f/\b≠n/\d=b))->((c=f/\d=n)\/(c≠f/\c≠n/\d=c))->b=c:=fun h1 h2=>by
  rcases h1 with ⟨a1,a2⟩ | ⟨a1,a2,a3⟩ <;> rcases h2 with ⟨b1,b2⟩ | ⟨b1,b2,b3⟩ <;> omega
 have uh:∀ x,AR ((A.put f (.arr v)).put n .dead) (E.re f n) x->AR A E x:=fun x ⟨b,u,L,N,h1,h2⟩=>by
  obtain ⟨c,h3,h4,_⟩:=hA b u h1;exact ⟨c,u,L,N,h3,by rw [<- h4]; exact h2⟩
 have Lh:∀ g,AF ((A.put f (.arr v)).put n .dead) (E.re f n) B g->AF A E B g:=fun g ⟨b,u,x,L,N,cs,e,own,k,h1,h2,h3⟩=>by
  obtain ⟨c,h4,h5,_⟩:=hA b u h1;exact ⟨c,u,x,L,N,cs,e,own,k,h4,by rw [<- h5]; exact h2,h3⟩
 have hold:∀ b o,((A.put f (.arr v)).put n .dead).get b=some o->b < A.next:=fun b o hb=>by
  rcases lD b _ hb with ⟨e,_⟩ | ⟨e,_⟩ | ⟨_,_,e⟩
  ·rw [e]; exact h.live n _ hn
  ·rw [e]; exact h.live f _ hf
  ·exact h.live b o e
 refine ⟨⟨fun b cs cg hb=>?_,fun b top sz hb=>?_,h.z,h.apart,h.inj,fun b c g tb sb tc sc hb hc=>?_,h.lW,h.nS,hold,h.iW,h.nT,h.lu,h.fresh,h.mem,?_⟩,uh,Lh⟩
 ·rcases lD b _ hb with ⟨_,e⟩ | ⟨_,e⟩ | ⟨_,_,e⟩
  ·simp at e
  ·simp at e
  ·obtain ⟨x,cu,h1,h2,h3⟩:=h.row b cs cg e
   exact ⟨x,cu,h1,h2,h3.mono hle⟩
 ·rcases lD b _ hb with ⟨_,e⟩ | ⟨_,e⟩ | ⟨_,_,e⟩
  ·simp at e
  ·simp at e
  ·exact h.bA b top sz e
 ·rcases lD b _ hb with ⟨_,e⟩ | ⟨_,e⟩ | ⟨_,_,hb⟩
  ·simp at e
  ·simp at e
  rcases lD c _ hc with ⟨_,e⟩ | ⟨_,e⟩ | ⟨_,_,hc⟩
  ·simp at e
  ·simp at e
  exact h.kR b c g tb sb tc sc hb hc
 ·refine ⟨fun b u hb=>?_,fun b u hb=>?_,fun x q=>h.ar.z x (uh x q),fun b c u u' x L N L' N' h1 h2 h3 h4=>?_,fun b c u u' x y L N L' N' cs e own g k cu e' rJ k' h1 h2 h3 h4 h5 h6=>?_,fun b x e=>?_,fun b p e=>?_,fun b x L N e=>?_,fun b u x L N cs e own g k h1 h2 h3=>?_,fun b u hb=>?_⟩
  ·obtain ⟨c,h1,h2,_⟩:=hA b u hb
   obtain ⟨T,N,es,acc,q1,q2,q3,q4⟩:=h.ar.arr c u h1;refine ⟨T,N,es,acc,q1,q2,q3,?_⟩;rw [h2];exact q4.imp id fun ⟨x,cs,cp,bK,r1,r2,r3,r4⟩=>⟨x,cs,cp,bK,r1,r2,r3.mono hle,r4⟩
  ·rcases lD b _ hb with ⟨_,e⟩ | ⟨_,e⟩ | ⟨e1,_,e⟩
   ·simp at e
   ·simp at e
   ·exact (h.ar.kW b u e).mono hle (Env.Ez e1)
  ·obtain ⟨b',k1,k2,k3⟩:=hA b u h1
   obtain ⟨c',l1,l2,l3⟩:=hA c u' h2;rw [k2] at h3; rw [l2] at h4;have:=h.ar.inj b' c' u u' x L N L' N' k1 l1 h3 h4;subst this;exact agk k3 l3
  ·obtain ⟨b',k1,k2,k3⟩:=hA b u h1
   obtain ⟨c',l1,l2,l3⟩:=hA c u' h2;rw [k2] at h3; rw [l2] at h4;have:=h.ar.xK b' c' u u' x y L N L' N' cs e own g k cu e' rJ k' k1 l1 h3 h4 h5 h6;subst this;exact agk k3 l3
  ·have hb:b≠f:=fun e2=>by rw [e2] at e; rw [show (E.re f n).κ f=E.κ f from rfl,JF] at e; simp at e
   rw [Env.Ez hb];exact h.ar.dis b x e
  ·by_cases hb:b=f
   ·rw [hb]; exact h.live f _ hf
   ·rw [Env.Ez hb] at e; exact h.ar.lW b p e
  ·by_cases hb:b=f
   ·rw [hb,Env.apR] at e; exact h.ar.iW n x L N e
   ·rw [Env.Ez hb] at e; exact h.ar.iW b x L N e
  ·obtain ⟨c,k1,k2,_⟩:=hA b u h1
   rw [k2] at h2;obtain ⟨q1,q2,q3⟩:=h.ar.vL c u x L N cs e own g k k1 h2 h3;exact ⟨q1,q2,fun y hy hy2=>⟨(q3 y hy hy2).1,fun q=>(q3 y hy hy2).2.1 (uh y q),(q3 y hy hy2).2.2⟩⟩
  ·refine ⟨hold b _ hb,?_⟩
   rcases lD b _ hb with ⟨_,e⟩ | ⟨e,_⟩ | ⟨_,_,e⟩
   ·simp at e
   ·rw [e]; exact JF
   ·exact (h.ar.nk b u e).2
structure Sw (E:Env) (A:aw) (B:St) (E' : Env) (A' : aw):Prop where
 le:E.le E'
 κ:E'.κ=E.κ
 z:E'.z=E.z
 φ:E'.φ=E.φ
 next:A'.next=A.next
 ar:∀ x,AR A' E' x->AR A E x
 af:∀ g,AF A' E' B g->AF A E B g
theorem Sw.refl {A:aw} {B:St} : Sw E A B E A:=⟨Env.le_refl _,rfl,rfl,rfl,rfl,fun _ h=>h,fun _ h=>h⟩
theorem Sw.trans {E1 E2 E3:Env} {A1 A2 A3:aw} {B:St} (h:Sw E1 A1 B E2 A2) (k:Sw E2 A2 B E3 A3):Sw E1 A1 B E3 A3:=
 ⟨Env.le_trans h.le k.le,k.κ.trans h.κ,k.z.trans h.z,k.φ.trans h.φ,k.next.trans h.next,fun x q=>h.ar x (k.ar x q),fun g q=>h.af g (k.af g q)⟩
theorem Ev.sw {base:Nat} {E1 E2 E3:Env} {A1 A2 A3:aw} {B1 B2:St} {og yF:Ren} {w1 w2:World} (h:Ev P base E1 A1 B1 og w1 E2 A2 B2 yF w2) (hk:fX P E3 A3 B2) (k:Sw E2 A2 B2 E3 A3):Ev P base E1 A1 B1 og w1 E3 A3 B2 yF w2 where
 kC:=hk
 gP:=h.gP
 le:=Env.le_trans h.le k.le
 next:=by rw [k.next]; exact h.next
 ik:=h.ik
 new b x e:=h.new b x (by rw [<- k.κ]; exact e)
 wK b r e:=h.wK b r (by rw [<- k.z]; exact e)
 wL b g e:=h.wL b g (by rw [<- k.φ]; exact e)
 sA:=h.sA
 oZ x q:=h.oZ x (k.ar x q)
 py g q:=h.py g (k.af g q)
 yE:=h.yE
 p0 y q:=h.p0 y (q.imp (k.ar y) fun ⟨g,q1,q2⟩=>⟨g,k.af g q1,q2⟩)
 rows:=h.rows
noncomputable section
def Hw:List (Option Nat)->Nat->Bool
 | [],_=>true
 | some f::fs,j=>Nat.beq f j&&Hw fs (Nat.succ j)
 | none::_,_=>false
theorem acI:∀ {fs:List (Option Nat)} {j i:Nat} {x:Option Nat},Hw fs j=true->fs[i]? = some x->x=some (j+i)
 | [],_,_,_,_,e=>by simp at e
 | none::_,_,_,_,h,_=>by simp [Hw] at h
 | some f::fs,j,0,x,h,e=>by
  simp only [Hw,aA] at h;simp at e;rw [<- e,bu h.1];rfl
 | some f::fs,j,i+1,x,h,e=>by
  simp only [Hw,aA] at h;have:=acI (i:=i) (x:=x) h.2 (by simpa using e);rw [this];congr 1;omega
def atN (A:aw) (f j:Nat) (o:kV):aw:=
 match o with
 | .arr v=>(A.put f (.arr v)).put j .dead
 | _=>A
def Hx (A:aw):List (Option Nat)->Nat->List kV->aw
 | some f::fs,j,o::os=>Hx (atN A f j o) fs (Nat.succ j) os
 | none::fs,j,_::os=>Hx A fs (Nat.succ j) os
 | _,_,_=>A
structure akL (E:Env) (A:aw) (fs:List (Option Nat)) (j:Nat) (os:List kV):Prop where
 one:∀ (i:Nat) f v,fs[i]? = some (some f)->os[i]? = some (.arr v)->A.get f=some .dead/\E.κ f=none/\A.get (j+i)=some (.arr v)/\∀ p,E.α f=some p->E.α (j+i)=some p
 lt:∀ (i f:Nat),fs[i]? = some (some f)->f < j
 nodup:∀ (i k f:Nat),fs[i]? = some (some f)->fs[k]? = some (some f)->i=k
theorem akL.tail {E1:Env} {A A1:aw} {x:Option Nat} {o:kV} {fs:List (Option Nat)} {os:List kV} {j:Nat} (h:akL E A (x::fs) j (o::os)) (tF:∀ b,x≠some b->E1.α b=E.α b) (JF:E1.κ=E.κ) (hg:∀ b,x≠some b->b≠j->A1.get b=A.get b):akL E1 A1 fs (Nat.succ j) os where
 one i f v e1 e2:=by
  obtain ⟨h1,h3,h4,h5⟩:=h.one (i+1) f v (by simpa using e1) (by simpa using e2);have bG:=h.lt (i+1) f (by simpa using e1);rw [show j+(i+1)=Nat.succ j+i by omega] at h4 h5;have hf:x≠some f:=fun e=>by have:=h.nodup (i+1) 0 f (by simpa using e1) (by simp [e]); omega
  have hn:x≠some (Nat.succ j+i):=fun e=>by have:=h.lt 0 (Nat.succ j+i) (by simp [e]); omega
  exact ⟨by rw [hg f hf (by omega)]; exact h1,by rw [JF]; exact h3,by rw [hg _ hn (by omega)]; exact h4,fun p e=>by rw [tF f hf] at e; rw [tF _ hn]; exact h5 p e⟩
 lt i f e:=by have:=h.lt (i+1) f (by simpa using e); omega
 nodup i k f e1 e2:=by have:=h.nodup (i+1) (k+1) f (by simpa using e1) (by simpa using e2); omega
theorem aaX {B:St} : ∀ {fs:List (Option Nat)} {os:List kV} {j:Nat} {E:Env} {A:aw},fX P E A B->akL E A fs j os->∃ E',fX P E' (Hx A fs j os) B/\Sw E A B E' (Hx A fs j os)/\
  (∀ (i:Nat) f v,fs[i]? = some (some f)->os[i]? = some (.arr v)->E'.α f=E.α (j+i))/\(∀ b,(∀ i:Nat,fs[i]?≠some (some b))->E'.α b=E.α b)
 | [],os,j,E,A,h,_=>⟨E,h,.refl,fun i f v e=>by simp at e,fun _ _=>rfl⟩
 | x::fs,[],j,E,A,h,_=>⟨E,by cases x <;> exact h,by cases x <;> exact .refl,fun i f v _ e=>by simp at e,fun _ _=>rfl⟩
 | none::fs,o::os,j,E,A,h,ho=>by
  obtain ⟨E',h1,h2,h3,h4⟩:=aaX h (ho.tail (fun _ _=>rfl) rfl fun _ _ _=>rfl);refine ⟨E',h1,h2,fun i f v e1 e2=>?_,fun b hb=>h4 b fun i=>by have:=hb (i+1); simpa using this⟩;cases i with
  | zero=>simp at e1
  | succ i=>
   rw [h3 i f v (by simpa using e1) (by simpa using e2)];congr 1;omega
 | some f0::fs,o::os,j,E,A,h,ho=>by
  have awJ:∀ i:Nat,fs[i]?≠some (some f0):=fun i e=>by have:=ho.nodup (i+1) 0 f0 (by simpa using e) (by simp); omega
  have step:∀ {E1:Env} {A1:aw},fX P E1 A1 B->Sw E A B E1 A1->atN A f0 j o=A1->(∀ b,b≠f0->E1.α b=E.α b)->(∀ v,o = .arr v->E1.α f0=E.α j)->akL E1 A1 fs (Nat.succ j) os->
    ∃ E',fX P E' (Hx A (some f0::fs) j (o::os)) B/\Sw E A B E' (Hx A (some f0::fs) j (o::os))/\(∀ (i:Nat) f v,(some f0::fs)[i]? = some (some f)->(o::os)[i]? = some (.arr v)->E'.α f=E.α (j+i))/\(∀ b,(∀ i:Nat,(some f0::fs)[i]?≠some (some b))->E'.α b=E.α b):=by
   intro E1 A1 k1 k2 k3 k4 k5 k6;obtain ⟨E',h1,h2,h3,h4⟩:=aaX k1 k6;have e0:Hx A (some f0::fs) j (o::os)=Hx A1 fs (Nat.succ j) os:=by rw [<- k3]; rfl
   rw [e0];refine ⟨E',h1,k2.trans h2,fun i f v e1 e2=>?_,fun b hb=>?_⟩
   ·cases i with
    | zero=>
     simp at e1 e2;subst e1;rw [h4 f0 awJ];exact k5 v e2
    | succ i=>
     rw [h3 i f v (by simpa using e1) (by simpa using e2),k4 _ fun e=>by have:=ho.lt 0 f0 (by simp); omega];congr 1;omega
   ·rw [h4 b fun i=>by have:=hb (i+1); simpa using this]
    exact k4 b fun e=>hb 0 (by simp [e])
  cases o with
  | arr v=>
   obtain ⟨h1,h2,h3,h4⟩:=ho.one 0 f0 v (by simp) (by simp);obtain ⟨q1,q2,q3⟩:=h.swap (n:=j) h1 h3 h2 h4;have pj:∀ b,some f0≠some b->b≠j->((A.put f0 (.arr v)).put j .dead).get b=A.get b:=fun b e1 e2=>by
    rw [aw.cz,av e2,aw.cz,av fun e=>e1 (by rw [e])]
   exact step q1 ⟨Env.atM h4,rfl,rfl,rfl,by rw [aw.uQ,aw.uQ],q2,q3⟩ rfl (fun b hb=>Env.Ez hb) (fun _ _=>Env.apR) (ho.tail (fun b hb=>Env.Ez fun e=>hb (by rw [e])) rfl pj)
  | _=>exact step h .refl rfl (fun _ _=>rfl) (fun v e=>by simp at e) (ho.tail (fun _ _=>rfl) rfl fun _ _ _=>rfl)
def rnB (fs:List (Option Nat)) (nx b:Nat):Nat:=cond (Nat.ble nx b) (match ako (b - nx) fs with
 | some (some f)=>f
 | _=>b) b
def rn1 (fs:List (Option Nat)) (nx:Nat) (v:KV):KV:=
 match v with
 | .al t b o n=>.al t (rnB fs nx b) o n
 | v=>v
def atO (fs:List (Option Nat)) (nx:Nat):List KV->List KV
 | []=>[]
 | v::vs=>rn1 fs nx v::atO fs nx vs
def rnV (fs:List (Option Nat)) (nx:Nat) (v:KV):KV:=
 match v with
 | .agg cs=>.agg (atO fs nx cs)
 | v=>rn1 fs nx v
def atP (fs:List (Option Nat)) (nx:Nat):List (Nat×KV)->List (Nat×KV)
 | []=>[]
 | q::qs=>(q.1,rnV fs nx q.2)::atP fs nx qs
def an4 (E1 E2:Env) (fs:List (Option Nat)) (nx:Nat):Prop:=E1.le E2/\∀ (i f:Nat),fs[i]? = some (some f)->∀ p,E1.α (nx+i)=some p->E2.α f=some p
theorem auB {E1 E2:Env} {fs:List (Option Nat)} {nx b:Nat} (h:an4 E1 E2 fs nx) {p:Nat×Nat×Nat} (e:E1.α b=some p):E2.α (rnB fs nx b)=some p:=by
 unfold rnB;cases hb:Nat.ble nx b with
 | false=>exact h.1.α b p e
 | true=>
  simp only [ak];have hb:=fR hb;rw [afV];split
  ·rename_i f hf
   exact h.2 _ f hf p (by rw [show nx+(b - nx)=b by omega]; exact e)
  ·exact h.1.α b p e
theorem arq {E1 E2:Env} {fs:List (Option Nat)} {nx:Nat} (h:an4 E1 E2 fs nx) {v:KV} {u:Value} (hv:VK P E1 v u):VK P E2 (rn1 fs nx v) u:=by
 unfold rn1;split
 ·rename_i t b o n
  refine .T4 ?_;rcases hv.zb with q | ⟨x,L,N,c,q1,q2⟩
  ·exact .inl q
  ·exact .inr ⟨x,L,N,c,auB h q1,q2⟩
 ·exact hv.mono h.1
theorem an5 {E1 E2:Env} {fs:List (Option Nat)} {nx:Nat} (h:an4 E1 E2 fs nx):∀ {vs:List KV} {us:List Value},bC P E1 vs us->bC P E2 (atO fs nx vs) us
 | [],us,hv=>by rw [hv.cw]; exact .nil
 | v::vs,us,hv=>by
  obtain ⟨u,us',rfl,h1,h2⟩:=hv.cons_inv;exact .cons (arq h h1) (an5 h h2)
theorem auC {E1 E2:Env} {fs:List (Option Nat)} {nx:Nat} (h:an4 E1 E2 fs nx) {v:KV} {u:Value} (hv:VK P E1 v u):VK P E2 (rnV fs nx v) u:=by
 unfold rnV;split
 ·obtain ⟨m,rfl,h1⟩:=hv.mi
  exact .rW (an5 h h1)
 ·exact arq h hv
theorem acJ {E1 E2:Env} {fs:List (Option Nat)} {nx:Nat} (h:an4 E1 E2 fs nx):∀ (l:List (Nat×KV)),xQ P E1 E2 l (atP fs nx l)
 | []=>trivial
 | _::qs=>⟨rfl,fun _ hv=>auC h hv,acJ h qs⟩
end
end Go.K
end
section
namespace Go.K
open Go Go.aB
variable {P:Program} {E:Env}
noncomputable section
def Yh:List CD->Bool
 | []=>true
 | .bA _::_=>false
 | _::ds=>Yh ds
def ae6:List (Tmp×VD)->Bool
 | []=>true
 | p::ps=>Yh p.2.ks&&ae6 ps
def ae7:List (Tmp×List CD×Nat)->Bool
 | []=>true
 | p::ps=>Yh p.2.1&&ae7 ps
def aV.stays (S:aV):Bool:=ae6 S.gT&&ae7 S.rows
theorem EB:∀ {ds:List CD} {vs:List KV},Yh ds=true->∀ q∈rl P ds vs,∃ v,q = .arr v
 | [],_,_,q,hq=>by simp [rl] at hq
 | d::ds,[],_,q,hq=>by cases d <;> simp [rl] at hq
 | d::ds,v::vs,h,q,hq=>by
  cases d <;> simp only [Yh,rl,fA] at h hq
  ·exact EB h q hq
  ·exact EB h q hq
  ·simp at h
  ·rcases hq with rfl | hq
   ·exact ⟨_,rfl⟩
   ·exact EB h q hq
  ·exact EB h q hq
theorem agy:∀ {ps:List (Tmp×VD)} {vs:List KV},ae6 ps=true->∀ q∈Az P ps vs,∃ v,q = .arr v
 | [],_,_,q,hq=>by simp [Az] at hq
 | p::ps,[],_,q,hq=>by simp [Az] at hq
 | p::ps,v::vs,h,q,hq=>by
  simp only [ae6,aA,Az,nI] at h hq;exact hq.elim (EB h.1 q) (agy h.2 q)
theorem agz:∀ {ps:List (Tmp×List CD×Nat)} {rs:List (List KV)},ae7 ps=true->∀ q∈BZ P ps rs,∃ v,q = .arr v
 | [],_,_,q,hq=>by simp [BZ] at hq
 | p::ps,[],_,q,hq=>by simp [BZ] at hq
 | p::ps,r::rs,h,q,hq=>by
  simp only [ae7,aA,BZ,nI] at h hq;exact hq.elim (EB h.1 q) (agz h.2 q)
theorem akM {S:aV} (h:S.stays=true) {vs:List KV} {rs:List (List KV)} {i:Nat} {q:kV} (hq:(S.lens P vs rs)[i]? = some q):∃ v,q = .arr v:=by
 simp only [aV.stays,aA] at h;have:=jD hq;simp only [aV.lens,nI] at this;exact this.elim (agy h.1 q) (agz h.2 q)
theorem SY {S:aV} {vs:List KV} {rs:List (List KV)} (hv:jU S.gT vs=true) (hl:rs.length=S.rows.length) (hg:∀ (k:Nat) p r,S.rows[k]? = some p->rs[k]? = some r->dT p.2.1 r=true):(S.lens P vs rs).length=pz S.gT+(S.rows.map fun p=>tI p.2.1).sum:=by
 rw [aV.lens,nH,Fq hv,Lo hl hg rfl]
def aV.kd (S:aV) (nx:Nat) (bs:List Nat) (fs:List (Option Nat)) (vs:List KV):bO:=nm (atP fs nx (acC nx bs S.gT vs++Cq bs S.acA))
def aV.agA (S:aV) (P:Program) (bs:List Nat) (fs:List (Option Nat)) (vs:List KV) (rs:List (List KV)) (A:aw):aw:=Hx (S.back P bs fs vs rs A) fs A.next (S.lens P vs rs)
def art (S:aV) (E E' : Env):Prop:=∀ (i:Nat) p,E.α (S.nr+i)=some p->E'.α (S.nr+i)=some p
theorem akN {S:aV} {t:bO} {A:aw} {B B1:St} {g:GR} {ρ og:Ren} {base N:Nat} {w w1:World} {a1:Act} {vs:List KV} {rs:List (List KV)} {E1:Env} (gR:S.stays=true) (hG:dU P S t A g) (hk:fX P E A B)
  (ht:lL P E1 og (S.tm S.nr S.ids vs) N a1) (hs:fX P E1 (S.mem P vs rs) B1) (AA:Co base (E.sub A g.bs g.fs S.nr) (S.mem P g.vs g.rs) B ρ w E1 (S.mem P vs rs) B1 og w1) (JF:∀ k,k < S.rows.length->E1.κ k=(E.sub A g.bs g.fs S.nr).κ k)
  (hpl:art S (E.sub A g.bs g.fs S.nr) E1)
  (hv:jU S.gT vs=true) (S9:rs.length=S.rows.length) (hrg:∀ (k:Nat) p r,S.rows[k]? = some p->rs[k]? = some r->dT p.2.1 r=true) :
  ∃ E',lL P E' og (S.kd A.next g.bs g.fs vs) N a1/\Ev P base E A B ρ w E' (S.agA P g.bs g.fs vs rs A) B1 og w1:=by
 obtain ⟨ht0,yI⟩:=akJ hG hk ht hs AA JF hv S9 hrg;have j7:(B4 (pV A g.bs S.rows (S.IL A.next g.bs rs)) g.fs).next=A.next:=by rw [J5,V7]
 have hlen:(S.lens P vs rs).length=g.fs.length:=by
  rw [SY hv S9 hrg,hG.fs,uj,<- hG.lens,SY hG.gT hG.vb hG.Aq]
 have hold:∀ (i:Nat) f,g.fs[i]? = some (some f)->∃ u,A.get f=some (.arr u):=by
  intro i f hi;have bG:i < (S.lens P g.vs g.rs).length:=by rw [hG.lens,<- uj,<- hG.fs]; exact (dq.1 hi).1
  obtain ⟨fi,_,h2,h3⟩:=hG.fact (dr bG);rw [hi] at h2; simp at h2;obtain ⟨u0,hu0⟩:=akM gR (dr bG);rcases h3 with ⟨n,sz,e,_⟩ | ⟨T,v,_,⟨h3,_⟩ | ⟨f',m,N,es,acc,h3,h4,_⟩⟩
  ·rw [hu0] at e; simp at e
  ·rw [h3] at h2; simp at h2
  ·rw [h3] at h2; simp at h2; subst h2; exact ⟨_,h4⟩
 have xL:∀ (i f:Nat),g.fs[i]? = some (some f)->∀ p,(E.up E1 S.nr A.next).α f=some p->(E.up E1 S.nr A.next).α (A.next+i)=some p:=fun i f hi p e=>by
  obtain ⟨u,hu⟩:=hold i f hi;rw [Env.MF (hk.live f _ hu)] at e;rw [Env.MD];exact hpl i p (by rw [Env.IP,hi]; exact e)
 have hsw:akL (E.up E1 S.nr A.next) (S.back P g.bs g.fs vs rs A) g.fs A.next (S.lens P vs rs):=by
  refine ⟨fun i f v hi hv=>?_,fun i f hi=>?_,fun i k f h1 h2=>zf hG.ae5 i k f h1 h2⟩
  ·obtain ⟨u,hu⟩:=hold i f hi
   refine ⟨?_,(hk.ar.nk f u hu).2,?_,xL i f hi⟩
   ·rw [aV.back,Hu (by rw [j7]; exact hk.live f _ hu),IM,aY (yM.2 (jD hi))]
   ·have:=Q5 (A:=B4 (pV A g.bs S.rows (S.IL A.next g.bs rs)) g.fs) hv
    rw [j7] at this;exact this
  ·obtain ⟨u,hu⟩:=hold i f hi
   exact hk.live f _ hu
 obtain ⟨E',q1,q2,q3,_⟩:=aaX yI.kC hsw;refine ⟨E',?_,yI.sw q1 q2⟩;refine lL.atE ht0 (acJ ⟨q2.le,fun i f hi p e=>?_⟩ _);have bG:i < (S.lens P vs rs).length:=by rw [hlen]; exact (dq.1 hi).1
 obtain ⟨v,Ij⟩:=akM gR (dr bG);rw [q3 i f v hi (by rw [dr bG,Ij])];exact e
def aV.akO (S:aV) (P:Program) (t:bO) (A:aw):Bool:=cond (yL (S.gQ P t A).bs S.ids) (cond (Hw (S.gQ P t A).fs S.nr) (S.gQ P t A).ok false) false
theorem an6 {S:aV} {t:bO} {A:aw} (h:S.akO P t A=true):yL (S.gQ P t A).bs S.ids=true/\Hw (S.gQ P t A).fs S.nr=true/\(S.gQ P t A).ok=true:=by
 unfold aV.akO at h;cases h1:yL (S.gQ P t A).bs S.ids with
 | false=>rw [h1] at h; simp at h
 | true=>
  cases h2:Hw (S.gQ P t A).fs S.nr with
  | false=>rw [h1,h2] at h; simp at h
  | true=>rw [h1,h2] at h; exact ⟨rfl,rfl,h⟩
def Yi (P:Program) (cfg:fE) (L n:Nat) (f:FuncId) (p:Nat) (body:Code) (S:aV) (vs:List KV) (rs:List (List KV)):Option (ae×List KV×List (List KV)):=
 rZ P cfg (JX P cfg L n) L f body (2 * p) (fun e t A=>
  Bool.rec (motive:=fun _=>Option (ae×List KV×List (List KV))) none (some (e,(S.gQ P t A).vs,(S.gQ P t A).rs)) (S.akO P t A)) (S.tm S.nr S.ids vs) (S.mem P vs rs)
theorem an7 {S:aV} {t:bO} {A:aw} {B0:St} {E1:Env} {g:GR} {vs:List KV} {rs:List (List KV)} (hG:dU P S t A g) (hf:Hw g.fs S.nr=true) (dt:D4 P S vs rs) (hs:fX P E (S.mem P vs rs) B0) (hle:E.le E1):art S E (E1.sub A g.bs g.fs S.nr):=fun i p e=>by
 have hd:=hs.ar.lW _ p e;rw [aV.mem,iX,p8 dt.vb,SY dt.v dt.vb dt.Aq] at hd;have bG:i < g.fs.length:=by
  rw [hG.fs,uj,<- hG.lens,SY hG.gT hG.vb hG.Aq];omega
 have h1:=dr bG;rw [Env.IP,h1,acI hf h1];exact hle.α _ p e
section
variable {cfg:fE} {L n:Nat} {f:FuncId} {S:aV} {root body:Code} {p N:Nat}
theorem akP {t' : bO} {A1:aw} {B B1:St} {ρ og:Ren} {base:Nat} {w w1:World} {E1:Env} {vs:List KV} {rs:List (List KV)} (dt:D4 P S vs rs) (hj:KJ P E (S.mem P vs rs) B ρ base w) (h4:Ev P base E (S.mem P vs rs) B ρ w E1 A1 B1 og w1) (_:dU P S t' A1 (S.gQ P t' A1)) (hi:yL (S.gQ P t' A1).bs S.ids=true) :
  ∀ k,k < S.rows.length->(E1.sub A1 (S.gQ P t' A1).bs (S.gQ P t' A1).fs S.nr).κ k=E.κ k:=fun k hk=>by
 have atL:=Q7 hi;have hp:=dr hk;have hr':=dr (show k < rs.length by rw [dt.vb]; exact hk);obtain ⟨x,_,hx,_⟩:=hj.k.row k _ _ (mem_row dt.vb hp hr');have e1:(E1.sub A1 (S.gQ P t' A1).bs (S.gQ P t' A1).fs S.nr).κ k=E1.κ k:=by
  simp only [Env.sub];rw [atL,MA S k hk,fy]
 rw [e1,hx];exact h4.le.κ k x hx
theorem an8 (hP:P.funcs.toList.all pd=true) (hm:P.follows .mixedOrders=true) (kb:u6 P cfg.pc) (o4:Ay P cfg) {fn:Func} (hf:P.funcs[f]? = some fn) (hb:fn.body=some root) (hs:Sub root p (.loop body)) (hc:codeOk N body=true)
  {vs cX:List KV} {rs o5:List (List KV)} {e:ae} (hr:Yi P cfg L n f p body S vs rs=some (e,cX,o5)) {B:St} {ρ:Ren} {base:Nat} {a:Act} {w:World} {Q:Exit->Act->World->Prop} (dt:D4 P S vs rs)
  (ht:lL P E ρ (S.tm S.nr S.ids vs) N a) (hj:KJ P E (S.mem P vs rs) B ρ base w)
  (hq:∀ E' B' bd a' w',lL P E' bd (S.tm S.nr S.ids cX) N a'->a'.defers=a.defers->KJ P E' (S.mem P cX o5) B' bd base w'->Co base E (S.mem P vs rs) B ρ w E' (S.mem P cX o5) B' bd w'->(∀ k,k < S.rows.length->E'.κ k=E.κ k)->D4 P S cX o5->art S E E'->Q e.out a' w'):body.wp P Q a w:=by
 have xG:=xk (R:=ae×List KV×List (List KV)) hP hm kb o4 L n;refine mF kb xG hm (o4.2 f fn root hf hb) body (2 * p) hs.loop hc _ _ _ _ E B ρ base a w Q hr ht hj fun e' t' E1 A1 B1 og a1 w1 h1 h2 h3 h4=>?_;cases hi:S.akO P t' A1 with
 | false=>simp only [hi] at h1; exact absurd h1 (by simp)
 | true=>
  simp only [hi,di,fS] at h1;obtain ⟨rfl,rfl,rfl⟩:=h1;obtain ⟨i1,i2,i3⟩:=an6 hi;have hG:=MB i3;exact hq _ B1 og a1 w1 (hG.tkr h2) h3 ⟨hG.kC h4.kC,h4.gP.kC⟩ (h4.co hG) (akP dt hj h4 hG i1) hG.Pn (an7 hG i2 dt hj.k h4.le)
theorem agB (hP:P.funcs.toList.all pd=true) (hm:P.follows .mixedOrders=true) (kb:u6 P cfg.pc) (o4:Ay P cfg) {fn:Func} (hf:P.funcs[f]? = some fn) (hb:fn.body=some root) (hs:Sub root p (.loop body)) (hc:codeOk N body=true)
  {e:ae} {cX:List KV} {o5:List (List KV)} : ∀ (m:Nat) {vs:List KV} {rs:List (List KV)},B5 (Yi P cfg L n f p body S) m vs rs=some (e,cX,o5)->∀ {E:Env} {B:St} {ρ:Ren} {base:Nat} {a:Act} {w:World} {Q:Exit->Act->World->Prop},D4 P S vs rs->
  lL P E ρ (S.tm S.nr S.ids vs) N a->KJ P E (S.mem P vs rs) B ρ base w->
  (∀ E' B' bd a' w',lL P E' bd (S.tm S.nr S.ids cX) N a'->a'.defers=a.defers->KJ P E' (S.mem P cX o5) B' bd base w'->Co base E (S.mem P vs rs) B ρ w E' (S.mem P cX o5) B' bd w'->(∀ k,k < S.rows.length->E'.κ k=E.κ k)->D4 P S cX o5->art S E E'->Q e.out a' w')->Code.rounds P body Q m a w
 | 0,vs,rs,h,E,B,ρ,base,a,w,Q,dt,ht,hj,hq=>by simp [B5] at h
 | m+1,vs,rs,h,E,B,ρ,base,a,w,Q,dt,ht,hj,hq=>by
  unfold B5 at h;split at h
  ·rename_i e1 vs1 rs1 hr
   rw [rounds_succ];refine an8 hP hm kb o4 hf hb hs hc hr dt ht hj fun E' B' bd a' w' h1 h2 h3 h4 h5 h6 h7=>?_;have fin:va e1=false->some (e1,vs1,rs1)=some (e,cX,o5)->Q e1.out a' w':=by
    intro _ h;simp only [di,fS] at h;obtain ⟨rfl,rfl,rfl⟩:=h;exact hq E' B' bd a' w' h1 h2 h3 h4 h5 h6 h7
   cases e1 with
   | normal=>
    have h:B5 (Yi P cfg L n f p body S) m vs1 rs1=some (e,cX,o5):=h;exact agB hP hm kb o4 hf hb hs hc m h h6 h1 h3 fun JI Li wJ a'' JD q1 q2 q3 q4 q5 q6 q7=>hq JI Li wJ a'' JD q1 (q2.trans h2) q3 (h4.trans q4) (fun k hk=>(q5 k hk).trans (h5 k hk)) q6 fun i p e=>q7 i p (h7 i p e)
   | exit id=>exact fin rfl h
   | goto l=>exact fin rfl h
   | ret=>exact fin rfl h
  ·simp at h
def v7.Ra (P:Program) (S:aV) (bs:List Nat) (fs:List (Option Nat)) (A:aw):v7->CZ
 | .no=>.no
 | .out e vs rs=>.out e (S.kd A.next bs fs vs) (S.agA P bs fs vs rs A)
 | .br c x y=>.br c (x.Ra P S bs fs A) (y.Ra P S bs fs A)
def atQ (P:Program) (S:aV) (F:LFn):bO->aw->CZ:=fun t A=>
 .br (cond S.stays (S.gQ P t A).ok false) ((F (S.gQ P t A).vs (S.gQ P t A).rs).Ra P S (S.gQ P t A).bs (S.gQ P t A).fs A) .no
theorem Wb {R:Type} {bs:List Nat} {fs:List (Option Nat)} {A:aw} {k:KE R} {r:R} : ∀ (x:v7),(x.Ra P S bs fs A).run k=some r->∃ e cX o5,x.ev=some (e,cX,o5)/\k e (S.kd A.next bs fs cX) (S.agA P bs fs cX o5 A)=some r
 | .no,h=>absurd h (by simp [v7.Ra,CZ.run])
 | .out e vs rs,h=>⟨e,vs,rs,rfl,h⟩
 | .br c x y,h=>by
  have h:Bool.rec (motive:=fun _=>Option R) ((y.Ra P S bs fs A).run k) ((x.Ra P S bs fs A).run k) c=some r:=h;cases c with
  | true=>exact Wb x h
  | false=>exact Wb y h
theorem an9 (hP:P.funcs.toList.all pd=true) (hm:P.follows .mixedOrders=true) (kb:u6 P cfg.pc) (o4:Ay P cfg) {fn:Func} (hf:P.funcs[f]? = some fn) (hb:fn.body=some root) (hs:Sub root p (.loop body)) (hc:codeOk N body=true) {F:LFn}
  (hF:∀ vs rs e cX o5,D4 P S vs rs->(F vs rs).ev=some (e,cX,o5)->B5 (Yi P cfg L n f p body S) iI vs rs=some (e,cX,o5)):SQ P N body (atQ P S F):=by
 intro R k r t A E B ρ base a w Q h ht hj hq;have h:Bool.rec (motive:=fun _=>Option R) none (((F (S.gQ P t A).vs (S.gQ P t A).rs).Ra P S (S.gQ P t A).bs (S.gQ P t A).fs A).run k) (cond S.stays (S.gQ P t A).ok false)=some r:=h;cases gR:S.stays with
 | false=>rw [gR] at h; exact absurd h (by simp)
 | true=>
  rw [gR,ak] at h;cases ho:(S.gQ P t A).ok with
  | false=>rw [ho] at h; exact absurd h (by simp)
  | true=>
   rw [ho] at h;have hG:=MB ho;obtain ⟨e,cX,o5,h9,vX⟩:=Wb _ h;have hm':=hF _ _ e cX o5 hG.Pn h9;refine agB hP hm kb o4 hf hb hs hc iI hm' hG.Pn (hG.tkr ht) ⟨hG.kC hj.k,hj.s⟩ fun E' B' bd a' w' q1 q2 q3 q4 q5 q6 q7=>?_;obtain ⟨E2,r1,r2⟩:=akN gR hG hj.k q1 q3.k q4 q5 q7 q6.v q6.vb q6.Aq;exact hq e _ E2 _ B' bd a' w' vX r1 q2 r2
end
def alV:ae->Bool
 | .normal=>true
 | .ret=>true
 | _=>false
def apS (P:Program) (cfg:fE) (L n:Nat) (g:FuncId) (S:aV) (vs:List KV) (rs:List (List KV)):Option (ae×List KV×List (List KV)):=
 match P.funcs.toList[g]? with
 | some fn=>match fn.body with
  | some c=>cond fn.results.toList.isEmpty (rZ P cfg (JX P cfg L n) L g c 1 (fun e t A=>
    Bool.rec (motive:=fun _=>Option (ae×List KV×List (List KV))) none (some (.ret,(S.gQ P t A).vs,(S.gQ P t A).rs)) (cond (alV e) (S.akO P t A) false)) (S.tm S.nr S.ids vs) (S.mem P vs rs)) none
  | none=>none
 | none=>none
def v7.Rb (P:Program) (S:aV) (bs:List Nat) (fs:List (Option Nat)) (A:aw):v7->xE
 | .no=>.no
 | .out _ vs rs=>.out (.nb []) (S.agA P bs fs vs rs A)
 | .br c x y=>.br c (x.Rb P S bs fs A) (y.Rb P S bs fs A)
def avd (P:Program) (S:aV) (F:LFn):List KV->aw->xE:=fun args A=>
 .br (cond S.stays (S.gQ P (pO args 0 .leaf) A).ok false) ((F (S.gQ P (pO args 0 .leaf) A).vs (S.gQ P (pO args 0 .leaf) A).rs).Rb P S (S.gQ P (pO args 0 .leaf) A).bs (S.gQ P (pO args 0 .leaf) A).fs A) .no
theorem Wc {R:Type} {S:aV} {bs:List Nat} {fs:List (Option Nat)} {A:aw} {k:KV->aw->Option R} {r:R} : ∀ (x:v7),xE.run k (x.Rb P S bs fs A)=some r->∃ e cX o5,x.ev=some (e,cX,o5)/\k (.nb []) (S.agA P bs fs cX o5 A)=some r
 | .no,h=>absurd h (by simp [v7.Rb,xE.run])
 | .out e vs rs,h=>⟨e,vs,rs,rfl,h⟩
 | .br c x y,h=>by
  have h:Bool.rec (motive:=fun _=>Option R) (xE.run k (y.Rb P S bs fs A)) (xE.run k (x.Rb P S bs fs A)) c=some r:=h;cases c with
  | true=>exact Wc x h
  | false=>exact Wc y h
theorem ash {ρ:Ren} {args:List KV} {ib:List Value} (hv:ui P E ρ args ib) (m:Nat):lL P E ρ (pO args 0 .leaf) (max m args.length) { tmps:=ib.toArray++Array.replicate (m - ib.toArray.size) undef,defers:=[] }:=by
 obtain ⟨apK,S8,Vu⟩:=hv;have hlen:ib.length=args.length:=by rw [Vu.length,S8.length]
 have fZ:(ib.toArray++Array.replicate (m - ib.toArray.size) undef).size=max m args.length:=by
  simp [hlen];omega
 refine ⟨fZ,fun i=>?_,fun i hi=>?_⟩
 ·rw [IG]
  simp only [E9,true_and,bM,Nat.sub_zero,Trie.SA];by_cases hi:i < args.length
  ·rw [aY hi]
   obtain ⟨u,hu⟩:∃ u,args[i]? = some u:=⟨_,dr hi⟩
   obtain ⟨m',h1,h2⟩:=S8.get hu;obtain ⟨u',h3,h4⟩:=Vu.get h1;rw [hu];have:(ib.toArray++Array.replicate (m - ib.toArray.size) undef).getD i undef=u':=by
    rw [jC,Array.getElem?_append_left (by simpa [hlen] using hi)];simp [h3]
   rw [this];exact ⟨m',h2,h4⟩
  ·rw [av hi]
   exact VC.ao
 ·rw [IG,av,Trie.SA]
  simp only [E9,true_and,bM];have:=Nat.le_max_right m args.length;omega
theorem apT {cfg:fE} {L n:Nat} {g:FuncId} {S:aV} {F:LFn} (hP:P.funcs.toList.all pd=true) (hm:P.follows .mixedOrders=true) (kb:u6 P cfg.pc) (o4:Ay P cfg) (hy:Nat.blt g yB=true)
  (hF:∀ vs rs e cX o5,D4 P S vs rs->(F vs rs).ev=some (e,cX,o5)->apS P cfg L n g S vs rs=some (e,cX,o5)) {R:Type} {args:List KV} {A:aw} {k:KV->aw->Option R} {r:R} (h:xE.run k (avd P S F args A)=some r):Cn P g/\
  ∀ (E:Env) (B:St) (ρ:Ren) (base:Nat) (w:World) (ib:List Value),ui P E ρ args ib->KJ P E A B ρ base w->
   Calls P g ib.toArray w fun e w'=>∃ v v' E' A' B' bd,e = .returned v'/\VC P E' bd v v'/\Ev P base E A B ρ w E' A' B' bd w'/\k v A' = some r:=by
 have h:Bool.rec (motive:=fun _=>Option R) none (xE.run k ((F (S.gQ P (pO args 0 .leaf) A).vs (S.gQ P (pO args 0 .leaf) A).rs).Rb P S (S.gQ P (pO args 0 .leaf) A).bs (S.gQ P (pO args 0 .leaf) A).fs A)) (cond S.stays (S.gQ P (pO args 0 .leaf) A).ok false)=some r:=h;cases gR:S.stays with
 | false=>rw [gR] at h; exact absurd h (by simp)
 | true=>
 rw [gR,ak] at h;cases ho:(S.gQ P (pO args 0 .leaf) A).ok with
 | false=>rw [ho] at h; exact absurd h (by simp)
 | true=>
 rw [ho] at h;have hG:=MB ho;obtain ⟨e0,cX,o5,h9,vX⟩:=Wc _ h;have mX:=hF _ _ e0 cX o5 hG.Pn h9;unfold apS at mX;split at mX
 ·rename_i fn hf
  split at mX
  ·rename_i c hc
   cases hre:fn.results.toList.isEmpty with
   | false=>rw [hre] at mX; exact absurd mX (by simp)
   | true=>
   rw [hre,ak] at mX;have hf' : P.funcs[g]? = some fn:=by simpa using hf
   have dt:=ij.1 hP fn (jD hf);unfold pd at dt;rw [hc] at dt;simp only [aA,mz] at dt;refine ⟨⟨hy,fn,hf',by simp [hc],dt.2⟩,fun E B ρ base w ib hv hj=>?_⟩;refine calls_of_wp hf' hc ?_;have ht:=ash hv fn.ntmps;have akz:codeOk (max fn.ntmps args.length) c=true:=nP (Nat.le_max_left _ _) c dt.1;have xG:=xk (R:=ae×List KV×List (List KV)) hP hm kb o4 L n;refine mF (L:=L) (f:=g) (N:=max fn.ntmps args.length) kb xG hm (o4.2 g fn c hf' hc) c 1 .root akz _ _ _ _ (E.sub A (S.gQ P (pO args 0 .leaf) A).bs (S.gQ P (pO args 0 .leaf) A).fs S.nr) B ρ base _ w _ mX (hG.tkr ht) ⟨hG.kC hj.k,hj.s⟩ fun e t' E1 A1 B1 og a1 w1 h1 h2 h3 h4=>?_;cases he:alV e with
   | false=>simp only [he,ba] at h1; exact absurd h1 (by simp)
   | true=>
   simp only [he,ak] at h1;cases hi:S.akO P t' A1 with
   | false=>simp only [hi] at h1; exact absurd h1 (by simp)
   | true=>
   simp only [hi,di,fS] at h1;obtain ⟨_,rfl,rfl⟩:=h1;obtain ⟨i1,i2,i3⟩:=an6 hi;have hG1:=MB i3;have D2:KJ P (E.sub A (S.gQ P (pO args 0 .leaf) A).bs (S.gQ P (pO args 0 .leaf) A).fs S.nr) (S.mem P (S.gQ P (pO args 0 .leaf) A).vs (S.gQ P (pO args 0 .leaf) A).rs) B ρ base w:=⟨hG.kC hj.k,hj.s⟩
   obtain ⟨E2,_,r2⟩:=akN gR hG hj.k (hG1.tkr h2) (hG1.kC h4.kC) (h4.co hG1) (akP hG.Pn D2 h4 hG1 i1) (an7 hG1 i2 hG.Pn D2.k h4.le) hG1.Pn.v hG1.Pn.vb hG1.Pn.Aq;have Qr:fn.results.toList = []:=List.isEmpty_iff.1 hre;have anS:(results fn a1.tmps).run P w1 = .ok (.tuple #[]) w1:=by
    rw [acd,Sem.run_bind,Array.mapM_eq_mapM_toList,Sem.run_map,Qr];rfl
   have agp:bodyPost P fn (fun e w'=>∃ v v' E' A' B' bd,e = .returned v'/\VC P E' bd v v'/\Ev P base E A B ρ w E' A' B' bd w'/\k v A' = some r) .ret a1 w1:=
    ⟨h3,_,anS,_,_,E2,_,B1,og,rfl,⟨_,.afQ .nil,VR.mkTuple .nil⟩,r2,vX⟩
   cases e with
   | normal=>exact agp
   | ret=>exact agp
   | exit id=>simp [alV] at he
   | goto l=>simp [alV] at he
  ·simp at mX
 ·simp at mX
end
end Go.K
end
section
namespace Go.K
open Go Go.aB
variable {P:Program} {E:Env}
def alW:Code->Bool->Option Code
 | .seq a _,false=>some a
 | .seq _ b,true=>some b
 | .cond _ a _,false=>some a
 | .cond _ _ b,true=>some b
 | .block _ a,false=>some a
 | .loop a,false=>some a
 | .scope a,false=>some a
 | _,_=>none
def tK:Nat->Code->Nat->Option Code
 | 0,_,_=>none
 | n+1,root,p=>cond (Nat.ble p 1) (cond (Nat.beq p 1) (some root) none) ((tK n root (p / 2)).bind fun c=>alW c (Nat.beq (p % 2) 1))
theorem Yj:∀ {n:Nat} {root c:Code} {p:Nat},tK n root p=some c->tK (n+1) root p=some c
 | 0,_,_,_,h=>by simp [tK] at h
 | n+1,root,c,p,h=>by
  unfold tK at h ⊢;cases hp:Nat.ble p 1 with
  | true=>rw [hp] at h; exact h
  | false=>
   rw [hp] at h;simp only [ba] at h ⊢;obtain ⟨d,h1,h2⟩:=dh.1 h;exact dh.2 ⟨d,Yj h1,h2⟩
theorem Wd {root c:Code} {p n:Nat} (h:tK n root p=some c):∀ k,tK (n+k) root p=some c
 | 0=>h
 | k+1=>Yj (Wd h k)
theorem Sub.pos {root c:Code} {p:Nat} (h:Sub root p c):1<=p:=by induction h <;> omega
theorem Sub.at {root c:Code} {p:Nat} (h:Sub root p c):∃ n,tK n root p=some c:=by
 have left:∀ {q n:Nat} {d:Code},1<=q->tK n root q=some d->tK (n+1) root (2 * q)=alW d false:=by
  intro q n d hq hd;unfold tK;have:Nat.ble (2 * q) 1=false:=by
   cases hb:Nat.ble (2 * q) 1 with
   | false=>rfl
   | true=>have:=fR hb; omega
  rw [this,ba,show 2 * q / 2=q by omega,hd,show 2 * q % 2=0 by omega];rfl
 have right:∀ {q n:Nat} {d:Code},1<=q->tK n root q=some d->tK (n+1) root (2 * q+1)=alW d true:=by
  intro q n d hq hd;unfold tK;have:Nat.ble (2 * q+1) 1=false:=by
   cases hb:Nat.ble (2 * q+1) 1 with
   | false=>rfl
   | true=>have:=fR hb; omega
  rw [this,ba,show (2 * q+1) / 2=q by omega,hd,show (2 * q+1) % 2=1 by omega];rfl
 induction h with
 | root=>exact ⟨1,rfl⟩
 | au4 hs ih=>obtain ⟨n,hn⟩:=ih; exact ⟨n+1,left hs.pos hn⟩
 | au5 hs ih=>obtain ⟨n,hn⟩:=ih; exact ⟨n+1,right hs.pos hn⟩
 | atu hs ih=>obtain ⟨n,hn⟩:=ih; exact ⟨n+1,left hs.pos hn⟩
 | atv hs ih=>obtain ⟨n,hn⟩:=ih; exact ⟨n+1,right hs.pos hn⟩
 | block hs ih=>obtain ⟨n,hn⟩:=ih; exact ⟨n+1,left hs.pos hn⟩
 | loop hs ih=>obtain ⟨n,hn⟩:=ih; exact ⟨n+1,left hs.pos hn⟩
 | scope hs ih=>obtain ⟨n,hn⟩:=ih; exact ⟨n+1,left hs.pos hn⟩
theorem Sub.uniq {root c d:Code} {p n:Nat} (h:Sub root p c) (k:tK n root p=some d):c=d:=by
 obtain ⟨m,hm⟩:=h.at;have h1:=Wd hm n;have h2:=Wd k m;rw [Nat.add_comm] at h1;rw [h1] at h2;simpa using h2
def dF (P:Program) (f p:Nat):Code:=
 match P.funcs.toList[f]? with
 | some fn=>match fn.body with
  | some c=>match tK 200 c p with
   | some (.loop b)=>b
   | _=>.skip
  | none=>.skip
 | none=>.skip
structure Lp where
 f:Nat
 p:Nat
 S:aV
 F:LFn
 st:Bool
noncomputable def aru (st:Bool) (P:Program) (cfg:fE) (L n:Nat) (f:FuncId) (p:Nat) (body:Code) (S:aV) (vs:List KV) (rs:List (List KV)):Option (ae×List KV×List (List KV)):=
 cond st (Yi P cfg L n f p body S vs rs) (dB P cfg L n f p body S vs rs)
noncomputable def agC (P:Program):List Lp->FuncId->Nat->Option (bO->aw->CZ)
 | [],_,_=>none
 | l::ls,f,p=>cond (Nat.beq l.f f&&Nat.beq l.p p) (some (cond l.st (atQ P l.S l.F) (anW P l.S l.F))) (agC P ls f p)
def Lp.Ok (P:Program) (l:Lp):Prop:=∃ cfg L n,u6 P cfg.pc/\Ay P cfg/\
 ∀ vs rs e cX o5,D4 P l.S vs rs->(l.F vs rs).ev=some (e,cX,o5)->B5 (aru l.st P cfg L n l.f l.p (dF P l.f l.p) l.S) iI vs rs=some (e,cX,o5)
def bZ (P:Program) (f p:Nat):Bool:=
 match P.funcs.toList[f]? with
 | some fn=>match fn.body with
  | some c=>match tK 200 c p with
   | some (.loop _)=>true
   | _=>false
  | none=>false
 | none=>false
theorem arv (hP:P.funcs.toList.all pd=true) (hm:P.follows .mixedOrders=true) {pc:FuncId->Option (List KV->KR KV)} {x:am9} : ∀ {ls:List Lp},(∀ l∈ls,Lp.Ok P l/\bZ P l.f l.p=true)->∀ f fn c,P.funcs[f]? = some fn->fn.body=some c->are P ⟨pc,agC P ls,x⟩ f c
 | [],_=>fun f fn c hf hb p F body h=>by simp [agC] at h
 | l::ls,hl=>fun f fn c hf hb p F body h hs N hc=>by
  have h:agC P (l::ls) f p=some F:=h;unfold agC at h;cases hk:(Nat.beq l.f f&&Nat.beq l.p p) with
  | false=>
   rw [hk] at h;exact arv hP hm (pc:=pc) (x:=x) (fun l' uz=>hl l' (yY _ uz)) f fn c hf hb p F body h hs N hc
  | true=>
   rw [hk] at h;simp only [ak,di] at h;subst h;simp only [aA] at hk;have e1:=bu hk.1;have e2:=bu hk.2;obtain ⟨⟨cfg,L,n,kb,o4,hF⟩,hth⟩:=hl l (by simp);rw [e1,e2] at hF hth;have hf' : P.funcs.toList[f]? = some fn:=by simpa using hf
   have avI:dF P f p=body:=by
    unfold bZ at hth;unfold dF;simp only [hf',hb] at hth ⊢;split at hth
    ·rename_i b CS
     have:=hs.uniq CS;simp at this;exact this.symm
    ·simp at hth
   rw [avI] at hF;cases gR:l.st with
   | true=>
    rw [gR] at hF;exact an9 hP hm kb o4 hf hb hs hc hF
   | false=>
    rw [gR] at hF;exact apQ hP hm kb o4 hf hb hs hc hF
theorem ae8 (hP:P.funcs.toList.all pd=true) (hm:P.follows .mixedOrders=true) {pc:FuncId->Option (List KV->KR KV)} {x:am9} (hx:akC P x.ac) {ls:List Lp} (hl:∀ l∈ls,Lp.Ok P l/\bZ P l.f l.p=true):Ay P ⟨pc,agC P ls,x⟩:=
 ⟨hx,arv hP hm hl⟩
structure Fc where
 g:Nat
 S:aV
 F:LFn
noncomputable def akQ (P:Program):List Fc->FuncId->Option (List KV->aw->xE)
 | [],_=>none
 | c::cs,g=>cond (Nat.beq c.g g) (some (avd P c.S c.F)) (akQ P cs g)
def Fc.Ok (P:Program) (c:Fc):Prop:=Nat.blt c.g yB=true/\∃ cfg L n,u6 P cfg.pc/\Ay P cfg/\
 ∀ vs rs e cX o5,D4 P c.S vs rs->(c.F vs rs).ev=some (e,cX,o5)->apS P cfg L n c.g c.S vs rs=some (e,cX,o5)
theorem ae9 (hP:P.funcs.toList.all pd=true) (hm:P.follows .mixedOrders=true):∀ {cs:List Fc},(∀ c∈cs,Fc.Ok P c)->akC P (akQ P cs)
 | [],_=>fun g F h=>by simp [akQ] at h
 | c::cs,hc=>fun g F h=>by
  have h:akQ P (c::cs) g=some F:=h;unfold akQ at h;cases hk:Nat.beq c.g g with
  | false=>
   rw [hk] at h;intro R args A k r hr;exact ae9 hP hm (fun c' hc'=>hc c' (yY _ hc')) g F h args A k r hr
  | true=>
   rw [hk] at h;simp only [ak,di] at h;subst h;have e1:=bu hk;subst e1;obtain ⟨hy,cfg,L,n,kb,o4,hF⟩:=hc c (by simp);intro R args A k r hr;exact apT hP hm kb o4 hy hF hr
end Go.K
end
