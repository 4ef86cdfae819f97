/- Part of the proof of PathsOne: the machine, shown to be the model's, and plain models. No conditions. -/
import Derived.Test.YtckbdndhmcoihaaGreatEp
set_option linter.unusedSimpArgs false
set_option linter.unusedVariables false
section
namespace Go.K
open Go Go.aq
noncomputable section
inductive CD where
 | k (c:CK)
 | lit (v:KV)
 | aQ (t:TypeId)
 | arr (t:TypeId)
 | ref (w:KV)
def X2 (bs:List Nat) (v:KV):KV:=
 match v with
 | .ptr j o=>.ptr (bs.getD j 0) o
 | v=>v
def wK (bs:List Nat):List KV->List KV
 | []=>[]
 | v::vs=>X2 bs v::wK bs vs
def inst (bs:List Nat) (v:KV):KV:=
 match v with
 | .ptr j o=>.ptr (bs.getD j 0) o
 | .fn f first cap=>.fn f (wK bs first) (wK bs cap)
 | v=>v
def isP (nr:Nat):KV->Bool
 | .ptr j _=>Nat.blt j nr
 | _=>false
def acu (nr:Nat):List KV->Bool
 | []=>true
 | v::vs=>isP nr v&&acu nr vs
def Zz (nr:Nat):KV->Bool
 | .ptr j _=>Nat.blt j nr
 | .fn (.func _) first cap=>acu nr first&&acu nr cap
 | _=>false
def eqP:KV->KV->Bool
 | .ptr a o,.ptr b q=>Nat.beq a b&&Nat.beq o q
 | _,_=>false
def acv:List KV->List KV->Bool
 | [],[]=>true
 | v::vs,u::us=>eqP v u&&acv vs us
 | _,_=>false
def Pz:KV->KV->Bool
 | .ptr a o,.ptr b q=>Nat.beq a b&&Nat.beq o q
 | .fn (.func f) a b,.fn (.func g) c d=>Nat.beq f g&&acv a c&&acv b d
 | _,_=>false
def ua:KV->KV->Bool
 | .fn (.func f) [] [],.fn (.func g) [] []=>Nat.beq f g
 | .E4,.E4=>true
 | .jz,.jz=>true
 | .yX,.yX=>true
 | .Gs,.Gs=>true
 | .Gt,.Gt=>true
 | _,_=>false
def PA (A:ao) (t:TypeId) (v:KV):KV:=
 match v with
 | .jz=>.ts t .any 0 [] l7
 | .al t' b o _=>match A.get b with
  | some (.arr (.ts t2 _ N es acc))=>cond (Nat.beq t t'&&Nat.beq t t2&&Nat.beq o 0) (.ts t .any N es acc) .bA
  | _=>.bA
 | _=>.bA
def ee (P:Program) (A:ao) (d:CD) (v:KV):KV:=
 match d with
 | .k c=>cond (kindOk c (lM c v)) (bI P dx (leaf c (lM c v))) .bA
 | .lit w=>cond (ua w v) w .bA
 | .aQ t=>match v with
  | .jz=>bI P dx (.ts t .any 0 [] l7)
  | .ts t' (.aQ _) n es acc=>cond (Nat.beq t t') (bI P dx (.ts t .any n es acc)) .bA
  | _=>.bA
 | .arr t=>bI P dx (PA A t v)
 | .ref w=>w
def ef (P:Program) (A:ao):List CD->List KV->List KV
 | d::ds,v::vs=>ee P A d v::ef P A ds vs
 | _,_=>[]
def iD (d:CD) (v:KV):Bool:=
 match d with
 | .k c=>kindOk c v
 | .lit w=>ua w v
 | .aQ t=>kindOk (.slice t) v
 | .arr t=>kindOk (.slice t) v
 | .ref w=>Pz w v
def di:List CD->List KV->Bool
 | [],[]=>true
 | d::ds,v::vs=>iD d v&&di ds vs
 | _,_=>false
structure VD where
 agg:Bool
 ks:List CD
def tq (P:Program) (A:ao) (d:VD) (v:KV):KV:=
 match v with
 | .agg cs=>cond (d.agg&&Nat.beq cs.length d.ks.length) (.agg (ef P A d.ks cs)) .bA
 | v=>cond d.agg .bA (match d.ks with
  | [c]=>ee P A c v
  | _=>.bA)
def uR (d:VD) (v:KV):Bool:=
 match v with
 | .agg cs=>d.agg&&di d.ks cs
 | v=>!d.agg&&di d.ks [v]
structure aB where
 eh:List (Tmp×VD)
 rows:List (Tmp×List CD×Nat)
 ZA:List (Tmp×Nat×Nat)
def valOf (t:bq) (i:Tmp):KV:=(t.get i).getD .bA
def oA (P:Program) (t:bq) (A:ao):List (Tmp×VD)->List KV
 | []=>[]
 | p::ps=>tq P A p.2 (valOf t p.1)::oA P t A ps
def gm:List (Tmp×VD)->List KV->Bool
 | [],[]=>true
 | p::ps,v::vs=>uR p.2 v&&gm ps vs
 | _,_=>false
def ap5:Option KV->Option Nat
 | some (.ptr b _)=>some b
 | _=>none
def arG (t:bq) (i:Nat):Option Nat:=
 cond (Nat.blt i 100000) (ap5 (t.get i)) (match t.get (i % 100000) with
  | some (.fn _ first cap)=>ap5 (aeW (i / 100000 - 1) (first++cap))
  | _=>none)
def rowOf (t:bq) (A:ao) (p:Tmp×List CD×Nat):Option (Nat×List KV):=
 match arG t p.1 with
 | some b=>match A.get b with
  | some (.row cs e)=>cond (Nat.beq e p.2.2&&Nat.beq cs.length p.2.1.length) (some (b,cs)) none
  | _=>none
 | _=>none
def alY (t:bq) (A:ao) (p:Tmp×List CD×Nat):Nat:=((rowOf t A p).getD (0,[])).1
def GJ (t:bq) (A:ao) (p:Tmp×List CD×Nat):List KV:=((rowOf t A p).getD (0,[])).2
def xm (t:bq) (A:ao):List (Tmp×List CD×Nat)->List Nat
 | []=>[]
 | p::ps=>alY t A p::xm t A ps
def JD (P:Program) (t:bq) (A:ao):List (Tmp×List CD×Nat)->List (List KV)
 | []=>[]
 | p::ps=>ef P A p.2.1 (GJ t A p)::JD P t A ps
def wL (P:Program) (t:bq) (A:ao):List (Tmp×List CD×Nat)->Bool
 | []=>true
 | p::ps=>(rowOf t A p).isSome&&(di p.2.1 (ef P A p.2.1 (GJ t A p))&&wL P t A ps)
def aoc (v:Option KV) (b:Option Nat) (off:Nat):Bool:=
 match v,b with
 | some (.ptr b o),some b'=>Nat.beq o off&&Nat.beq b b'
 | _,_=>false
def Ri (t:bq) (bs:List Nat):List (Tmp×Nat×Nat)->Bool
 | []=>true
 | p::ps=>aoc (t.get p.1) bs[p.2.1]? p.2.2&&Ri t bs ps
def uT:List Nat->Bool
 | []=>true
 | b::bs=>bs.all (fun c=>!Nat.beq b c)&&uT bs
structure FI where
 ok:Bool
 f:Option Nat
 fm:Bool
def szL (P:Program) (t:TypeId):Nat:=(aX P t).ks.length
def rM (P:Program) (A:ao) (t:TypeId) (v:KV):FI:=
 match v with
 | .jz=>⟨true,none,true⟩
 | .ts _ (.aQ f) n _ _=>match A.get f with
  | some (.aQ top sz)=>⟨cond (Nat.beq sz (szL P t)) (aC top n) false,some f,true⟩
  | _=>⟨false,none,true⟩
 | _=>⟨false,none,true⟩
def JE (P:Program) (A:ao) (t:TypeId) (v:KV):FI:=
 match v with
 | .jz=>⟨Nat.ble 1 (szL P t),none,false⟩
 | .al _ b _ n=>match A.get b with
  | some (.arr (.ts _ _ N _ _))=>⟨aC N n,some b,false⟩
  | _=>⟨false,none,false⟩
 | _=>⟨false,none,false⟩
def xn:Option ik->Bool
 | some (.aQ _ _)=>true
 | _=>false
theorem afc (P:Program) (A:ao) (t:TypeId) (v:KV):(rM P A t v).fm=true:=by
 unfold rM;split
 ·rfl
 ·split <;> rfl
 ·rfl
theorem amQ (P:Program) (A:ao) (t:TypeId) (v:KV):(JE P A t v).fm=false:=by
 unfold JE;split
 ·rfl
 ·split <;> rfl
 ·rfl
theorem amR {P:Program} {A:ao} {t:TypeId} {v:KV} {x:Nat} (h:(rM P A t v).f=some x):xn (A.get x)=true:=by
 unfold rM at h;split at h
 ·simp at h
 ·split at h
  ·rename_i e; simp at h; subst h; rw [e]; rfl
  ·simp at h
 ·simp at h
def j8 (P:Program) (A:ao):List CD->List KV->List FI
 | .aQ t::ds,v::vs=>rM P A t v::j8 P A ds vs
 | .arr t::ds,v::vs=>JE P A t v::j8 P A ds vs
 | _::ds,_::vs=>j8 P A ds vs
 | _,_=>[]
def DQ (P:Program) (t:bq) (A:ao):List (Tmp×VD)->List FI
 | []=>[]
 | p::ps=>j8 P A p.2.ks (valOf t p.1).cells++DQ P t A ps
def GK (P:Program) (t:bq) (A:ao):List (Tmp×List CD×Nat)->List FI
 | []=>[]
 | p::ps=>j8 P A p.2.1 (GJ t A p)++GK P t A ps
def X3:List FI->Bool
 | []=>true
 | x::xs=>cond (X3 xs) x.ok false
def MX:List FI->List (Option Nat)
 | []=>[]
 | x::xs=>x.f::MX xs
def iU:List (Option Nat)->List Nat
 | []=>[]
 | some f::xs=>f::iU xs
 | none::xs=>iU xs
def DR (nr:Nat) (bs:List Nat):List CD->List KV->Bool
 | .ref w::ds,v::vs=>Zz nr w&&(Pz (inst bs w) v&&DR nr bs ds vs)
 | _::ds,_::vs=>DR nr bs ds vs
 | _,_=>true
def PB (nr:Nat) (bs:List Nat) (t:bq):List (Tmp×VD)->Bool
 | []=>true
 | p::ps=>DR nr bs p.2.ks (valOf t p.1).cells&&PB nr bs t ps
def X4 (nr:Nat) (bs:List Nat) (t:bq) (A:ao):List (Tmp×List CD×Nat)->Bool
 | []=>true
 | p::ps=>DR nr bs p.2.1 (GJ t A p)&&X4 nr bs t A ps
structure GR where
 ok:Bool
 bs:List Nat
 fs:List (Option Nat)
 vs:List KV
 rs:List (List KV)
def aB.RD (S:aB) (P:Program) (t:bq) (A:ao):List FI:=DQ P t A S.eh++GK P t A S.rows
def aB.eG (S:aB) (P:Program) (t:bq) (A:ao):GR:=
 ⟨cond (wL P t A S.rows&&uT (xm t A S.rows)&&Ri t (xm t A S.rows) S.ZA&&gm S.eh (oA P t A S.eh)&&uT (iU (MX (S.RD P t A)))&&PB S.rows.length (xm t A S.rows) t S.eh&&X4 S.rows.length (xm t A S.rows) t A S.rows) (X3 (S.RD P t A)) false,
  xm t A S.rows,MX (S.RD P t A),oA P t A S.eh,JD P t A S.rows⟩
def MZ (j:Nat) (v:KV):KV:=
 match v with
 | .ts t _ n es acc=>.ts t (.aQ j) n es acc
 | v=>v
def Rj (j:Nat) (v:KV):KV:=
 match v with
 | .ts t _ n _ _=>.al t j 0 n
 | v=>v
def pw:List CD->Nat
 | []=>0
 | .aQ _::ds=>Nat.succ (pw ds)
 | .arr _::ds=>Nat.succ (pw ds)
 | _::ds=>pw ds
def oZ (j:Nat) (bs:List Nat):List CD->List KV->List KV
 | .aQ _::ds,v::vs=>MZ j v::oZ (Nat.succ j) bs ds vs
 | .arr _::ds,v::vs=>Rj j v::oZ (Nat.succ j) bs ds vs
 | .ref w::ds,_::vs=>inst bs w::oZ j bs ds vs
 | _::ds,v::vs=>v::oZ j bs ds vs
 | _,_=>[]
def ZB (j:Nat) (bs:List Nat) (d:VD) (v:KV):KV:=
 match v with
 | .agg cs=>.agg (oZ j bs d.ks cs)
 | v=>match d.ks with
  | [.aQ _]=>MZ j v
  | [.arr _]=>Rj j v
  | [.ref w]=>inst bs w
  | _=>v
def ZC (j:Nat) (bs:List Nat):List (Tmp×VD)->List KV->List (Nat×KV)
 | p::ps,v::vs=>(p.1,ZB j bs p.2 v)::ZC (j+pw p.2.ks) bs ps vs
 | _,_=>[]
def mm:List (Tmp×VD)->Nat
 | []=>0
 | p::ps=>pw p.2.ks+mm ps
def ZD (j:Nat) (bs:List Nat):List (Tmp×List CD×Nat)->List (List KV)->List (List KV)
 | p::ps,r::rs=>oZ j bs p.2.1 r::ZD (j+pw p.2.1) bs ps rs
 | _,_=>[]
def nS (P:Program):List CD->List KV->List ik
 | .aQ t::ds,v::vs=>.aQ (lenOf v) (szL P t)::nS P ds vs
 | .arr _::ds,v::vs=>.arr v::nS P ds vs
 | _::ds,_::vs=>nS P ds vs
 | _,_=>[]
def vC (P:Program):List (Tmp×VD)->List KV->List ik
 | p::ps,v::vs=>nS P p.2.ks v.cells++vC P ps vs
 | _,_=>[]
def xo (P:Program):List (Tmp×List CD×Nat)->List (List KV)->List ik
 | p::ps,r::rs=>nS P p.2.1 r++xo P ps rs
 | _,_=>[]
def aB.lens (S:aB) (P:Program) (vs:List KV) (rs:List (List KV)):List ik:=vC P S.eh vs++xo P S.rows rs
def yh (bs:List Nat):List (Tmp×Nat×Nat)->List (Nat×KV)
 | []=>[]
 | p::ps=>(p.1,.ptr (bs.getD p.2.1 0) p.2.2)::yh bs ps
def aB.tm (S:aB) (fb:Nat) (bs:List Nat) (vs:List KV):bq:=ki (ZC fb bs S.eh vs++yh bs S.ZA)
def aB.GL (S:aB) (fb:Nat) (bs:List Nat) (rs:List (List KV)):List (List KV):=ZD (fb+mm S.eh) bs S.rows rs
def qF (A:ao):List ik->ao
 | []=>A
 | p::ps=>qF (A.new p) ps
def xp (A:ao):List (Option Nat)->ao
 | []=>A
 | some f::fs=>xp (A.put f .dead) fs
 | none::fs=>xp A fs
def na (A:ao):List Nat->List (Tmp×List CD×Nat)->List (List KV)->ao
 | b::bs,p::ps,r::rs=>na (A.put b (.row r p.2.2)) bs ps rs
 | _,_,_=>A
def aB.back (S:aB) (P:Program) (bs:List Nat) (fs:List (Option Nat)) (vs:List KV) (rs:List (List KV)) (A:ao):ao:=
 qF (xp (na A bs S.rows (S.GL A.next bs rs)) fs) (S.lens P vs rs)
def px (A:ao):List (Tmp×List CD×Nat)->List (List KV)->ao
 | p::ps,r::rs=>px (A.new (.row r p.2.2)) ps rs
 | _,_=>A
def aB.nr (S:aB):Nat:=S.rows.length
def upto:Nat->List Nat->List Nat
 | 0,l=>l
 | n+1,l=>upto n (n::l)
def aB.ids (S:aB):List Nat:=upto S.rows.length []
def aB.mem (S:aB) (P:Program) (vs:List KV) (rs:List (List KV)):ao:=qF (px .empty S.rows (S.GL S.nr S.ids rs)) (S.lens P vs rs)
def ub:List Nat->List Nat->Bool
 | [],[]=>true
 | a::asg,b::bs=>Nat.beq a b&&ub asg bs
 | _,_=>false
def py (P:Program) (cfg:dE) (L n:Nat) (f:FuncId) (p:Nat) (body:Code) (S:aB) (vs:List KV) (rs:List (List KV)):Option (ae×List KV×List (List KV)):=
 oz P cfg (Ic P cfg L n) L f body (2 * p) (fun e t A=>
  Bool.rec (motive:=fun _=>Option (ae×List KV×List (List KV))) none (some (e,(S.eG P t A).vs,(S.eG P t A).rs)) (cond (ub (S.eG P t A).bs S.ids) (S.eG P t A).ok false)) (S.tm S.nr S.ids vs) (S.mem P vs rs)
def ku:ae->Bool
 | .normal=>true
 | _=>false
def xq (rd:List KV->List (List KV)->Option (ae×List KV×List (List KV))):Nat->List KV->List (List KV)->Option (ae×List KV×List (List KV))
 | 0,_,_=>none
 | n+1,vs,rs=>match rd vs rs with
  | some (e,cE,lP)=>cond (ku e) (xq rd n cE lP) (some (e,cE,lP))
  | none=>none
inductive rN where
 | no
 | out (e:ae) (vs:List KV) (rs:List (List KV))
 | br (c:Bool) (x y:rN)
def rN.ev:rN->Option (ae×List KV×List (List KV))
 | .no=>none
 | .out e vs rs=>some (e,vs,rs)
 | .br c x y=>cond c x.ev y.ev
def rN.tell (P:Program) (S:aB) (bs:List Nat) (fs:List (Option Nat)) (A:ao):rN->y5
 | .no=>.no
 | .out e vs rs=>.out e (S.tm A.next bs vs) (S.back P bs fs vs rs A)
 | .br c x y=>.br c (x.tell P S bs fs A) (y.tell P S bs fs A)
abbrev LFn:=List KV->List (List KV)->rN
def isExact (v:KV):Bool:=
 match v with
 | .ts _ .exact _ _ _=>true
 | _=>false
def VL:List CD->List KV->Bool
 | .aQ _::ds,v::vs=>isExact v||VL ds vs
 | .arr _::ds,v::vs=>isExact v||VL ds vs
 | _::ds,_::vs=>VL ds vs
 | _,_=>false
def alZ (t:bq):List (Tmp×VD)->Bool
 | []=>false
 | p::ps=>VL p.2.ks (valOf t p.1).cells||alZ t ps
def al0 (t:bq) (A:ao):List (Tmp×List CD×Nat)->Bool
 | []=>false
 | p::ps=>VL p.2.1 (GJ t A p)||al0 t A ps
def aB.ap6 (S:aB) (t:bq) (A:ao):Bool:=alZ t S.eh||al0 t A S.rows
def aie (P:Program) (S:aB) (F:LFn):bq->ao->y5:=fun t A=>
 cond (S.ap6 t A) .once <| .br (S.eG P t A).ok ((F (S.eG P t A).vs (S.eG P t A).rs).tell P S (S.eG P t A).bs (S.eG P t A).fs A) .no
end
end Go.K
end
section
namespace Go.K
open Go Go.aq
variable {P:Program} {E:Env}
theorem afd {w v:KV} (h:ua w v=true):v=w:=by
 unfold ua at h;split at h <;> simp at h
 ·rename_i f g; rw [h]
 all_goals rfl
theorem akj {w v:KV} (h:ua w v=true) {E0:Env} {u:Value} (k:VK P E v u):VK P E0 v u:=by
 have:=afd h;subst this;unfold ua at h;split at h <;> try (simp at h)
 ·obtain ⟨l,m,rfl,h1,h2⟩:=k.Ie
  rw [h1.bZ,h2.bZ];exact .ahC .nil .nil
 all_goals exact k
theorem VK.mix {T:TypeId} {m m' : Mk} {n:Nat} {es mV:List KV} {acc iC:Nat->KV} {u:Value} (h:VK P E (.ts T m n es acc) u) (k:VK P E (.ts T m' n mV iC) u):VK P E (.ts T m n mV iC) u:=by
 obtain ⟨_,bo,_,a,cap,rfl,h2,_,h4⟩:=h.jY;obtain ⟨ht,arH,k1,a',abB,e,_,k3,_⟩:=k.jY;simp only [Value.slice.injEq] at e;obtain ⟨rfl,_,rfl⟩:=e;simp only [VK];exact ⟨ht,arH,k1,a,cap,rfl,h2,k3,h4⟩
theorem VK.swap {E0:Env} (hz:E0.z=E.z) {T:TypeId} {m m' : Mk} {n:Nat} {es:List KV} {acc:Nat->KV} {u:Value} (h:VK P E (.ts T m n es acc) u) (hm:∀ sz a cap,u = .slice a n cap->Rb E sz a n cap m->Rb E0 sz a n cap m'):VK P E0 (.ts T m' n es acc) u:=by
 obtain ⟨ht,bo,h1,a,cap,rfl,h2,h3,h4⟩:=h.jY;simp only [VK];refine ⟨ht,bo,ba.zEs (.of hz) h1 ht.typed,a,cap,rfl,h2,?_,hm _ _ _ rfl h4⟩;refine h3.imp id ?_;rintro ⟨b,off,r,e1,e2,e3⟩;exact ⟨b,off,r,e1,by rw [hz]; exact e2,e3⟩
theorem TL (t:TypeId) (m:Mk) (n:Nat) (es:List KV) (acc:Nat->KV):∃ mV iC,bI P dx (.ts t m n es acc) = .ts t .any n mV iC:=⟨_,_,rfl⟩
theorem akk {c:CK} {v:KV} (h:kindOk c v=true):leaf c v=v:=by
 cases c <;> cases v <;> simp [kindOk] at h
 ·subst h; rfl
 ·rfl
 ·rfl
 ·rename_i t t' m n es acc
  cases m <;> simp at h;subst h; rfl
theorem VK.nCD {A:ao} {d:CD} {v:KV} {u:Value} (h:VK P E v u) (hd:∀ w,d≠.ref w) (ha:∀ t,d≠.arr t):VK P E (ee P A d v) u:=by
 cases d with
 | ref w=>exact absurd rfl (hd w)
 | arr t=>exact absurd rfl (ha t)
 | k c=>
  show VK P E (cond (kindOk c (K.lM c v)) (K.bI P dx (leaf c (K.lM c v))) .bA) u;cases hb:kindOk c (K.lM c v) with
  | false=>exact .qB
  | true=>
   rw [aj,akk hb];exact VK.bI _ h.lM
 | lit w=>
  show VK P E (cond (ua w v) w .bA) u;cases hb:ua w v with
  | true=>rw [afd hb] at h; exact h
  | false=>exact .qB
 | aQ t=>
  unfold ee;cases v with
  | jz=>have:=h.nt; subst this; exact VK.bI _ .aj4
  | ts t' m n es acc=>
   cases m with
   | aQ f=>
    show VK P E (cond (Nat.beq t t') _ .bA) u;cases hb:Nat.beq t t' with
    | false=>exact .qB
    | true=>
     have:=aW hb;subst this;exact VK.bI dx h.anS
   | _=>exact .qB
  | _=>exact .qB
def Lk (E E0:Env) (f:Option Nat) (j:Nat):Prop:=∀ x g,f=some x->E.φ x=some g->E0.φ j=some g
theorem VK.al1 {E0:Env} (hz:E0.z=E.z) {A:ao} {t:TypeId} {v:KV} {u:Value} {j:Nat} (h:VK P E v u) (hg:iD (.aQ t) (ee P A (.aQ t) v)=true) (hl:Lk E E0 (rM P A t v).f j) (cQ:(rM P A t v).ok=true):VK P E0 (MZ j (ee P A (.aQ t) v)) u:=by
 cases v with
 | jz=>
  have:=h.nt; subst this;have h1:VK P E (K.bI P dx (.ts t .any 0 [] l7)) (.slice none 0 0):=VK.bI _ .aj4;obtain ⟨mV,iC,e⟩:=TL (P:=P) t .any 0 [] l7;show VK P E0 (MZ j (K.bI P dx (.ts t .any 0 [] l7))) _;rw [e] at h1 ⊢;exact h1.swap hz fun sz a cap he _=>by
   simp only [Value.slice.injEq] at he;obtain ⟨rfl,_,rfl⟩:=he;exact ⟨rfl,.inl ⟨rfl,rfl⟩⟩
 | ts t' m n es acc=>
  cases m with
  | aQ f=>
   have e1:ee P A (.aQ t) (.ts t' (.aQ f) n es acc)=cond (Nat.beq t t') (K.bI P dx (.ts t .any n es acc)) .bA:=rfl;rw [e1] at hg ⊢;cases hb:Nat.beq t t' with
   | false=>rw [hb] at hg; simp [iD,kindOk] at hg
   | true=>
    have:=aW hb;subst this;have h1:=VK.bI (P:=P) dx h.anS;obtain ⟨mV,iC,e⟩:=TL (P:=P) t .any n es acc;rw [aj,e];rw [e] at h1;have hf:(rM P A t (.ts t (.aQ f) n es acc)).f=some f:=by
     revert cQ
     unfold rM;simp only;split
     ·intro _; rfl
     ·intro cQ; simp at cQ
    exact (h.mix h1).swap hz fun sz a cap he hm=>by
     refine ⟨hm.1,hm.2.imp id ?_⟩;rintro ⟨b,r,g,q1,q2,q3,q4,q5⟩;exact ⟨b,r,g,q1,by rw [hz]; exact q2,q3,hl f g hf q4,q5⟩
  | any=>simp [rM] at cQ
  | exact=>simp [rM] at cQ
 | _=>simp [rM] at cQ
def La (E E0:Env) (f:Option Nat) (j:Nat):Prop:=∀ x p,f=some x->E.α x=some p->E0.α j=some p
theorem akl:K.bI P dx .bA = .bA:=rfl
theorem X5 {A:ao} {t:TypeId} {v:KV} (hg:iD (.arr t) (ee P A (.arr t) v)=true):v = .jz\/∃ b n m N es acc,v = .al t b 0 n/\A.get b=some (.arr (.ts t m N es acc))/\ee P A (.arr t) v=K.bI P dx (.ts t .any N es acc):=by
 have hu:∀ w,w=KV.bA->iD (.arr t) (K.bI P dx w)=false:=fun w e=>by rw [e]; rfl
 have hg:iD (.arr t) (K.bI P dx (PA A t v))=true:=hg;have e0:ee P A (.arr t) v=K.bI P dx (PA A t v):=rfl;rw [e0];cases v with
 | jz=>exact .inl rfl
 | al t' b o n=>
  have e1:PA A t (.al t' b o n)=(match A.get b with
   | some (.arr (.ts t2 _ N es acc))=>cond (Nat.beq t t'&&Nat.beq t t2&&Nat.beq o 0) (.ts t .any N es acc) .bA
   | _=>.bA):=rfl
  rw [e1] at hg ⊢;split at hg
  ·rename_i t2 m N es acc hb
   cases hc:(Nat.beq t t'&&Nat.beq t t2&&Nat.beq o 0) with
   | false=>rw [hc,aF,hu _ rfl] at hg; simp at hg
   | true=>
    simp only [au] at hc;have:=aW hc.1.1;subst this;have:=aW hc.1.2;subst this;have:=aW hc.2;subst this;refine .inr ⟨b,n,m,N,es,acc,rfl,hb,?_⟩;rw [aj]
  ·rw [hu _ rfl] at hg; simp at hg
 | _=>exact absurd (hg.symm.trans (hu _ rfl)) (by simp)
theorem VK.aod {E0:Env} {A:ao} {t:TypeId} {v:KV} {u:Value} {j:Nat} (h:VK P E v u) (hg:iD (.arr t) (ee P A (.arr t) v)=true) (hl:La E E0 (JE P A t v).f j) (cQ:(JE P A t v).ok=true):VK P E0 (Rj j (ee P A (.arr t) v)) u:=by
 rcases X5 hg with rfl | ⟨b,n,m,N,es,acc,rfl,hb,he⟩
 ·have:=h.nt; subst this
  exact .R9 (.inl ⟨rfl,rfl,rfl⟩)
 ·obtain ⟨mV,iC,e⟩:=TL (P:=P) t .any N es acc
  rw [he,e];have hao:JE P A t (.al t b 0 n)=⟨aC N n,some b,false⟩:=by simp only [JE,hb]
  rw [hao] at cQ hl;have hN:N=n:=aW cQ;subst hN;show VK P E0 (.al t j 0 N) u;rcases h.uO with ⟨q1,_,q2⟩ | ⟨x,L,M,c,q1,q2⟩
  ·exact .R9 (.inl ⟨q1,rfl,q2⟩)
  ·exact .R9 (.inr ⟨x,L,M,c,hl b _ rfl q1,q2⟩)
theorem VK.gCD {E0:Env} (hz:E0.z=E.z) {d:CD} {v:KV} {u:Value} (h:VK P E v u) (hg:iD d v=true) (hd:∀ w,d≠.ref w):VK P E0 v u:=by
 cases d with
 | ref w=>exact absurd rfl (hd w)
 | arr t=>exact h.zK (c:=.slice t) (.of hz) hg
 | k c=>exact h.zK (.of hz) hg
 | lit w=>exact akj hg h
 | aQ t=>exact h.zK (c:=.slice t) (.of hz) hg
theorem jQ {A:ao} : ∀ {ds:List CD} {vs:List KV},vs.length=ds.length->(j8 P A ds vs).length=pw ds
 | [],[],_=>rfl
 | [],_::_,e=>by simp at e
 | _::_,[],e=>by simp at e
 | .k c::ds,v::vs,e=>by simp only [j8,pw]; exact jQ (by simpa using e)
 | .lit w::ds,v::vs,e=>by simp only [j8,pw]; exact jQ (by simpa using e)
 | .aQ t::ds,v::vs,e=>by simp only [j8,pw,yM]; rw [jQ (by simpa using e)]
 | .arr t::ds,v::vs,e=>by simp only [j8,pw,yM]; rw [jQ (by simpa using e)]
 | .ref w::ds,v::vs,e=>by simp only [j8,pw]; exact jQ (by simpa using e)
theorem apk {a b:KV} (h:eqP a b=true):a=b:=by
 unfold eqP at h;split at h
 ·simp only [au] at h
  rw [aW h.1,aW h.2]
 ·simp at h
theorem acw:∀ {a b:List KV},acv a b=true->a=b
 | [],[],_=>rfl
 | [],_::_,h=>by simp [acv] at h
 | _::_,[],h=>by simp [acv] at h
 | x::a,y::b,h=>by
  simp only [acv,au] at h;rw [apk h.1,acw h.2]
theorem Rl {a b:KV} (h:Pz a b=true):a=b:=by
 unfold Pz at h;split at h
 ·simp only [au] at h
  rw [aW h.1,aW h.2]
 ·simp only [au] at h
  rw [aW h.1.1,acw h.1.2,acw h.2]
 ·simp at h
def Rk (E E0:Env) (nr:Nat) (bs JF:List Nat):Prop:=∀ j x,j < nr->E.κ (bs.getD j 0)=some x->E0.κ (JF.getD j 0)=some x
theorem VK.X2 {E0:Env} {nr:Nat} {bs JF:List Nat} (hk:Rk E E0 nr bs JF) {w:KV} {u:Value} (hw:isP nr w=true) (h:VK P E (K.X2 bs w) u):VK P E0 (K.X2 JF w) u:=by
 cases w <;> simp [isP] at hw;rename_i j o;obtain ⟨x,h1,rfl⟩:=(show VK P E (.ptr (bs.getD j 0) o) u from h).gG;exact .xa (hk j x hw h1)
theorem ba.wK {E0:Env} {nr:Nat} {bs JF:List Nat} (hk:Rk E E0 nr bs JF):∀ {ws:List KV} {us:List Value},acu nr ws=true->ba P E (K.wK bs ws) us->ba P E0 (K.wK JF ws) us
 | [],us,_,h=>by rw [h.bZ]; exact .nil
 | w::ws,us,hw,h=>by
  simp only [acu,au] at hw;obtain ⟨y,ys,rfl,h1,h2⟩:=ba.cons_inv (show ba P E (K.X2 bs w::K.wK bs ws) us from h);exact .cons (VK.X2 hk hw.1 h1) (ba.wK hk hw.2 h2)
theorem VK.inst {E0:Env} {nr:Nat} {bs JF:List Nat} (hk:Rk E E0 nr bs JF) {w:KV} {u:Value} (hw:Zz nr w=true) (h:VK P E (K.inst bs w) u):VK P E0 (K.inst JF w) u:=by
 cases w with
 | ptr j o=>
  obtain ⟨x,h1,rfl⟩:=(show VK P E (.ptr (bs.getD j 0) o) u from h).gG;exact .xa (hk j x (by simpa [Zz] using hw) h1)
 | fn f first cap=>
  cases f with
  | func f=>
   simp only [Zz,au] at hw;obtain ⟨l,m,rfl,h1,h2⟩:=(show VK P E (.fn (.func f) (K.wK bs first) (K.wK bs cap)) u from h).Ie;exact .ahC (ba.wK hk hw.1 h1) (ba.wK hk hw.2 h2)
  | _=>simp [Zz] at hw
 | _=>simp [Zz] at hw
def nT (E E0:Env) (l:List FI) (j:Nat):Prop:=∀ (i:Nat) fi,l[i]? = some fi->fi.ok=true/\(fi.fm=true->Lk E E0 fi.f (j+i))/\La E E0 fi.f (j+i)
theorem nT.left {E0:Env} {l m:List FI} {j:Nat} (h:nT E E0 (l++m) j):nT E E0 l j:=fun i fi e=>h i fi (by rw [oM (cP.1 e).1]; exact e)
theorem nT.right {E0:Env} {l m:List FI} {j:Nat} (h:nT E E0 (l++m) j):nT E E0 m (j+l.length):=fun i fi e=>by
 have:=h (l.length+i) fi (by rw [qd (by omega)]; simpa using e);rw [Fo]; exact this
theorem nT.head {E0:Env} {x:FI} {l:List FI} {j:Nat} (h:nT E E0 (x::l) j):x.ok=true/\(x.fm=true->Lk E E0 x.f j)/\La E E0 x.f j:=h 0 x rfl
theorem nT.tail {E0:Env} {x:FI} {l:List FI} {j:Nat} (h:nT E E0 (x::l) j):nT E E0 l (j+1):=fun i fi e=>by
 have:=h (i+1) fi (by simpa using e);rw [show j+1+i=j+(i+1) by omega]; exact this
theorem ba.cellsIn {E0:Env} (hz:E0.z=E.z) {A:ao} {nr:Nat} {bs JF:List Nat} (hk:Rk E E0 nr bs JF):∀ {ds:List CD} {vs:List KV} {us:List Value} {j:Nat},ba P E vs us->vs.length=ds.length->di ds (ef P A ds vs)=true->nT E E0 (j8 P A ds vs) j->DR nr bs ds vs=true->ba P E0 (oZ j JF ds (ef P A ds vs)) us
 | [],[],us,j,h,_,_,_,_=>by rw [h.bZ]; exact .nil
 | [],_::_,_,_,_,e,_,_,_=>by simp at e
 | _::_,[],_,_,_,e,_,_,_=>by simp at e
 | d::ds,v::vs,us,j,h,e,hg,hf,hr=>by
  simp only [ef,di,au] at hg;obtain ⟨y,ys,rfl,h1,h2⟩:=h.cons_inv;have e' : vs.length=ds.length:=by simpa using e
  cases d with
  | k c=>exact .cons ((h1.nCD (by simp) (by simp)).gCD (d:=.k c) hz hg.1 (by simp)) (ba.cellsIn hz hk h2 e' hg.2 hf hr)
  | lit w=>exact .cons ((h1.nCD (by simp) (by simp)).gCD (d:=.lit w) hz hg.1 (by simp)) (ba.cellsIn hz hk h2 e' hg.2 hf hr)
  | aQ t=>exact .cons (h1.al1 hz hg.1 (hf.head.2.1 (afc ..)) hf.head.1) (ba.cellsIn hz hk h2 e' hg.2 hf.tail hr)
  | arr t=>exact .cons (h1.aod hg.1 hf.head.2.2 hf.head.1) (ba.cellsIn hz hk h2 e' hg.2 hf.tail hr)
  | ref w=>
   simp only [DR,au] at hr;exact .cons (VK.inst hk hr.1 (by rw [Rl hr.2.1]; exact h1)) (ba.cellsIn hz hk h2 e' hg.2 hf hr.2.2)
theorem agp {ds:List CD} {v:KV} (h:di ds [v] = true):∃ d,ds = [d]/\iD d v=true:=by
 cases ds with
 | nil=>simp [di] at h
 | cons d ds=>
  simp only [di,au] at h;cases ds with
  | nil=>exact ⟨d,rfl,h.1⟩
  | cons e ds=>simp [di] at h
theorem wa {d:VD} {v:KV} (h:uR d v=true):(∃ cs,v = .agg cs/\d.agg=true/\di d.ks cs=true)\/((∀ cs,v≠.agg cs)/\d.agg=false/\∃ c,d.ks = [c]/\iD c v=true):=by
 by_cases ha:∃ cs,v = .agg cs
 ·obtain ⟨cs,rfl⟩:=ha
  simp only [uR,au] at h;exact .inl ⟨cs,rfl,h.1,h.2⟩
 ·have h:(!d.agg&&di d.ks [v])=true:=by
   cases v <;> first | exact h | exact absurd ⟨_,rfl⟩ ha
  simp only [au,jT] at h;exact .inr ⟨fun cs e=>ha ⟨cs,e⟩,h.1,agp h.2⟩
theorem wb {A:ao} {d:VD} {v:KV} (h:uR d (tq P A d v)=true):(∃ cs,v = .agg cs/\cs.length=d.ks.length/\tq P A d v = .agg (ef P A d.ks cs)/\di d.ks (ef P A d.ks cs)=true)\/
  ((∀ cs,v≠.agg cs)/\∃ c,d.ks = [c]/\tq P A d v=ee P A c v/\iD c (ee P A c v)=true/\v.cells = [v]/\(∀ cs,ee P A c v≠.agg cs)):=by
 have aoe:uR d .bA=false:=by
  cases hb:uR d .bA with
  | false=>rfl
  | true=>
   rcases wa hb with ⟨cs,e,_⟩ | ⟨_,_,c,_,hc⟩
   ·simp at e
   ·cases c with
    | k c=>cases c <;> simp [iD,kindOk] at hc
    | lit w=>cases w <;> first | (simp [iD,ua] at hc; done) | (rename_i f a b; cases f <;> cases a <;> cases b <;> simp [iD,ua] at hc)
    | aQ t=>simp [iD,kindOk] at hc
    | arr t=>simp [iD,kindOk] at hc
    | ref w=>
     have hc:Pz w .bA=true:=hc;have:=Rl hc;subst this;simp [Pz] at hc
 by_cases ha:∃ cs,v = .agg cs
 ·obtain ⟨cs,rfl⟩:=ha
  have e:tq P A d (.agg cs)=cond (d.agg&&Nat.beq cs.length d.ks.length) (.agg (ef P A d.ks cs)) .bA:=rfl;cases hb:(d.agg&&Nat.beq cs.length d.ks.length) with
  | false=>rw [e,hb,aF,aoe] at h; simp at h
  | true=>
   rw [e,hb,aj] at h;simp only [au] at hb;simp only [uR,au] at h;exact .inl ⟨cs,rfl,aW hb.2,by rw [e]; simp only [hb.1,hb.2,cg,aj],h.2⟩
 ·have e:tq P A d v=cond d.agg .bA (match d.ks with | [c]=>ee P A c v | _=>.bA):=by
   cases v <;> first | rfl | exact absurd ⟨_,rfl⟩ ha
  have rE:v.cells = [v]:=by cases v <;> first | rfl | exact absurd ⟨_,rfl⟩ ha
  cases xb:d.agg with
  | true=>rw [e,xb,aj,aoe] at h; simp at h
  | false=>
   rw [xb,aF] at e;rw [e] at h;split at h
   ·rename_i c hc
    rw [hc] at e;simp only at e;rcases wa h with ⟨cs,e2,h2,_⟩ | ⟨h1,_,c',h2,h3⟩
    ·rw [xb] at h2; simp at h2
    ·rw [hc] at h2
     simp only [List.cons.injEq,and_true] at h2;subst h2;exact .inr ⟨fun cs ec=>ha ⟨cs,ec⟩,c,hc,e,h3,rE,h1⟩
   ·rw [aoe] at h; simp at h
theorem Il {A:ao} {d:VD} {v:KV} (h:uR d (tq P A d v)=true):v.cells.length=d.ks.length:=by
 rcases wb h with ⟨cs,rfl,h1,_⟩ | ⟨_,c,h1,_,_,h2,_⟩
 ·exact h1
 ·rw [h1,h2]; rfl
theorem VK.arI {E0:Env} (hz:E0.z=E.z) {A:ao} {nr:Nat} {bs JF:List Nat} (hk:Rk E E0 nr bs JF) {d:VD} {v:KV} {u:Value} {j:Nat} (h:VK P E v u) (hg:uR d (tq P A d v)=true) (hf:nT E E0 (j8 P A d.ks v.cells) j) (hr:DR nr bs d.ks v.cells=true):VK P E0 (ZB j JF d (tq P A d v)) u:=by
 rcases wb hg with ⟨cs,rfl,h1,h2,h3⟩ | ⟨h0,c,h1,h2,h3,h4,h5⟩
 ·rw [h2]
  obtain ⟨l,rfl,k⟩:=h.jP;exact .ow (ba.cellsIn hz hk k h1 h3 hf hr)
 ·rw [h2]
  have e:ZB j JF d (ee P A c v)=(match d.ks with | [.aQ _]=>MZ j (ee P A c v) | [.arr _]=>Rj j (ee P A c v) | [.ref w]=>K.inst JF w | _=>ee P A c v):=by
   generalize ee P A c v=w at h5;cases w <;> first | rfl | exact absurd rfl (h5 _)
  rw [e,h1];rw [h1,h4] at hf hr;cases c with
  | k c=>exact (h.nCD (by simp) (by simp)).gCD (d:=.k c) hz h3 (by simp)
  | lit w=>exact (h.nCD (by simp) (by simp)).gCD (d:=.lit w) hz h3 (by simp)
  | aQ t=>exact h.al1 hz h3 (hf.head.2.1 (afc ..)) hf.head.1
  | arr t=>exact h.aod h3 hf.head.2.2 hf.head.1
  | ref w=>
   simp only [DR,au] at hr;exact VK.inst hk hr.1 (by rw [Rl hr.2.1]; exact h)
theorem VK.XM {A:ao} {nr:Nat} {bs:List Nat} {d:VD} {t:bq} {i:Tmp} (h:uR d (tq P A d (valOf t i))=true) (hr:DR nr bs d.ks (valOf t i).cells=true):∃ v,t.get i=some v:=by
 cases hg:t.get i with
 | some v=>exact ⟨v,rfl⟩
 | none=>
  exfalso;have e:valOf t i = .bA:=by simp [valOf,hg]
  rw [e] at h hr;rcases wb h with ⟨cs,e2,_⟩ | ⟨_,c,pT,_,h3,_,_⟩
  ·simp at e2
  ·cases c with
   | ref w=>
    rw [pT] at hr;have hr:(Zz nr w&&(Pz (K.inst bs w) .bA&&true))=true:=hr;simp only [au] at hr;have h1:=hr.2.1;have:=Rl h1;rw [this] at h1;simp [Pz] at h1
   | k c=>
    have h4:kindOk c (K.lM c .bA)=false:=by cases c <;> rfl
    have h5:ee P A (.k c) .bA = .bA:=by
     show cond (kindOk c (K.lM c .bA)) (K.bI P dx (leaf c (K.lM c .bA))) KV.bA=KV.bA;rw [h4]; rfl
    rw [h5] at h3;cases c <;> simp [iD,kindOk] at h3
   | lit w=>cases w <;> first | (simp [ee,iD,ua] at h3; done) | (rename_i f a b; cases f <;> cases a <;> cases b <;> simp [ee,iD,ua] at h3)
   | aQ t=>simp [ee,iD,kindOk] at h3
   | arr t=>exact absurd h3 (by simp [ee,PA,akl,iD,kindOk])
end Go.K
end
section
namespace Go.K
open Go Go.aq
variable {P:Program} {E:Env}
theorem acx:∀ {bs:List Nat},uT bs=true->∀ (i j b:Nat),bs[i]? = some b->bs[j]? = some b->i=j
 | [],_,i,j,b,hi,_=>by simp at hi
 | a::bs,h,i,j,b,hi,hj=>by
  simp only [uT,au,eM,jT] at h;cases i with
  | zero=>
   cases j with
   | zero=>rfl
   | succ j=>
    simp at hi hj; subst hi;have:=h.1 a (fR hj);exact absurd (tf a) (by rw [this]; simp)
  | succ i=>
   cases j with
   | zero=>
    simp at hi hj; subst hj;have:=h.1 a (fR hi);exact absurd (tf a) (by rw [this]; simp)
   | succ j=>
    simp at hi hj;rw [acx h.2 i j b hi hj]
theorem uc:∀ {l:List (Option Nat)} {f:Nat},f∈iU l↔some f∈l
 | [],f=>by simp [iU]
 | some g::l,f=>by simp [iU,uc (l:=l)]
 | none::l,f=>by simp [iU,uc (l:=l)]
theorem uU:∀ {l:List (Option Nat)},uT (iU l)=true->∀ (i j f:Nat),l[i]? = some (some f)->l[j]? = some (some f)->i=j
 | [],_,i,j,b,hi,_=>by simp at hi
 | none::l,h,i,j,f,hi,hj=>by
  cases i with
  | zero=>simp at hi
  | succ i=>
   cases j with
   | zero=>simp at hj
   | succ j=>
    simp at hi hj;rw [uU (l:=l) h i j f hi hj]
 | some g::l,h,i,j,f,hi,hj=>by
  simp only [iU,uT,au,eM,jT] at h;have key:∀ {k:Nat},l[k]? = some (some g)->False:=by
   intro k hk;have:=h.1 g (uc.2 (fR hk));exact absurd (tf g) (by rw [this]; simp)
  cases i with
  | zero=>
   cases j with
   | zero=>rfl
   | succ j=>
    simp at hi hj; subst hi;exact (key hj).elim
  | succ i=>
   cases j with
   | zero=>
    simp at hi hj; subst hj;exact (key hi).elim
   | succ j=>
    simp at hi hj;rw [uU (l:=l) h.2 i j f hi hj]
theorem M0:∀ {l:List FI} {i:Nat} {x:FI},l[i]? = some x->(MX l)[i]? = some x.f
 | [],_,_,h=>by simp at h
 | y::l,0,x,h=>by simp at h; subst h; rfl
 | y::l,i+1,x,h=>by simp at h; simpa [MX] using M0 h
theorem pV:∀ {l:List FI},(MX l).length=l.length
 | []=>rfl
 | y::l=>by simp [MX,pV]
theorem TM:∀ {l:List FI},X3 l=true->∀ x∈l,x.ok=true
 | [],_,x,h=>by simp at h
 | y::l,h,x,hx=>by
  simp only [X3] at h;cases hl:X3 l with
  | false=>rw [hl] at h; simp at h
  | true=>
   rw [hl,aj] at h;rcases dv.1 hx with rfl | hx
   ·exact h
   ·exact TM hl x hx
theorem fp:∀ (l:List ik) (A:ao),(qF A l).next=A.next+l.length
 | [],_=>rfl
 | p::l,A=>by rw [qF,fp l]; simp; omega
theorem FE:∀ {l:List ik} {A:ao} {x:Nat},x < A.next->(qF A l).get x=A.get x
 | [],_,_,_=>rfl
 | p::l,A,x,h=>by rw [qF,FE (by simp; omega),ao.cS,ak (by omega)]
theorem PC:∀ {l:List ik} {A:ao} {i:Nat} {p:ik},l[i]? = some p->(qF A l).get (A.next+i)=some p
 | [],_,_,_,h=>by simp at h
 | q::l,A,0,p,h=>by
  simp at h; subst h;rw [qF,yL,FE (by simp),ao.cS,aI rfl]
 | q::l,A,i+1,p,h=>by
  simp at h;have:=PC (A:=A.new q) h;rw [ao.b7] at this;rw [qF,show A.next+(i+1)=A.next+1+i by omega];exact this
theorem VM:∀ {l:List ik} {A:ao} {x:Nat} {o:ik},(qF A l).get x=some o->(A.get x=some o/\x < A.next+l.length)\/(x < A.next/\A.get x=some o)\/(∃ i p,x=A.next+i/\l[i]? = some p/\o=p)\/A.get x=some o
 | [],_,_,_,h=>.inr (.inr (.inr h))
 | p::l,A,x,o,h=>by
  rw [qF] at h;have key:(A.new p).get x=some o->(∃ i q,x=A.next+i/\(p::l)[i]? = some q/\o=q)\/A.get x=some o:=by
   intro h;rw [ao.cS] at h;split at h
   ·rename_i e; simp at h; exact .inl ⟨0,p,by omega,rfl,h.symm⟩
   ·exact .inr h
  rcases VM h with ⟨h,_⟩ | ⟨_,h⟩ | ⟨i,q,e,h1,h2⟩ | h
  ·exact .inr (.inr (key h))
  ·exact .inr (.inr (key h))
  ·exact .inr (.inr (.inl ⟨i+1,q,by rw [e]; simp; omega,by simpa using h1,h2⟩))
  ·exact .inr (.inr (key h))
theorem VN {l:List ik} {A:ao} {x:Nat} {o:ik} (h:(qF A l).get x=some o):A.get x=some o\/∃ i p,x=A.next+i/\l[i]? = some p/\o=p:=by
 rcases VM h with ⟨h,_⟩ | ⟨_,h⟩ | h | h
 ·exact .inl h
 ·exact .inl h
 ·exact .inr h
 ·exact .inl h
theorem Im:∀ (l:List (Option Nat)) (A:ao),(xp A l).next=A.next
 | [],_=>rfl
 | some f::l,A=>by rw [xp,Im l]; rfl
 | none::l,A=>by rw [xp,Im l]
theorem GM:∀ {l:List (Option Nat)} {A:ao} {x:Nat},(xp A l).get x=if x∈iU l then some .dead else A.get x
 | [],A,x=>by simp [xp,iU]
 | none::l,A,x=>by rw [xp,GM,iU]
 | some f::l,A,x=>by
  rw [xp,GM,iU,ao.b5];by_cases h1:x∈iU l
  ·rw [aI h1,aI (uF _ h1)]
  ·rw [ak h1]
   by_cases h2:x=f
   ·rw [aI h2,aI (by simp [h2])]
   ·rw [ak h2,ak (by simp [h1,h2])]
theorem TN:∀ (bs:List Nat) (ps:List (Tmp×List CD×Nat)) (rs:List (List KV)) (A:ao),(na A bs ps rs).next=A.next
 | [],_,_,_=>rfl
 | _::_,[],_,_=>rfl
 | _::_,_::_,[],_=>rfl
 | b::bs,p::ps,r::rs,A=>by rw [na,TN bs ps rs]; rfl
theorem PD:∀ {bs:List Nat} {ps:List (Tmp×List CD×Nat)} {rs:List (List KV)} {A:ao} {x:Nat},x ∉ bs->(na A bs ps rs).get x=A.get x
 | [],_,_,_,_,_=>rfl
 | _::_,[],_,_,_,_=>rfl
 | _::_,_::_,[],_,_,_=>rfl
 | b::bs,p::ps,r::rs,A,x,h=>by
  simp only [dv,not_or] at h;rw [na,PD h.2,ao.b5,ak h.1]
theorem aif:∀ {bs:List Nat} {ps:List (Tmp×List CD×Nat)} {rs:List (List KV)} {A:ao} {k b:Nat} {p:Tmp×List CD×Nat} {r:List KV},uT bs=true->bs[k]? = some b->ps[k]? = some p->rs[k]? = some r->(na A bs ps rs).get b=some (.row r p.2.2)
 | [],_,_,_,_,_,_,_,_,h,_,_=>by simp at h
 | _::_,[],_,_,_,_,_,_,_,_,h,_=>by simp at h
 | _::_,_::_,[],_,_,_,_,_,_,_,_,h=>by simp at h
 | b::bs,p::ps,r::rs,A,k,x,p',r',hn,hb,hp,hr=>by
  have Mo:=hn;simp only [uT,au] at hn;cases k with
  | zero=>
   simp at hb hp hr;subst hb hp hr;rw [na,PD,ao.b5,aI rfl];intro hm;have:=eM.1 hn.1 b hm;simp at this
  | succ k=>
   simp only [Q0] at hb hp hr;rw [na];exact aif hn.2 hb hp hr
theorem afe:∀ {ps:List (Tmp×List CD×Nat)} {rs:List (List KV)} {A:ao},rs.length=ps.length->(px A ps rs).next=A.next+ps.length
 | [],[],_,_=>rfl
 | [],_::_,_,h=>by simp at h
 | _::_,[],_,h=>by simp at h
 | p::ps,r::rs,A,h=>by rw [px,afe (by simpa using h)]; simp; omega
theorem aih:∀ {ps:List (Tmp×List CD×Nat)} {rs:List (List KV)} {A:ao} {x:Nat},x < A.next->(px A ps rs).get x=A.get x
 | [],_,_,_,_=>rfl
 | _::_,[],_,_,_=>rfl
 | p::ps,r::rs,A,x,h=>by rw [px,aih (by simp; omega),ao.cS,ak (by omega)]
theorem al2:∀ {ps:List (Tmp×List CD×Nat)} {rs:List (List KV)} {A:ao} {k:Nat} {p:Tmp×List CD×Nat} {r:List KV},ps[k]? = some p->rs[k]? = some r->(px A ps rs).get (A.next+k)=some (.row r p.2.2)
 | [],_,_,_,_,_,h,_=>by simp at h
 | _::_,[],_,_,_,_,_,h=>by simp at h
 | p::ps,r::rs,A,k,p',r',hp,hr=>by
  cases k with
  | zero=>
   simp at hp hr; subst hp hr;rw [px,yL,aih (by simp),ao.cS,aI rfl]
  | succ k=>
   simp only [Q0] at hp hr;have:=al2 (A:=A.new (.row r p.2.2)) hp hr;rw [px];simpa [Nat.add_comm,Nat.add_left_comm] using this
theorem aii:∀ {ps:List (Tmp×List CD×Nat)} {rs:List (List KV)} {A:ao} {x:Nat} {o:ik},(px A ps rs).get x=some o->A.get x=some o\/∃ k p r,x=A.next+k/\ps[k]? = some p/\rs[k]? = some r/\o = .row r p.2.2
 | [],_,_,_,_,h=>.inl h
 | _::_,[],_,_,_,h=>.inl h
 | p::ps,r::rs,A,x,o,h=>by
  rw [px] at h;rcases aii h with h | ⟨k,p',r',rfl,h1,h2,h3⟩
  ·rw [ao.cS] at h
   by_cases e:x=A.next
   ·rw [aI e] at h; simp at h
    exact .inr ⟨0,p,r,by omega,rfl,rfl,h.symm⟩
   ·rw [ak e] at h; exact .inl h
  ·exact .inr ⟨k+1,p',r',by simp; omega,by simpa using h1,by simpa using h2,h3⟩
theorem aff:∀ (n:Nat) (l:List Nat) (k:Nat),(upto n l)[k]? = if k < n then some k else l[k - n]?
 | 0,l,k=>by simp [upto]
 | n+1,l,k=>by
  rw [upto,aff n];by_cases h:k < n
  ·rw [aI h,aI (by omega)]
  ·rw [ak h]
   by_cases h2:k=n
   ·subst h2
    rw [aI (by omega)];simp
   ·rw [ak (by omega),show k - n=(k - (n+1))+1 by omega]
    simp
theorem KX (S:aB) (k:Nat) (h:k < S.rows.length):S.ids[k]? = some k:=by rw [aB.ids,aff,aI h]
theorem PE:∀ {a b:List Nat},ub a b=true->a=b
 | [],[],_=>rfl
 | [],_::_,h=>by simp [ub] at h
 | _::_,[],h=>by simp [ub] at h
 | x::a,y::b,h=>by
  simp only [ub,au] at h;rw [aW h.1,PE h.2]
theorem Ip {t:bq} {A:ao} {p:Tmp×List CD×Nat} (h:(rowOf t A p).isSome=true):∃ b cs,A.get b=some (.row cs p.2.2)/\cs.length=p.2.1.length/\alY t A p=b/\GJ t A p=cs:=by
 unfold rowOf at h;split at h
 ·rename_i b hb
  split at h
  ·rename_i cs e hr
   cases hc:(Nat.beq e p.2.2&&Nat.beq cs.length p.2.1.length) with
   | false=>rw [hc] at h; simp at h
   | true=>
    have hro:rowOf t A p=some (b,cs):=by simp only [rowOf,hb,hr,hc,aj]
    simp only [au] at hc;have he:=aW hc.1;subst he;exact ⟨b,cs,hr,aW hc.2,by simp [alY,hro],by simp [GJ,hro]⟩
  ·simp at h
 ·simp at h
structure dj (P:Program) (S:aB) (t:bq) (A:ao) (g:GR):Prop where
 rows:wL P t A S.rows=true
 nodup:uT g.bs=true
 ZA:Ri t g.bs S.ZA=true
 eh:gm S.eh g.vs=true
 aa4:uT (iU g.fs)=true
 ap7:PB S.rows.length g.bs t S.eh=true
 ap8:X4 S.rows.length g.bs t A S.rows=true
 tg:X3 (S.RD P t A)=true
 bs:g.bs=xm t A S.rows
 fs:g.fs=MX (S.RD P t A)
 vs:g.vs=oA P t A S.eh
 rs:g.rs=JD P t A S.rows
theorem KY {S:aB} {t:bq} {A:ao} (h:(S.eG P t A).ok=true):dj P S t A (S.eG P t A):=by
 unfold aB.eG at h ⊢;simp only at h ⊢;cases hc:(wL P t A S.rows&&uT (xm t A S.rows)&&Ri t (xm t A S.rows) S.ZA&&gm S.eh (oA P t A S.eh)&&uT (iU (MX (S.RD P t A)))&&PB S.rows.length (xm t A S.rows) t S.eh&&X4 S.rows.length (xm t A S.rows) t A S.rows) with
 | false=>rw [hc] at h; simp at h
 | true=>
  rw [hc,aj] at h;simp only [au] at hc;exact ⟨hc.1.1.1.1.1.1,hc.1.1.1.1.1.2,hc.1.1.1.1.2,hc.1.1.1.2,hc.1.1.2,hc.1.2,hc.2,h,rfl,rfl,rfl,rfl⟩
theorem acy {t:bq} {A:ao} : ∀ {ps:List (Tmp×List CD×Nat)} {k:Nat} {p:Tmp×List CD×Nat},ps[k]? = some p->(xm t A ps)[k]? = some (alY t A p)
 | [],_,_,h=>by simp at h
 | p::ps,0,q,h=>by simp at h; subst h; rfl
 | p::ps,k+1,q,h=>by simp at h; simpa [xm] using acy h
theorem CB {t:bq} {A:ao} : ∀ {ps:List (Tmp×List CD×Nat)},(xm t A ps).length=ps.length
 | []=>rfl
 | p::ps=>by simp [xm,CB]
theorem Sm {t:bq} {A:ao} : ∀ {ps:List (Tmp×List CD×Nat)},(JD P t A ps).length=ps.length
 | []=>rfl
 | p::ps=>by simp [JD,Sm]
theorem ZE {t:bq} {A:ao} : ∀ {ps:List (Tmp×List CD×Nat)},wL P t A ps=true->∀ {k:Nat} {p:Tmp×List CD×Nat},ps[k]? = some p->(rowOf t A p).isSome=true/\di p.2.1 (ef P A p.2.1 (GJ t A p))=true
 | [],_,k,p,h=>by simp at h
 | q::ps,h,k,p,hp=>by
  simp only [wL,au] at h;cases k with
  | zero=>simp at hp; subst hp; exact ⟨h.1,h.2.1⟩
  | succ k=>simp at hp; exact ZE h.2.2 hp
theorem VO:∀ {ps:List (Tmp×List CD×Nat)} {rs:List (List KV)},rs.length=ps.length->∀ (j:Nat) (bs:List Nat),(ZD j bs ps rs).length=ps.length
 | [],[],_,_,_=>rfl
 | [],_::_,h,_,_=>by simp at h
 | _::_,[],h,_,_=>by simp at h
 | p::ps,r::rs,h,j,bs=>by simp [ZD,VO (by simpa using h)]
def yi (j:Nat):List (Tmp×List CD×Nat)->Nat->Nat
 | [],_=>j
 | _::_,0=>j
 | p::ps,k+1=>yi (j+pw p.2.1) ps k
theorem Rm {bs:List Nat} : ∀ {ps:List (Tmp×List CD×Nat)} {rs:List (List KV)} {j k:Nat} {p:Tmp×List CD×Nat} {r:List KV},ps[k]? = some p->rs[k]? = some r->(ZD j bs ps rs)[k]? = some (oZ (yi j ps k) bs p.2.1 r)
 | [],_,_,_,_,_,h,_=>by simp at h
 | _::_,[],_,_,_,_,_,h=>by simp at h
 | p::ps,r::rs,j,0,p',r',h1,h2=>by simp at h1 h2; subst h1 h2; rfl
 | p::ps,r::rs,j,k+1,p',r',h1,h2=>by
  simp at h1 h2;simp only [ZD,Q0];exact Rm h1 h2
theorem acz {E0:Env} {t:bq} {A:ao} : ∀ {ps:List (Tmp×List CD×Nat)} {j:Nat},wL P t A ps=true->nT E E0 (GK P t A ps) j->∀ {k:Nat} {p:Tmp×List CD×Nat},ps[k]? = some p->nT E E0 (j8 P A p.2.1 (GJ t A p)) (yi j ps k)
 | [],_,_,_,_,_,h=>by simp at h
 | q::ps,j,hr,hf,k,p,hp=>by
  simp only [wL,au] at hr;obtain ⟨b,cs,_,hl,_,hC⟩:=Ip hr.1;cases k with
  | zero=>simp at hp; subst hp; exact hf.left
  | succ k=>
   simp at hp;have:=hf.right;rw [jQ (by rw [hC]; exact hl)] at this;exact acz hr.2.2 this hp
theorem CC {t:bq} {A:ao} : ∀ {ps:List (Tmp×VD)},gm ps (oA P t A ps)=true->(DQ P t A ps).length=mm ps
 | [],_=>rfl
 | p::ps,h=>by
  simp only [oA,gm,au] at h;simp only [DQ,mm,kF];rw [jQ (Il h.1),CC h.2]
def KZ (P:Program) (A:ao) (x:FI) (q:ik):Prop:=
 (∃ n sz,q = .aQ n sz/\((x.f=none/\n=0)\/∃ f,x.f=some f/\A.get f=some (.aQ n sz)))\/
 ∃ t v,q = .arr v/\((x.f=none/\1<=bf P t/\v=K.bI P dx (.ts t .any 0 [] l7))\/∃ f m N es acc,x.f=some f/\A.get f=some (.arr (.ts t m N es acc))/\v=K.bI P dx (.ts t .any N es acc))
theorem aof {A:ao} {t:TypeId} {v:KV} (cQ:(JE P A t v).ok=true) (hg:iD (.arr t) (ee P A (.arr t) v)=true):KZ P A (JE P A t v) (.arr (ee P A (.arr t) v)):=by
 rcases X5 hg with rfl | ⟨b,n,m,N,es,acc,rfl,hb,he⟩
 ·exact .inr ⟨t,_,rfl,.inl ⟨rfl,dI cQ,rfl⟩⟩
 ·refine .inr ⟨t,_,rfl,.inr ⟨b,m,N,es,acc,?_,hb,he⟩⟩
  simp only [JE,hb]
theorem aog {A:ao} {t:TypeId} {v:KV} (cQ:(rM P A t v).ok=true) (hg:iD (.aQ t) (ee P A (.aQ t) v)=true):KZ P A (rM P A t v) (.aQ (lenOf (ee P A (.aQ t) v)) (szL P t)):=by
 refine .inl ⟨_,_,rfl,?_⟩;cases v with
 | jz=>exact .inl ⟨rfl,rfl⟩
 | ts t' m n es acc=>
  cases m with
  | aQ f=>
   have e1:ee P A (.aQ t) (.ts t' (.aQ f) n es acc)=cond (Nat.beq t t') (K.bI P dx (.ts t .any n es acc)) .bA:=rfl;rw [e1] at hg ⊢;cases hb:Nat.beq t t' with
   | false=>rw [hb] at hg; simp [iD,kindOk] at hg
   | true=>
    rw [aj];refine .inr ⟨f,?_,?_⟩
    ·revert cQ
     unfold rM;simp only;split
     ·intro _; rfl
     ·intro cQ; simp at cQ
    ·revert cQ
     unfold rM;simp only;split
     ·rename_i top sz he
      intro cQ;simp only at cQ;cases hs:Nat.beq sz (szL P t) with
      | false=>rw [hs] at cQ; simp at cQ
      | true=>
       rw [hs,aj] at cQ;have h1:=aW hs;have h2:=aW (show Nat.beq top n=true from cQ);subst h1 h2;exact he
     ·intro cQ; simp at cQ
  | any=>simp [rM] at cQ
  | exact=>simp [rM] at cQ
 | _=>simp [rM] at cQ
theorem ud {A:ao} : ∀ {ds:List CD} {vs:List KV} {i:Nat} {x:FI},vs.length=ds.length->di ds (ef P A ds vs)=true->(j8 P A ds vs)[i]? = some x->x.ok=true->∃ q,(nS P ds (ef P A ds vs))[i]? = some q/\KZ P A x q
 | [],[],_,_,_,_,h,_=>by simp [j8] at h
 | [],_::_,_,_,e,_,_,_=>by simp at e
 | _::_,[],_,_,e,_,_,_=>by simp at e
 | .k c::ds,v::vs,i,x,e,hg,h,cQ=>by
  simp only [ef,di,au] at hg;have h' : (j8 P A ds vs)[i]? = some x:=h;exact ud (ds:=ds) (vs:=vs) (by simpa using e) hg.2 h' cQ
 | .lit c::ds,v::vs,i,x,e,hg,h,cQ=>by
  simp only [ef,di,au] at hg;have h' : (j8 P A ds vs)[i]? = some x:=h;exact ud (ds:=ds) (vs:=vs) (by simpa using e) hg.2 h' cQ
 | .ref c::ds,v::vs,i,x,e,hg,h,cQ=>by
  simp only [ef,di,au] at hg;have h' : (j8 P A ds vs)[i]? = some x:=h;exact ud (ds:=ds) (vs:=vs) (by simpa using e) hg.2 h' cQ
 | .aQ t::ds,v::vs,i,x,e,hg,h,cQ=>by
  simp only [ef,di,au] at hg;cases i with
  | zero=>
   simp [j8] at h;subst h;exact ⟨_,rfl,aog cQ hg.1⟩
  | succ i=>
   simp [j8] at h;obtain ⟨q,h1,h2⟩:=ud (by simpa using e) hg.2 h cQ;exact ⟨q,by simpa [nS,ef] using h1,h2⟩
 | .arr t::ds,v::vs,i,x,e,hg,h,cQ=>by
  simp only [ef,di,au] at hg;cases i with
  | zero=>
   simp [j8] at h;subst h;exact ⟨_,rfl,aof cQ hg.1⟩
  | succ i=>
   simp [j8] at h;obtain ⟨q,h1,h2⟩:=ud (by simpa using e) hg.2 h cQ;exact ⟨q,by simpa [nS,ef] using h1,h2⟩
theorem mB:∀ {ds:List CD} {vs:List KV},vs.length=ds.length->(nS P ds vs).length=pw ds
 | [],[],_=>rfl
 | [],_::_,e=>by simp at e
 | _::_,[],e=>by simp at e
 | .k c::ds,v::vs,e=>by simp only [nS,pw]; exact mB (by simpa using e)
 | .lit w::ds,v::vs,e=>by simp only [nS,pw]; exact mB (by simpa using e)
 | .ref w::ds,v::vs,e=>by simp only [nS,pw]; exact mB (by simpa using e)
 | .aQ t::ds,v::vs,e=>by simp only [nS,pw,yM]; rw [mB (by simpa using e)]
 | .arr t::ds,v::vs,e=>by simp only [nS,pw,yM]; rw [mB (by simpa using e)]
theorem FF:∀ {ds:List CD} {vs:List KV},di ds vs=true->vs.length=ds.length
 | [],[],_=>rfl
 | [],_::_,h=>by simp [di] at h
 | _::_,[],h=>by simp [di] at h
 | d::ds,v::vs,h=>by
  simp only [di,au] at h;simp [FF h.2]
theorem ZF {d:VD} {v:KV} (h:uR d v=true):v.cells.length=d.ks.length:=by
 rcases wa h with ⟨cs,rfl,_,h1⟩ | ⟨h0,_,c,h1,_⟩
 ·exact FF h1
 ·have:v.cells = [v]:=by cases v <;> first | rfl | exact absurd rfl (h0 _)
  rw [this,h1]; rfl
theorem CE:∀ {ps:List (Tmp×VD)} {vs:List KV},gm ps vs=true->(vC P ps vs).length=mm ps
 | [],[],_=>rfl
 | [],_::_,h=>by simp [gm] at h
 | _::_,[],h=>by simp [gm] at h
 | p::ps,v::vs,h=>by
  simp only [gm,au] at h;simp only [vC,mm,kF];rw [mB (ZF h.1),CE h.2]
theorem ZG {t:bq} {A:ao} : ∀ {ps:List (Tmp×VD)} {i:Nat} {x:FI},gm ps (oA P t A ps)=true->(DQ P t A ps)[i]? = some x->x.ok=true->∃ p,(vC P ps (oA P t A ps))[i]? = some p/\KZ P A x p
 | [],_,_,_,h,_=>by simp [DQ] at h
 | p::ps,i,x,hg,h,cQ=>by
  simp only [oA,gm,au] at hg;simp only [DQ] at h;have hl:=Il hg.1;by_cases hi:i < (j8 P A p.2.ks (valOf t p.1).cells).length
  ·rw [oM hi] at h
   have hg' : di p.2.ks (ef P A p.2.ks (valOf t p.1).cells)=true/\(tq P A p.2 (valOf t p.1)).cells=ef P A p.2.ks (valOf t p.1).cells:=by
    rcases wb hg.1 with ⟨cs,e,_,h2,h3⟩ | ⟨_,c,h1,h2,h3,h4,h5⟩
    ·rw [e] at h2 ⊢; exact ⟨h3,by rw [h2]; rfl⟩
    ·rw [h4,h1]
     refine ⟨by simp [ef,di,h3],?_⟩;rw [h2];show (ee P A c (valOf t p.1)).cells = [ee P A c (valOf t p.1)];generalize ee P A c (valOf t p.1)=w at h5 ⊢;cases w <;> first | rfl | exact absurd rfl (h5 _)
   obtain ⟨q,h2,h3⟩:=ud hl hg'.1 h cQ;refine ⟨q,?_,h3⟩;simp only [oA,vC];rw [hg'.2,oM (cP.1 h2).1];exact h2
  ·rw [qd (by omega)] at h
   obtain ⟨q,h1,h2⟩:=ZG hg.2 h cQ;refine ⟨q,?_,h2⟩;simp only [oA,vC];have e1:(nS P p.2.ks (tq P A p.2 (valOf t p.1)).cells).length=(j8 P A p.2.ks (valOf t p.1).cells).length:=by rw [mB (ZF hg.1),jQ hl]
   rw [qd (by omega),e1];exact h1
theorem ZH {t:bq} {A:ao} : ∀ {ps:List (Tmp×List CD×Nat)} {i:Nat} {x:FI},wL P t A ps=true->(GK P t A ps)[i]? = some x->x.ok=true->∃ p,(xo P ps (JD P t A ps))[i]? = some p/\KZ P A x p
 | [],_,_,_,h,_=>by simp [GK] at h
 | p::ps,i,x,hg,h,cQ=>by
  simp only [wL,au] at hg;simp only [GK] at h;obtain ⟨b,cs,_,hl,_,hC⟩:=Ip hg.1;rw [<- hC] at hl;by_cases hi:i < (j8 P A p.2.1 (GJ t A p)).length
  ·rw [oM hi] at h
   obtain ⟨q,h2,h3⟩:=ud hl hg.2.1 h cQ;refine ⟨q,?_,h3⟩;simp only [JD,xo];rw [oM (cP.1 h2).1];exact h2
  ·rw [qd (by omega)] at h
   obtain ⟨q,h1,h2⟩:=ZH hg.2.2 h cQ;refine ⟨q,?_,h2⟩;simp only [JD,xo];have e1:(nS P p.2.1 (ef P A p.2.1 (GJ t A p))).length=(j8 P A p.2.1 (GJ t A p)).length:=by rw [mB (FF hg.2.1),jQ hl]
   rw [qd (by omega),e1];exact h1
theorem JG:∀ {ps:List (Tmp×List CD×Nat)} {rs:List (List KV)},rs.length=ps.length->(∀ (k:Nat) p r,ps[k]? = some p->rs[k]? = some r->di p.2.1 r=true)->∀ {l:Nat},l=(ps.map fun p=>pw p.2.1).sum->(xo P ps rs).length=l
 | [],[],_,_,l,hl=>by subst hl; rfl
 | [],_::_,h,_,_,_=>by simp at h
 | _::_,[],h,_,_,_=>by simp at h
 | p::ps,r::rs,h,hk,l,hl=>by
  simp only [xo,kF];rw [mB (FF (hk 0 p r rfl rfl)),JG (by simpa using h) (fun k p r h1 h2=>hk (k+1) p r (by simpa using h1) (by simpa using h2)) rfl,hl];simp
theorem Sn {t:bq} {A:ao} : ∀ {ps:List (Tmp×List CD×Nat)},wL P t A ps=true->(GK P t A ps).length=(ps.map fun p=>pw p.2.1).sum
 | [],_=>rfl
 | p::ps,h=>by
  simp only [wL,au] at h;obtain ⟨b,cs,_,hl,_,hC⟩:=Ip h.1;simp only [GK,kF,List.map_cons,List.sum_cons];rw [jQ (by rw [hC]; exact hl),Sn h.2.2]
end Go.K
end
section
namespace Go.K
open Go Go.aq
variable {P:Program} {E:Env}
noncomputable def Env.sub (E:Env) (A:ao) (bs:List Nat) (fs:List (Option Nat)) (nr:Nat):Env:=
 { κ:=fun i=>(bs[i]?).bind E.κ,z:=E.z,φ:=fun i=>if nr<=i then (fs[i - nr]?).bind (fun f=>f.bind fun x=>cond (xn (A.get x)) (E.φ x) none) else none,α:=fun i=>if nr<=i then (fs[i - nr]?).bind (fun f=>f.bind E.α) else none }
theorem Rn {E:Env} {A:ao} {x q:Nat} (e:cond (xn (A.get x)) (E.φ x) none=some q):E.φ x=some q/\xn (A.get x)=true:=by
 cases h:xn (A.get x) with
 | true=>rw [h] at e; exact ⟨e,rfl⟩
 | false=>rw [h] at e; simp at e
theorem aij {A:ao} {x:Nat} (h:xn (A.get x)=true):∃ n sz,A.get x=some (.aQ n sz):=by
 unfold xn at h;split at h
 ·rename_i n sz e; exact ⟨n,sz,e⟩
 ·simp at h
theorem Env.acA {A:ao} {bs:List Nat} {fs:List (Option Nat)} {nr i:Nat} : (E.sub A bs fs nr).φ (nr+i)=(fs[i]?).bind (fun f=>f.bind fun x=>cond (xn (A.get x)) (E.φ x) none):=by
 simp only [Env.sub];rw [aI (by omega),show nr+i - nr=i by omega]
theorem Env.GN {A:ao} {bs:List Nat} {fs:List (Option Nat)} {nr i:Nat} : (E.sub A bs fs nr).α (nr+i)=(fs[i]?).bind (fun f=>f.bind E.α):=by
 simp only [Env.sub];rw [aI (by omega),show nr+i - nr=i by omega]
theorem M1:∀ {l:List (Nat×KV)} {i:Nat} {v:KV},(ki l).get i=some v->(i,v)∈l
 | [],i,v,h=>by simp [ki] at h
 | p::ps,i,v,h=>by
  rw [ki,Trie.nE] at h;split at h
  ·rename_i e
   simp at h; subst h e;simp
  ·exact uF _ (M1 h)
theorem jf.ki {ρ:Ren} {l:List (Nat×KV)} {N:Nat} {a:Act} (hs:a.tmps.size=N) (h:∀ q∈l,q.1 < N/\VC P E ρ q.2 (a.tmps.getD q.1 undef)):jf P E ρ (K.ki l) N a:=by
 refine ⟨hs,fun i=>?_,fun i hi=>?_⟩
 ·cases hg:(K.ki l).get i with
  | none=>exact .bA
  | some v=>exact (h _ (M1 hg)).2
 ·cases hg:(K.ki l).get i with
  | none=>rfl
  | some v=>have:=(h _ (M1 hg)).1; exact absurd hi (Nat.not_le_of_lt this)
theorem Bo {A:ao} {x:Nat} : ∀ {ds:List CD} {vs:List KV} {fi:FI},fi∈j8 P A ds vs->fi.fm=true->fi.f=some x->xn (A.get x)=true
 | [],_,_,h,_,_=>by simp [j8] at h
 | d::ds,[],_,h,_,_=>by cases d <;> simp [j8] at h
 | d::ds,v::vs,fi,h,hm,hx=>by
  cases d <;> simp only [j8,dv] at h
  ·exact Bo h hm hx
  ·exact Bo h hm hx
  ·rcases h with rfl | h
   ·exact amR hx
   ·exact Bo h hm hx
  ·rcases h with rfl | h
   ·rw [amQ] at hm; simp at hm
   ·exact Bo h hm hx
  ·exact Bo h hm hx
theorem aB.apl (S:aB) {t:bq} {A:ao} {x:Nat} {fi:FI} (h:fi∈S.RD P t A) (hm:fi.fm=true) (hx:fi.f=some x):xn (A.get x)=true:=by
 have one:∀ {ps:List (Tmp×VD)},fi∈DQ P t A ps->xn (A.get x)=true:=by
  intro ps
  induction ps with
  | nil=>intro h; simp [DQ] at h
  | cons p ps ih=>
   intro h;simp only [DQ,iW] at h;exact h.elim (fun h=>Bo h hm hx) ih
 have two:∀ {ps:List (Tmp×List CD×Nat)},fi∈GK P t A ps->xn (A.get x)=true:=by
  intro ps
  induction ps with
  | nil=>intro h; simp [GK] at h
  | cons p ps ih=>
   intro h;simp only [GK,iW] at h;exact h.elim (fun h=>Bo h hm hx) ih
 simp only [aB.RD,iW] at h;exact h.elim one two
theorem dj.hyp {S:aB} {t:bq} {A:ao} {g:GR} (h:dj P S t A g):nT E (E.sub A g.bs g.fs S.nr) (S.RD P t A) S.nr:=fun i fi hi=>by
 refine ⟨TM h.tg fi (fR hi),fun hm x q hx hq=>?_,fun x q hx hq=>?_⟩
 ·rw [Env.acA,h.fs,M0 hi,dz,hx,dz,S.apl (fR hi) hm hx]
  exact hq
 ·rw [Env.GN,h.fs,M0 hi,dz,hx,dz]
  exact hq
theorem aik {E0:Env} {t:bq} {A:ao} {ρ:Ren} {N nr:Nat} {bs JF:List Nat} {a:Act} (hz:E0.z=E.z) (hk:Rk E E0 nr bs JF) (ht:jf P E ρ t N a):∀ {ps:List (Tmp×VD)} {j:Nat},gm ps (oA P t A ps)=true->nT E E0 (DQ P t A ps) j->PB nr bs t ps=true->∀ q∈ZC j JF ps (oA P t A ps),q.1 < N/\VC P E0 ρ q.2 (a.tmps.getD q.1 undef)
 | [],_,_,_,_,q,hq=>by simp [ZC] at hq
 | p::ps,j,hg,hf,hr,q,hq=>by
  simp only [PB,au] at hr;simp only [oA,gm,au] at hg;simp only [oA,ZC,dv] at hq;rcases hq with rfl | hq
  ·refine ⟨?_,?_⟩
   ·obtain ⟨v,hv⟩:=VK.XM hg.1 hr.1
    by_cases hN:N<=p.1
    ·rw [ht.none _ hN] at hv; simp at hv
    ·exact Nat.lt_of_not_le hN
   ·obtain ⟨u,h1,h2⟩:=ht.val p.1
    exact ⟨u,h1.arI hz hk hg.1 hf.left hr.1,h2⟩
  ·have h2:=hf.right
   rw [jQ (Il hg.1)] at h2;exact aik hz hk ht hg.2 h2 hr.2 q hq
theorem Sp {bs:List Nat} : ∀ {ps:List (Tmp×Nat×Nat)} {q:Nat×KV},q∈yh bs ps->∃ p∈ps,q=(p.1,.ptr (bs.getD p.2.1 0) p.2.2)
 | [],_,h=>by simp [yh] at h
 | p::ps,q,h=>by
  simp only [yh,dv] at h;rcases h with rfl | h
  ·exact ⟨p,by simp,rfl⟩
  ·obtain ⟨p',h1,h2⟩:=Sp h
   exact ⟨p',uF _ h1,h2⟩
theorem PF {t:bq} {bs:List Nat} : ∀ {ps:List (Tmp×Nat×Nat)},Ri t bs ps=true->∀ q∈ps,∃ b,t.get q.1=some (.ptr b q.2.2)/\bs[q.2.1]? = some b
 | [],_,q,hq=>by simp at hq
 | p::ps,h,q,hq=>by
  simp only [Ri,au] at h;rcases dv.1 hq with rfl | hq
  ·have h1:=h.1
   unfold aoc at h1;split at h1
   ·rename_i b o b' e1 e2
    simp only [au] at h1;have:=aW h1.1;have:=aW h1.2
    subst_vars
    exact ⟨_,e1,e2⟩
   ·simp at h1
  ·exact PF h.2 q hq
theorem dj.rk {S:aB} {t:bq} {A:ao} {g:GR} (h:dj P S t A g):Rk E (E.sub A g.bs g.fs S.nr) S.rows.length g.bs S.ids:=fun j x hj e=>by
 have bh:j < g.bs.length:=by rw [h.bs,CB]; exact hj
 rw [eX,cM bh] at e;rw [eX,KX S j hj];simp only [Env.sub,db,cM bh,dz];exact e
theorem dj.tkr {S:aB} {t:bq} {A:ao} {g:GR} {ρ:Ren} {N:Nat} {a:Act} (h:dj P S t A g) (ht:jf P E ρ t N a):jf P (E.sub A g.bs g.fs S.nr) ρ (S.tm S.nr S.ids g.vs) N a:=by
 refine jf.ki ht.size fun q hq=>?_;have hh:nT E (E.sub A g.bs g.fs S.nr) (S.RD P t A) S.nr:=h.hyp;rcases iW.1 hq with hq | hq
 ·rw [h.vs] at hq
  exact aik (E:=E) (E0:=E.sub A g.bs g.fs S.nr) (A:=A) rfl h.rk ht (h.vs ▸ h.eh) hh.left h.ap7 q hq
 ·obtain ⟨p,hp,rfl⟩:=Sp hq
  obtain ⟨b,h1,h2⟩:=PF h.ZA p hp;refine ⟨?_,?_⟩
  ·by_cases hN:N<=p.1
   ·rw [ht.none _ hN] at h1; simp at h1
   ·exact Nat.lt_of_not_le hN
  ·have hk:p.2.1 < S.rows.length:=by
    have:=(cP.1 h2).1;rw [h.bs,CB] at this; exact this
   have hv:=ht.val p.1;rw [h1] at hv;obtain ⟨u,h3,h4⟩:=hv;refine ⟨u,?_,h4⟩;obtain ⟨x,h5,rfl⟩:=(show VK P E (.ptr b p.2.2) u from h3).gG;have:S.ids.getD p.2.1 0=p.2.1:=by rw [eX,KX S _ hk]; rfl
   rw [this];exact .xa (by simp [Env.sub,h2,h5])
theorem dj.row {S:aB} {t:bq} {A:ao} {g:GR} (h:dj P S t A g) {k:Nat} {p:Tmp×List CD×Nat} (hp:S.rows[k]? = some p):∃ b cs,g.bs[k]? = some b/\A.get b=some (.row cs p.2.2)/\cs.length=p.2.1.length/\GJ t A p=cs/\g.rs[k]? = some (ef P A p.2.1 cs)/\di p.2.1 (ef P A p.2.1 cs)=true:=by
 obtain ⟨h1,h2⟩:=ZE h.rows hp;obtain ⟨b,cs,h4,h5,h6,h7⟩:=Ip h1;refine ⟨b,cs,by rw [h.bs,acy hp,h6],h4,h5,h7,?_,by rw [<- h7]; exact h2⟩;have:∀ {ps:List (Tmp×List CD×Nat)} {k:Nat},ps[k]? = some p->(JD P t A ps)[k]? = some (ef P A p.2.1 (GJ t A p)):=by
  intro ps
  induction ps with
  | nil=>intro k h; simp at h
  | cons q ps ih=>
   intro k h;cases k with
   | zero=>simp at h; subst h; rfl
   | succ k=>simp at h; simpa [JD] using ih h
 rw [h.rs,this hp,h7]
theorem dj.qG {S:aB} {t:bq} {A:ao} {g:GR} (h:dj P S t A g):g.rs.length=S.rows.length:=by rw [h.rs,Sm]
theorem dj.acB {S:aB} {t:bq} {A:ao} {g:GR} (h:dj P S t A g):g.bs.length=S.rows.length:=by rw [h.bs,CB]
theorem dj.vx {S:aB} {t:bq} {A:ao} {g:GR} (h:dj P S t A g):∀ (k:Nat) p r,S.rows[k]? = some p->g.rs[k]? = some r->di p.2.1 r=true:=fun k p r hp hr=>by
 obtain ⟨b,cs,_,_,_,_,h1,h2⟩:=h.row hp;rw [hr] at h1; simp at h1; subst h1; exact h2
theorem dj.lens {S:aB} {t:bq} {A:ao} {g:GR} (h:dj P S t A g):(S.lens P g.vs g.rs).length=(S.RD P t A).length:=by
 simp only [aB.lens,aB.RD,kF];rw [CE h.eh,JG h.qG h.vx rfl,Sn h.rows,CC (h.vs ▸ h.eh)]
theorem dj.fact {S:aB} {t:bq} {A:ao} {g:GR} (h:dj P S t A g) {i:Nat} {q:ik} (hq:(S.lens P g.vs g.rs)[i]? = some q):∃ fi,(S.RD P t A)[i]? = some fi/\g.fs[i]? = some fi.f/\KZ P A fi q:=by
 have bh:i < (S.RD P t A).length:=by rw [<- h.lens]; exact (cP.1 hq).1
 have hfi:=cM bh;have cQ:=TM h.tg _ (L6 bh);refine ⟨_,hfi,by rw [h.fs]; exact M0 hfi,?_⟩;have hv:(DQ P t A S.eh).length=mm S.eh:=CC (h.vs ▸ h.eh);have hlv:(vC P S.eh g.vs).length=mm S.eh:=CE h.eh;simp only [aB.lens] at hq;have ail:=hfi;simp only [aB.RD] at ail;by_cases hi:i < mm S.eh
 ·rw [oM (by omega)] at hq ail
  obtain ⟨p,h1,h2⟩:=ZG (h.vs ▸ h.eh) ail cQ;rw [h.vs,h1] at hq;simp at hq; subst hq; exact h2
 ·rw [qd (by omega)] at hq ail
  obtain ⟨p,h1,h2⟩:=ZH h.rows ail cQ;rw [h.rs,hlv,<- hv,h1] at hq;simp at hq; subst hq; exact h2
theorem TP {t:bq} {A:ao} {nr:Nat} {bs:List Nat} : ∀ {ps:List (Tmp×List CD×Nat)},X4 nr bs t A ps=true->∀ {k:Nat} {p:Tmp×List CD×Nat},ps[k]? = some p->DR nr bs p.2.1 (GJ t A p)=true
 | [],_,k,p,h=>by simp at h
 | q::ps,h,k,p,hp=>by
  simp only [X4,au] at h;cases k with
  | zero=>simp at hp; subst hp; exact h.1
  | succ k=>simp at hp; exact TP h.2 hp
theorem nv {S:aB} {rs:List (List KV)} (h:rs.length=S.rows.length):(px .empty S.rows (S.GL S.nr S.ids rs)).next=S.nr:=by
 show (px .empty S.rows (ZD (S.nr+mm S.eh) S.ids S.rows rs)).next=S.nr;rw [afe (VO h _ _)];simp [ao.empty,aB.nr]
theorem GP {S:aB} {vs:List KV} {rs:List (List KV)} (h:rs.length=S.rows.length) {b:Nat} {o:ik} (hb:(S.mem P vs rs).get b=some o) :
  (∃ p r,S.rows[b]? = some p/\rs[b]? = some r/\o = .row (oZ (yi (S.nr+mm S.eh) S.rows b) S.ids p.2.1 r) p.2.2)\/∃ i q,b=S.nr+i/\(S.lens P vs rs)[i]? = some q/\o=q:=by
 rcases VN hb with hb | ⟨i,q,h1,h2,h3⟩
 ·rcases aii hb with e | ⟨k,p,r,rfl,h1,h2,h3⟩
  ·simp [ao.empty,ao.get] at e
  ·have hk:(ao.empty.next+k)=k:=by simp [ao.empty]
   rw [hk];have bh:k < rs.length:=by rw [h]; exact (cP.1 h1).1
   have e1:=cM bh;have e2:=Rm (bs:=S.ids) (j:=S.nr+mm S.eh) h1 e1;have h2:(ZD (S.nr+mm S.eh) S.ids S.rows rs)[k]? = some r:=h2;rw [e2] at h2;simp at h2;exact .inl ⟨p,_,h1,e1,by rw [h3,<- h2]⟩
 ·rw [nv h] at h1
  exact .inr ⟨i,q,h1,h2,h3⟩
theorem PH {t:TypeId} {n:Nat} {es:List KV} {acc:Nat->KV} {bo:List Value} (ht:gL P t n es acc) (h:ba P E es bo):∃ mV iC,K.bI P dx (.ts t .any n es acc) = .ts t .any n mV iC/\gL P t n mV iC/\ba P E mV bo:=by
 refine ⟨(List.range n).map fun i=>eE P (K.bI P 5) t (acc i),fun i=>eE P (K.bI P 5) t (acc i),rfl,?_⟩;have y8:∀ i,i < n->∃ e e',es[i]? = some e/\bo[i]? = some e'/\acc i=e/\cl (aX P t) e=true/\VK P E e e':=by
  intro i hi;have hl:i < es.length:=by rw [<- ht.len]; exact hi
  have e1:=cM hl;obtain ⟨e',e2,e3⟩:=h.get e1;exact ⟨_,e',e1,e2,by rw [ht.acc i hi,eX,e1]; rfl,gM ht.typed e1,e3⟩
 have hlen:bo.length=n:=by rw [h.length,ht.len]
 refine ⟨⟨by simp,fun i hi=>?_,?_⟩,?_⟩
 ·rw [eX,uG,List.getElem?_range hi]; rfl
 ·refine oe fun i e he=>?_
  rw [uG] at he;by_cases hi:i < n
  ·rw [List.getElem?_range hi] at he
   simp only [Option.map_some,cJ] at he;obtain ⟨x,x',_,_,q3,q4,_⟩:=y8 i hi;rw [<- he,q3,eE];obtain ⟨r1,r2,_⟩:=MD q4;rw [r1];exact ab6 q4 (Gz 5 r2) (by simp)
  ·rw [List.getElem?_eq_none (by simp; omega)] at he; simp at he
 ·refine ba.UZ (by simp [hlen]) fun i e e' he Js=>?_
  rw [uG] at he;by_cases hi:i < n
  ·rw [List.getElem?_range hi] at he
   simp only [Option.map_some,cJ] at he;obtain ⟨x,x',_,q2,q3,q4,q5⟩:=y8 i hi;rw [Js] at q2;simp only [cJ] at q2;subst q2;rw [<- he,q3];exact VK.eE 5 q4 q5
  ·rw [List.getElem?_eq_none (by simp; omega)] at he; simp at he
theorem dj.al3 {S:aB} {t:bq} {A:ao} {g:GR} (h:dj P S t A g) {b:Nat} {v:KV} (hb:(S.mem P g.vs g.rs).get b=some (.arr v)) :
  ∃ i T,b=S.nr+i/\((g.fs[i]? = some none/\1<=bf P T/\v=K.bI P dx (.ts T .any 0 [] l7))\/∃ f m N es acc,g.fs[i]? = some (some f)/\A.get f=some (.arr (.ts T m N es acc))/\v=K.bI P dx (.ts T .any N es acc)):=by
 rcases GP h.qG hb with ⟨p,r,_,_,h3⟩ | ⟨i,q,rfl,h2,h3⟩
 ·simp at h3
 ·subst h3
  obtain ⟨fi,h4,h5,h6⟩:=h.fact h2;rcases h6 with ⟨_,_,e,_⟩ | ⟨T,v',e,h6⟩
  ·simp at e
  ·simp only [ik.arr.injEq] at e
   subst e;rcases h6 with ⟨h6,h7⟩ | ⟨f,m,N,es,acc,h6,h7⟩
   ·exact ⟨i,T,rfl,.inl ⟨by rw [h5,h6],h7⟩⟩
   ·exact ⟨i,T,rfl,.inr ⟨f,m,N,es,acc,by rw [h5,h6],h7⟩⟩
theorem dj.GQ {S:aB} {t:bq} {A:ao} {g:GR} (h:dj P S t A g) {b:Nat} {v:KV} (hb:(S.mem P g.vs g.rs).get b=some (.arr v)) {p:Nat×Nat×Nat} (hp:(E.sub A g.bs g.fs S.nr).α b=some p) :
  ∃ i f u,b=S.nr+i/\g.fs[i]? = some (some f)/\A.get f=some (.arr u)/\E.α f=some p:=by
 obtain ⟨i,T,rfl,h1⟩:=h.al3 hb;rw [Env.GN] at hp;rcases h1 with ⟨h1,_⟩ | ⟨f,m,N,es,acc,h1,h2,_⟩
 ·rw [h1] at hp; simp at hp
 ·rw [h1] at hp; exact ⟨i,f,_,rfl,h1,h2,hp⟩
theorem dj.AR {S:aB} {t:bq} {A:ao} {g:GR} (h:dj P S t A g) {x:Nat} (q:K.AR (S.mem P g.vs g.rs) (E.sub A g.bs g.fs S.nr) x):∃ f u L N,f∈iU g.fs/\A.get f=some (.arr u)/\E.α f=some (x,L,N):=by
 obtain ⟨b,v,L,N,h1,h2⟩:=q;obtain ⟨i,f,u,_,h3,h4,h5⟩:=h.GQ h1 h2;exact ⟨f,u,L,N,uc.2 (fR h3),h4,h5⟩
theorem dj.ar {S:aB} {t:bq} {A:ao} {g:GR} (h:dj P S t A g) {x:Nat} (q:K.AR (S.mem P g.vs g.rs) (E.sub A g.bs g.fs S.nr) x):K.AR A E x:=by
 obtain ⟨f,u,L,N,_,h2,h3⟩:=h.AR q;exact ⟨f,u,L,N,h2,h3⟩
theorem dj.AF {S:aB} {t:bq} {A:ao} {B:St} {g:GR} (h:dj P S t A g) {q:Nat} (k:K.AF (S.mem P g.vs g.rs) (E.sub A g.bs g.fs S.nr) B q):∃ f u x L N cs e own m,f∈iU g.fs/\A.get f=some (.arr u)/\E.α f=some (x,L,N)/\B.get x=some (.row cs e own (some (q,m))):=by
 obtain ⟨b,v,x,L,N,cs,e,own,m,h1,h2,h3⟩:=k;obtain ⟨i,f,u,_,h4,h5,h6⟩:=h.GQ h1 h2;exact ⟨f,u,x,L,N,cs,e,own,m,uc.2 (fR h4),h5,h6,h3⟩
theorem dj.af {S:aB} {t:bq} {A:ao} {B:St} {g:GR} (h:dj P S t A g) {q:Nat} (k:K.AF (S.mem P g.vs g.rs) (E.sub A g.bs g.fs S.nr) B q):K.AF A E B q:=by
 obtain ⟨f,u,x,L,N,cs,e,own,m,_,h1,h2,h3⟩:=h.AF k;exact ⟨f,u,x,L,N,cs,e,own,m,h1,h2,h3⟩
theorem dj.at {S:aB} {t:bq} {A:ao} {B:St} {g:GR} (h:dj P S t A g) {y:Nat} (k:K.AT (S.mem P g.vs g.rs) (E.sub A g.bs g.fs S.nr) B y):K.AT A E B y:=k.imp h.ar fun ⟨q,h1,h2⟩=>⟨q,h.af h1,h2⟩
theorem dj.gX {S:aB} {t:bq} {A:ao} {B:St} {g:GR} (h:dj P S t A g) (hk:dU P E A B):dU P (E.sub A g.bs g.fs S.nr) (S.mem P g.vs g.rs) B where
 row b cs bH hb:=by
  rcases GP h.qG hb with ⟨p,r,h1,h2,h3⟩ | ⟨i,q,_,h2,h3⟩
  ·simp only [ik.row.injEq] at h3
   obtain ⟨rfl,rfl⟩:=h3;obtain ⟨b',cs,h4,h5,h6,h7,h8,h9⟩:=h.row h1;rw [h2] at h8; simp at h8; subst h8;obtain ⟨x,bV,rK,HU,h12⟩:=hk.row _ _ _ h5;refine ⟨x,bV,by simp [Env.sub,h4,rK],HU,?_⟩;have hh:nT E (E.sub A g.bs g.fs S.nr) (S.RD P t A) S.nr:=h.hyp;have hr:=hh.right;rw [CC (h.vs ▸ h.eh)] at hr;have:=acz h.rows hr h1;rw [h7] at this;have hrr:=TP h.ap8 h1;rw [h7] at hrr;exact ba.cellsIn (E:=E) (E0:=E.sub A g.bs g.fs S.nr) rfl h.rk h12 h6 h9 this hrr
  ·subst h3
   obtain ⟨fi,_,_,h6⟩:=h.fact h2;rcases h6 with ⟨_,_,e,_⟩ | ⟨_,_,e,_⟩ <;> simp at e
 aQ b top sz hb:=by
  rcases GP h.qG hb with ⟨p,r,_,_,h3⟩ | ⟨i,q,rfl,h2,h3⟩
  ·simp at h3
  ·subst h3
   obtain ⟨fi,h4,h5,h6⟩:=h.fact h2;rcases h6 with ⟨_,_,e,h6⟩ | ⟨_,_,e,_⟩
   ·simp only [ik.aQ.injEq] at e
    obtain ⟨rfl,rfl⟩:=e;rw [Env.acA,h5,dz];rcases h6 with ⟨h6,h7⟩ | ⟨f,h6,h7⟩
    ·rw [h6]; exact .inl ⟨h7,rfl⟩
    ·rw [h6,dz,show xn (A.get f)=true by rw [h7]; rfl,aj]; exact hk.aQ f _ _ h7
   ·simp at e
 z:=hk.z
 apart b x e:=by
  simp only [Env.sub,cI] at e;obtain ⟨b',_,e⟩:=e;exact hk.apart b' x e
 inj b c x e1 e2:=by
  simp only [Env.sub,cI] at e1 e2;obtain ⟨b',h1,e1⟩:=e1;obtain ⟨c',h2,e2⟩:=e2;have:=hk.inj _ _ _ e1 e2;subst this;exact acx h.nodup _ _ _ h1 h2
 ib b c q tb sb tc sc hb hc e1 e2:=by
  have key:∀ {b t s},(S.mem P g.vs g.rs).get b=some (.aQ t s)->∃ i,b=S.nr+i/\((g.fs[i]? = some none)\/∃ f,g.fs[i]? = some (some f)/\A.get f=some (.aQ t s)):=by
   intro b t s hb;rcases GP h.qG hb with ⟨p,r,_,_,h3⟩ | ⟨i,q1,rfl,h2,h3⟩
   ·simp at h3
   subst h3;obtain ⟨fi,h4,h5,h6⟩:=h.fact h2;rcases h6 with ⟨_,_,e,h6⟩ | ⟨_,_,e,_⟩
   ·simp only [ik.aQ.injEq] at e
    obtain ⟨rfl,rfl⟩:=e;rcases h6 with ⟨h6,_⟩ | ⟨f,h6,h7⟩
    ·exact ⟨i,rfl,.inl (by rw [h5,h6])⟩
    ·exact ⟨i,rfl,.inr ⟨f,by rw [h5,h6],h7⟩⟩
   ·simp at e
  obtain ⟨i,rfl,h1⟩:=key hb;obtain ⟨j,rfl,h2⟩:=key hc;rw [Env.acA] at e1 e2;rcases h1 with h1 | ⟨f,h1,h3⟩
  ·rw [h1] at e1; simp at e1
  rcases h2 with h2 | ⟨f',h2,h4⟩
  ·rw [h2] at e2; simp at e2
  rw [h1,dz,dz] at e1;rw [h2,dz,dz] at e2;rw [show xn (A.get f)=true by rw [h3]; rfl,aj] at e1;rw [show xn (A.get f')=true by rw [h4]; rfl,aj] at e2;have:=hk.ib f f' q _ _ _ _ h3 h4 e1 e2;subst this;have:=uU h.aa4 i j f h1 h2;omega
 jx b x e:=by
  simp only [Env.sub,cI] at e;obtain ⟨b',h1,_⟩:=e;have:b < g.bs.length:=(cP.1 h1).1;rw [aB.mem,fp,nv h.qG];rw [h.acB] at this;simp only [aB.nr]; omega
 kQ b q e:=by
  simp only [Env.sub] at e;split at e
  ·rename_i hle
   obtain ⟨f,h1,_⟩:=cI.1 e;have h2:b - S.nr < g.fs.length:=(cP.1 h1).1;rw [h.fs,pV,<- h.lens] at h2;rw [aB.mem,fp,nv h.qG];omega
  ·simp at e
 live b o hb:=by
  rw [aB.mem,fp,nv h.qG];rcases GP h.qG hb with ⟨p,r,h1,_,_⟩ | ⟨i,q,rfl,h2,h3⟩
  ·have:=(cP.1 h1).1
   simp only [aB.nr]; omega
  ·have:=(cP.1 h2).1
   omega
 fk b x e:=by
  simp only [Env.sub,cI] at e;obtain ⟨b',_,e⟩:=e;exact hk.fk b' x e
 kR:=hk.kR
 iR b q e:=by
  simp only [Env.sub] at e;split at e
  ·obtain ⟨f,_,e⟩:=cI.1 e
   obtain ⟨f',_,e⟩:=cI.1 e;exact hk.iR _ _ (Rn e).1
  ·simp at e
 fresh:=hk.fresh
 mem:=hk.mem
 ar:=by
  have agq:∀ b p,(E.sub A g.bs g.fs S.nr).α b=some p->S.nr<=b/\b - S.nr < g.fs.length/\∃ f,E.α f=some p:=by
   intro b p e;simp only [Env.sub] at e;split at e
   ·rename_i hle
    obtain ⟨f,h1,e⟩:=cI.1 e;obtain ⟨f',_,e⟩:=cI.1 e;exact ⟨hle,(cP.1 h1).1,f',e⟩
   ·simp at e
  refine ⟨fun b v hb=>?_,fun b v hb=>?_,fun x q=>?_,fun b c v u x L N L' N' h1 h2 h3 h4=>?_,fun b c v u x y L N L' N' cs e own q k bV e' od k' h1 h2 h3 h4 h5 h6=>?_,fun b x e=>?_,fun b p e=>?_,fun b x L N e=>?_,fun b v x L N cs e own q k h1 h2 h3=>?_,fun b v hb=>?_⟩
  ·obtain ⟨i,T,rfl,h1⟩:=h.al3 hb
   rcases h1 with ⟨h1,h2,h3⟩ | ⟨f,m,N,es,acc,h1,h2,h3⟩
   ·obtain ⟨mV,iC,e1,e2,_⟩:=PH (P:=P) (E:=E) (t:=T) (n:=0) (es:=[]) (acc:=l7) (bo:=[]) ⟨rfl,fun i hi=>by omega,rfl⟩ .nil
    rw [e1] at h3;refine ⟨T,0,mV,iC,h3,e2,h2,.inl ⟨rfl,?_⟩⟩;rw [Env.GN,h1]; rfl
   ·obtain ⟨T2,N2,mV,iC,e,ht,dK,vB⟩:=hk.ar.arr f _ h2
    simp only [KV.ts.injEq] at e;obtain ⟨rfl,rfl,rfl,rfl,rfl⟩:=e;rcases vB with ⟨h4,h5⟩ | ⟨x,cs,bQ,bo,h4,h5,h6,h7⟩
    ·subst h4
     have TC:es = []:=mW.1 ht.len.symm;subst TC;obtain ⟨mV,iC,e1,e2,_⟩:=PH (P:=P) (E:=E) (bo:=[]) ht .nil;rw [e1] at h3;refine ⟨T,0,mV,iC,h3,e2,dK,.inl ⟨rfl,?_⟩⟩;rw [Env.GN,h1]; exact h5
    ·obtain ⟨mV,iC,e1,e2,e3⟩:=PH ht h6
     rw [e1] at h3;refine ⟨T,N,mV,iC,h3,e2,dK,.inr ⟨x,cs,bQ,bo,?_,h5,ba.zEs (E:=E) (E0:=E.sub A g.bs g.fs S.nr) (.of rfl) e3 e2.typed,h7⟩⟩;rw [Env.GN,h1]; exact h4
  ·rcases GP h.qG hb with ⟨p,r,_,_,h3⟩ | ⟨i,q,rfl,h2,h3⟩
   ·simp at h3
   ·subst h3
    obtain ⟨fi,_,_,h6⟩:=h.fact h2;rcases h6 with ⟨_,_,e,_⟩ | ⟨_,_,e,_⟩ <;> simp at e
  ·obtain ⟨h1,h2⟩:=hk.ar.z x (h.ar q)
   refine ⟨h1,fun c e=>?_⟩;simp only [Env.sub,cI] at e;obtain ⟨b',_,e⟩:=e;exact h2 b' e
  ·obtain ⟨i,f,u1,rfl,k1,k2,k3⟩:=h.GQ h1 h3
   obtain ⟨j,f',u2,rfl,k1',k2',k3'⟩:=h.GQ h2 h4;have:=hk.ar.inj f f' u1 u2 x L N L' N' k2 k2' k3 k3';subst this;have:=uU h.aa4 i j f k1 k1';omega
  ·obtain ⟨i,f,u1,rfl,k1,k2,k3⟩:=h.GQ h1 h3
   obtain ⟨j,f',u2,rfl,k1',k2',k3'⟩:=h.GQ h2 h4;have:=hk.ar.tg f f' u1 u2 x y L N L' N' cs e own q k bV e' od k' k2 k2' k3 k3' h5 h6;subst this;have:=uU h.aa4 i j f k1 k1';omega
  ·cases pq:(E.sub A g.bs g.fs S.nr).α b with
   | none=>rfl
   | some p=>
    obtain ⟨h1,_,_⟩:=agq b p pq;simp only [Env.sub,cI] at e;obtain ⟨b',h2,_⟩:=e;have:b < g.bs.length:=(cP.1 h2).1;rw [h.acB] at this;simp only [aB.nr] at h1; omega
  ·obtain ⟨h1,h2,_⟩:=agq b p e
   rw [h.fs,pV,<- h.lens] at h2;rw [aB.mem,fp,nv h.qG];omega
  ·obtain ⟨_,_,f,e⟩:=agq b _ e
   exact hk.ar.fk f x L N e
  ·obtain ⟨i,f,u,rfl,k1,k2,k3⟩:=h.GQ h1 h2
   obtain ⟨h4,h5,h6⟩:=hk.ar.rq f u x L N cs e own q k k2 k3 h3;refine ⟨h4,fun c e=>?_,fun y hy cH=>?_⟩
   ·simp only [Env.sub] at e
    split at e
    ·obtain ⟨f1,_,e⟩:=cI.1 e
     obtain ⟨f',_,e⟩:=cI.1 e;exact h5 f' (Rn e).1
    ·simp at e
   ·obtain ⟨h7,h8,h9⟩:=h6 y hy cH
    refine ⟨h7,fun q=>h8 (h.ar q),fun c e=>?_⟩;simp only [Env.sub,cI] at e;obtain ⟨b',_,e⟩:=e;exact h9 b' e
  ·rcases GP h.qG hb with ⟨p,r,_,_,h3⟩ | ⟨i,q,rfl,h2,_⟩
   ·simp at h3
   ·refine ⟨?_,?_⟩
    ·rw [aB.mem,fp,nv h.qG]
     have:=(cP.1 h2).1;omega
    ·simp only [Env.sub]
     rw [List.getElem?_eq_none (by rw [h.acB]; simp only [aB.nr]; omega)];rfl
structure Co (base:Nat) (E:Env) (A:ao) (B:St) (ρ:Ren) (w:World) (E' : Env) (A' : ao) (B' : St) (aJ:Ren) (w' : World):Prop where
 eF:jG base ρ B w aJ B' w'
 z:∀ b r,E.z b=some r->E'.z b=some r
 eY:∀ x,x < B.next->(∀ b,E.κ b≠some x)->¬ AT A E B x->B'.get x=B.get x
 new:∀ b x,E'.κ b=some x->(∃ c,E.κ c=some x)\/B.next<=x
 sh:∀ b r,E'.z b=some r->E.z b=some r\/AR A E b\/B.next<=b
 si:∀ b g,E'.φ b=some g->(∃ c,E.φ c=some g)\/B.next<=g
 oX:∀ g,g < B.next->(∀ b,E.φ b≠some g)->¬ AF A E B g->B'.members g=B.members g
 lN:∀ x,AR A' E' x->AR A E x\/B.next<=x
 ml:∀ g,AF A' E' B' g->AF A E B g\/B.next<=g
 tU:∀ g y,y∈B'.members g->y∈B.members g\/B.next<=y
 nu:∀ y,AT A' E' B' y->AT A E B y\/B.next<=y
 rows:∀ y,y < B.next->∀ cs e own bQ,B'.get y=some (.row cs e own bQ)->∃ kL,B.get y=some (.row kL e own bQ)/\kL.length=cs.length
theorem Co.trans {base:Nat} {E1 E2 E3:Env} {A1 A2 A3:ao} {B1 B2 B3:St} {lr tV ρ3:Ren} {w1 w2 w3:World} (h:Co base E1 A1 B1 lr w1 E2 A2 B2 tV w2) (k:Co base E2 A2 B2 tV w2 E3 A3 B3 ρ3 w3):Co base E1 A1 B1 lr w1 E3 A3 B3 ρ3 w3 where
 eF:=h.eF.trans k.eF
 z b r e:=k.z b r (h.z b r e)
 eY x hx hn ha:=by
  refine (k.eY x (kJ hx h.eF.next) (fun b e=>?_) fun q=>?_).trans (h.eY x hx hn ha)
  ·rcases h.new b x e with ⟨c,e⟩ | e
   ·exact hn c e
   ·omega
  ·rcases h.nu x q with e | e
   ·exact ha e
   ·omega
 new b x e:=by
  rcases k.new b x e with ⟨c,e⟩ | e
  ·exact h.new c x e
  ·have:=h.eF.next; exact .inr (by omega)
 sh b r e:=by
  rcases k.sh b r e with e | e | e
  ·exact h.sh b r e
  ·exact .inr (h.lN b e)
  ·have:=h.eF.next; exact .inr (.inr (by omega))
 si b g e:=by
  rcases k.si b g e with ⟨c,e⟩ | e
  ·exact h.si c g e
  ·have:=h.eF.next; exact .inr (by omega)
 oX g hg hn ha:=by
  refine (k.oX g (kJ hg h.eF.next) (fun b e=>?_) fun q=>?_).trans (h.oX g hg hn ha)
  ·rcases h.si b g e with ⟨c,e⟩ | e
   ·exact hn c e
   ·omega
  ·rcases h.ml g q with e | e
   ·exact ha e
   ·omega
 lN x e:=by
  rcases k.lN x e with e | e
  ·exact h.lN x e
  ·have:=h.eF.next; exact .inr (by omega)
 ml g e:=by
  rcases k.ml g e with e | e
  ·exact h.ml g e
  ·have:=h.eF.next; exact .inr (by omega)
 tU g y e:=by
  rcases k.tU g y e with e | e
  ·exact h.tU g y e
  ·have:=h.eF.next; exact .inr (by omega)
 nu y e:=by
  rcases k.nu y e with e | e
  ·exact h.nu y e
  ·have:=h.eF.next; exact .inr (by omega)
 rows y hy cs e own bQ q:=by
  obtain ⟨c1,h1,h2⟩:=k.rows y (kJ hy h.eF.next) cs e own bQ q;obtain ⟨c0,h3,h4⟩:=h.rows y hy c1 e own bQ h1;exact ⟨c0,h3,h4.trans h2⟩
theorem Ev.co {base:Nat} {A A1:ao} {B B1:St} {ρ lr:Ren} {w w1:World} {E1:Env} {S:aB} {t:bq} {g:GR} (h:Ev P base E A B ρ w E1 A1 B1 lr w1) (hG:dj P S t A1 g):Co base E A B ρ w (E1.sub A1 g.bs g.fs S.nr) (S.mem P g.vs g.rs) B1 lr w1 where
 eF:=h.eF
 z:=h.le.z
 eY:=h.eY
 new b x e:=by
  simp only [Env.sub,cI] at e;obtain ⟨b',_,e⟩:=e;exact (h.new b' x e).imp (fun e=>⟨_,e⟩) id
 sh:=h.sh
 si b g e:=by
  simp only [Env.sub] at e;split at e
  ·obtain ⟨f,_,e⟩:=cI.1 e
   obtain ⟨f',_,e⟩:=cI.1 e;exact h.si _ _ (Rn e).1
  ·simp at e
 oX:=h.oX
 lN x q:=h.lN x (hG.ar q)
 ml g q:=h.ml g (hG.af q)
 tU:=h.tU
 nu y q:=h.nu y (hG.at q)
 rows:=h.rows
def VP (nr:Nat):List CD->Bool
 | []=>true
 | .ref w::ds=>Zz nr w&&VP nr ds
 | _::ds=>VP nr ds
theorem GS {nr:Nat} {bs:List Nat} : ∀ {ds:List CD} {vs:List KV},DR nr bs ds vs=true->vs.length=ds.length->VP nr ds=true
 | [],_,_,_=>rfl
 | _::_,[],_,e=>by simp at e
 | .k c::ds,v::vs,h,e=>GS (ds:=ds) (vs:=vs) h (by simpa using e)
 | .lit c::ds,v::vs,h,e=>GS (ds:=ds) (vs:=vs) h (by simpa using e)
 | .aQ c::ds,v::vs,h,e=>GS (ds:=ds) (vs:=vs) h (by simpa using e)
 | .arr c::ds,v::vs,h,e=>GS (ds:=ds) (vs:=vs) h (by simpa using e)
 | .ref w::ds,v::vs,h,e=>by
  simp only [DR,au] at h;simp only [VP,au];exact ⟨h.1,GS h.2.2 (by simpa using e)⟩
def TQ (E1 E2:Env) (i j n:Nat):Prop:=∀ m,m < n->(∀ g,E1.φ (i+m)=some g->E2.φ (j+m)=some g)/\∀ p,E1.α (i+m)=some p->E2.α (j+m)=some p
theorem TQ.tail {E1 E2:Env} {i j n:Nat} (h:TQ E1 E2 i j (n+1)):TQ E1 E2 (i+1) (j+1) n:=fun m hm=>by
 have:=h (m+1) (by omega);rw [show i+(m+1)=i+1+m by omega,show j+(m+1)=j+1+m by omega] at this;exact this
theorem TQ.left {E1 E2:Env} {i j n n' : Nat} (h:TQ E1 E2 i j n') (hn:n<=n'):TQ E1 E2 i j n:=fun m hm=>h m (by omega)
theorem TQ.right {E1 E2:Env} {i j n n' : Nat} (h:TQ E1 E2 i j (n+n')):TQ E1 E2 (i+n) (j+n) n':=fun m hm=>by
 have:=h (n+m) (by omega);rw [<- Fo,<- Fo] at this;exact this
theorem ba.yj {E1 E2:Env} (hz:E2.z=E1.z) {nr:Nat} {TR bs2:List Nat} (hk:Rk E1 E2 nr TR bs2):∀ {ds:List CD} {vs:List KV} {us:List Value} {i j:Nat},ba P E1 (oZ i TR ds vs) us->di ds vs=true->VP nr ds=true->TQ E1 E2 i j (pw ds)->ba P E2 (oZ j bs2 ds vs) us
 | [],[],us,_,_,h,_,_,_=>by rw [h.bZ]; exact .nil
 | [],_::_,_,_,_,_,hg,_,_=>by simp [di] at hg
 | _::_,[],_,_,_,_,hg,_,_=>by simp [di] at hg
 | d::ds,v::vs,us,i,j,h,hg,hw,hf=>by
  simp only [di,au] at hg;cases d with
  | k c=>
   obtain ⟨y,ys,rfl,h1,h2⟩:=ba.cons_inv (show ba P E1 (v::oZ i TR ds vs) us from h);exact .cons (h1.gCD (d:=.k c) hz hg.1 (by simp)) (ba.yj hz hk h2 hg.2 hw hf)
  | lit w=>
   obtain ⟨y,ys,rfl,h1,h2⟩:=ba.cons_inv (show ba P E1 (v::oZ i TR ds vs) us from h);exact .cons (h1.gCD (d:=.lit w) hz hg.1 (by simp)) (ba.yj hz hk h2 hg.2 hw hf)
  | ref w=>
   simp only [VP,au] at hw;obtain ⟨y,ys,rfl,h1,h2⟩:=ba.cons_inv (show ba P E1 (inst TR w::oZ i TR ds vs) us from h);exact .cons (VK.inst hk hw.1 h1) (ba.yj hz hk h2 hg.2 hw.2 hf)
  | aQ t=>
   obtain ⟨y,ys,rfl,h1,h2⟩:=ba.cons_inv (show ba P E1 (MZ i v::oZ (i+1) TR ds vs) us from h);refine .cons ?_ (ba.yj (i:=i+1) (j:=j+1) hz hk h2 hg.2 hw (TQ.tail hf));have hv:∃ n es acc,v = .ts t .any n es acc:=by
    have hg1:kindOk (.slice t) v=true:=hg.1;cases v <;> simp [kindOk] at hg1;rename_i t' m n es acc;cases m <;> simp at hg1;subst hg1; exact ⟨_,_,_,rfl⟩
   obtain ⟨n,es,acc,rfl⟩:=hv;exact VK.swap hz (show VK P E1 (.ts t (.aQ i) n es acc) y from h1) fun sz a cap _ hm=>by
    refine ⟨hm.1,hm.2.imp id ?_⟩;rintro ⟨b,r,g,q1,q2,q3,q4,q5⟩;exact ⟨b,r,g,q1,by rw [hz]; exact q2,q3,(hf 0 (by simp [pw])).1 g q4,q5⟩
  | arr t=>
   obtain ⟨y,ys,rfl,h1,h2⟩:=ba.cons_inv (show ba P E1 (Rj i v::oZ (i+1) TR ds vs) us from h);refine .cons ?_ (ba.yj (i:=i+1) (j:=j+1) hz hk h2 hg.2 hw (TQ.tail hf));have hv:∃ n es acc,v = .ts t .any n es acc:=by
    have hg1:kindOk (.slice t) v=true:=hg.1;cases v <;> simp [kindOk] at hg1;rename_i t' m n es acc;cases m <;> simp at hg1;subst hg1; exact ⟨_,_,_,rfl⟩
   obtain ⟨n,es,acc,rfl⟩:=hv;show VK P E2 (.al t j 0 n) y;rcases (show VK P E1 (.al t i 0 n) y from h1).uO with ⟨q1,q2,q3⟩ | ⟨x,L,N,c,q1,q2⟩
   ·exact .R9 (.inl ⟨q1,q2,q3⟩)
   ·exact .R9 (.inr ⟨x,L,N,c,(hf 0 (by simp [pw])).2 _ q1,q2⟩)
theorem amS (j:Nat) (bs:List Nat) (d:VD) (cs:List KV):ZB j bs d (.agg cs) = .agg (oZ j bs d.ks cs):=rfl
theorem afg {j:Nat} {bs:List Nat} {d:VD} {v:KV} (h:∀ cs,v≠.agg cs) {c:CD} (hc:d.ks = [c]) : [ZB j bs d v] = oZ j bs d.ks [v]:=by
 have e:ZB j bs d v=(match d.ks with | [.aQ _]=>MZ j v | [.arr _]=>Rj j v | [.ref w]=>inst bs w | _=>v):=by
  cases v <;> first | rfl | exact absurd rfl (h _)
 rw [e,hc];cases c <;> rfl
theorem VK.aqG {E1 E2:Env} (hz:E2.z=E1.z) {nr:Nat} {TR bs2:List Nat} (hk:Rk E1 E2 nr TR bs2) {d:VD} {v:KV} {u:Value} {i j:Nat} (h:VK P E1 (ZB i TR d v) u) (hg:uR d v=true) (hw:VP nr d.ks=true) (hf:TQ E1 E2 i j (pw d.ks)):VK P E2 (ZB j bs2 d v) u:=by
 rcases wa hg with ⟨cs,rfl,_,h2⟩ | ⟨h0,_,c,h1,h2⟩
 ·rw [amS] at h ⊢
  obtain ⟨l,rfl,k⟩:=h.jP;exact .ow (ba.yj hz hk k h2 hw hf)
 ·have k:ba P E1 (oZ i TR d.ks [v]) [u]:=by rw [<- afg h0 h1]; exact .cons h .nil
  have k2:=ba.yj hz hk k (by rw [h1]; simp [di,h2]) hw hf;rw [<- afg h0 h1] at k2;obtain ⟨y,e,k3⟩:=k2.dH;simp at e; subst e; exact k3
def tr (P:Program) (E1 E2:Env):List (Nat×KV)->List (Nat×KV)->Prop
 | [],[]=>True
 | x::xs,y::ys=>x.1=y.1/\(∀ u,VK P E1 x.2 u->VK P E2 y.2 u)/\tr P E1 E2 xs ys
 | _,_=>False
theorem tr.append {E1 E2:Env} : ∀ {a b c d:List (Nat×KV)},tr P E1 E2 a b->tr P E1 E2 c d->tr P E1 E2 (a++c) (b++d)
 | [],[],_,_,_,h=>h
 | [],_::_,_,_,h,_=>h.elim
 | _::_,[],_,_,h,_=>h.elim
 | _::_,_::_,_,_,h,k=>⟨h.1,h.2.1,tr.append h.2.2 k⟩
theorem tr.get {E1 E2:Env} : ∀ {a b:List (Nat×KV)},tr P E1 E2 a b->∀ i,((ki a).get i=none/\(ki b).get i=none)\/∃ x y,(ki a).get i=some x/\(ki b).get i=some y/\∀ u,VK P E1 x u->VK P E2 y u
 | [],[],_,i=>.inl (by simp [ki])
 | [],_::_,h,_=>h.elim
 | _::_,[],h,_=>h.elim
 | x::a,y::b,h,i=>by
  rw [ki,ki,Trie.nE,Trie.nE];by_cases e:i=x.1
  ·rw [aI e,aI (by rw [e,h.1])]
   exact .inr ⟨_,_,rfl,rfl,h.2.1⟩
  ·rw [ak e,ak (by rw [<- h.1]; exact e)]
   exact tr.get h.2.2 i
theorem jf.aoh {E1 E2:Env} {ρ:Ren} {l m:List (Nat×KV)} {N:Nat} {a:Act} (h:jf P E1 ρ (K.ki l) N a) (hp:tr P E1 E2 l m):jf P E2 ρ (K.ki m) N a:=by
 refine ⟨h.size,fun i=>?_,fun i hi=>?_⟩
 ·rcases hp.get i with ⟨_,h2⟩ | ⟨x,y,h1,h2,h3⟩
  ·rw [h2]; exact .bA
  ·have:=h.val i
   rw [h1] at this;rw [h2];obtain ⟨u,k1,k2⟩:=this;exact ⟨u,h3 u k1,k2⟩
 ·rcases hp.get i with ⟨_,h2⟩ | ⟨x,y,h1,h2,h3⟩
  ·exact h2
  ·have:=h.none i hi
   rw [h1] at this; simp at this
def wsV (nr:Nat):List (Tmp×VD)->Bool
 | []=>true
 | p::ps=>VP nr p.2.ks&&wsV nr ps
theorem al4 {A:ao} {t:bq} {nr:Nat} {bs:List Nat} : ∀ {ps:List (Tmp×VD)},PB nr bs t ps=true->gm ps (oA P t A ps)=true->wsV nr ps=true
 | [],_,_=>rfl
 | p::ps,h,hg=>by
  simp only [PB,au] at h;simp only [oA,gm,au] at hg;simp only [wsV,au];exact ⟨GS h.1 (Il hg.1),al4 h.2 hg.2⟩
theorem afh {E1 E2:Env} (hz:E2.z=E1.z) {nr:Nat} {TR bs2:List Nat} (hk:Rk E1 E2 nr TR bs2):∀ {ps:List (Tmp×VD)} {vs:List KV} {i j:Nat},gm ps vs=true->wsV nr ps=true->TQ E1 E2 i j (mm ps)->tr P E1 E2 (ZC i TR ps vs) (ZC j bs2 ps vs)
 | [],[],_,_,_,_,_=>trivial
 | [],_::_,_,_,hg,_,_=>by simp [gm] at hg
 | _::_,[],_,_,hg,_,_=>by simp [gm] at hg
 | p::ps,v::vs,i,j,hg,hw,hf=>by
  simp only [wsV,au] at hw;simp only [gm,au] at hg;have hf:TQ E1 E2 i j (pw p.2.ks+mm ps):=hf;exact ⟨rfl,fun u h=>h.aqG hz hk hg.1 hw.1 (hf.left (Nat.le_add_right _ _)),afh hz hk hg.2 hw.2 hf.right⟩
theorem aim {E1 E2:Env} {ids bs:List Nat} : ∀ {ps:List (Tmp×Nat×Nat)},(∀ p∈ps,∀ x,E1.κ (ids.getD p.2.1 0)=some x->E2.κ (bs.getD p.2.1 0)=some x)->tr P E1 E2 (yh ids ps) (yh bs ps)
 | [],_=>trivial
 | p::ps,h=>⟨rfl,fun u k=>by
   obtain ⟨x,h1,rfl⟩:=(show VK P E1 (.ptr (ids.getD p.2.1 0) p.2.2) u from k).gG;exact .xa (h p (by simp) x h1),aim fun q hq=>h q (by simp [hq])⟩
end Go.K
end
section
namespace Go.K
open Go Go.aq
variable {P:Program} {E:Env}
theorem Ga:∀ (ps:List (Tmp×List CD×Nat)) (j k:Nat),yi j ps k=j+yi 0 ps k
 | [],j,k=>by simp [yi]
 | _::_,j,0=>by simp [yi]
 | p::ps,j,k+1=>by
  simp only [yi];rw [Ga ps (j+pw p.2.1) k,Ga ps (0+pw p.2.1) k];omega
theorem mem_row {S:aB} {vs:List KV} {rs:List (List KV)} (h:rs.length=S.rows.length) {k:Nat} {p:Tmp×List CD×Nat} {r:List KV} (hp:S.rows[k]? = some p) (hr:rs[k]? = some r):(S.mem P vs rs).get k=some (.row (oZ (yi (S.nr+mm S.eh) S.rows k) S.ids p.2.1 r) p.2.2):=by
 have hk:k < S.nr:=(cP.1 hp).1;rw [aB.mem,FE (by rw [nv h]; exact hk)];have:=al2 (A:=.empty) hp (show (S.GL S.nr S.ids rs)[k]? = some _ from Rm hp hr);simpa [ao.empty] using this
theorem VQ {S:aB} {vs:List KV} {rs:List (List KV)} (h:rs.length=S.rows.length) {i:Nat} {q:ik} (hq:(S.lens P vs rs)[i]? = some q):(S.mem P vs rs).get (S.nr+i)=some q:=by
 have:=PC (A:=px .empty S.rows (S.GL S.nr S.ids rs)) hq;rw [nv h] at this;exact this
def Env.up (E E1:Env) (nr nx:Nat):Env:={ κ:=E.κ,z:=E1.z,φ:=fun b=>if nx<=b then E1.φ (nr+(b - nx)) else E.φ b,α:=fun b=>if nx<=b then E1.α (nr+(b - nx)) else E.α b }
theorem Env.ze {E1:Env} {nr nx j:Nat} : (E.up E1 nr nx).φ (nx+j)=E1.φ (nr+j):=by
 simp only [Env.up];rw [aI (by omega),show nx+j - nx=j by omega]
theorem Env.zf {E1:Env} {nr nx b:Nat} (h:b < nx):(E.up E1 nr nx).φ b=E.φ b:=by
 simp only [Env.up];rw [ak (by omega)]
theorem Env.K0 {E1:Env} {nr nx j:Nat} : (E.up E1 nr nx).α (nx+j)=E1.α (nr+j):=by
 simp only [Env.up];rw [aI (by omega),show nx+j - nx=j by omega]
theorem Env.K3 {E1:Env} {nr nx b:Nat} (h:b < nx):(E.up E1 nr nx).α b=E.α b:=by
 simp only [Env.up];rw [ak (by omega)]
theorem dU.arJ {A:ao} {B:St} (h:dU P E A B) {b x:Nat} (hx:E.κ b=some x) : ¬ AT A E B x:=by
 rintro (q | ⟨g,⟨c,v,y,L,N,cs,e,own,k,h1,h2,h3⟩,hm⟩)
 ·exact (h.ar.z x q).2 b hx
 ·by_cases yS:x=y
  ·subst yS
   exact (h.ar.z x ⟨c,v,L,N,h1,h2⟩).2 b hx
  ·exact ((h.ar.rq c v y L N cs e own g k h1 h2 h3).2.2 x hm yS).2.2 b hx
theorem afi {S:aB} {t:bq} {A:ao} {B B1:St} {g:GR} {ρ lr:Ren} {base N:Nat} {w w1:World} {a1:Act} {vs:List KV} {rs:List (List KV)} {E1:Env} (hG:dj P S t A g) (hk:dU P E A B)
  (ht:jf P E1 lr (S.tm S.nr S.ids vs) N a1) (hs:dU P E1 (S.mem P vs rs) B1) (vD:Co base (E.sub A g.bs g.fs S.nr) (S.mem P g.vs g.rs) B ρ w E1 (S.mem P vs rs) B1 lr w1) (HS:∀ k,k < S.rows.length->E1.κ k=(E.sub A g.bs g.fs S.nr).κ k)
  (hv:gm S.eh vs=true) (Rz:rs.length=S.rows.length) (hrg:∀ (k:Nat) p r,S.rows[k]? = some p->rs[k]? = some r->di p.2.1 r=true) :
  jf P (E.up E1 S.nr A.next) lr (S.tm A.next g.bs vs) N a1/\Ev P base E A B ρ w (E.up E1 S.nr A.next) (S.back P g.bs g.fs vs rs A) B1 lr w1:=by
 have hle:E.le (E.up E1 S.nr A.next):=⟨fun b p e=>by rw [Env.K3 (hk.ar.jx b p e)]; exact e,fun _ _ e=>e,fun b r e=>vD.z b r e,fun b q e=>by rw [Env.zf (hk.kQ b q e)]; exact e⟩
 have aoi:∀ (k b:Nat),g.bs[k]? = some b->E1.κ k=E.κ b:=fun k b hb=>by
  rw [HS k (by rw [<- hG.acB]; exact (cP.1 hb).1)];simp [Env.sub,hb]
 have gE:(xp (na A g.bs S.rows (S.GL A.next g.bs rs)) g.fs).next=A.next:=by rw [Im,TN]
 have MW:∀ x,x < B.next->(∀ (k b:Nat),g.bs[k]? = some b->E.κ b≠some x)->¬ AT (S.mem P g.vs g.rs) (E.sub A g.bs g.fs S.nr) B x->B1.get x=B.get x:=fun x hx cH ha=>vD.eY x hx (fun k e=>by
  simp only [Env.sub,cI] at e;obtain ⟨b,h1,e⟩:=e;exact cH k b h1 e) ha
 have hfs:∀ f,f∈iU g.fs->∃ i:Nat,g.fs[i]? = some (some f)/\((∃ n sz,A.get f=some (.aQ n sz))\/∃ v,A.get f=some (.arr v)):=by
  intro f hf;obtain ⟨i,hi⟩:=List.getElem?_of_mem (uc.1 hf);have bh:i < (S.lens P g.vs g.rs).length:=by rw [hG.lens,<- pV,<- hG.fs]; exact (cP.1 hi).1
  obtain ⟨fi,_,h2,h3⟩:=hG.fact (cM bh);rw [hi] at h2; simp at h2;rcases h3 with ⟨n,sz,_,⟨h3,_⟩ | ⟨f',h3,h4⟩⟩ | ⟨T,v,_,⟨h3,_⟩ | ⟨f',m,N,es,acc,h3,h4,_⟩⟩
  ·rw [h3] at h2; simp at h2
  ·rw [h3] at h2; simp at h2; subst h2; exact ⟨i,hi,.inl ⟨_,_,h4⟩⟩
  ·rw [h3] at h2; simp at h2
  ·rw [h3] at h2; simp at h2; subst h2; exact ⟨i,hi,.inr ⟨_,h4⟩⟩
 have arK:∀ f v,f∈iU g.fs->A.get f=some v->(∃ n sz,v = .aQ n sz)\/∃ u,v = .arr u:=by
  intro f v hf hv;obtain ⟨_,_,⟨n,sz,h1⟩ | ⟨u,h1⟩⟩:=hfs f hf
  ·rw [hv] at h1; simp at h1; exact .inl ⟨n,sz,h1⟩
  ·rw [hv] at h1; simp at h1; exact .inr ⟨u,h1⟩
 have hrk:Rk E1 (E.up E1 S.nr A.next) S.rows.length S.ids g.bs:=fun j x hj e=>by
  have bh:j < g.bs.length:=by rw [hG.acB]; exact hj
  rw [eX,KX S j hj,db] at e;rw [eX,cM bh,db];show E.κ _=some x;rw [<- aoi j _ (cM bh)]; exact e
 have XB:∀ (k b:Nat),g.bs[k]? = some b->∃ (p:Tmp×List CD×Nat) (r:List KV) (x:Nat) (bV:List Value),S.rows[k]? = some p/\rs[k]? = some r/\E.κ b=some x/\B1.get x=some (.row bV p.2.2 true none)/\ba P (E.up E1 S.nr A.next) (oZ (yi (A.next+mm S.eh) S.rows k) g.bs p.2.1 r) bV/\
   (xp (na A g.bs S.rows (S.GL A.next g.bs rs)) g.fs).get b=some (.row (oZ (yi (A.next+mm S.eh) S.rows k) g.bs p.2.1 r) p.2.2)/\b ∉ iU g.fs:=by
  intro k b hb;have bh:k < S.rows.length:=by rw [<- hG.acB]; exact (cP.1 hb).1
  have hp:=cM bh;have hr:=cM (show k < rs.length by rw [Rz]; exact bh);obtain ⟨b',cs,q1,q2,_⟩:=hG.row hp;rw [hb] at q1; simp at q1; subst q1;obtain ⟨x,bV,h1,h2,h3⟩:=hs.row k _ _ (mem_row Rz hp hr);have hnf:b ∉ iU g.fs:=fun hf=>by
   rcases arK b _ hf q2 with ⟨_,_,e⟩ | ⟨_,e⟩ <;> simp at e
  refine ⟨_,_,x,bV,hp,hr,by rw [<- aoi k b hb]; exact h1,h2,?_,?_,hnf⟩
  ·have hws:VP S.rows.length S.rows[k].2.1=true:=by
    obtain ⟨_,kL,_,_,OU,hc0,_,_⟩:=hG.row hp;have:=TP hG.ap8 hp;rw [hc0] at this;exact GS this OU
   refine ba.yj (E1:=E1) (E2:=E.up E1 S.nr A.next) rfl hrk h3 (hrg _ _ _ hp hr) hws fun m _=>⟨fun q e=>?_,fun q e=>?_⟩
   ·rw [Ga,show A.next+mm S.eh+yi 0 S.rows k+m=A.next+(mm S.eh+yi 0 S.rows k+m) by omega,Env.ze]
    rw [Ga,show S.nr+mm S.eh+yi 0 S.rows k+m=S.nr+(mm S.eh+yi 0 S.rows k+m) by omega] at e;exact e
   ·rw [Ga,show A.next+mm S.eh+yi 0 S.rows k+m=A.next+(mm S.eh+yi 0 S.rows k+m) by omega,Env.K0]
    rw [Ga,show S.nr+mm S.eh+yi 0 S.rows k+m=S.nr+(mm S.eh+yi 0 S.rows k+m) by omega] at e;exact e
  ·rw [GM,ak hnf]
   exact aif hG.nodup hb hp (show (S.GL A.next g.bs rs)[k]? = some _ from Rm hp hr)
 have lZ:∀ b,b∈g.bs->∃ k:Nat,g.bs[k]? = some b:=fun b hb=>List.getElem?_of_mem hb;have Ro:∀ c q,(E.sub A g.bs g.fs S.nr).φ c=some q->∃ f n sz,f∈iU g.fs/\E.φ f=some q/\A.get f=some (.aQ n sz):=by
  intro c q e;simp only [Env.sub] at e;split at e
  ·obtain ⟨f,h1,e⟩:=cI.1 e
   obtain ⟨f',h2,e⟩:=cI.1 e;subst h2;obtain ⟨e1,e2⟩:=Rn e;obtain ⟨n,sz,e3⟩:=aij e2;exact ⟨f',n,sz,uc.2 (fR h1),e1,e3⟩
  ·simp at e
 have hinv:∀ b o,(S.back P g.bs g.fs vs rs A).get b=some o->(b∈g.bs/\∃ cs e,o = .row cs e/\(xp (na A g.bs S.rows (S.GL A.next g.bs rs)) g.fs).get b=some (.row cs e))\/(b ∉ g.bs/\b ∉ iU g.fs/\A.get b=some o)\/(b∈iU g.fs/\o = .dead)\/∃ i q,b=A.next+i/\(S.lens P vs rs)[i]? = some q/\o=q:=by
  intro b o hb;rcases VN hb with hb | ⟨i,q,h1,h2,h3⟩
  ·by_cases hbs:b∈g.bs
   ·obtain ⟨k,tJ⟩:=lZ b hbs
    obtain ⟨p,r,x,bV,h1,h2,h3,h4,h5,h6,h7⟩:=XB k b tJ;rw [h6] at hb; simp at hb;exact .inl ⟨hbs,_,_,hb.symm,h6⟩
   ·rw [GM] at hb
    split at hb
    ·rename_i hf; simp at hb; exact .inr (.inr (.inl ⟨hf,hb.symm⟩))
    ·rename_i hf
     rw [PD hbs] at hb;exact .inr (.inl ⟨hbs,hf,hb⟩)
  ·rw [gE] at h1
   exact .inr (.inr (.inr ⟨i,q,h1,h2,h3⟩))
 have hnewobj:∀ i q,(S.lens P vs rs)[i]? = some q->(S.mem P vs rs).get (S.nr+i)=some q:=fun i q hq=>VQ Rz hq;have al5:∀ (i:Nat) (q:ik),(S.lens P vs rs)[i]? = some q->(∃ n sz,q=ik.aQ n sz)\/∃ v,q=ik.arr v:=by
  have one:∀ (ds:List CD) (vs:List KV),∀ q∈nS P ds vs,(∃ n sz,q = .aQ n sz)\/∃ v,q = .arr v:=by
   intro ds
   induction ds with
   | nil=>intro vs q hq; simp [nS] at hq
   | cons d ds ih=>
    intro vs q hq;cases vs with
    | nil=>cases d <;> simp [nS] at hq
    | cons v vs=>
     cases d <;> simp only [nS,dv] at hq
     ·exact ih vs q hq
     ·exact ih vs q hq
     ·rcases hq with rfl | hq
      ·exact .inl ⟨_,_,rfl⟩
      ·exact ih vs q hq
     ·rcases hq with rfl | hq
      ·exact .inr ⟨_,rfl⟩
      ·exact ih vs q hq
     ·exact ih vs q hq
  have two:∀ (ps:List (Tmp×VD)) (vs:List KV),∀ q∈vC P ps vs,(∃ n sz,q = .aQ n sz)\/∃ v,q = .arr v:=by
   intro ps
   induction ps with
   | nil=>intro vs q hq; simp [vC] at hq
   | cons p ps ih=>
    intro vs q hq;cases vs with
    | nil=>simp [vC] at hq
    | cons v vs=>
     simp only [vC,iW] at hq;exact hq.elim (one _ _ q) (ih vs q)
  have three:∀ (ps:List (Tmp×List CD×Nat)) (rs:List (List KV)),∀ q∈xo P ps rs,(∃ n sz,q = .aQ n sz)\/∃ v,q = .arr v:=by
   intro ps
   induction ps with
   | nil=>intro vs q hq; simp [xo] at hq
   | cons p ps ih=>
    intro vs q hq;cases vs with
    | nil=>simp [xo] at hq
    | cons v vs=>
     simp only [xo,iW] at hq;exact hq.elim (one _ _ q) (ih vs q)
  intro i q hq;have:=fR hq;simp only [aB.lens,iW] at this;exact this.elim (two _ _ q) (three _ _ q)
 have tX:∀ b v,(S.back P g.bs g.fs vs rs A).get b=some (.arr v)->(b < A.next/\b ∉ iU g.fs/\A.get b=some (.arr v)/\(E.up E1 S.nr A.next).α b=E.α b)\/∃ i,b=A.next+i/\(S.mem P vs rs).get (S.nr+i)=some (.arr v)/\(E.up E1 S.nr A.next).α b=E1.α (S.nr+i):=by
  intro b v hb;rcases hinv b _ hb with ⟨_,_,_,e,_⟩ | ⟨_,OB,h1⟩ | ⟨_,e⟩ | ⟨i,q,rfl,h2,e⟩
  ·simp at e
  ·exact .inl ⟨hk.live b _ h1,OB,h1,Env.K3 (hk.live b _ h1)⟩
  ·simp at e
  ·subst e; exact .inr ⟨i,rfl,VQ Rz h2,Env.K0⟩
 have ap9:∀ {b v x L N},b ∉ iU g.fs->A.get b=some (.arr v)->E.α b=some (x,L,N)->¬ AR (S.mem P g.vs g.rs) (E.sub A g.bs g.fs S.nr) x:=by
  intro b v x L N OB hb hx q;obtain ⟨f,u,L',N',h1,h2,h3⟩:=hG.AR q;have:=hk.ar.inj b f v u x L N L' N' hb h2 hx h3;subst this;exact OB h1
 have arL:∀ {b v x L N},b ∉ iU g.fs->A.get b=some (.arr v)->E.α b=some (x,L,N)->¬ AT (S.mem P g.vs g.rs) (E.sub A g.bs g.fs S.nr) B x:=by
  intro b v x L N OB hb hx q;rcases q with q | ⟨aQ,q,hm⟩
  ·exact ap9 OB hb hx q
  ·obtain ⟨f,u,y,L',N',cs,e,own,m,h1,h2,h3,h4⟩:=hG.AF q
   by_cases yS:x=y
   ·subst yS
    have:=hk.ar.inj b f v u x L N L' N' hb h2 hx h3;subst this;exact OB h1
   ·exact ((hk.ar.rq f u y L' N' cs e own aQ m h2 h3 h4).2.2 x hm yS).2.1 ⟨b,v,L,N,hb,hx⟩
 have K5:∀ {b v x L N},b ∉ iU g.fs->A.get b=some (.arr v)->E.α b=some (x,L,N)->B1.get x=B.get x:=by
  intro b v x L N OB hb hx;exact MW x (hk.ar.fk b x L N hx) (fun k c _ e=>(hk.ar.z x ⟨b,v,L,N,hb,hx⟩).2 c e) (arL OB hb hx)
 have aoj:∀ {i v x L N},(S.mem P vs rs).get (S.nr+i)=some (.arr v)->E1.α (S.nr+i)=some (x,L,N)->(∃ f u L' N',f∈iU g.fs/\A.get f=some (.arr u)/\E.α f=some (x,L',N'))\/B.next<=x:=by
  intro i v x L N h1 h2;rcases vD.lN x ⟨_,v,L,N,h1,h2⟩ with q | q
  ·obtain ⟨f,u,L',N',q1,q2,q3⟩:=hG.AR q
   exact .inl ⟨f,u,L',N',q1,q2,q3⟩
  ·exact .inr q
 have aok:∀ x,AR (S.back P g.bs g.fs vs rs A) (E.up E1 S.nr A.next) x->AR A E x\/AR (S.mem P vs rs) E1 x:=by
  rintro x ⟨b,v,L,N,h1,h2⟩;rcases tX b v h1 with ⟨q1,q2,q3,q4⟩ | ⟨i,rfl,q2,q3⟩
  ·rw [q4] at h2; exact .inl ⟨b,v,L,N,q3,h2⟩
  ·rw [q3] at h2; exact .inr ⟨_,v,L,N,q2,h2⟩
 have aol:∀ q,AF (S.back P g.bs g.fs vs rs A) (E.up E1 S.nr A.next) B1 q->AF A E B q\/AF (S.mem P vs rs) E1 B1 q:=by
  rintro q ⟨b,v,x,L,N,cs,e,own,k,h1,h2,h3⟩;rcases tX b v h1 with ⟨q1,q2,q3,q4⟩ | ⟨i,rfl,q2,q3⟩
  ·rw [q4] at h2
   rw [K5 q2 q3 h2] at h3;exact .inl ⟨b,v,x,L,N,cs,e,own,k,q3,h2,h3⟩
  ·rw [q3] at h2; exact .inr ⟨_,v,x,L,N,cs,e,own,k,q2,h2,h3⟩
 have agr:∀ x,AR (S.back P g.bs g.fs vs rs A) (E.up E1 S.nr A.next) x->AR A E x\/B.next<=x:=fun x q=>by
  rcases aok x q with q | q
  ·exact .inl q
  ·exact (vD.lN x q).imp hG.ar id
 have al6:∀ q,AF (S.back P g.bs g.fs vs rs A) (E.up E1 S.nr A.next) B1 q->AF A E B q\/B.next<=q:=fun x q=>by
  rcases aol x q with q | q
  ·exact .inl q
  ·exact (vD.ml x q).imp hG.af id
 have aom:∀ x,x < B.next->E.z x=none->¬ AR (S.mem P g.vs g.rs) (E.sub A g.bs g.fs S.nr) x->E1.z x=none:=fun x hx h1 h2=>by
  cases hz:E1.z x with
  | none=>rfl
  | some r=>
   rcases vD.sh x r hz with e | e | e
   ·have e:E.z x=some r:=e
    rw [h1] at e; simp at e
   ·exact (h2 e).elim
   ·omega
 have aqa:∀ {b v x L N cs e own q k},b ∉ iU g.fs->A.get b=some (.arr v)->E.α b=some (x,L,N)->B.get x=some (.row cs e own (some (q,k)))->¬ AF (S.mem P g.vs g.rs) (E.sub A g.bs g.fs S.nr) B q:=by
  intro b v x L N cs e own q k OB hb hx eS r;obtain ⟨f,u,y,L',N',bV,e',od,m,h1,h2,h3,h4⟩:=hG.AF r;have:=hk.ar.tg b f v u x y L N L' N' cs e own q k bV e' od m hb h2 hx h3 eS h4;subst this;exact OB h1
 have pU:MA P (E.up E1 S.nr A.next) (S.back P g.bs g.fs vs rs A) B1:=by
  refine ⟨?_,?_,?_,?_,?_,?_,?_,?_,?_,?_⟩
  ·intro b v hb
   rcases tX b v hb with ⟨q1,q2,q3,q4⟩ | ⟨i,rfl,q2,q3⟩
   ·obtain ⟨T,N,es,acc,h1,h2,h3,h4⟩:=hk.ar.arr b v q3
    refine ⟨T,N,es,acc,h1,h2,h3,?_⟩;rcases h4 with ⟨h4,h5⟩ | ⟨x,cs,bQ,bo,h4,h5,h6,h7⟩
    ·exact .inl ⟨h4,by rw [q4]; exact h5⟩
    ·exact .inr ⟨x,cs,bQ,bo,by rw [q4]; exact h4,by rw [K5 q2 q3 h4]; exact h5,h6.mono hle,h7⟩
   ·obtain ⟨T,N,es,acc,h1,h2,h3,h4⟩:=hs.ar.arr _ v q2
    refine ⟨T,N,es,acc,h1,h2,h3,?_⟩;rcases h4 with ⟨h4,h5⟩ | ⟨x,cs,bQ,bo,h4,h5,h6,h7⟩
    ·exact .inl ⟨h4,by rw [q3]; exact h5⟩
    ·exact .inr ⟨x,cs,bQ,bo,by rw [q3]; exact h4,h5,ba.zEs (E:=E1) (E0:=E.up E1 S.nr A.next) (.of rfl) h6 h2.typed,h7⟩
  ·intro b v hb
   rcases hinv b _ hb with ⟨_,_,_,e,_⟩ | ⟨_,_,h1⟩ | ⟨_,e⟩ | ⟨i,q,_,h2,e⟩
   ·simp at e
   ·obtain ⟨T,N,es,acc,h2,h3,h4,h5⟩:=hk.ar.il b v h1
    have pq:(E.up E1 S.nr A.next).α b=E.α b:=Env.K3 (hk.live b _ h1);refine ⟨T,N,es,acc,h2,h3,h4,?_⟩;rcases h5 with ⟨h5,h6⟩ | ⟨x,r,bo,h5,h6,h7,h8,h9⟩
    ·exact .inl ⟨h5,by rw [pq]; exact h6⟩
    ·exact .inr ⟨x,r,bo,by rw [pq]; exact h5,vD.z x r h6,h7,h8.mono hle,h9⟩
   ·simp at e
   ·rcases al5 i q h2 with ⟨_,_,e2⟩ | ⟨_,e2⟩ <;> rw [<- e] at e2 <;> simp at e2
  ·rintro x ⟨b,v,L,N,h1,h2⟩
   rcases tX b v h1 with ⟨q1,q2,q3,q4⟩ | ⟨i,rfl,q2,q3⟩
   ·rw [q4] at h2
    obtain ⟨h3,h4⟩:=hk.ar.z x ⟨b,v,L,N,q3,h2⟩;exact ⟨aom x (hk.ar.fk b x L N h2) h3 (ap9 q2 q3 h2),h4⟩
   ·rw [q3] at h2
    refine ⟨(hs.ar.z x ⟨_,v,L,N,q2,h2⟩).1,fun c e=>?_⟩;rcases vD.lN x ⟨_,v,L,N,q2,h2⟩ with q | q
    ·exact (hk.ar.z x (hG.ar q)).2 c e
    ·have:=hk.fk c x e; omega
  ·intro b c v u x L N L' N' hb hc e1 e2
   have GA:∀ {b v c u L N L' N'},b ∉ iU g.fs->A.get b=some (.arr v)->E.α b=some (x,L,N)->(S.mem P vs rs).get (S.nr+c)=some (.arr u)->E1.α (S.nr+c)=some (x,L',N')->False:=by
    intro b v c u L N L' N' h1 h2 h3 h4 h5;rcases aoj h4 h5 with ⟨f,u',L2,N2,k1,k2,k3⟩ | k
    ·have:=hk.ar.inj b f v u' x L N L2 N2 h2 k2 h3 k3
     subst this;exact h1 k1
    ·have:=hk.ar.fk b x L N h3; omega
   rcases tX b v hb with ⟨q1,q2,q3,q4⟩ | ⟨i,rfl,q2,q3⟩ <;> rcases tX c u hc with ⟨r1,r2,r3,r4⟩ | ⟨j,rfl,r2,r3⟩
   ·rw [q4] at e1; rw [r4] at e2
    exact hk.ar.inj b c v u x L N L' N' q3 r3 e1 e2
   ·rw [q4] at e1; rw [r3] at e2
    exact (GA q2 q3 e1 r2 e2).elim
   ·rw [q3] at e1; rw [r4] at e2
    exact (GA r2 r3 e2 q2 e1).elim
   ·rw [q3] at e1; rw [r3] at e2
    have:=hs.ar.inj _ _ v u x L N L' N' q2 r2 e1 e2;omega
  ·intro b c v u x y L N L' N' cs e own q k bV e' od k' hb hc e1 e2 w1 w2
   have GA:∀ {b v c u x y L N L' N' cs e own k bV e' od k'},b ∉ iU g.fs->A.get b=some (.arr v)->E.α b=some (x,L,N)->(S.mem P vs rs).get (S.nr+c)=some (.arr u)->E1.α (S.nr+c)=some (y,L',N')->B1.get x=some (.row cs e own (some (q,k)))->B1.get y=some (.row bV e' od (some (q,k')))->False:=by
    intro b v c u x y L N L' N' cs e own k bV e' od k' h1 h2 h3 h4 h5 w1 w2;rw [K5 h1 h2 h3] at w1;rcases vD.ml q ⟨_,u,y,L',N',bV,e',od,k',h4,h5,w2⟩ with r | r
    ·exact aqa h1 h2 h3 w1 r
    ·have:=(hk.ar.rq b v x L N cs e own q k h2 h3 w1).1; omega
   rcases tX b v hb with ⟨q1,q2,q3,q4⟩ | ⟨i,rfl,q2,q3⟩ <;> rcases tX c u hc with ⟨r1,r2,r3,r4⟩ | ⟨j,rfl,r2,r3⟩
   ·rw [q4] at e1; rw [r4] at e2
    rw [K5 q2 q3 e1] at w1; rw [K5 r2 r3 e2] at w2;exact hk.ar.tg b c v u x y L N L' N' cs e own q k bV e' od k' q3 r3 e1 e2 w1 w2
   ·rw [q4] at e1; rw [r3] at e2
    exact (GA q2 q3 e1 r2 e2 w1 w2).elim
   ·rw [q3] at e1; rw [r4] at e2
    exact (GA r2 r3 e2 q2 e1 w2 w1).elim
   ·rw [q3] at e1; rw [r3] at e2
    have:=hs.ar.tg _ _ v u x y L N L' N' cs e own q k bV e' od k' q2 r2 e1 e2 w1 w2;omega
  ·intro b x hb
   have hb:E.κ b=some x:=hb;rw [Env.K3 (hk.jx b x hb)];exact hk.ar.dis b x hb
  ·intro b p hb
   rw [aB.back,fp,gE];by_cases h1:b < A.next
   ·omega
   ·obtain ⟨i,rfl⟩:=Nat.exists_eq_add_of_le (Nat.le_of_not_lt h1)
    rw [Env.K0] at hb;have:=hs.ar.jx _ _ hb;rw [aB.mem,fp,nv Rz] at this;omega
  ·intro b x L N hb
   by_cases h1:b < A.next
   ·rw [Env.K3 h1] at hb
    have:=hk.ar.fk b x L N hb; have:=vD.eF.next; omega
   ·obtain ⟨i,rfl⟩:=Nat.exists_eq_add_of_le (Nat.le_of_not_lt h1)
    rw [Env.K0] at hb;exact hs.ar.fk _ _ _ _ hb
  ·intro b v x L N cs e own q k hb hx eS
   rcases tX b v hb with ⟨q1,q2,q3,q4⟩ | ⟨i,rfl,q2,q3⟩
   ·rw [q4] at hx
    have akm:=eS;rw [K5 q2 q3 hx] at akm;obtain ⟨h1,h2,h3⟩:=hk.ar.rq b v x L N cs e own q k q3 hx akm;have hm:B1.members q=B.members q:=vD.oX q h1 (fun c e=>by
     obtain ⟨f',_,_,_,k2,_⟩:=Ro c q e;exact h2 f' k2) (aqa q2 q3 hx akm)
    refine ⟨by have:=vD.eF.next; omega,fun f e=>?_,fun y hy cH=>?_⟩
    ·by_cases hf:f < A.next
     ·rw [Env.zf hf] at e; exact h2 f e
     ·obtain ⟨j,rfl⟩:=Nat.exists_eq_add_of_le (Nat.le_of_not_lt hf)
      rw [Env.ze] at e;rcases vD.si _ _ e with ⟨c,e⟩ | e
      ·obtain ⟨f',_,_,_,k2,_⟩:=Ro c q e
       exact h2 f' k2
      ·omega
    ·rw [hm] at hy
     obtain ⟨h4,h5,h6⟩:=h3 y hy cH;have bh:=hk.mem q y hy;refine ⟨aom y bh h4 fun r=>h5 (hG.ar r),fun r=>?_,h6⟩;rcases agr y r with r | r
     ·exact h5 r
     ·omega
   ·rw [q3] at hx
    obtain ⟨h1,h2,h3⟩:=hs.ar.rq _ v x L N cs e own q k q2 hx eS;have yV:=vD.ml q ⟨_,v,x,L,N,cs,e,own,k,q2,hx,eS⟩;refine ⟨h1,fun f e=>?_,fun y hy cH=>?_⟩
    ·by_cases hf:f < A.next
     ·rw [Env.zf hf] at e
      rcases yV with r | r
      ·obtain ⟨f0,u,x0,L0,N0,kL,e0,aon,m,k1,k2,k3,k4⟩:=hG.AF r
       exact (hk.ar.rq f0 u x0 L0 N0 kL e0 aon q m k2 k3 k4).2.1 f e
      ·have:=hk.iR f q e; omega
     ·obtain ⟨j,rfl⟩:=Nat.exists_eq_add_of_le (Nat.le_of_not_lt hf)
      rw [Env.ze] at e;exact h2 _ e
    ·obtain ⟨h4,h5,h6⟩:=h3 y hy cH
     have y8:y∈B.members q->(∀ c,c ∉ iU g.fs->∀ v' L' N',A.get c=some (.arr v')->E.α c≠some (y,L',N'))/\∀ c,E.κ c≠some y:=by
      intro hm;rcases yV with r | r
      ·obtain ⟨f0,u,x0,L0,N0,kL,e0,aon,m,k1,k2,k3,k4⟩:=hG.AF r
       by_cases hy0:y=x0
       ·subst hy0
        refine ⟨fun c hc v' L' N' p1 p2=>?_,(hk.ar.z y ⟨f0,u,L0,N0,k2,k3⟩).2⟩;have:=hk.ar.inj c f0 v' u y L' N' L0 N0 p1 k2 p2 k3;subst this;exact hc k1
       ·obtain ⟨_,p5,p6⟩:=(hk.ar.rq f0 u x0 L0 N0 kL e0 aon q m k2 k3 k4).2.2 y hm hy0
        exact ⟨fun c _ v' L' N' p1 p2=>p5 ⟨c,v',L',N',p1,p2⟩,p6⟩
      ·rw [hk.fresh q r] at hm; simp at hm
     refine ⟨h4,?_,fun c e=>?_⟩
     ·rintro ⟨c,v',L',N',r1,r2⟩
      rcases tX c v' r1 with ⟨p1,p2,p3,p4⟩ | ⟨j,rfl,p2,p3⟩
      ·rw [p4] at r2
       rcases vD.tU q y hy with hm | hm
       ·exact (y8 hm).1 c p2 v' L' N' p3 r2
       ·have:=hk.ar.fk c y L' N' r2; omega
      ·rw [p3] at r2
       exact h5 ⟨_,v',L',N',p2,r2⟩
     ·have e:E.κ c=some y:=e
      rcases vD.tU q y hy with hm | hm
      ·exact (y8 hm).2 c e
      ·have:=hk.fk c y e; omega
  ·intro b v hb
   rw [aB.back,fp,gE];rcases tX b v hb with ⟨q1,q2,q3,q4⟩ | ⟨i,rfl,q2,q3⟩
   ·obtain ⟨k1,k2⟩:=hk.ar.nk b v q3
    exact ⟨by omega,k2⟩
   ·refine ⟨?_,?_⟩
    ·have:=hs.live _ _ q2
     rw [aB.mem,fp,nv Rz] at this;omega
    ·show E.κ (A.next+i)=none
     cases hq:E.κ (A.next+i) with
     | none=>rfl
     | some x=>have:=hk.jx _ x hq; omega
 refine ⟨?_,⟨⟨?_,?_,hs.z,?_,hk.inj,?_,?_,?_,?_,?_,hs.kR,?_,hs.fresh,hs.mem,?_⟩,vD.eF,hle,?_,?_,fun _ _ e=>.inl e,?_,?_,?_,?_,?_,vD.tU,?_,vD.rows⟩⟩
 ·refine jf.aoh ht (tr.append (afh (E1:=E1) (E2:=E.up E1 S.nr A.next) rfl hrk hv (al4 hG.ap7 (hG.vs ▸ hG.eh)) fun m _=>⟨fun q e=>by rw [Env.ze]; exact e,fun q e=>by rw [Env.K0]; exact e⟩) (aim fun p hp x e=>?_))
  obtain ⟨b,_,h2⟩:=PF hG.ZA p hp;have bh:p.2.1 < S.rows.length:=by rw [<- hG.acB]; exact (cP.1 h2).1
  rw [eX,KX S _ bh] at e;rw [eX,h2];have e:E1.κ p.2.1=some x:=e;rw [aoi _ _ h2] at e;exact e
 ·intro b cs bH hb
  rcases hinv b _ hb with ⟨hbs,_,_,e,h1⟩ | ⟨hbs,_,h1⟩ | ⟨_,e⟩ | ⟨i,q,_,hq,e⟩
  ·obtain ⟨k,tJ⟩:=lZ b hbs
   obtain ⟨p,r,x,bV,q1,q2,q3,q4,q5,q6,q7⟩:=XB k b tJ;rw [h1] at q6;simp only [ik.row.injEq] at e;obtain ⟨rfl,rfl⟩:=e;simp only [cJ,ik.row.injEq] at q6;obtain ⟨rfl,rfl⟩:=q6;exact ⟨x,bV,q3,q4,q5⟩
  ·obtain ⟨x,c,q1,q2,q3⟩:=hk.row b cs bH h1
   refine ⟨x,c,q1,?_,q3.mono hle⟩;rw [MW x (hk.fk b x q1) (fun k b' hb' e=>?_) fun q=>hk.arJ q1 (hG.at q)]
   ·exact q2
   ·have:=hk.inj _ _ _ q1 e
    subst this;exact hbs (fR hb')
  ·simp at e
  ·rcases al5 i q hq with ⟨_,_,e2⟩ | ⟨_,e2⟩ <;> rw [<- e] at e2 <;> simp at e2
 ·intro b top sz hb
  rcases hinv b _ hb with ⟨_,_,_,e,_⟩ | ⟨hbs,OB,h1⟩ | ⟨_,e⟩ | ⟨i,q,rfl,h2,e⟩
  ·simp at e
  ·rcases hk.aQ b top sz h1 with ⟨h2,h3⟩ | ⟨q,h2,h3,h4⟩
   ·exact .inl ⟨h2,by rw [Env.zf (hk.live b _ h1)]; exact h3⟩
   ·have hq:=hk.iR b q h2
    refine .inr ⟨q,by rw [Env.zf (hk.live b _ h1)]; exact h2,h3,fun x hx cs e own f k eS=>?_⟩;have hmq:B1.members q=B.members q:=vD.oX q hq (fun c e=>by
     obtain ⟨f',_,_,h5,h6,h7⟩:=Ro c q e;have:=hk.ib b f' q _ _ _ _ h1 h7 h2 h6;subst this;exact OB h5) fun k=>by
      obtain ⟨c,v,y,L,N,cs,e,own,m,h5,h6,h7⟩:=hG.af k;exact (hk.ar.rq c v y L N cs e own q m h5 h6 h7).2.1 b h2
    rw [hmq] at hx;obtain ⟨kL,q1,q2⟩:=vD.rows x (hk.mem q x hx) _ _ _ _ eS;obtain ⟨q3,q4⟩:=h4 x hx kL e own f k q1;exact ⟨q3,by rw [<- q2]; exact q4⟩
  ·simp at e
  ·subst e
   have:=hs.aQ _ _ _ (VQ Rz h2);rw [Env.ze];exact this
 ·intro b x hb
  have hx:=hk.fk b x hb;show E1.z x=none;cases hz:E1.z x with
  | none=>rfl
  | some r=>
   rcases vD.sh x r hz with e | e | e
   ·have e:E.z x=some r:=e
    rw [hk.apart b x hb] at e; simp at e
   ·exact absurd hb ((hk.ar.z x (hG.ar e)).2 b)
   ·omega
 ·intro b c q tb sb tc sc hb hc e1 e2
  have key:∀ {b tb sb},(S.back P g.bs g.fs vs rs A).get b=some (.aQ tb sb)->(b < A.next/\b ∉ iU g.fs/\A.get b=some (.aQ tb sb))\/∃ i,b=A.next+i/\(S.mem P vs rs).get (S.nr+i)=some (.aQ tb sb):=by
   intro b tb sb hb;rcases hinv b _ hb with ⟨_,_,_,e,_⟩ | ⟨_,OB,h1⟩ | ⟨_,e⟩ | ⟨i,q,rfl,h2,e⟩
   ·simp at e
   ·exact .inl ⟨hk.live b _ h1,OB,h1⟩
   ·simp at e
   ·subst e
    exact .inr ⟨i,rfl,VQ Rz h2⟩
  have GA:∀ {b c tb sb i},b < A.next->b ∉ iU g.fs->A.get b=some (.aQ tb sb)->c=A.next+i->E.φ b=some q->E1.φ (S.nr+i)=some q->False:=by
   intro b c tb sb i _ h2 h3 _ h5 h6;rcases vD.si _ _ h6 with ⟨c',e⟩ | e
   ·obtain ⟨f',_,_,k1,k2,k3⟩:=Ro c' q e
    have:=hk.ib b f' q _ _ _ _ h3 k3 h5 k2;subst this;exact h2 k1
   ·have:=hk.iR b q h5; omega
  rcases key hb with ⟨h1,h2,h3⟩ | ⟨i,rfl,h2⟩ <;> rcases key hc with ⟨k1,k2,k3⟩ | ⟨j,rfl,k2⟩
  ·rw [Env.zf h1] at e1; rw [Env.zf k1] at e2
   exact hk.ib b c q _ _ _ _ h3 k3 e1 e2
  ·rw [Env.zf h1] at e1; rw [Env.ze] at e2
   exact (GA h1 h2 h3 rfl e1 e2).elim
  ·rw [Env.ze] at e1; rw [Env.zf k1] at e2
   exact (GA k1 k2 k3 rfl e2 e1).elim
  ·rw [Env.ze] at e1 e2
   have:=hs.ib _ _ q _ _ _ _ h2 k2 e1 e2;omega
 ·intro b x hb; have h1:=hk.jx b x hb; rw [aB.back,fp,gE]; omega
 ·intro b q hb
  rw [aB.back,fp,gE];by_cases h1:b < A.next
  ·omega
  ·obtain ⟨i,rfl⟩:=Nat.exists_eq_add_of_le (Nat.le_of_not_lt h1)
   rw [Env.ze] at hb;have:=hs.kQ _ _ hb;rw [aB.mem,fp,nv Rz] at this;omega
 ·intro b o hb
  rw [aB.back,fp,gE];rcases hinv b _ hb with ⟨hbs,_⟩ | ⟨_,_,h1⟩ | ⟨h1,_⟩ | ⟨i,q,rfl,h2,_⟩
  ·obtain ⟨k,tJ⟩:=lZ b hbs
   obtain ⟨p,r,x,bV,_,_,h3,_⟩:=XB k b tJ;have:=hk.jx b x h3; omega
  ·have:=hk.live b _ h1; omega
  ·obtain ⟨_,_,⟨_,_,h3⟩ | ⟨_,h3⟩⟩:=hfs b h1
   ·have:=hk.live b _ h3; omega
   ·have:=hk.live b _ h3; omega
  ·have:=(cP.1 h2).1; omega
 ·intro b x hb; have:=hk.fk b x hb; have:=vD.eF.next; omega
 ·intro b q hb
  by_cases h1:b < A.next
  ·rw [Env.zf h1] at hb
   have:=hk.iR b q hb; have:=vD.eF.next; omega
  ·obtain ⟨i,rfl⟩:=Nat.exists_eq_add_of_le (Nat.le_of_not_lt h1)
   rw [Env.ze] at hb;exact hs.iR _ _ hb
 ·exact pU
 ·rw [aB.back,fp,gE]; omega
 ·intro x hx cH hna
  exact MW x hx (fun k b _ e=>cH b e) fun q=>hna (hG.at q)
 ·intro b r e
  exact (vD.sh b r e).imp id (fun e=>e.imp hG.ar id)
 ·intro b q hb
  by_cases h1:b < A.next
  ·rw [Env.zf h1] at hb; exact .inl ⟨b,hb⟩
  ·obtain ⟨i,rfl⟩:=Nat.exists_eq_add_of_le (Nat.le_of_not_lt h1)
   rw [Env.ze] at hb;rcases vD.si _ _ hb with ⟨c,e⟩ | e
   ·obtain ⟨f',_,_,_,k2,_⟩:=Ro c q e
    exact .inl ⟨f',k2⟩
   ·exact .inr e
 ·intro q hq cH hna
  refine vD.oX q hq (fun c e=>?_) fun k=>hna (hG.af k);obtain ⟨f',_,_,_,k2,_⟩:=Ro c q e;exact cH f' k2
 ·exact agr
 ·exact al6
 ·rintro y (q | ⟨q,h1,h2⟩)
  ·exact (agr y q).imp .inl id
  ·rcases vD.tU q y h2 with h2 | h2
   ·rcases al6 q h1 with h1 | h1
    ·exact .inl (.inr ⟨q,h1,h2⟩)
    ·rw [hk.fresh q h1] at h2; simp at h2
   ·exact .inr h2
theorem restore {S:aB} {t:bq} {A:ao} {B B1:St} {g:GR} {ρ lr:Ren} {base N:Nat} {w w1:World} {a1:Act} {vs:List KV} {rs:List (List KV)} {E1:Env} (hG:dj P S t A g) (hk:dU P E A B)
  (ht:jf P E1 lr (S.tm S.nr S.ids vs) N a1) (hs:dU P E1 (S.mem P vs rs) B1) (vD:Co base (E.sub A g.bs g.fs S.nr) (S.mem P g.vs g.rs) B ρ w E1 (S.mem P vs rs) B1 lr w1) (HS:∀ k,k < S.rows.length->E1.κ k=(E.sub A g.bs g.fs S.nr).κ k)
  (hv:gm S.eh vs=true) (Rz:rs.length=S.rows.length) (hrg:∀ (k:Nat) p r,S.rows[k]? = some p->rs[k]? = some r->di p.2.1 r=true) :
  ∃ E',jf P E' lr (S.tm A.next g.bs vs) N a1/\Ev P base E A B ρ w E' (S.back P g.bs g.fs vs rs A) B1 lr w1:=⟨_,afi hG hk ht hs vD HS hv Rz hrg⟩
end Go.K
end
section
namespace Go.K
open Go Go.aq
variable {P:Program} {E:Env}
structure AO (P:Program) (S:aB) (vs:List KV) (rs:List (List KV)):Prop where
 v:gm S.eh vs=true
 qG:rs.length=S.rows.length
 vx:∀ (k:Nat) p r,S.rows[k]? = some p->rs[k]? = some r->di p.2.1 r=true
 vn:∃ t A,vs=oA P t A S.eh
 rn:∀ (k:Nat) p,S.rows[k]? = some p->∃ A kL,rs[k]? = some (ef P A p.2.1 kL)/\kL.length=p.2.1.length
theorem dj.NJ {S:aB} {t:bq} {A:ao} {g:GR} (h:dj P S t A g):AO P S g.vs g.rs:=
 ⟨h.eh,h.qG,h.vx,⟨t,A,h.vs⟩,fun _ _ hp=>by obtain ⟨_,cs,_,_,h1,_,h2,_⟩:=h.row hp; exact ⟨A,cs,h2,h1⟩⟩
section
variable {cfg:dE} {L n:Nat} {f:FuncId} {S:aB} {root body:Code} {p N:Nat}
theorem akn (hP:P.funcs.toList.all mA=true) (hm:P.follows .mixedOrders=true) (gw:ru P cfg.pc) (kU:xl P cfg) {fn:Func} (hf:P.funcs[f]? = some fn) (hb:fn.body=some root) (hs:Sub root p (.loop body)) (hc:codeOk N body=true)
  {vs cE:List KV} {rs lP:List (List KV)} {e:ae} (hr:py P cfg L n f p body S vs rs=some (e,cE,lP)) {B:St} {ρ:Ren} {base:Nat} {a:Act} {w:World} {Q:Exit->Act->World->Prop} (cQ:AO P S vs rs)
  (ht:jf P E ρ (S.tm S.nr S.ids vs) N a) (hj:KJ P E (S.mem P vs rs) B ρ base w)
  (hq:∀ E' B' aJ a' w',jf P E' aJ (S.tm S.nr S.ids cE) N a'->a'.defers=a.defers->KJ P E' (S.mem P cE lP) B' aJ base w'->Co base E (S.mem P vs rs) B ρ w E' (S.mem P cE lP) B' aJ w'->(∀ k,k < S.rows.length->E'.κ k=E.κ k)->AO P S cE lP->Q e.out a' w'):body.wp P Q a w:=by
 have sX:=sI (R:=ae×List KV×List (List KV)) hP hm gw kU L n;refine jZ gw sX hm (kU.2 f fn root hf hb) body (2 * p) hs.loop hc _ _ _ _ E B ρ base a w Q hr ht hj fun e' t' E1 A1 B1 lr a1 w1 h1 h2 h3 h4=>?_;cases hi:ub (S.eG P t' A1).bs S.ids with
 | false=>
  simp only [hi,aF] at h1;exact absurd h1 (by simp)
 | true=>
  simp only [hi,aj] at h1;cases ho:(S.eG P t' A1).ok with
  | false=>simp only [ho] at h1; exact absurd h1 (by simp)
  | true=>
   simp only [ho,cJ,dJ] at h1;obtain ⟨rfl,rfl,rfl⟩:=h1;have hG:=KY ho;have aoo:=PE hi;refine hq _ B1 lr a1 w1 (hG.tkr h2) h3 ⟨hG.gX h4.gX,h4.eF.gX⟩ (h4.co hG) (fun k hk=>?_) hG.NJ;have hp:=cM hk;have hr':=cM (show k < rs.length by rw [cQ.qG]; exact hk);obtain ⟨x,_,hx,_⟩:=hj.k.row k _ _ (mem_row cQ.qG hp hr');have e1:(E1.sub A1 (S.eG P t' A1).bs (S.eG P t' A1).fs S.nr).κ k=E1.κ k:=by
    simp only [Env.sub];rw [aoo,KX S k hk,dz]
   rw [e1,hx];exact h4.le.κ k x hx
theorem afj (hP:P.funcs.toList.all mA=true) (hm:P.follows .mixedOrders=true) (gw:ru P cfg.pc) (kU:xl P cfg) {fn:Func} (hf:P.funcs[f]? = some fn) (hb:fn.body=some root) (hs:Sub root p (.loop body)) (hc:codeOk N body=true)
  {e:ae} {cE:List KV} {lP:List (List KV)} : ∀ (m:Nat) {vs:List KV} {rs:List (List KV)},xq (py P cfg L n f p body S) m vs rs=some (e,cE,lP)->∀ {E:Env} {B:St} {ρ:Ren} {base:Nat} {a:Act} {w:World} {Q:Exit->Act->World->Prop},AO P S vs rs->
  jf P E ρ (S.tm S.nr S.ids vs) N a->KJ P E (S.mem P vs rs) B ρ base w->
  (∀ E' B' aJ a' w',jf P E' aJ (S.tm S.nr S.ids cE) N a'->a'.defers=a.defers->KJ P E' (S.mem P cE lP) B' aJ base w'->Co base E (S.mem P vs rs) B ρ w E' (S.mem P cE lP) B' aJ w'->(∀ k,k < S.rows.length->E'.κ k=E.κ k)->AO P S cE lP->Q e.out a' w')->Code.rounds P body Q m a w
 | 0,vs,rs,h,E,B,ρ,base,a,w,Q,cQ,ht,hj,hq=>by simp [xq] at h
 | m+1,vs,rs,h,E,B,ρ,base,a,w,Q,cQ,ht,hj,hq=>by
  unfold xq at h;split at h
  ·rename_i e1 vs1 rs1 hr
   rw [rounds_succ];refine akn hP hm gw kU hf hb hs hc hr cQ ht hj fun E' B' aJ a' w' h1 h2 h3 h4 h5 h6=>?_;have fin:ku e1=false->some (e1,vs1,rs1)=some (e,cE,lP)->Q e1.out a' w':=by
    intro _ h;simp only [cJ,dJ] at h;obtain ⟨rfl,rfl,rfl⟩:=h;exact hq E' B' aJ a' w' h1 h2 h3 h4 h5 h6
   cases e1 with
   | normal=>
    have h:xq (py P cfg L n f p body S) m vs1 rs1=some (e,cE,lP):=h;exact afj hP hm gw kU hf hb hs hc m h h6 h1 h3 fun HV JB sf XX HQ q1 q2 q3 q4 q5 q6=>hq HV JB sf XX HQ q1 (q2.trans h2) q3 (h4.trans q4) (fun k hk=>(q5 k hk).trans (h5 k hk)) q6
   | exit id=>exact fin rfl h
   | goto l=>exact fin rfl h
   | ret=>exact fin rfl h
  ·simp at h
theorem X6 {R:Type} {bs:List Nat} {fs:List (Option Nat)} {A:ao} {k:KE R} {r:R} : ∀ (x:rN),(x.tell P S bs fs A).run k=some r->∃ e cE lP,x.ev=some (e,cE,lP)/\k e (S.tm A.next bs cE) (S.back P bs fs cE lP A)=some r
 | .no,h=>absurd h (by simp [rN.tell,y5.run])
 | .out e vs rs,h=>⟨e,vs,rs,rfl,h⟩
 | .br c x y,h=>by
  have h:Bool.rec (motive:=fun _=>Option R) ((y.tell P S bs fs A).run k) ((x.tell P S bs fs A).run k) c=some r:=h;cases c with
  | true=>exact X6 x h
  | false=>exact X6 y h
theorem ako (hP:P.funcs.toList.all mA=true) (hm:P.follows .mixedOrders=true) (gw:ru P cfg.pc) (kU:xl P cfg) {fn:Func} (hf:P.funcs[f]? = some fn) (hb:fn.body=some root) (hs:Sub root p (.loop body)) (hc:codeOk N body=true) {F:LFn}
  (hF:∀ vs rs e cE lP,AO P S vs rs->(F vs rs).ev=some (e,cE,lP)->xq (py P cfg L n f p body S) dZ vs rs=some (e,cE,lP)):Rh P N body (aie P S F):=by
 intro R k r t A E B ρ base a w Q h ht hj hq;cases hpe:S.ap6 t A with
 | true=>
  unfold Tt aie at h;rw [hpe] at h;exact absurd h (by simp [y5.run])
 | false=>
 have h:Tt (aie P S F) k t A=some r:=h;unfold Tt aie at h;rw [hpe,aF] at h;have h:Bool.rec (motive:=fun _=>Option R) none (((F (S.eG P t A).vs (S.eG P t A).rs).tell P S (S.eG P t A).bs (S.eG P t A).fs A).run k) (S.eG P t A).ok=some r:=h;cases ho:(S.eG P t A).ok with
 | false=>rw [ho] at h; exact absurd h (by simp)
 | true=>
  rw [ho] at h;have hG:=KY ho;obtain ⟨e,cE,lP,h9,rK⟩:=X6 _ h;have hm':=hF _ _ e cE lP hG.NJ h9;refine afj hP hm gw kU hf hb hs hc dZ hm' hG.NJ (hG.tkr ht) ⟨hG.gX hj.k,hj.s⟩ fun E' B' aJ a' w' q1 q2 q3 q4 q5 q6=>?_;obtain ⟨E2,r1,r2⟩:=restore hG hj.k q1 q3.k q4 q5 q6.v q6.qG q6.vx;exact hq e _ E2 _ B' aJ a' w' rK r1 q2 r2
end
end Go.K
end
section
namespace Go.K
open Go Go.aq
variable {P:Program} {E:Env}
def Env.re (E:Env) (f n:Nat):Env:={ κ:=E.κ,z:=E.z,φ:=E.φ,α:=fun b=>if b=f then E.α n else E.α b }
theorem Env.aop {f n:Nat} (h:∀ p,E.α f=some p->E.α n=some p):E.le (E.re f n):=⟨fun b p e=>by
 simp only [Env.re];split
 ·rename_i e1; subst e1; exact h p e
 ·exact e,fun _ _ e=>e,fun _ _ e=>e,fun _ _ e=>e⟩
theorem Env.akp {f n:Nat} : (E.re f n).α f=E.α n:=by simp [Env.re]
theorem Env.Bp {f n b:Nat} (h:b≠f):(E.re f n).α b=E.α b:=by simp [Env.re,h]
theorem dU.swap {A:ao} {B:St} {f n:Nat} {v:KV} (h:dU P E A B) (hf:A.get f=some .dead) (hn:A.get n=some (.arr v)) (HS:E.κ f=none) (pq:∀ p,E.α f=some p->E.α n=some p) :
  dU P (E.re f n) ((A.put f (.arr v)).put n .dead) B/\(∀ x,AR ((A.put f (.arr v)).put n .dead) (E.re f n) x->AR A E x)/\∀ g,AF ((A.put f (.arr v)).put n .dead) (E.re f n) B g->AF A E B g:=by
 have cH:f≠n:=fun e=>by rw [e,hn] at hf; simp at hf
 have hle:=Env.aop pq;have iZ:∀ b o,((A.put f (.arr v)).put n .dead).get b=some o->(b=n/\o = .dead)\/(b=f/\o = .arr v)\/(b≠f/\b≠n/\A.get b=some o):=fun b o hb=>by
  rw [ao.b5] at hb;split at hb
  ·rename_i e; simp at hb; exact .inl ⟨e,hb.symm⟩
  ·rename_i e
   rw [ao.b5] at hb;split at hb
   ·rename_i e2; simp at hb; exact .inr (.inl ⟨e2,hb.symm⟩)
   ·rename_i e2; exact .inr (.inr ⟨e2,e,hb⟩)
 have hA:∀ b u,((A.put f (.arr v)).put n .dead).get b=some (.arr u)->∃ c,A.get c=some (.arr u)/\(E.re f n).α b=E.α c/\((b=f/\c=n)\/(b≠f/\b≠n/\c=b)):=fun b u hb=>by
  rcases iZ b _ hb with ⟨_,e⟩ | ⟨e,e2⟩ | ⟨e,e2,e3⟩
  ·simp at e
  ·simp at e2; subst e2 e; exact ⟨n,hn,Env.akp,.inl ⟨rfl,rfl⟩⟩
  ·exact ⟨b,e3,Env.Bp e,.inr ⟨e,e2,rfl⟩⟩
 have acn:∀ {b c d:Nat},((b=f/\d=n)\/(b≠f/\b≠n/\d=b))->((c=f/\d=n)\/(c≠f/\c≠n/\d=c))->b=c:=fun h1 h2=>by
  rcases h1 with ⟨a1,a2⟩ | ⟨a1,a2,a3⟩ <;> rcases h2 with ⟨b1,b2⟩ | ⟨b1,b2,b3⟩ <;> omega
 have pU:∀ x,AR ((A.put f (.arr v)).put n .dead) (E.re f n) x->AR A E x:=fun x ⟨b,u,L,N,h1,h2⟩=>by
  obtain ⟨c,h3,h4,_⟩:=hA b u h1;exact ⟨c,u,L,N,h3,by rw [<- h4]; exact h2⟩
 have JA:∀ g,AF ((A.put f (.arr v)).put n .dead) (E.re f n) B g->AF A E B g:=fun g ⟨b,u,x,L,N,cs,e,own,k,h1,h2,h3⟩=>by
  obtain ⟨c,h4,h5,_⟩:=hA b u h1;exact ⟨c,u,x,L,N,cs,e,own,k,h4,by rw [<- h5]; exact h2,h3⟩
 have hold:∀ b o,((A.put f (.arr v)).put n .dead).get b=some o->b < A.next:=fun b o hb=>by
  rcases iZ b _ hb with ⟨e,_⟩ | ⟨e,_⟩ | ⟨_,_,e⟩
  ·rw [e]; exact h.live n _ hn
  ·rw [e]; exact h.live f _ hf
  ·exact h.live b o e
 refine ⟨⟨fun b cs bH hb=>?_,fun b top sz hb=>?_,h.z,h.apart,h.inj,fun b c g tb sb tc sc hb hc=>?_,h.jx,h.kQ,hold,h.fk,h.kR,h.iR,h.fresh,h.mem,?_⟩,pU,JA⟩
 ·rcases iZ b _ hb with ⟨_,e⟩ | ⟨_,e⟩ | ⟨_,_,e⟩
  ·simp at e
  ·simp at e
  ·obtain ⟨x,bV,h1,h2,h3⟩:=h.row b cs bH e
   exact ⟨x,bV,h1,h2,h3.mono hle⟩
 ·rcases iZ b _ hb with ⟨_,e⟩ | ⟨_,e⟩ | ⟨_,_,e⟩
  ·simp at e
  ·simp at e
  ·exact h.aQ b top sz e
 ·rcases iZ b _ hb with ⟨_,e⟩ | ⟨_,e⟩ | ⟨_,_,hb⟩
  ·simp at e
  ·simp at e
  rcases iZ c _ hc with ⟨_,e⟩ | ⟨_,e⟩ | ⟨_,_,hc⟩
  ·simp at e
  ·simp at e
  exact h.ib b c g tb sb tc sc hb hc
 ·refine ⟨fun b u hb=>?_,fun b u hb=>?_,fun x q=>h.ar.z x (pU x q),fun b c u u' x L N L' N' h1 h2 h3 h4=>?_,fun b c u u' x y L N L' N' cs e own g k bV e' od k' h1 h2 h3 h4 h5 h6=>?_,fun b x e=>?_,fun b p e=>?_,fun b x L N e=>?_,fun b u x L N cs e own g k h1 h2 h3=>?_,fun b u hb=>?_⟩
  ·obtain ⟨c,h1,h2,_⟩:=hA b u hb
   obtain ⟨T,N,es,acc,q1,q2,q3,q4⟩:=h.ar.arr c u h1;refine ⟨T,N,es,acc,q1,q2,q3,?_⟩;rw [h2];exact q4.imp id fun ⟨x,cs,bQ,bo,r1,r2,r3,r4⟩=>⟨x,cs,bQ,bo,r1,r2,r3.mono hle,r4⟩
  ·rcases iZ b _ hb with ⟨_,e⟩ | ⟨_,e⟩ | ⟨e1,_,e⟩
   ·simp at e
   ·simp at e
   ·exact (h.ar.il b u e).mono hle (Env.Bp e1)
  ·obtain ⟨b',k1,k2,k3⟩:=hA b u h1
   obtain ⟨c',l1,l2,l3⟩:=hA c u' h2;rw [k2] at h3; rw [l2] at h4;have:=h.ar.inj b' c' u u' x L N L' N' k1 l1 h3 h4;subst this;exact acn k3 l3
  ·obtain ⟨b',k1,k2,k3⟩:=hA b u h1
   obtain ⟨c',l1,l2,l3⟩:=hA c u' h2;rw [k2] at h3; rw [l2] at h4;have:=h.ar.tg b' c' u u' x y L N L' N' cs e own g k bV e' od k' k1 l1 h3 h4 h5 h6;subst this;exact acn k3 l3
  ·have hb:b≠f:=fun e2=>by rw [e2] at e; rw [show (E.re f n).κ f=E.κ f from rfl,HS] at e; simp at e
   rw [Env.Bp hb];exact h.ar.dis b x e
  ·by_cases hb:b=f
   ·rw [hb]; exact h.live f _ hf
   ·rw [Env.Bp hb] at e; exact h.ar.jx b p e
  ·by_cases hb:b=f
   ·rw [hb,Env.akp] at e; exact h.ar.fk n x L N e
   ·rw [Env.Bp hb] at e; exact h.ar.fk b x L N e
  ·obtain ⟨c,k1,k2,_⟩:=hA b u h1
   rw [k2] at h2;obtain ⟨q1,q2,q3⟩:=h.ar.rq c u x L N cs e own g k k1 h2 h3;exact ⟨q1,q2,fun y hy hy2=>⟨(q3 y hy hy2).1,fun q=>(q3 y hy hy2).2.1 (pU y q),(q3 y hy hy2).2.2⟩⟩
  ·refine ⟨hold b _ hb,?_⟩
   rcases iZ b _ hb with ⟨_,e⟩ | ⟨e,_⟩ | ⟨_,_,e⟩
   ·simp at e
   ·rw [e]; exact HS
   ·exact (h.ar.nk b u e).2
structure Sw (E:Env) (A:ao) (B:St) (E' : Env) (A' : ao):Prop where
 le:E.le E'
 κ:E'.κ=E.κ
 z:E'.z=E.z
 φ:E'.φ=E.φ
 next:A'.next=A.next
 ar:∀ x,AR A' E' x->AR A E x
 af:∀ g,AF A' E' B g->AF A E B g
theorem Sw.refl {A:ao} {B:St} : Sw E A B E A:=⟨Env.le_refl _,rfl,rfl,rfl,rfl,fun _ h=>h,fun _ h=>h⟩
theorem Sw.trans {E1 E2 E3:Env} {A1 A2 A3:ao} {B:St} (h:Sw E1 A1 B E2 A2) (k:Sw E2 A2 B E3 A3):Sw E1 A1 B E3 A3:=
 ⟨Env.le_trans h.le k.le,k.κ.trans h.κ,k.z.trans h.z,k.φ.trans h.φ,k.next.trans h.next,fun x q=>h.ar x (k.ar x q),fun g q=>h.af g (k.af g q)⟩
theorem Ev.sw {base:Nat} {E1 E2 E3:Env} {A1 A2 A3:ao} {B1 B2:St} {lr tV:Ren} {w1 w2:World} (h:Ev P base E1 A1 B1 lr w1 E2 A2 B2 tV w2) (hk:dU P E3 A3 B2) (k:Sw E2 A2 B2 E3 A3):Ev P base E1 A1 B1 lr w1 E3 A3 B2 tV w2 where
 gX:=hk
 eF:=h.eF
 le:=Env.le_trans h.le k.le
 next:=by rw [k.next]; exact h.next
 eY:=h.eY
 new b x e:=h.new b x (by rw [<- k.κ]; exact e)
 sh b r e:=h.sh b r (by rw [<- k.z]; exact e)
 si b g e:=h.si b g (by rw [<- k.φ]; exact e)
 oX:=h.oX
 lN x q:=h.lN x (k.ar x q)
 ml g q:=h.ml g (k.af g q)
 tU:=h.tU
 nu y q:=h.nu y (q.imp (k.ar y) fun ⟨g,q1,q2⟩=>⟨g,k.af g q1,q2⟩)
 rows:=h.rows
noncomputable section
def FG:List (Option Nat)->Nat->Bool
 | [],_=>true
 | some f::fs,j=>Nat.beq f j&&FG fs (Nat.succ j)
 | none::_,_=>false
theorem ZI:∀ {fs:List (Option Nat)} {j i:Nat} {x:Option Nat},FG fs j=true->fs[i]? = some x->x=some (j+i)
 | [],_,_,_,_,e=>by simp at e
 | none::_,_,_,_,h,_=>by simp [FG] at h
 | some f::fs,j,0,x,h,e=>by
  simp only [FG,au] at h;simp at e;rw [<- e,aW h.1];rfl
 | some f::fs,j,i+1,x,h,e=>by
  simp only [FG,au] at h;have:=ZI (i:=i) (x:=x) h.2 (by simpa using e);rw [this];congr 1;omega
def aoq (A:ao) (f j:Nat) (o:ik):ao:=
 match o with
 | .arr v=>(A.put f (.arr v)).put j .dead
 | _=>A
def FH (A:ao):List (Option Nat)->Nat->List ik->ao
 | some f::fs,j,o::os=>FH (aoq A f j o) fs (Nat.succ j) os
 | none::fs,j,_::os=>FH A fs (Nat.succ j) os
 | _,_,_=>A
structure afk (E:Env) (A:ao) (fs:List (Option Nat)) (j:Nat) (os:List ik):Prop where
 one:∀ (i:Nat) f v,fs[i]? = some (some f)->os[i]? = some (.arr v)->A.get f=some .dead/\E.κ f=none/\A.get (j+i)=some (.arr v)/\∀ p,E.α f=some p->E.α (j+i)=some p
 lt:∀ (i f:Nat),fs[i]? = some (some f)->f < j
 nodup:∀ (i k f:Nat),fs[i]? = some (some f)->fs[k]? = some (some f)->i=k
theorem afk.tail {E1:Env} {A A1:ao} {x:Option Nat} {o:ik} {fs:List (Option Nat)} {os:List ik} {j:Nat} (h:afk E A (x::fs) j (o::os)) (pq:∀ b,x≠some b->E1.α b=E.α b) (HS:E1.κ=E.κ) (hg:∀ b,x≠some b->b≠j->A1.get b=A.get b):afk E1 A1 fs (Nat.succ j) os where
 one i f v e1 e2:=by
  obtain ⟨h1,h3,h4,h5⟩:=h.one (i+1) f v (by simpa using e1) (by simpa using e2);have bh:=h.lt (i+1) f (by simpa using e1);rw [show j+(i+1)=Nat.succ j+i by omega] at h4 h5;have hf:x≠some f:=fun e=>by have:=h.nodup (i+1) 0 f (by simpa using e1) (by simp [e]); omega
  have hn:x≠some (Nat.succ j+i):=fun e=>by have:=h.lt 0 (Nat.succ j+i) (by simp [e]); omega
  exact ⟨by rw [hg f hf (by omega)]; exact h1,by rw [HS]; exact h3,by rw [hg _ hn (by omega)]; exact h4,fun p e=>by rw [pq f hf] at e; rw [pq _ hn]; exact h5 p e⟩
 lt i f e:=by have:=h.lt (i+1) f (by simpa using e); omega
 nodup i k f e1 e2:=by have:=h.nodup (i+1) (k+1) f (by simpa using e1) (by simpa using e2); omega
theorem X7 {B:St} : ∀ {fs:List (Option Nat)} {os:List ik} {j:Nat} {E:Env} {A:ao},dU P E A B->afk E A fs j os->∃ E',dU P E' (FH A fs j os) B/\Sw E A B E' (FH A fs j os)/\
  (∀ (i:Nat) f v,fs[i]? = some (some f)->os[i]? = some (.arr v)->E'.α f=E.α (j+i))/\(∀ b,(∀ i:Nat,fs[i]?≠some (some b))->E'.α b=E.α b)
 | [],os,j,E,A,h,_=>⟨E,h,.refl,fun i f v e=>by simp at e,fun _ _=>rfl⟩
 | x::fs,[],j,E,A,h,_=>⟨E,by cases x <;> exact h,by cases x <;> exact .refl,fun i f v _ e=>by simp at e,fun _ _=>rfl⟩
 | none::fs,o::os,j,E,A,h,ho=>by
  obtain ⟨E',h1,h2,h3,h4⟩:=X7 h (ho.tail (fun _ _=>rfl) rfl fun _ _ _=>rfl);refine ⟨E',h1,h2,fun i f v e1 e2=>?_,fun b hb=>h4 b fun i=>by have:=hb (i+1); simpa using this⟩;cases i with
  | zero=>simp at e1
  | succ i=>
   rw [h3 i f v (by simpa using e1) (by simpa using e2)];congr 1;omega
 | some f0::fs,o::os,j,E,A,h,ho=>by
  have arM:∀ i:Nat,fs[i]?≠some (some f0):=fun i e=>by have:=ho.nodup (i+1) 0 f0 (by simpa using e) (by simp); omega
  have step:∀ {E1:Env} {A1:ao},dU P E1 A1 B->Sw E A B E1 A1->aoq A f0 j o=A1->(∀ b,b≠f0->E1.α b=E.α b)->(∀ v,o = .arr v->E1.α f0=E.α j)->afk E1 A1 fs (Nat.succ j) os->
    ∃ E',dU P E' (FH A (some f0::fs) j (o::os)) B/\Sw E A B E' (FH A (some f0::fs) j (o::os))/\(∀ (i:Nat) f v,(some f0::fs)[i]? = some (some f)->(o::os)[i]? = some (.arr v)->E'.α f=E.α (j+i))/\(∀ b,(∀ i:Nat,(some f0::fs)[i]?≠some (some b))->E'.α b=E.α b):=by
   intro E1 A1 k1 k2 k3 k4 k5 k6;obtain ⟨E',h1,h2,h3,h4⟩:=X7 k1 k6;have e0:FH A (some f0::fs) j (o::os)=FH A1 fs (Nat.succ j) os:=by rw [<- k3]; rfl
   rw [e0];refine ⟨E',h1,k2.trans h2,fun i f v e1 e2=>?_,fun b hb=>?_⟩
   ·cases i with
    | zero=>
     simp at e1 e2;subst e1;rw [h4 f0 arM];exact k5 v e2
    | succ i=>
     rw [h3 i f v (by simpa using e1) (by simpa using e2),k4 _ fun e=>by have:=ho.lt 0 f0 (by simp); omega];congr 1;omega
   ·rw [h4 b fun i=>by have:=hb (i+1); simpa using this]
    exact k4 b fun e=>hb 0 (by simp [e])
  cases o with
  | arr v=>
   obtain ⟨h1,h2,h3,h4⟩:=ho.one 0 f0 v (by simp) (by simp);obtain ⟨q1,q2,q3⟩:=h.swap (n:=j) h1 h3 h2 h4;have lY:∀ b,some f0≠some b->b≠j->((A.put f0 (.arr v)).put j .dead).get b=A.get b:=fun b e1 e2=>by
    rw [ao.b5,ak e2,ao.b5,ak fun e=>e1 (by rw [e])]
   exact step q1 ⟨Env.aop h4,rfl,rfl,rfl,by rw [ao.qv,ao.qv],q2,q3⟩ rfl (fun b hb=>Env.Bp hb) (fun _ _=>Env.akp) (ho.tail (fun b hb=>Env.Bp fun e=>hb (by rw [e])) rfl lY)
  | _=>exact step h .refl rfl (fun _ _=>rfl) (fun v e=>by simp at e) (ho.tail (fun _ _=>rfl) rfl fun _ _ _=>rfl)
def rnB (fs:List (Option Nat)) (nx b:Nat):Nat:=cond (Nat.ble nx b) (match aeW (b - nx) fs with
 | some (some f)=>f
 | _=>b) b
def rn1 (fs:List (Option Nat)) (nx:Nat) (v:KV):KV:=
 match v with
 | .al t b o n=>.al t (rnB fs nx b) o n
 | v=>v
def aor (fs:List (Option Nat)) (nx:Nat):List KV->List KV
 | []=>[]
 | v::vs=>rn1 fs nx v::aor fs nx vs
def rnV (fs:List (Option Nat)) (nx:Nat) (v:KV):KV:=
 match v with
 | .agg cs=>.agg (aor fs nx cs)
 | v=>rn1 fs nx v
def aos (fs:List (Option Nat)) (nx:Nat):List (Nat×KV)->List (Nat×KV)
 | []=>[]
 | q::qs=>(q.1,rnV fs nx q.2)::aos fs nx qs
def ain (E1 E2:Env) (fs:List (Option Nat)) (nx:Nat):Prop:=E1.le E2/\∀ (i f:Nat),fs[i]? = some (some f)->∀ p,E1.α (nx+i)=some p->E2.α f=some p
theorem apm {E1 E2:Env} {fs:List (Option Nat)} {nx b:Nat} (h:ain E1 E2 fs nx) {p:Nat×Nat×Nat} (e:E1.α b=some p):E2.α (rnB fs nx b)=some p:=by
 unfold rnB;cases hb:Nat.ble nx b with
 | false=>exact h.1.α b p e
 | true=>
  simp only [aj];have hb:=dI hb;rw [abX];split
  ·rename_i f hf
   exact h.2 _ f hf p (by rw [show nx+(b - nx)=b by omega]; exact e)
  ·exact h.1.α b p e
theorem al7 {E1 E2:Env} {fs:List (Option Nat)} {nx:Nat} (h:ain E1 E2 fs nx) {v:KV} {u:Value} (hv:VK P E1 v u):VK P E2 (rn1 fs nx v) u:=by
 unfold rn1;split
 ·rename_i t b o n
  refine .R9 ?_;rcases hv.uO with q | ⟨x,L,N,c,q1,q2⟩
  ·exact .inl q
  ·exact .inr ⟨x,L,N,c,apm h q1,q2⟩
 ·exact hv.mono h.1
theorem aio {E1 E2:Env} {fs:List (Option Nat)} {nx:Nat} (h:ain E1 E2 fs nx):∀ {vs:List KV} {us:List Value},ba P E1 vs us->ba P E2 (aor fs nx vs) us
 | [],us,hv=>by rw [hv.bZ]; exact .nil
 | v::vs,us,hv=>by
  obtain ⟨u,us',rfl,h1,h2⟩:=hv.cons_inv;exact .cons (al7 h h1) (aio h h2)
theorem apn {E1 E2:Env} {fs:List (Option Nat)} {nx:Nat} (h:ain E1 E2 fs nx) {v:KV} {u:Value} (hv:VK P E1 v u):VK P E2 (rnV fs nx v) u:=by
 unfold rnV;split
 ·obtain ⟨m,rfl,h1⟩:=hv.jP
  exact .ow (aio h h1)
 ·exact al7 h hv
theorem ZJ {E1 E2:Env} {fs:List (Option Nat)} {nx:Nat} (h:ain E1 E2 fs nx):∀ (l:List (Nat×KV)),tr P E1 E2 l (aos fs nx l)
 | []=>trivial
 | _::qs=>⟨rfl,fun _ hv=>apn h hv,ZJ h qs⟩
end
end Go.K
end
section
namespace Go.K
open Go Go.aq
variable {P:Program} {E:Env}
noncomputable section
def VS:List CD->Bool
 | []=>true
 | .aQ _::_=>false
 | _::ds=>VS ds
def aa5:List (Tmp×VD)->Bool
 | []=>true
 | p::ps=>VS p.2.ks&&aa5 ps
def aa6:List (Tmp×List CD×Nat)->Bool
 | []=>true
 | p::ps=>VS p.2.1&&aa6 ps
def aB.stays (S:aB):Bool:=aa5 S.eh&&aa6 S.rows
theorem Bq:∀ {ds:List CD} {vs:List KV},VS ds=true->∀ q∈nS P ds vs,∃ v,q = .arr v
 | [],_,_,q,hq=>by simp [nS] at hq
 | d::ds,[],_,q,hq=>by cases d <;> simp [nS] at hq
 | d::ds,v::vs,h,q,hq=>by
  cases d <;> simp only [VS,nS,dv] at h hq
  ·exact Bq h q hq
  ·exact Bq h q hq
  ·simp at h
  ·rcases hq with rfl | hq
   ·exact ⟨_,rfl⟩
   ·exact Bq h q hq
  ·exact Bq h q hq
theorem acC:∀ {ps:List (Tmp×VD)} {vs:List KV},aa5 ps=true->∀ q∈vC P ps vs,∃ v,q = .arr v
 | [],_,_,q,hq=>by simp [vC] at hq
 | p::ps,[],_,q,hq=>by simp [vC] at hq
 | p::ps,v::vs,h,q,hq=>by
  simp only [aa5,au,vC,iW] at h hq;exact hq.elim (Bq h.1 q) (acC h.2 q)
theorem acD:∀ {ps:List (Tmp×List CD×Nat)} {rs:List (List KV)},aa6 ps=true->∀ q∈xo P ps rs,∃ v,q = .arr v
 | [],_,_,q,hq=>by simp [xo] at hq
 | p::ps,[],_,q,hq=>by simp [xo] at hq
 | p::ps,r::rs,h,q,hq=>by
  simp only [aa6,au,xo,iW] at h hq;exact hq.elim (Bq h.1 q) (acD h.2 q)
theorem afl {S:aB} (h:S.stays=true) {vs:List KV} {rs:List (List KV)} {i:Nat} {q:ik} (hq:(S.lens P vs rs)[i]? = some q):∃ v,q = .arr v:=by
 simp only [aB.stays,au] at h;have:=fR hq;simp only [aB.lens,iW] at this;exact this.elim (acC h.1 q) (acD h.2 q)
theorem Rp {S:aB} {vs:List KV} {rs:List (List KV)} (hv:gm S.eh vs=true) (hl:rs.length=S.rows.length) (hg:∀ (k:Nat) p r,S.rows[k]? = some p->rs[k]? = some r->di p.2.1 r=true):(S.lens P vs rs).length=mm S.eh+(S.rows.map fun p=>pw p.2.1).sum:=by
 rw [aB.lens,kF,CE hv,JG hl hg rfl]
def aB.gH (S:aB) (nx:Nat) (bs:List Nat) (fs:List (Option Nat)) (vs:List KV):bq:=ki (aos fs nx (ZC nx bs S.eh vs++yh bs S.ZA))
def aB.acE (S:aB) (P:Program) (bs:List Nat) (fs:List (Option Nat)) (vs:List KV) (rs:List (List KV)) (A:ao):ao:=FH (S.back P bs fs vs rs A) fs A.next (S.lens P vs rs)
def al8 (S:aB) (E E' : Env):Prop:=∀ (i:Nat) p,E.α (S.nr+i)=some p->E'.α (S.nr+i)=some p
theorem afm {S:aB} {t:bq} {A:ao} {B B1:St} {g:GR} {ρ lr:Ren} {base N:Nat} {w w1:World} {a1:Act} {vs:List KV} {rs:List (List KV)} {E1:Env} (eK:S.stays=true) (hG:dj P S t A g) (hk:dU P E A B)
  (ht:jf P E1 lr (S.tm S.nr S.ids vs) N a1) (hs:dU P E1 (S.mem P vs rs) B1) (vD:Co base (E.sub A g.bs g.fs S.nr) (S.mem P g.vs g.rs) B ρ w E1 (S.mem P vs rs) B1 lr w1) (HS:∀ k,k < S.rows.length->E1.κ k=(E.sub A g.bs g.fs S.nr).κ k)
  (hpl:al8 S (E.sub A g.bs g.fs S.nr) E1)
  (hv:gm S.eh vs=true) (Rz:rs.length=S.rows.length) (hrg:∀ (k:Nat) p r,S.rows[k]? = some p->rs[k]? = some r->di p.2.1 r=true) :
  ∃ E',jf P E' lr (S.gH A.next g.bs g.fs vs) N a1/\Ev P base E A B ρ w E' (S.acE P g.bs g.fs vs rs A) B1 lr w1:=by
 obtain ⟨ht0,tY⟩:=afi hG hk ht hs vD HS hv Rz hrg;have gE:(xp (na A g.bs S.rows (S.GL A.next g.bs rs)) g.fs).next=A.next:=by rw [Im,TN]
 have hlen:(S.lens P vs rs).length=g.fs.length:=by
  rw [Rp hv Rz hrg,hG.fs,pV,<- hG.lens,Rp hG.eh hG.qG hG.vx]
 have hold:∀ (i:Nat) f,g.fs[i]? = some (some f)->∃ u,A.get f=some (.arr u):=by
  intro i f hi;have bh:i < (S.lens P g.vs g.rs).length:=by rw [hG.lens,<- pV,<- hG.fs]; exact (cP.1 hi).1
  obtain ⟨fi,_,h2,h3⟩:=hG.fact (cM bh);rw [hi] at h2; simp at h2;obtain ⟨u0,hu0⟩:=afl eK (cM bh);rcases h3 with ⟨n,sz,e,_⟩ | ⟨T,v,_,⟨h3,_⟩ | ⟨f',m,N,es,acc,h3,h4,_⟩⟩
  ·rw [hu0] at e; simp at e
  ·rw [h3] at h2; simp at h2
  ·rw [h3] at h2; simp at h2; subst h2; exact ⟨_,h4⟩
 have th:∀ (i f:Nat),g.fs[i]? = some (some f)->∀ p,(E.up E1 S.nr A.next).α f=some p->(E.up E1 S.nr A.next).α (A.next+i)=some p:=fun i f hi p e=>by
  obtain ⟨u,hu⟩:=hold i f hi;rw [Env.K3 (hk.live f _ hu)] at e;rw [Env.K0];exact hpl i p (by rw [Env.GN,hi]; exact e)
 have hsw:afk (E.up E1 S.nr A.next) (S.back P g.bs g.fs vs rs A) g.fs A.next (S.lens P vs rs):=by
  refine ⟨fun i f v hi hv=>?_,fun i f hi=>?_,fun i k f h1 h2=>uU hG.aa4 i k f h1 h2⟩
  ·obtain ⟨u,hu⟩:=hold i f hi
   refine ⟨?_,(hk.ar.nk f u hu).2,?_,th i f hi⟩
   ·rw [aB.back,FE (by rw [gE]; exact hk.live f _ hu),GM,aI (uc.2 (fR hi))]
   ·have:=PC (A:=xp (na A g.bs S.rows (S.GL A.next g.bs rs)) g.fs) hv
    rw [gE] at this;exact this
  ·obtain ⟨u,hu⟩:=hold i f hi
   exact hk.live f _ hu
 obtain ⟨E',q1,q2,q3,_⟩:=X7 tY.gX hsw;refine ⟨E',?_,tY.sw q1 q2⟩;refine jf.aoh ht0 (ZJ ⟨q2.le,fun i f hi p e=>?_⟩ _);have bh:i < (S.lens P vs rs).length:=by rw [hlen]; exact (cP.1 hi).1
 obtain ⟨v,Gn⟩:=afl eK (cM bh);rw [q3 i f v hi (by rw [cM bh,Gn])];exact e
def aB.afn (S:aB) (P:Program) (t:bq) (A:ao):Bool:=cond (ub (S.eG P t A).bs S.ids) (cond (FG (S.eG P t A).fs S.nr) (S.eG P t A).ok false) false
theorem aip {S:aB} {t:bq} {A:ao} (h:S.afn P t A=true):ub (S.eG P t A).bs S.ids=true/\FG (S.eG P t A).fs S.nr=true/\(S.eG P t A).ok=true:=by
 unfold aB.afn at h;cases h1:ub (S.eG P t A).bs S.ids with
 | false=>rw [h1] at h; simp at h
 | true=>
  cases h2:FG (S.eG P t A).fs S.nr with
  | false=>rw [h1,h2] at h; simp at h
  | true=>rw [h1,h2] at h; exact ⟨rfl,rfl,h⟩
def VT (P:Program) (cfg:dE) (L n:Nat) (f:FuncId) (p:Nat) (body:Code) (S:aB) (vs:List KV) (rs:List (List KV)):Option (ae×List KV×List (List KV)):=
 oz P cfg (Ic P cfg L n) L f body (2 * p) (fun e t A=>
  Bool.rec (motive:=fun _=>Option (ae×List KV×List (List KV))) none (some (e,(S.eG P t A).vs,(S.eG P t A).rs)) (S.afn P t A)) (S.tm S.nr S.ids vs) (S.mem P vs rs)
theorem aiq {S:aB} {t:bq} {A:ao} {B0:St} {E1:Env} {g:GR} {vs:List KV} {rs:List (List KV)} (hG:dj P S t A g) (hf:FG g.fs S.nr=true) (cQ:AO P S vs rs) (hs:dU P E (S.mem P vs rs) B0) (hle:E.le E1):al8 S E (E1.sub A g.bs g.fs S.nr):=fun i p e=>by
 have hd:=hs.ar.jx _ p e;rw [aB.mem,fp,nv cQ.qG,Rp cQ.v cQ.qG cQ.vx] at hd;have bh:i < g.fs.length:=by
  rw [hG.fs,pV,<- hG.lens,Rp hG.eh hG.qG hG.vx];omega
 have h1:=cM bh;rw [Env.GN,h1,ZI hf h1];exact hle.α _ p e
section
variable {cfg:dE} {L n:Nat} {f:FuncId} {S:aB} {root body:Code} {p N:Nat}
theorem afo {t' : bq} {A1:ao} {B B1:St} {ρ lr:Ren} {base:Nat} {w w1:World} {E1:Env} {vs:List KV} {rs:List (List KV)} (cQ:AO P S vs rs) (hj:KJ P E (S.mem P vs rs) B ρ base w) (h4:Ev P base E (S.mem P vs rs) B ρ w E1 A1 B1 lr w1) (_:dj P S t' A1 (S.eG P t' A1)) (hi:ub (S.eG P t' A1).bs S.ids=true) :
  ∀ k,k < S.rows.length->(E1.sub A1 (S.eG P t' A1).bs (S.eG P t' A1).fs S.nr).κ k=E.κ k:=fun k hk=>by
 have aoo:=PE hi;have hp:=cM hk;have hr':=cM (show k < rs.length by rw [cQ.qG]; exact hk);obtain ⟨x,_,hx,_⟩:=hj.k.row k _ _ (mem_row cQ.qG hp hr');have e1:(E1.sub A1 (S.eG P t' A1).bs (S.eG P t' A1).fs S.nr).κ k=E1.κ k:=by
  simp only [Env.sub];rw [aoo,KX S k hk,dz]
 rw [e1,hx];exact h4.le.κ k x hx
theorem air (hP:P.funcs.toList.all mA=true) (hm:P.follows .mixedOrders=true) (gw:ru P cfg.pc) (kU:xl P cfg) {fn:Func} (hf:P.funcs[f]? = some fn) (hb:fn.body=some root) (hs:Sub root p (.loop body)) (hc:codeOk N body=true)
  {vs cE:List KV} {rs lP:List (List KV)} {e:ae} (hr:VT P cfg L n f p body S vs rs=some (e,cE,lP)) {B:St} {ρ:Ren} {base:Nat} {a:Act} {w:World} {Q:Exit->Act->World->Prop} (cQ:AO P S vs rs)
  (ht:jf P E ρ (S.tm S.nr S.ids vs) N a) (hj:KJ P E (S.mem P vs rs) B ρ base w)
  (hq:∀ E' B' aJ a' w',jf P E' aJ (S.tm S.nr S.ids cE) N a'->a'.defers=a.defers->KJ P E' (S.mem P cE lP) B' aJ base w'->Co base E (S.mem P vs rs) B ρ w E' (S.mem P cE lP) B' aJ w'->(∀ k,k < S.rows.length->E'.κ k=E.κ k)->AO P S cE lP->al8 S E E'->Q e.out a' w'):body.wp P Q a w:=by
 have sX:=sI (R:=ae×List KV×List (List KV)) hP hm gw kU L n;refine jZ gw sX hm (kU.2 f fn root hf hb) body (2 * p) hs.loop hc _ _ _ _ E B ρ base a w Q hr ht hj fun e' t' E1 A1 B1 lr a1 w1 h1 h2 h3 h4=>?_;cases hi:S.afn P t' A1 with
 | false=>simp only [hi] at h1; exact absurd h1 (by simp)
 | true=>
  simp only [hi,cJ,dJ] at h1;obtain ⟨rfl,rfl,rfl⟩:=h1;obtain ⟨i1,i2,i3⟩:=aip hi;have hG:=KY i3;exact hq _ B1 lr a1 w1 (hG.tkr h2) h3 ⟨hG.gX h4.gX,h4.eF.gX⟩ (h4.co hG) (afo cQ hj h4 hG i1) hG.NJ (aiq hG i2 cQ hj.k h4.le)
theorem acF (hP:P.funcs.toList.all mA=true) (hm:P.follows .mixedOrders=true) (gw:ru P cfg.pc) (kU:xl P cfg) {fn:Func} (hf:P.funcs[f]? = some fn) (hb:fn.body=some root) (hs:Sub root p (.loop body)) (hc:codeOk N body=true)
  {e:ae} {cE:List KV} {lP:List (List KV)} : ∀ (m:Nat) {vs:List KV} {rs:List (List KV)},xq (VT P cfg L n f p body S) m vs rs=some (e,cE,lP)->∀ {E:Env} {B:St} {ρ:Ren} {base:Nat} {a:Act} {w:World} {Q:Exit->Act->World->Prop},AO P S vs rs->
  jf P E ρ (S.tm S.nr S.ids vs) N a->KJ P E (S.mem P vs rs) B ρ base w->
  (∀ E' B' aJ a' w',jf P E' aJ (S.tm S.nr S.ids cE) N a'->a'.defers=a.defers->KJ P E' (S.mem P cE lP) B' aJ base w'->Co base E (S.mem P vs rs) B ρ w E' (S.mem P cE lP) B' aJ w'->(∀ k,k < S.rows.length->E'.κ k=E.κ k)->AO P S cE lP->al8 S E E'->Q e.out a' w')->Code.rounds P body Q m a w
 | 0,vs,rs,h,E,B,ρ,base,a,w,Q,cQ,ht,hj,hq=>by simp [xq] at h
 | m+1,vs,rs,h,E,B,ρ,base,a,w,Q,cQ,ht,hj,hq=>by
  unfold xq at h;split at h
  ·rename_i e1 vs1 rs1 hr
   rw [rounds_succ];refine air hP hm gw kU hf hb hs hc hr cQ ht hj fun E' B' aJ a' w' h1 h2 h3 h4 h5 h6 h7=>?_;have fin:ku e1=false->some (e1,vs1,rs1)=some (e,cE,lP)->Q e1.out a' w':=by
    intro _ h;simp only [cJ,dJ] at h;obtain ⟨rfl,rfl,rfl⟩:=h;exact hq E' B' aJ a' w' h1 h2 h3 h4 h5 h6 h7
   cases e1 with
   | normal=>
    have h:xq (VT P cfg L n f p body S) m vs1 rs1=some (e,cE,lP):=h;exact acF hP hm gw kU hf hb hs hc m h h6 h1 h3 fun HV JB sf XX HQ q1 q2 q3 q4 q5 q6 q7=>hq HV JB sf XX HQ q1 (q2.trans h2) q3 (h4.trans q4) (fun k hk=>(q5 k hk).trans (h5 k hk)) q6 fun i p e=>q7 i p (h7 i p e)
   | exit id=>exact fin rfl h
   | goto l=>exact fin rfl h
   | ret=>exact fin rfl h
  ·simp at h
def rN.PI (P:Program) (S:aB) (bs:List Nat) (fs:List (Option Nat)) (A:ao):rN->y5
 | .no=>.no
 | .out e vs rs=>.out e (S.gH A.next bs fs vs) (S.acE P bs fs vs rs A)
 | .br c x y=>.br c (x.PI P S bs fs A) (y.PI P S bs fs A)
def aot (P:Program) (S:aB) (F:LFn):bq->ao->y5:=fun t A=>
 .br (cond S.stays (S.eG P t A).ok false) ((F (S.eG P t A).vs (S.eG P t A).rs).PI P S (S.eG P t A).bs (S.eG P t A).fs A) .no
theorem TS {R:Type} {bs:List Nat} {fs:List (Option Nat)} {A:ao} {k:KE R} {r:R} : ∀ (x:rN),(x.PI P S bs fs A).run k=some r->∃ e cE lP,x.ev=some (e,cE,lP)/\k e (S.gH A.next bs fs cE) (S.acE P bs fs cE lP A)=some r
 | .no,h=>absurd h (by simp [rN.PI,y5.run])
 | .out e vs rs,h=>⟨e,vs,rs,rfl,h⟩
 | .br c x y,h=>by
  have h:Bool.rec (motive:=fun _=>Option R) ((y.PI P S bs fs A).run k) ((x.PI P S bs fs A).run k) c=some r:=h;cases c with
  | true=>exact TS x h
  | false=>exact TS y h
theorem ais (hP:P.funcs.toList.all mA=true) (hm:P.follows .mixedOrders=true) (gw:ru P cfg.pc) (kU:xl P cfg) {fn:Func} (hf:P.funcs[f]? = some fn) (hb:fn.body=some root) (hs:Sub root p (.loop body)) (hc:codeOk N body=true) {F:LFn}
  (hF:∀ vs rs e cE lP,AO P S vs rs->(F vs rs).ev=some (e,cE,lP)->xq (VT P cfg L n f p body S) dZ vs rs=some (e,cE,lP)):Rh P N body (aot P S F):=by
 intro R k r t A E B ρ base a w Q h ht hj hq;have h:Bool.rec (motive:=fun _=>Option R) none (((F (S.eG P t A).vs (S.eG P t A).rs).PI P S (S.eG P t A).bs (S.eG P t A).fs A).run k) (cond S.stays (S.eG P t A).ok false)=some r:=h;cases eK:S.stays with
 | false=>rw [eK] at h; exact absurd h (by simp)
 | true=>
  rw [eK,aj] at h;cases ho:(S.eG P t A).ok with
  | false=>rw [ho] at h; exact absurd h (by simp)
  | true=>
   rw [ho] at h;have hG:=KY ho;obtain ⟨e,cE,lP,h9,rK⟩:=TS _ h;have hm':=hF _ _ e cE lP hG.NJ h9;refine acF hP hm gw kU hf hb hs hc dZ hm' hG.NJ (hG.tkr ht) ⟨hG.gX hj.k,hj.s⟩ fun E' B' aJ a' w' q1 q2 q3 q4 q5 q6 q7=>?_;obtain ⟨E2,r1,r2⟩:=afm eK hG hj.k q1 q3.k q4 q5 q7 q6.v q6.qG q6.vx;exact hq e _ E2 _ B' aJ a' w' rK r1 q2 r2
end
def ags:ae->Bool
 | .normal=>true
 | .ret=>true
 | _=>false
def akq (P:Program) (cfg:dE) (L n:Nat) (g:FuncId) (S:aB) (vs:List KV) (rs:List (List KV)):Option (ae×List KV×List (List KV)):=
 match P.funcs.toList[g]? with
 | some fn=>match fn.body with
  | some c=>cond fn.results.toList.isEmpty (oz P cfg (Ic P cfg L n) L g c 1 (fun e t A=>
    Bool.rec (motive:=fun _=>Option (ae×List KV×List (List KV))) none (some (.ret,(S.eG P t A).vs,(S.eG P t A).rs)) (cond (ags e) (S.afn P t A) false)) (S.tm S.nr S.ids vs) (S.mem P vs rs)) none
  | none=>none
 | none=>none
def rN.PJ (P:Program) (S:aB) (bs:List Nat) (fs:List (Option Nat)) (A:ao):rN->sU
 | .no=>.no
 | .out _ vs rs=>.out (.jV []) (S.acE P bs fs vs rs A)
 | .br c x y=>.br c (x.PJ P S bs fs A) (y.PJ P S bs fs A)
def aqb (P:Program) (S:aB) (F:LFn):List KV->ao->sU:=fun args A=>
 .br (cond S.stays (S.eG P (mM args 0 .leaf) A).ok false) ((F (S.eG P (mM args 0 .leaf) A).vs (S.eG P (mM args 0 .leaf) A).rs).PJ P S (S.eG P (mM args 0 .leaf) A).bs (S.eG P (mM args 0 .leaf) A).fs A) .no
theorem TT {R:Type} {S:aB} {bs:List Nat} {fs:List (Option Nat)} {A:ao} {k:KV->ao->Option R} {r:R} : ∀ (x:rN),sU.run k (x.PJ P S bs fs A)=some r->∃ e cE lP,x.ev=some (e,cE,lP)/\k (.jV []) (S.acE P bs fs cE lP A)=some r
 | .no,h=>absurd h (by simp [rN.PJ,sU.run])
 | .out e vs rs,h=>⟨e,vs,rs,rfl,h⟩
 | .br c x y,h=>by
  have h:Bool.rec (motive:=fun _=>Option R) (sU.run k (y.PJ P S bs fs A)) (sU.run k (x.PJ P S bs fs A)) c=some r:=h;cases c with
  | true=>exact TT x h
  | false=>exact TT y h
theorem amT {ρ:Ren} {args:List KV} {eV:List Value} (hv:qc P E ρ args eV) (m:Nat):jf P E ρ (mM args 0 .leaf) (max m args.length) { tmps:=eV.toArray++Array.replicate (m - eV.toArray.size) undef,defers:=[] }:=by
 obtain ⟨aki,Ry,Te⟩:=hv;have hlen:eV.length=args.length:=by rw [Te.length,Ry.length]
 have dK:(eV.toArray++Array.replicate (m - eV.toArray.size) undef).size=max m args.length:=by
  simp [hlen];omega
 refine ⟨dK,fun i=>?_,fun i hi=>?_⟩
 ·rw [GH]
  simp only [yK,true_and,bp,Nat.sub_zero,Trie.Q1];by_cases hi:i < args.length
  ·rw [aI hi]
   obtain ⟨u,hu⟩:∃ u,args[i]? = some u:=⟨_,cM hi⟩
   obtain ⟨m',h1,h2⟩:=Ry.get hu;obtain ⟨u',h3,h4⟩:=Te.get h1;rw [hu];have:(eV.toArray++Array.replicate (m - eV.toArray.size) undef).getD i undef=u':=by
    rw [fQ,Array.getElem?_append_left (by simpa [hlen] using hi)];simp [h3]
   rw [this];exact ⟨m',h2,h4⟩
  ·rw [ak hi]
   exact VC.bA
 ·rw [GH,ak,Trie.Q1]
  simp only [yK,true_and,bp];have:=Nat.le_max_right m args.length;omega
theorem akr {cfg:dE} {L n:Nat} {g:FuncId} {S:aB} {F:LFn} (hP:P.funcs.toList.all mA=true) (hm:P.follows .mixedOrders=true) (gw:ru P cfg.pc) (kU:xl P cfg) (hy:Nat.blt g yB=true)
  (hF:∀ vs rs e cE lP,AO P S vs rs->(F vs rs).ev=some (e,cE,lP)->akq P cfg L n g S vs rs=some (e,cE,lP)) {R:Type} {args:List KV} {A:ao} {k:KV->ao->Option R} {r:R} (h:sU.run k (aqb P S F args A)=some r):yf P g/\
  ∀ (E:Env) (B:St) (ρ:Ren) (base:Nat) (w:World) (eV:List Value),qc P E ρ args eV->KJ P E A B ρ base w->
   Calls P g eV.toArray w fun e w'=>∃ v v' E' A' B' aJ,e = .returned v'/\VC P E' aJ v v'/\Ev P base E A B ρ w E' A' B' aJ w'/\k v A' = some r:=by
 have h:Bool.rec (motive:=fun _=>Option R) none (sU.run k ((F (S.eG P (mM args 0 .leaf) A).vs (S.eG P (mM args 0 .leaf) A).rs).PJ P S (S.eG P (mM args 0 .leaf) A).bs (S.eG P (mM args 0 .leaf) A).fs A)) (cond S.stays (S.eG P (mM args 0 .leaf) A).ok false)=some r:=h;cases eK:S.stays with
 | false=>rw [eK] at h; exact absurd h (by simp)
 | true=>
 rw [eK,aj] at h;cases ho:(S.eG P (mM args 0 .leaf) A).ok with
 | false=>rw [ho] at h; exact absurd h (by simp)
 | true=>
 rw [ho] at h;have hG:=KY ho;obtain ⟨e0,cE,lP,h9,rK⟩:=TT _ h;have j5:=hF _ _ e0 cE lP hG.NJ h9;unfold akq at j5;split at j5
 ·rename_i fn hf
  split at j5
  ·rename_i c hc
   cases hre:fn.results.toList.isEmpty with
   | false=>rw [hre] at j5; exact absurd j5 (by simp)
   | true=>
   rw [hre,aj] at j5;have hf' : P.funcs[g]? = some fn:=by simpa using hf
   have cQ:=eM.1 hP fn (fR hf);unfold mA at cQ;rw [hc] at cQ;simp only [au,jT] at cQ;refine ⟨⟨hy,fn,hf',by simp [hc],cQ.2⟩,fun E B ρ base w eV hv hj=>?_⟩;refine calls_of_wp hf' hc ?_;have ht:=amT hv fn.ntmps;have ae8:codeOk (max fn.ntmps args.length) c=true:=kN (Nat.le_max_left _ _) c cQ.1;have sX:=sI (R:=ae×List KV×List (List KV)) hP hm gw kU L n;refine jZ (L:=L) (f:=g) (N:=max fn.ntmps args.length) gw sX hm (kU.2 g fn c hf' hc) c 1 .root ae8 _ _ _ _ (E.sub A (S.eG P (mM args 0 .leaf) A).bs (S.eG P (mM args 0 .leaf) A).fs S.nr) B ρ base _ w _ j5 (hG.tkr ht) ⟨hG.gX hj.k,hj.s⟩ fun e t' E1 A1 B1 lr a1 w1 h1 h2 h3 h4=>?_;cases he:ags e with
   | false=>simp only [he,aF] at h1; exact absurd h1 (by simp)
   | true=>
   simp only [he,aj] at h1;cases hi:S.afn P t' A1 with
   | false=>simp only [hi] at h1; exact absurd h1 (by simp)
   | true=>
   simp only [hi,cJ,dJ] at h1;obtain ⟨_,rfl,rfl⟩:=h1;obtain ⟨i1,i2,i3⟩:=aip hi;have hG1:=KY i3;have AK:KJ P (E.sub A (S.eG P (mM args 0 .leaf) A).bs (S.eG P (mM args 0 .leaf) A).fs S.nr) (S.mem P (S.eG P (mM args 0 .leaf) A).vs (S.eG P (mM args 0 .leaf) A).rs) B ρ base w:=⟨hG.gX hj.k,hj.s⟩
   obtain ⟨E2,_,r2⟩:=afm eK hG hj.k (hG1.tkr h2) (hG1.gX h4.gX) (h4.co hG1) (afo hG.NJ AK h4 hG1 i1) (aiq hG1 i2 hG.NJ AK.k h4.le) hG1.NJ.v hG1.NJ.qG hG1.NJ.vx;have OW:fn.results.toList = []:=List.isEmpty_iff.1 hre;have aia:(results fn a1.tmps).run P w1 = .ok (.tuple #[]) w1:=by
    rw [Zf,Sem.run_bind,Array.mapM_eq_mapM_toList,Sem.run_map,OW];rfl
   have acs:bodyPost P fn (fun e w'=>∃ v v' E' A' B' aJ,e = .returned v'/\VC P E' aJ v v'/\Ev P base E A B ρ w E' A' B' aJ w'/\k v A' = some r) .ret a1 w1:=
    ⟨h3,_,aia,_,_,E2,_,B1,lr,rfl,⟨_,.abS .nil,VR.mkTuple .nil⟩,r2,rK⟩
   cases e with
   | normal=>exact acs
   | ret=>exact acs
   | exit id=>simp [ags] at he
   | goto l=>simp [ags] at he
  ·simp at j5
 ·simp at j5
end
end Go.K
end
section
namespace Go.K
open Go Go.aq
variable {P:Program} {E:Env}
def agt:Code->Bool->Option Code
 | .seq a _,false=>some a
 | .seq _ b,true=>some b
 | .cond _ a _,false=>some a
 | .cond _ _ b,true=>some b
 | .block _ a,false=>some a
 | .loop a,false=>some a
 | .scope a,false=>some a
 | _,_=>none
def pz:Nat->Code->Nat->Option Code
 | 0,_,_=>none
 | n+1,root,p=>cond (Nat.ble p 1) (cond (Nat.beq p 1) (some root) none) ((pz n root (p / 2)).bind fun c=>agt c (Nat.beq (p % 2) 1))
theorem VU:∀ {n:Nat} {root c:Code} {p:Nat},pz n root p=some c->pz (n+1) root p=some c
 | 0,_,_,_,h=>by simp [pz] at h
 | n+1,root,c,p,h=>by
  unfold pz at h ⊢;cases hp:Nat.ble p 1 with
  | true=>rw [hp] at h; exact h
  | false=>
   rw [hp] at h;simp only [aF] at h ⊢;obtain ⟨d,h1,h2⟩:=cI.1 h;exact cI.2 ⟨d,VU h1,h2⟩
theorem TU {root c:Code} {p n:Nat} (h:pz n root p=some c):∀ k,pz (n+k) root p=some c
 | 0=>h
 | k+1=>VU (TU h k)
theorem Sub.pos {root c:Code} {p:Nat} (h:Sub root p c):1<=p:=by induction h <;> omega
theorem Sub.at {root c:Code} {p:Nat} (h:Sub root p c):∃ n,pz n root p=some c:=by
 have left:∀ {q n:Nat} {d:Code},1<=q->pz n root q=some d->pz (n+1) root (2 * q)=agt d false:=by
  intro q n d hq hd;unfold pz;have:Nat.ble (2 * q) 1=false:=by
   cases hb:Nat.ble (2 * q) 1 with
   | false=>rfl
   | true=>have:=dI hb; omega
  rw [this,aF,show 2 * q / 2=q by omega,hd,show 2 * q % 2=0 by omega];rfl
 have right:∀ {q n:Nat} {d:Code},1<=q->pz n root q=some d->pz (n+1) root (2 * q+1)=agt d true:=by
  intro q n d hq hd;unfold pz;have:Nat.ble (2 * q+1) 1=false:=by
   cases hb:Nat.ble (2 * q+1) 1 with
   | false=>rfl
   | true=>have:=dI hb; omega
  rw [this,aF,show (2 * q+1) / 2=q by omega,hd,show (2 * q+1) % 2=1 by omega];rfl
 induction h with
 | root=>exact ⟨1,rfl⟩
 | ap2 hs ih=>obtain ⟨n,hn⟩:=ih; exact ⟨n+1,left hs.pos hn⟩
 | ap3 hs ih=>obtain ⟨n,hn⟩:=ih; exact ⟨n+1,right hs.pos hn⟩
 | an7 hs ih=>obtain ⟨n,hn⟩:=ih; exact ⟨n+1,left hs.pos hn⟩
 | an8 hs ih=>obtain ⟨n,hn⟩:=ih; exact ⟨n+1,right hs.pos hn⟩
 | block hs ih=>obtain ⟨n,hn⟩:=ih; exact ⟨n+1,left hs.pos hn⟩
 | loop hs ih=>obtain ⟨n,hn⟩:=ih; exact ⟨n+1,left hs.pos hn⟩
 | scope hs ih=>obtain ⟨n,hn⟩:=ih; exact ⟨n+1,left hs.pos hn⟩
theorem Sub.uniq {root c d:Code} {p n:Nat} (h:Sub root p c) (k:pz n root p=some d):c=d:=by
 obtain ⟨m,hm⟩:=h.at;have h1:=TU hm n;have h2:=TU k m;rw [Nat.add_comm] at h1;rw [h1] at h2;simpa using h2
def qg (P:Program) (f p:Nat):Code:=
 match P.funcs.toList[f]? with
 | some fn=>match fn.body with
  | some c=>match pz 200 c p with
   | some (.loop b)=>b
   | _=>.skip
  | none=>.skip
 | none=>.skip
structure Lp where
 f:Nat
 p:Nat
 S:aB
 F:LFn
 st:Bool
noncomputable def al9 (st:Bool) (P:Program) (cfg:dE) (L n:Nat) (f:FuncId) (p:Nat) (body:Code) (S:aB) (vs:List KV) (rs:List (List KV)):Option (ae×List KV×List (List KV)):=
 cond st (VT P cfg L n f p body S vs rs) (py P cfg L n f p body S vs rs)
noncomputable def acG (P:Program):List Lp->FuncId->Nat->Option (bq->ao->y5)
 | [],_,_=>none
 | l::ls,f,p=>cond (Nat.beq l.f f&&Nat.beq l.p p) (some (cond l.st (aot P l.S l.F) (aie P l.S l.F))) (acG P ls f p)
def Lp.Ok (P:Program) (l:Lp):Prop:=∃ cfg L n,ru P cfg.pc/\xl P cfg/\
 ∀ vs rs e cE lP,AO P l.S vs rs->(l.F vs rs).ev=some (e,cE,lP)->xq (al9 l.st P cfg L n l.f l.p (qg P l.f l.p) l.S) dZ vs rs=some (e,cE,lP)
def Br (P:Program) (f p:Nat):Bool:=
 match P.funcs.toList[f]? with
 | some fn=>match fn.body with
  | some c=>match pz 200 c p with
   | some (.loop _)=>true
   | _=>false
  | none=>false
 | none=>false
theorem ama (hP:P.funcs.toList.all mA=true) (hm:P.follows .mixedOrders=true) {pc:FuncId->Option (List KV->KR KV)} {x:ahu} : ∀ {ls:List Lp},(∀ l∈ls,Lp.Ok P l/\Br P l.f l.p=true)->∀ f fn c,P.funcs[f]? = some fn->fn.body=some c->alX P ⟨pc,acG P ls,x⟩ f c
 | [],_=>fun f fn c hf hb p F body h=>by simp [acG] at h
 | l::ls,hl=>fun f fn c hf hb p F body h hs N hc=>by
  have h:acG P (l::ls) f p=some F:=h;unfold acG at h;cases hk:(Nat.beq l.f f&&Nat.beq l.p p) with
  | false=>
   rw [hk] at h;exact ama hP hm (pc:=pc) (x:=x) (fun l' qb=>hl l' (uF _ qb)) f fn c hf hb p F body h hs N hc
  | true=>
   rw [hk] at h;simp only [aj,cJ] at h;subst h;simp only [au] at hk;have e1:=aW hk.1;have e2:=aW hk.2;obtain ⟨⟨cfg,L,n,gw,kU,hF⟩,hth⟩:=hl l (by simp);rw [e1,e2] at hF hth;have hf' : P.funcs.toList[f]? = some fn:=by simpa using hf
   have aqH:qg P f p=body:=by
    unfold Br at hth;unfold qg;simp only [hf',hb] at hth ⊢;split at hth
    ·rename_i b yU
     have:=hs.uniq yU;simp at this;exact this.symm
    ·simp at hth
   rw [aqH] at hF;cases eK:l.st with
   | true=>
    rw [eK] at hF;exact ais hP hm gw kU hf hb hs hc hF
   | false=>
    rw [eK] at hF;exact ako hP hm gw kU hf hb hs hc hF
theorem aa7 (hP:P.funcs.toList.all mA=true) (hm:P.follows .mixedOrders=true) {pc:FuncId->Option (List KV->KR KV)} {x:ahu} (hx:afb P x.ac) {ls:List Lp} (hl:∀ l∈ls,Lp.Ok P l/\Br P l.f l.p=true):xl P ⟨pc,acG P ls,x⟩:=
 ⟨hx,ama hP hm hl⟩
structure Fc where
 g:Nat
 S:aB
 F:LFn
noncomputable def afp (P:Program):List Fc->FuncId->Option (List KV->ao->sU)
 | [],_=>none
 | c::cs,g=>cond (Nat.beq c.g g) (some (aqb P c.S c.F)) (afp P cs g)
def Fc.Ok (P:Program) (c:Fc):Prop:=Nat.blt c.g yB=true/\∃ cfg L n,ru P cfg.pc/\xl P cfg/\
 ∀ vs rs e cE lP,AO P c.S vs rs->(c.F vs rs).ev=some (e,cE,lP)->akq P cfg L n c.g c.S vs rs=some (e,cE,lP)
theorem aa8 (hP:P.funcs.toList.all mA=true) (hm:P.follows .mixedOrders=true):∀ {cs:List Fc},(∀ c∈cs,Fc.Ok P c)->afb P (afp P cs)
 | [],_=>fun g F h=>by simp [afp] at h
 | c::cs,hc=>fun g F h=>by
  have h:afp P (c::cs) g=some F:=h;unfold afp at h;cases hk:Nat.beq c.g g with
  | false=>
   rw [hk] at h;intro R args A k r hr;exact aa8 hP hm (fun c' hc'=>hc c' (uF _ hc')) g F h args A k r hr
  | true=>
   rw [hk] at h;simp only [aj,cJ] at h;subst h;have e1:=aW hk;subst e1;obtain ⟨hy,cfg,L,n,gw,kU,hF⟩:=hc c (by simp);intro R args A k r hr;exact akr hP hm gw kU hy hF hr
end Go.K
end
