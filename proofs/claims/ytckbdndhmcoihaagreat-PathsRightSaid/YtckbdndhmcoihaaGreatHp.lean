/- Part of the proof of PathsRight: the machine, shown to be the model's, and plain models. No conditions. -/
import Derived.Test.YtckbdndhmcoihaaGreatGp
import Derived.SizedLaws
import Derived.OpenShut
import Derived.ChangeArms
import Derived.WideShapes
import Derived.Below
import Derived.KernelRfl
import Derived.Test.YtckbdndhmcoihaaGreatProg
import Derived.WalkKit
import Derived.Lib.Walk
import Derived.Lib.SliceRun
import Derived.Shelf.SlicesQ.Load
import Derived.Shelf.GgClosure.Gives
import Derived.MapKept
import Derived.Deep.RegionWith
import Derived.Laws.EntriesVeiled
set_option linter.unusedSimpArgs false
set_option linter.unusedVariables false
section
namespace Go.K
open Go Go.az
variable {P:Program} {E:Env}
def Env.re (E:Env) (f n:Nat):Env:={ κ:=E.κ,z:=E.z,φ:=E.φ,α:=fun b=>if b=f then E.α n else E.α b }
theorem Env.ajy {f n:Nat} (h:∀ p,E.α f=some p->E.α n=some p):E.le (E.re f n):=⟨fun b p e=>by
 simp only [Env.re];split
 ·rename_i e1; subst e1; exact h p e
 ·exact e,fun _ _ e=>e,fun _ _ e=>e,fun _ _ e=>e⟩
theorem Env.aeh {f n:Nat} : (E.re f n).α f=E.α n:=by simp [Env.re]
theorem Env.yf {f n b:Nat} (h:b≠f):(E.re f n).α b=E.α b:=by simp [Env.re,h]
theorem du.swap {A:ai} {B:St} {f n:Nat} {v:KV} (h:du P E A B) (hf:A.get f=some .dead) (hn:A.get n=some (.arr v)) (MO:E.κ f=none) (oS:∀ p,E.α f=some p->E.α n=some p) :
  du P (E.re f n) ((A.put f (.arr v)).put n .dead) B/\(∀ x,AR ((A.put f (.arr v)).put n .dead) (E.re f n) x->AR A E x)/\∀ g,AF ((A.put f (.arr v)).put n .dead) (E.re f n) B g->AF A E B g:=by
 have bx:f≠n:=fun e=>by rw [e,hn] at hf; simp at hf
 have hle:=Env.ajy oS;have fY:∀ b o,((A.put f (.arr v)).put n .dead).get b=some o->(b=n/\o = .dead)\/(b=f/\o = .arr v)\/(b≠f/\b≠n/\A.get b=some o):=fun b o hb=>by
  rw [ai.bZ] at hb;split at hb
  ·rename_i e; simp at hb; exact .inl ⟨e,hb.symm⟩
  ·rename_i e
   rw [ai.bZ] at hb;split at hb
   ·rename_i e2; simp at hb; exact .inr (.inl ⟨e2,hb.symm⟩)
   ·rename_i e2; exact .inr (.inr ⟨e2,e,hb⟩)
 have hA:∀ b u,((A.put f (.arr v)).put n .dead).get b=some (.arr u)->∃ c,A.get c=some (.arr u)/\(E.re f n).α b=E.α c/\((b=f/\c=n)\/(b≠f/\b≠n/\c=b)):=fun b u hb=>by
  rcases fY b _ hb with ⟨_,e⟩ | ⟨e,e2⟩ | ⟨e,e2,e3⟩
  ·simp at e
  ·simp at e2; subst e2 e; exact ⟨n,hn,Env.aeh,.inl ⟨rfl,rfl⟩⟩
  ·exact ⟨b,e3,Env.yf e,.inr ⟨e,e2,rfl⟩⟩
 have ajz:∀ {b c d:Nat},((b=f/\d=n)\/(b≠f/\b≠n/\d=b))->((c=f/\d=n)\/(c≠f/\c≠n/\d=c))->b=c:=fun h1 h2=>by
  rcases h1 with ⟨a1,a2⟩ | ⟨a1,a2,a3⟩ <;> rcases h2 with ⟨b1,b2⟩ | ⟨b1,b2,b3⟩ <;> omega
 have po:∀ x,AR ((A.put f (.arr v)).put n .dead) (E.re f n) x->AR A E x:=fun x ⟨b,u,L,N,h1,h2⟩=>by
  obtain ⟨c,h3,h4,_⟩:=hA b u h1;exact ⟨c,u,L,N,h3,by rw [<- h4]; exact h2⟩
 have IX:∀ g,AF ((A.put f (.arr v)).put n .dead) (E.re f n) B g->AF A E B g:=fun g ⟨b,u,x,L,N,cs,e,own,k,h1,h2,h3⟩=>by
  obtain ⟨c,h4,h5,_⟩:=hA b u h1;exact ⟨c,u,x,L,N,cs,e,own,k,h4,by rw [<- h5]; exact h2,h3⟩
 have hold:∀ b o,((A.put f (.arr v)).put n .dead).get b=some o->b < A.next:=fun b o hb=>by
  rcases fY b _ hb with ⟨e,_⟩ | ⟨e,_⟩ | ⟨_,_,e⟩
  ·rw [e]; exact h.live n _ hn
  ·rw [e]; exact h.live f _ hf
  ·exact h.live b o e
 refine ⟨⟨fun b cs aQ hb=>?_,fun b top sz hb=>?_,h.z,h.apart,h.inj,fun b c g tb sb tc sc hb hc=>?_,h.fT,h.ll,hold,h.eB,h.lT,h.iQ,h.fresh,h.mem,?_⟩,po,IX⟩
 ·rcases fY b _ hb with ⟨_,e⟩ | ⟨_,e⟩ | ⟨_,_,e⟩
  ·simp at e
  ·simp at e
  ·obtain ⟨x,bX,h1,h2,h3⟩:=h.row b cs aQ e
   exact ⟨x,bX,h1,h2,h3.mono hle⟩
 ·rcases fY b _ hb with ⟨_,e⟩ | ⟨_,e⟩ | ⟨_,_,e⟩
  ·simp at e
  ·simp at e
  ·exact h.aF b top sz e
 ·rcases fY b _ hb with ⟨_,e⟩ | ⟨_,e⟩ | ⟨_,_,hb⟩
  ·simp at e
  ·simp at e
  rcases fY c _ hc with ⟨_,e⟩ | ⟨_,e⟩ | ⟨_,_,hc⟩
  ·simp at e
  ·simp at e
  exact h.iA b c g tb sb tc sc hb hc
 ·refine ⟨fun b u hb=>?_,fun b u hb=>?_,fun x q=>h.ar.z x (po x q),fun b c u u' x L N L' N' h1 h2 h3 h4=>?_,fun b c u u' x y L N L' N' cs e own g k bX e' nN k' h1 h2 h3 h4 h5 h6=>?_,fun b x e=>?_,fun b p e=>?_,fun b x L N e=>?_,fun b u x L N cs e own g k h1 h2 h3=>?_,fun b u hb=>?_⟩
  ·obtain ⟨c,h1,h2,_⟩:=hA b u hb
   obtain ⟨T,N,es,acc,q1,q2,q3,q4⟩:=h.ar.arr c u h1;refine ⟨T,N,es,acc,q1,q2,q3,?_⟩;rw [h2];exact q4.imp id fun ⟨x,cs,aZ,aP,r1,r2,r3,r4⟩=>⟨x,cs,aZ,aP,r1,r2,r3.mono hle,r4⟩
  ·rcases fY b _ hb with ⟨_,e⟩ | ⟨_,e⟩ | ⟨e1,_,e⟩
   ·simp at e
   ·simp at e
   ·exact (h.ar.iG b u e).mono hle (Env.yf e1)
  ·obtain ⟨b',k1,k2,k3⟩:=hA b u h1
   obtain ⟨c',l1,l2,l3⟩:=hA c u' h2;rw [k2] at h3; rw [l2] at h4;have:=h.ar.inj b' c' u u' x L N L' N' k1 l1 h3 h4;subst this;exact ajz k3 l3
  ·obtain ⟨b',k1,k2,k3⟩:=hA b u h1
   obtain ⟨c',l1,l2,l3⟩:=hA c u' h2;rw [k2] at h3; rw [l2] at h4;have:=h.ar.rD b' c' u u' x y L N L' N' cs e own g k bX e' nN k' k1 l1 h3 h4 h5 h6;subst this;exact ajz k3 l3
  ·have hb:b≠f:=fun e2=>by rw [e2] at e; rw [show (E.re f n).κ f=E.κ f from rfl,MO] at e; simp at e
   rw [Env.yf hb];exact h.ar.Xg b x e
  ·by_cases hb:b=f
   ·rw [hb]; exact h.live f _ hf
   ·rw [Env.yf hb] at e; exact h.ar.fT b p e
  ·by_cases hb:b=f
   ·rw [hb,Env.aeh] at e; exact h.ar.eB n x L N e
   ·rw [Env.yf hb] at e; exact h.ar.eB b x L N e
  ·obtain ⟨c,k1,k2,_⟩:=hA b u h1
   rw [k2] at h2;obtain ⟨q1,q2,q3⟩:=h.ar.p0 c u x L N cs e own g k k1 h2 h3;exact ⟨q1,q2,fun y hy hy2=>⟨(q3 y hy hy2).1,fun q=>(q3 y hy hy2).2.1 (po y q),(q3 y hy hy2).2.2⟩⟩
  ·refine ⟨hold b _ hb,?_⟩
   rcases fY b _ hb with ⟨_,e⟩ | ⟨e,_⟩ | ⟨_,_,e⟩
   ·simp at e
   ·rw [e]; exact MO
   ·exact (h.ar.nk b u e).2
structure Sw (E:Env) (A:ai) (B:St) (E' : Env) (A' : ai):Prop where
 le:E.le E'
 κ:E'.κ=E.κ
 z:E'.z=E.z
 φ:E'.φ=E.φ
 next:A'.next=A.next
 ar:∀ x,AR A' E' x->AR A E x
 af:∀ g,AF A' E' B g->AF A E B g
theorem Sw.refl {A:ai} {B:St} : Sw E A B E A:=⟨Env.le_refl _,rfl,rfl,rfl,rfl,fun _ h=>h,fun _ h=>h⟩
theorem Sw.trans {E1 E2 E3:Env} {A1 A2 A3:ai} {B:St} (h:Sw E1 A1 B E2 A2) (k:Sw E2 A2 B E3 A3):Sw E1 A1 B E3 A3:=
 ⟨Env.le_trans h.le k.le,k.κ.trans h.κ,k.z.trans h.z,k.φ.trans h.φ,k.next.trans h.next,fun x q=>h.ar x (k.ar x q),fun g q=>h.af g (k.af g q)⟩
theorem Ev.sw {base:Nat} {E1 E2 E3:Env} {A1 A2 A3:ai} {B1 B2:St} {fC nv:Ren} {w1 w2:World} (h:Ev P base E1 A1 B1 fC w1 E2 A2 B2 nv w2) (hk:du P E3 A3 B2) (k:Sw E2 A2 B2 E3 A3):Ev P base E1 A1 B1 fC w1 E3 A3 B2 nv w2 where
 dI:=hk
 gD:=h.gD
 le:=Env.le_trans h.le k.le
 next:=by rw [k.next]; exact h.next
 dj:=h.dj
 new b x e:=h.new b x (by rw [<- k.κ]; exact e)
 qN b r e:=h.qN b r (by rw [<- k.z]; exact e)
 pk b g e:=h.pk b g (by rw [<- k.φ]; exact e)
 nw:=h.nw
 jR x q:=h.jR x (k.ar x q)
 j6 g q:=h.j6 g (k.af g q)
 rJ:=h.rJ
 lU y q:=h.lU y (q.imp (k.ar y) fun ⟨g,q1,q2⟩=>⟨g,k.af g q1,q2⟩)
 rows:=h.rows
noncomputable section
def Pq:List (Option Nat)->Nat->Bool
 | [],_=>true
 | some f::fs,j=>Nat.beq f j&&Pq fs (Nat.succ j)
 | none::_,_=>false
theorem ach:∀ {fs:List (Option Nat)} {j i:Nat} {x:Option Nat},Pq fs j=true->fs[i]? = some x->x=some (j+i)
 | [],_,_,_,_,e=>by simp at e
 | none::_,_,_,_,h,_=>by simp [Pq] at h
 | some f::fs,j,0,x,h,e=>by
  simp only [Pq,aj] at h;simp at e;rw [<- e,aD h.1];rfl
 | some f::fs,j,i+1,x,h,e=>by
  simp only [Pq,aj] at h;have:=ach (i:=i) (x:=x) h.2 (by simpa using e);rw [this];congr 1;omega
def ajA (A:ai) (f j:Nat) (o:gG):ai:=
 match o with
 | .arr v=>(A.put f (.arr v)).put j .dead
 | _=>A
def AX (A:ai):List (Option Nat)->Nat->List gG->ai
 | some f::fs,j,o::os=>AX (ajA A f j o) fs (Nat.succ j) os
 | none::fs,j,_::os=>AX A fs (Nat.succ j) os
 | _,_,_=>A
structure Yp (E:Env) (A:ai) (fs:List (Option Nat)) (j:Nat) (os:List gG):Prop where
 one:∀ (i:Nat) f v,fs[i]? = some (some f)->os[i]? = some (.arr v)->A.get f=some .dead/\E.κ f=none/\A.get (j+i)=some (.arr v)/\∀ p,E.α f=some p->E.α (j+i)=some p
 lt:∀ (i f:Nat),fs[i]? = some (some f)->f < j
 nodup:∀ (i k f:Nat),fs[i]? = some (some f)->fs[k]? = some (some f)->i=k
theorem Yp.tail {E1:Env} {A A1:ai} {x:Option Nat} {o:gG} {fs:List (Option Nat)} {os:List gG} {j:Nat} (h:Yp E A (x::fs) j (o::os)) (oS:∀ b,x≠some b->E1.α b=E.α b) (MO:E1.κ=E.κ) (hg:∀ b,x≠some b->b≠j->A1.get b=A.get b):Yp E1 A1 fs (Nat.succ j) os where
 one i f v e1 e2:=by
  obtain ⟨h1,h3,h4,h5⟩:=h.one (i+1) f v (by simpa using e1) (by simpa using e2);have aJ:=h.lt (i+1) f (by simpa using e1);rw [show j+(i+1)=Nat.succ j+i by omega] at h4 h5;have hf:x≠some f:=fun e=>by have:=h.nodup (i+1) 0 f (by simpa using e1) (by simp [e]); omega
  have hn:x≠some (Nat.succ j+i):=fun e=>by have:=h.lt 0 (Nat.succ j+i) (by simp [e]); omega
  exact ⟨by rw [hg f hf (by omega)]; exact h1,by rw [MO]; exact h3,by rw [hg _ hn (by omega)]; exact h4,fun p e=>by rw [oS f hf] at e; rw [oS _ hn]; exact h5 p e⟩
 lt i f e:=by have:=h.lt (i+1) f (by simpa using e); omega
 nodup i k f e1 e2:=by have:=h.nodup (i+1) (k+1) f (by simpa using e1) (by simpa using e2); omega
theorem Rd {B:St} : ∀ {fs:List (Option Nat)} {os:List gG} {j:Nat} {E:Env} {A:ai},du P E A B->Yp E A fs j os->∃ E',du P E' (AX A fs j os) B/\Sw E A B E' (AX A fs j os)/\
  (∀ (i:Nat) f v,fs[i]? = some (some f)->os[i]? = some (.arr v)->E'.α f=E.α (j+i))/\(∀ b,(∀ i:Nat,fs[i]?≠some (some b))->E'.α b=E.α b)
 | [],os,j,E,A,h,_=>⟨E,h,.refl,fun i f v e=>by simp at e,fun _ _=>rfl⟩
 | x::fs,[],j,E,A,h,_=>⟨E,by cases x <;> exact h,by cases x <;> exact .refl,fun i f v _ e=>by simp at e,fun _ _=>rfl⟩
 | none::fs,o::os,j,E,A,h,ho=>by
  obtain ⟨E',h1,h2,h3,h4⟩:=Rd h (ho.tail (fun _ _=>rfl) rfl fun _ _ _=>rfl);refine ⟨E',h1,h2,fun i f v e1 e2=>?_,fun b hb=>h4 b fun i=>by have:=hb (i+1); simpa using this⟩;cases i with
  | zero=>simp at e1
  | succ i=>
   rw [h3 i f v (by simpa using e1) (by simpa using e2)];congr 1;omega
 | some f0::fs,o::os,j,E,A,h,ho=>by
  have anV:∀ i:Nat,fs[i]?≠some (some f0):=fun i e=>by have:=ho.nodup (i+1) 0 f0 (by simpa using e) (by simp); omega
  have step:∀ {E1:Env} {A1:ai},du P E1 A1 B->Sw E A B E1 A1->ajA A f0 j o=A1->(∀ b,b≠f0->E1.α b=E.α b)->(∀ v,o = .arr v->E1.α f0=E.α j)->Yp E1 A1 fs (Nat.succ j) os->
    ∃ E',du P E' (AX A (some f0::fs) j (o::os)) B/\Sw E A B E' (AX A (some f0::fs) j (o::os))/\(∀ (i:Nat) f v,(some f0::fs)[i]? = some (some f)->(o::os)[i]? = some (.arr v)->E'.α f=E.α (j+i))/\(∀ b,(∀ i:Nat,(some f0::fs)[i]?≠some (some b))->E'.α b=E.α b):=by
   intro E1 A1 k1 k2 k3 k4 k5 k6;obtain ⟨E',h1,h2,h3,h4⟩:=Rd k1 k6;have e0:AX A (some f0::fs) j (o::os)=AX A1 fs (Nat.succ j) os:=by rw [<- k3]; rfl
   rw [e0];refine ⟨E',h1,k2.trans h2,fun i f v e1 e2=>?_,fun b hb=>?_⟩
   ·cases i with
    | zero=>
     simp at e1 e2;subst e1;rw [h4 f0 anV];exact k5 v e2
    | succ i=>
     rw [h3 i f v (by simpa using e1) (by simpa using e2),k4 _ fun e=>by have:=ho.lt 0 f0 (by simp); omega];congr 1;omega
   ·rw [h4 b fun i=>by have:=hb (i+1); simpa using this]
    exact k4 b fun e=>hb 0 (by simp [e])
  cases o with
  | arr v=>
   obtain ⟨h1,h2,h3,h4⟩:=ho.one 0 f0 v (by simp) (by simp);obtain ⟨q1,q2,q3⟩:=h.swap (n:=j) h1 h3 h2 h4;have fv:∀ b,some f0≠some b->b≠j->((A.put f0 (.arr v)).put j .dead).get b=A.get b:=fun b e1 e2=>by
    rw [ai.bZ,ae e2,ai.bZ,ae fun e=>e1 (by rw [e])]
   exact step q1 ⟨Env.ajy h4,rfl,rfl,rfl,by rw [ai.o9,ai.o9],q2,q3⟩ rfl (fun b hb=>Env.yf hb) (fun _ _=>Env.aeh) (ho.tail (fun b hb=>Env.yf fun e=>hb (by rw [e])) rfl fv)
  | _=>exact step h .refl rfl (fun _ _=>rfl) (fun v e=>by simp at e) (ho.tail (fun _ _=>rfl) rfl fun _ _ _=>rfl)
def rnB (fs:List (Option Nat)) (nx b:Nat):Nat:=cond (Nat.ble nx b) (match X3 (b - nx) fs with
 | some (some f)=>f
 | _=>b) b
def rn1 (fs:List (Option Nat)) (nx:Nat) (v:KV):KV:=
 match v with
 | .al t b o n=>.al t (rnB fs nx b) o n
 | v=>v
def af7 (fs:List (Option Nat)) (nx:Nat):List KV->List KV
 | []=>[]
 | v::vs=>rn1 fs nx v::af7 fs nx vs
def rnV (fs:List (Option Nat)) (nx:Nat) (v:KV):KV:=
 match v with
 | .agg cs=>.agg (af7 fs nx cs)
 | v=>rn1 fs nx v
def ajB (fs:List (Option Nat)) (nx:Nat):List (Nat×KV)->List (Nat×KV)
 | []=>[]
 | q::qs=>(q.1,rnV fs nx q.2)::ajB fs nx qs
def VL (E1 E2:Env) (fs:List (Option Nat)) (nx:Nat):Prop:=E1.le E2/\∀ (i f:Nat),fs[i]? = some (some f)->∀ p,E1.α (nx+i)=some p->E2.α f=some p
theorem akT {E1 E2:Env} {fs:List (Option Nat)} {nx b:Nat} (h:VL E1 E2 fs nx) {p:Nat×Nat×Nat} (e:E1.α b=some p):E2.α (rnB fs nx b)=some p:=by
 unfold rnB;cases hb:Nat.ble nx b with
 | false=>exact h.1.α b p e
 | true=>
  simp only [ah];have hb:=cM hb;rw [UZ];split
  ·rename_i f hf
   exact h.2 _ f hf p (by rw [show nx+(b - nx)=b by omega]; exact e)
  ·exact h.1.α b p e
theorem af8 {E1 E2:Env} {fs:List (Option Nat)} {nx:Nat} (h:VL E1 E2 fs nx) {v:KV} {u:Value} (hv:VK P E1 v u):VK P E2 (rn1 fs nx v) u:=by
 unfold rn1;split
 ·rename_i t b o n
  refine .IE ?_;rcases hv.rI with q | ⟨x,L,N,c,q1,q2⟩
  ·exact .inl q
  ·exact .inr ⟨x,L,N,c,akT h q1,q2⟩
 ·exact hv.mono h.1
theorem VM {E1 E2:Env} {fs:List (Option Nat)} {nx:Nat} (h:VL E1 E2 fs nx):∀ {vs:List KV} {us:List Value},aK P E1 vs us->aK P E2 (af7 fs nx vs) us
 | [],us,hv=>by rw [hv.bA]; exact .nil
 | v::vs,us,hv=>by
  obtain ⟨u,Xd,rfl,h1,h2⟩:=hv.cons_inv;exact .cons (af8 h h1) (VM h h2)
theorem akU {E1 E2:Env} {fs:List (Option Nat)} {nx:Nat} (h:VL E1 E2 fs nx) {v:KV} {u:Value} (hv:VK P E1 v u):VK P E2 (rnV fs nx v) u:=by
 unfold rnV;split
 ·obtain ⟨m,rfl,h1⟩:=hv.jr
  exact .ns (VM h h1)
 ·exact af8 h hv
theorem SA {E1 E2:Env} {fs:List (Option Nat)} {nx:Nat} (h:VL E1 E2 fs nx):∀ (l:List (Nat×KV)),oy P E1 E2 l (ajB fs nx l)
 | []=>trivial
 | _::qs=>⟨rfl,fun _ hv=>akU h hv,SA h qs⟩
end
end Go.K
end
section
namespace Go.K
open Go Go.az
variable {P:Program} {E:Env}
noncomputable section
def wM:List CD->List Bool
 | []=>[]
 | .aF _::ds=>false::wM ds
 | .arr _::ds=>true::wM ds
 | _::ds=>wM ds
def TH:List (Tmp×VD)->List Bool
 | []=>[]
 | p::ps=>wM p.2.ks++TH ps
def TI:List (Tmp×List CD×Nat)->List Bool
 | []=>[]
 | p::ps=>wM p.2.1++TI ps
def aB.kinds (S:aB):List Bool:=TH S.dh++TI S.rows
def De:gG->Bool
 | .arr _=>true
 | _=>false
theorem qu:∀ {ds:List CD} {vs:List KV},vs.length=ds.length->(lW P ds vs).map De=wM ds
 | [],[],_=>rfl
 | [],_::_,e=>by simp at e
 | _::_,[],e=>by simp at e
 | .k c::ds,v::vs,e=>by simp only [lW,wM]; exact qu (by simpa using e)
 | .lit w::ds,v::vs,e=>by simp only [lW,wM]; exact qu (by simpa using e)
 | .ref w::ds,v::vs,e=>by simp only [lW,wM]; exact qu (by simpa using e)
 | .aF t::ds,v::vs,e=>by simp only [lW,wM,List.map_cons,De]; rw [qu (by simpa using e)]
 | .arr t::ds,v::vs,e=>by simp only [lW,wM,List.map_cons,De]; rw [qu (by simpa using e)]
theorem Pr:∀ {ps:List (Tmp×VD)} {vs:List KV},dZ ps vs=true->(wH P ps vs).map De=TH ps
 | [],[],_=>rfl
 | [],_::_,h=>by simp [dZ] at h
 | _::_,[],h=>by simp [dZ] at h
 | p::ps,v::vs,h=>by
  simp only [dZ,aj] at h;simp only [wH,TH,yA];rw [qu (Jb h.1),Pr h.2]
theorem Ps:∀ {ps:List (Tmp×List CD×Nat)} {rs:List (List KV)},rs.length=ps.length->(∀ (k:Nat) p r,ps[k]? = some p->rs[k]? = some r->cK p.2.1 r=true)->(yd P ps rs).map De=TI ps
 | [],[],_,_=>rfl
 | [],_::_,e,_=>by simp at e
 | _::_,[],e,_=>by simp at e
 | p::ps,r::rs,e,h=>by
  simp only [yd,TI,yA];rw [qu (wJ (h 0 p r rfl rfl)),Ps (by simpa using e) fun k p r h1 h2=>h (k+1) p r h1 h2]
theorem SB {S:aB} {vs:List KV} {rs:List (List KV)} (hv:dZ S.dh vs=true) (hl:rs.length=S.rows.length) (hg:∀ (k:Nat) p r,S.rows[k]? = some p->rs[k]? = some r->cK p.2.1 r=true):(S.lens P vs rs).map De=S.kinds:=by
 rw [aB.lens,yA,Pr hv,Ps hl hg]; rfl
theorem Nd {S:aB} {os:List gG} (h:os.map De=S.kinds) {i:Nat} (hi:S.kinds[i]? = some true):∃ v,os[i]? = some (.arr v):=by
 rw [<- h,mf,aU] at hi;obtain ⟨o,h1,h2⟩:=hi;cases o <;> simp [De] at h2;exact ⟨_,h1⟩
def sk:List Bool->List (Option Nat)->List (Option Nat)
 | true::ks,f::fs=>f::sk ks fs
 | false::ks,_::fs=>none::sk ks fs
 | _,_=>[]
theorem Nf:∀ {ks:List Bool} {fs:List (Option Nat)} {i f:Nat},(sk ks fs)[i]? = some (some f)->ks[i]? = some true/\fs[i]? = some (some f)
 | [],_,_,_,h=>by simp [sk] at h
 | true::_,[],_,_,h=>by simp [sk] at h
 | false::_,[],_,_,h=>by simp [sk] at h
 | true::ks,f::fs,0,_,h=>by simp [sk] at h; simp [h]
 | false::ks,f::fs,0,_,h=>by simp [sk] at h
 | true::ks,f::fs,i+1,_,h=>by simpa using Nf (ks:=ks) (fs:=fs) (i:=i) (by simpa [sk] using h)
 | false::ks,f::fs,i+1,_,h=>by simpa using Nf (ks:=ks) (fs:=fs) (i:=i) (by simpa [sk] using h)
def sm:List Bool->List (Option Nat)->Nat->Bool
 | true::ks,some f::fs,j=>Nat.beq f j&&sm ks fs (Nat.succ j)
 | true::_,none::_,_=>false
 | false::ks,_::fs,j=>sm ks fs (Nat.succ j)
 | _,_,_=>true
theorem GB:∀ {ks:List Bool} {fs:List (Option Nat)} {j i:Nat} {x:Option Nat},sm ks fs j=true->ks[i]? = some true->fs[i]? = some x->x=some (j+i)
 | [],_,_,_,_,_,h,_=>by simp at h
 | _::_,[],_,_,_,_,_,h=>by simp at h
 | true::_,none::_,_,_,_,h,_,_=>by simp [sm] at h
 | true::ks,some f::fs,j,0,x,h,_,e=>by
  simp only [sm,aj] at h;simp at e;rw [<- e,aD h.1];rfl
 | false::ks,_::fs,j,0,x,_,h,_=>by simp at h
 | true::ks,some f::fs,j,i+1,x,h,h2,e=>by
  simp only [sm,aj] at h;rw [GB (i:=i) (x:=x) h.2 (by simpa using h2) (by simpa using e)];congr 1;omega
 | false::ks,_::fs,j,i+1,x,h,h2,e=>by
  rw [GB (ks:=ks) (fs:=fs) (j:=Nat.succ j) (i:=i) (x:=x) (by simpa [sm] using h) (by simpa using h2) (by simpa using e)];congr 1;omega
theorem Ku {S:aB} {vs:List KV} {rs:List (List KV)} (hv:dZ S.dh vs=true) (hl:rs.length=S.rows.length) (hg:∀ (k:Nat) p r,S.rows[k]? = some p->rs[k]? = some r->cK p.2.1 r=true):(S.lens P vs rs).length=lr S.dh+(S.rows.map fun p=>ov p.2.1).sum:=by
 rw [aB.lens,gd,yP hv,DZ hl hg rfl]
def aB.se (S:aB) (nx:Nat) (bs:List Nat) (fs:List (Option Nat)) (vs:List KV):bJ:=gH (ajB (sk S.kinds fs) nx (S.prs nx bs vs))
def Z9 (fs:List (Option Nat)) (nx:Nat) (A:ai) (b:Nat):ai:=
 match A.get b with
 | some (.row cs aQ)=>A.put b (.row (af7 fs nx cs) aQ)
 | _=>A
def TJ (fs:List (Option Nat)) (nx:Nat):List Nat->ai->ai
 | [],A=>A
 | b::bs,A=>TJ fs nx bs (Z9 fs nx A b)
theorem du.amF {A:ai} {B:St} (h:du P E A B) {b:Nat} {cs iv:List KV} {aQ:Nat} (hb:A.get b=some (.row cs aQ)) (hc:∀ us,aK P E cs us->aK P E iv us):du P E (A.put b (.row iv aQ)) B/\Sw E A B E (A.put b (.row iv aQ)):=by
 have fY:∀ c o,(A.put b (.row iv aQ)).get c=some o->(c=b/\o = .row iv aQ)\/A.get c=some o:=fun c o hg=>by
  rw [ai.bZ] at hg;split at hg
  ·rename_i e; simp at hg; exact .inl ⟨e,hg.symm⟩
  ·exact .inr hg
 have iL:∀ c v,(A.put b (.row iv aQ)).get c=some (.arr v)->A.get c=some (.arr v):=fun c v hg=>by
  rcases fY c _ hg with ⟨_,e⟩ | e
  ·simp at e
  ·exact e
 have rX:∀ c t s,(A.put b (.row iv aQ)).get c=some (.aF t s)->A.get c=some (.aF t s):=fun c t s hg=>by
  rcases fY c _ hg with ⟨_,e⟩ | e
  ·simp at e
  ·exact e
 refine ⟨⟨fun c bX e' hg=>?_,fun c t s hg=>h.aF c t s (rX _ _ _ hg),h.z,h.apart,h.inj,fun c d g tb sb tc sc h1 h2=>h.iA c d g tb sb tc sc (rX _ _ _ h1) (rX _ _ _ h2),h.fT,h.ll,fun c o hg=>?_,h.eB,h.lT,h.iQ,h.fresh,h.mem,
  h.ar.dj (Env.le_refl _) (fun _=>rfl) iL (fun c v hg=>?_) (ao _) (ao _) (fun _ _=>rfl) (fun _ _ e=>.inl e) (fun _ _ e=>.inl e) (fun _ g e=>.inl ⟨_,e⟩) (fun _ _=>rfl) h.mem⟩,
  ⟨Env.le_refl _,rfl,rfl,rfl,rfl,fun x ⟨c,v,L,N,h1,h2⟩=>⟨c,v,L,N,iL _ _ h1,h2⟩,fun g ⟨c,v,x,L,N,cs,e,own,k,h1,h2⟩=>⟨c,v,x,L,N,cs,e,own,k,iL _ _ h1,h2⟩⟩⟩
 ·rcases fY c _ hg with ⟨rfl,e⟩ | e
  ·simp at e
   obtain ⟨rfl,rfl⟩:=e;obtain ⟨x,us,h1,h2,h3⟩:=h.row _ _ _ hb;exact ⟨x,us,h1,h2,hc us h3⟩
  ·exact h.row c bX e' e
 ·rcases fY c _ hg with ⟨rfl,_⟩ | e
  ·exact h.live _ _ hb
  ·exact h.live c o e
 ·rcases fY c _ hg with ⟨_,e⟩ | e
  ·simp at e
  ·exact e
theorem VN {B:St} {fs:List (Option Nat)} {nx:Nat} (hr:VL E E fs nx):∀ (bs:List Nat) {A:ai},du P E A B->du P E (TJ fs nx bs A) B/\Sw E A B E (TJ fs nx bs A)
 | [],A,h=>⟨h,.refl⟩
 | b::bs,A,h=>by
  have h1:du P E (Z9 fs nx A b) B/\Sw E A B E (Z9 fs nx A b):=by
   unfold Z9;split
   ·rename_i cs aQ hb
    exact h.amF hb fun us hv=>VM hr hv
   ·exact ⟨h,.refl⟩
  obtain ⟨h2,h3⟩:=VN hr bs h1.1;exact ⟨h2,h1.2.trans h3⟩
def aB.VO (S:aB) (P:Program) (bs:List Nat) (fs:List (Option Nat)) (vs:List KV) (rs:List (List KV)) (A:ai):ai:=TJ (sk S.kinds fs) A.next bs (AX (S.back P bs fs vs rs A) (sk S.kinds fs) A.next (S.lens P vs rs))
def af9 (S:aB) (E E' : Env):Prop:=∀ (i:Nat) p,S.kinds[i]? = some true->E.α (S.nr+i)=some p->E'.α (S.nr+i)=some p
theorem Yq {S:aB} {t:bJ} {A:ai} {B B1:St} {g:GR} {ρ fC:Ren} {base N:Nat} {w w1:World} {a1:Act} {vs:List KV} {rs:List (List KV)} {E1:Env} (hG:cS P S t A g) (hk:du P E A B)
  (ht:jB P E1 fC (S.tm S.nr S.ids vs) N a1) (hs:du P E1 (S.mem P vs rs) B1) (lk:Co base (E.sub A g.bs g.fs S.nr) (S.mem P g.vs g.rs) B ρ w E1 (S.mem P vs rs) B1 fC w1) (MO:∀ k,k < S.rows.length->E1.κ k=(E.sub A g.bs g.fs S.nr).κ k)
  (hpl:af9 S (E.sub A g.bs g.fs S.nr) E1)
  (hv:dZ S.dh vs=true) (Ia:rs.length=S.rows.length) (hrg:∀ (k:Nat) p r,S.rows[k]? = some p->rs[k]? = some r->cK p.2.1 r=true) :
  ∃ E',jB P E' fC (S.se A.next g.bs g.fs vs) N a1/\Ev P base E A B ρ w E' (S.VO P g.bs g.fs vs rs A) B1 fC w1:=by
 obtain ⟨ht0,l9⟩:=Yn hG hk ht hs lk MO hv Ia hrg;have fU:(uZ (mj A g.bs S.rows (S.BV A.next g.bs rs)) g.fs).next=A.next:=by rw [Da,M8]
 have hlen:(S.lens P vs rs).length=g.fs.length:=by
  rw [Ku hv Ia hrg,hG.fs,oU,<- hG.lens,Ku hG.dh hG.nz hG.pf]
 have hki:=SB (P:=P) hv Ia hrg;have hold:∀ (i:Nat) f,(sk S.kinds g.fs)[i]? = some (some f)->g.fs[i]? = some (some f)/\S.kinds[i]? = some true/\∃ u,A.get f=some (.arr u):=by
  intro i f hi;obtain ⟨ot,hi⟩:=Nf hi;refine ⟨hi,ot,?_⟩;have aJ:i < (S.lens P g.vs g.rs).length:=by rw [hG.lens,<- oU,<- hG.fs]; exact (cw.1 hi).1
  obtain ⟨fi,_,h2,h3⟩:=hG.fact (cl aJ);rw [hi] at h2; simp at h2;obtain ⟨u0,hu0⟩:=Nd (SB (P:=P) hG.dh hG.nz hG.pf) ot;rw [cl aJ] at hu0;simp at hu0;rcases h3 with ⟨n,sz,e,_⟩ | ⟨T,v,_,⟨h3,_⟩ | ⟨f',m,N,es,acc,h3,h4,_⟩⟩
  ·rw [hu0] at e; simp at e
  ·rw [h3] at h2; simp at h2
  ·rw [h3] at h2; simp at h2; subst h2; exact ⟨_,h4⟩
 have mh:∀ (i f:Nat),(sk S.kinds g.fs)[i]? = some (some f)->∀ p,(E.up E1 S.nr A.next).α f=some p->(E.up E1 S.nr A.next).α (A.next+i)=some p:=fun i f hi p e=>by
  obtain ⟨hi,ot,u,hu⟩:=hold i f hi;rw [Env.E6 (hk.live f _ hu)] at e;rw [Env.E5];exact hpl i p ot (by rw [Env.B4,hi]; exact e)
 have hsw:Yp (E.up E1 S.nr A.next) (S.back P g.bs g.fs vs rs A) (sk S.kinds g.fs) A.next (S.lens P vs rs):=by
  refine ⟨fun i f v hi hv=>?_,fun i f hi=>?_,fun i k f h1 h2=>sZ hG.TG i k f (hold i f h1).1 (hold k f h2).1⟩
  ·obtain ⟨KK,_,u,hu⟩:=hold i f hi
   refine ⟨?_,(hk.ar.nk f u hu).2,?_,mh i f hi⟩
   ·rw [aB.back,AW (by rw [fU]; exact hk.live f _ hu),BX,ax (sh.2 (eS KK))]
   ·have:=I9 (A:=uZ (mj A g.bs S.rows (S.BV A.next g.bs rs)) g.fs) hv
    rw [fU] at this;exact this
  ·obtain ⟨_,_,u,hu⟩:=hold i f hi
   exact hk.live f _ hu
 obtain ⟨E',q1,q2,q3,q4⟩:=Rd l9.dI hsw;have VP:VL E' E' (sk S.kinds g.fs) A.next:=⟨Env.le_refl _,fun i f hi p e=>by
  obtain ⟨v,vN⟩:=Nd hki (hold i f hi).2.1;rw [q3 i f v hi vN];rw [q4 (A.next+i) fun j hj=>by
   obtain ⟨_,_,u,hu⟩:=hold j _ hj;have:=hk.live _ _ hu;omega] at e
  exact e⟩
 obtain ⟨q5,q6⟩:=VN VP g.bs q1;refine ⟨E',?_,l9.sw q5 (q2.trans q6)⟩;refine jB.ajr ht0 (SA ⟨q2.le,fun i f hi p e=>?_⟩ _);obtain ⟨v,vN⟩:=Nd hki (hold i f hi).2.1;rw [q3 i f v hi vN];exact e
def aB.Yr (S:aB) (P:Program) (t:bJ) (A:ai):Bool:=cond (px (S.cQ P t A).bs S.ids) (cond (sm S.kinds (S.cQ P t A).fs S.nr) (S.cQ P t A).ok false) false
theorem aci {S:aB} {t:bJ} {A:ai} (h:S.Yr P t A=true):px (S.cQ P t A).bs S.ids=true/\sm S.kinds (S.cQ P t A).fs S.nr=true/\(S.cQ P t A).ok=true:=by
 unfold aB.Yr at h;cases h1:px (S.cQ P t A).bs S.ids with
 | false=>rw [h1] at h; simp at h
 | true=>
  cases h2:sm S.kinds (S.cQ P t A).fs S.nr with
  | false=>rw [h1,h2] at h; simp at h
  | true=>rw [h1,h2] at h; exact ⟨rfl,rfl,h⟩
def GC (P:Program) (cfg:fV) (L n:Nat) (f:FuncId) (p:Nat) (body:Code) (S:aB) (vs:List KV) (rs:List (List KV)):Option (aa×List KV×List (List KV)):=
 lQ P cfg (AL P cfg L n) L f body (2 * p) (fun e t A=>
  Bool.rec (motive:=fun _=>Option (aa×List KV×List (List KV))) none (some (e,(S.cQ P t A).vs,(S.cQ P t A).rs)) (S.Yr P t A)) (S.tm S.nr S.ids vs) (S.mem P vs rs)
theorem acj {S:aB} {t:bJ} {A:ai} {B0:St} {E1:Env} {g:GR} {vs:List KV} {rs:List (List KV)} (hG:cS P S t A g) (hf:sm S.kinds g.fs S.nr=true) (bM:rM P S vs rs) (hs:du P E (S.mem P vs rs) B0) (hle:E.le E1):af9 S E (E1.sub A g.bs g.fs S.nr):=fun i p ot e=>by
 have hd:=hs.ar.fT _ p e;rw [aB.mem,eQ,mz bM.nz,Ku bM.v bM.nz bM.pf] at hd;have aJ:i < g.fs.length:=by
  rw [hG.fs,oU,<- hG.lens,Ku hG.dh hG.nz hG.pf];omega
 have h1:=cl aJ;rw [Env.B4,h1,GB hf ot h1];exact hle.α _ p e
section
variable {cfg:fV} {L n:Nat} {f:FuncId} {S:aB} {root body:Code} {p N:Nat}
theorem Ys {t' : bJ} {A1:ai} {B B1:St} {ρ fC:Ren} {base:Nat} {w w1:World} {E1:Env} {vs:List KV} {rs:List (List KV)} (bM:rM P S vs rs) (hj:KJ P E (S.mem P vs rs) B ρ base w) (h4:Ev P base E (S.mem P vs rs) B ρ w E1 A1 B1 fC w1) (_:cS P S t' A1 (S.cQ P t' A1)) (hi:px (S.cQ P t' A1).bs S.ids=true) :
  ∀ k,k < S.rows.length->(E1.sub A1 (S.cQ P t' A1).bs (S.cQ P t' A1).fs S.nr).κ k=E.κ k:=fun k hk=>by
 have acg:=Db hi;have hp:=cl hk;have vP:=cl (show k < rs.length by rw [bM.nz]; exact hk);obtain ⟨x,_,hx,_⟩:=hj.k.row k _ _ (mem_row bM.nz hp vP);have e1:(E1.sub A1 (S.cQ P t' A1).bs (S.cQ P t' A1).fs S.nr).κ k=E1.κ k:=by
  simp only [Env.sub];rw [acg,BZ S k hk,cD]
 rw [e1,hx];exact h4.le.κ k x hx
theorem ack (hP:P.funcs.toList.all gh=true) (hm:P.follows .mixedOrders=true) (eV:oX P cfg.pc) (gE:pt P cfg) {fn:Func} (hf:P.funcs[f]? = some fn) (hb:fn.body=some root) (hs:Sub root p (.loop body)) (hc:codeOk N body=true)
  {vs bw:List KV} {rs gF:List (List KV)} {e:aa} (hr:GC P cfg L n f p body S vs rs=some (e,bw,gF)) {B:St} {ρ:Ren} {base:Nat} {a:Act} {w:World} {Q:Exit->Act->World->Prop} (bM:rM P S vs rs)
  (ht:jB P E ρ (S.tm S.nr S.ids vs) N a) (hj:KJ P E (S.mem P vs rs) B ρ base w)
  (hq:∀ E' B' ak a' w',jB P E' ak (S.tm S.nr S.ids bw) N a'->a'.defers=a.defers->KJ P E' (S.mem P bw gF) B' ak base w'->Co base E (S.mem P vs rs) B ρ w E' (S.mem P bw gF) B' ak w'->(∀ k,k < S.rows.length->E'.κ k=E.κ k)->rM P S bw gF->af9 S E E'->Q e.out a' w'):body.wp P Q a w:=by
 have uW:=oT (R:=aa×List KV×List (List KV)) hP hm eV gE L n;refine gi eV uW hm (gE.2 f fn root hf hb) body (2 * p) hs.loop hc _ _ _ _ E B ρ base a w Q hr ht hj fun e' t' E1 A1 B1 fC a1 w1 h1 h2 h3 h4=>?_;cases hi:S.Yr P t' A1 with
 | false=>simp only [hi] at h1; exact absurd h1 (by simp)
 | true=>
  simp only [hi,aR,bH] at h1;obtain ⟨rfl,rfl,rfl⟩:=h1;obtain ⟨i1,i2,i3⟩:=aci hi;have hG:=zn i3;exact hq _ B1 fC a1 w1 (hG.tkr h2) h3 ⟨hG.dI h4.dI,h4.gD.dI⟩ (h4.co hG) (Ys bM hj h4 hG i1) hG.B8 (acj hG i2 bM hj.k h4.le)
theorem VQ (hP:P.funcs.toList.all gh=true) (hm:P.follows .mixedOrders=true) (eV:oX P cfg.pc) (gE:pt P cfg) {fn:Func} (hf:P.funcs[f]? = some fn) (hb:fn.body=some root) (hs:Sub root p (.loop body)) (hc:codeOk N body=true)
  {e:aa} {bw:List KV} {gF:List (List KV)} : ∀ (m:Nat) {vs:List KV} {rs:List (List KV)},py (GC P cfg L n f p body S) m vs rs=some (e,bw,gF)->∀ {E:Env} {B:St} {ρ:Ren} {base:Nat} {a:Act} {w:World} {Q:Exit->Act->World->Prop},rM P S vs rs->
  jB P E ρ (S.tm S.nr S.ids vs) N a->KJ P E (S.mem P vs rs) B ρ base w->
  (∀ E' B' ak a' w',jB P E' ak (S.tm S.nr S.ids bw) N a'->a'.defers=a.defers->KJ P E' (S.mem P bw gF) B' ak base w'->Co base E (S.mem P vs rs) B ρ w E' (S.mem P bw gF) B' ak w'->(∀ k,k < S.rows.length->E'.κ k=E.κ k)->rM P S bw gF->af9 S E E'->Q e.out a' w')->Code.rounds P body Q m a w
 | 0,vs,rs,h,E,B,ρ,base,a,w,Q,bM,ht,hj,hq=>by simp [py] at h
 | m+1,vs,rs,h,E,B,ρ,base,a,w,Q,bM,ht,hj,hq=>by
  unfold py at h;split at h
  ·rename_i e1 Z8 rs1 hr
   rw [rounds_succ];refine ack hP hm eV gE hf hb hs hc hr bM ht hj fun E' B' ak a' w' h1 h2 h3 h4 h5 h6 h7=>?_;have fin:lu e1=false->some (e1,Z8,rs1)=some (e,bw,gF)->Q e1.out a' w':=by
    intro _ h;simp only [aR,bH] at h;obtain ⟨rfl,rfl,rfl⟩:=h;exact hq E' B' ak a' w' h1 h2 h3 h4 h5 h6 h7
   cases e1 with
   | normal=>
    have h:py (GC P cfg L n f p body S) m Z8 rs1=some (e,bw,gF):=h;exact VQ hP hm eV gE hf hb hs hc m h h6 h1 h3 fun I0 I1 mG BB xP q1 q2 q3 q4 q5 q6 q7=>hq I0 I1 mG BB xP q1 (q2.trans h2) q3 (h4.trans q4) (fun k hk=>(q5 k hk).trans (h5 k hk)) q6 fun i p ot e=>q7 i p ot (h7 i p ot e)
   | exit id=>exact fin rfl h
   | goto l=>exact fin rfl h
   | ret=>exact fin rfl h
  ·simp at h
def qt.Jd (P:Program) (S:aB) (bs:List Nat) (fs:List (Option Nat)) (A:ai):qt->pZ
 | .no=>.no
 | .out e vs rs=>.out e (S.se A.next bs fs vs) (S.VO P bs fs vs rs A)
 | .br c x y=>.br c (x.Jd P S bs fs A) (y.Jd P S bs fs A)
def aei (P:Program) (S:aB) (F:Z4):bJ->ai->pZ:=fun t A=>
 .br (S.cQ P t A).ok ((F (S.cQ P t A).vs (S.cQ P t A).rs).Jd P S (S.cQ P t A).bs (S.cQ P t A).fs A) .no
theorem Ng {R:Type} {bs:List Nat} {fs:List (Option Nat)} {A:ai} {k:KE R} {r:R} : ∀ (x:qt),(x.Jd P S bs fs A).run k=some r->∃ e bw gF,x.ev=some (e,bw,gF)/\k e (S.se A.next bs fs bw) (S.VO P bs fs bw gF A)=some r
 | .no,h=>absurd h (by simp [qt.Jd,pZ.run])
 | .out e vs rs,h=>⟨e,vs,rs,rfl,h⟩
 | .br c x y,h=>by
  have h:Bool.rec (motive:=fun _=>Option R) ((y.Jd P S bs fs A).run k) ((x.Jd P S bs fs A).run k) c=some r:=h;cases c with
  | true=>exact Ng x h
  | false=>exact Ng y h
theorem acm (hP:P.funcs.toList.all gh=true) (hm:P.follows .mixedOrders=true) (eV:oX P cfg.pc) (gE:pt P cfg) {fn:Func} (hf:P.funcs[f]? = some fn) (hb:fn.body=some root) (hs:Sub root p (.loop body)) (hc:codeOk N body=true) {F:Z4}
  (hF:∀ vs rs e bw gF,rM P S vs rs->(F vs rs).ev=some (e,bw,gF)->py (GC P cfg L n f p body S) gI vs rs=some (e,bw,gF)):Kk P N body (aei P S F):=by
 intro R k r t A E B ρ base a w Q h ht hj hq;have h:Bool.rec (motive:=fun _=>Option R) none (((F (S.cQ P t A).vs (S.cQ P t A).rs).Jd P S (S.cQ P t A).bs (S.cQ P t A).fs A).run k) (S.cQ P t A).ok=some r:=h
 ·cases ho:(S.cQ P t A).ok with
  | false=>rw [ho] at h; exact absurd h (by simp)
  | true=>
   rw [ho] at h;have hG:=zn ho;obtain ⟨e,bw,gF,h9,qg⟩:=Ng _ h;have Ey:=hF _ _ e bw gF hG.B8 h9;refine VQ hP hm eV gE hf hb hs hc gI Ey hG.B8 (hG.tkr ht) ⟨hG.dI hj.k,hj.s⟩ fun E' B' ak a' w' q1 q2 q3 q4 q5 q6 q7=>?_;obtain ⟨E2,r1,r2⟩:=Yq hG hj.k q1 q3.k q4 q5 q7 q6.v q6.nz q6.pf;exact hq e _ E2 _ B' ak a' w' qg r1 q2 r2
end
def aaa:aa->Bool
 | .normal=>true
 | .ret=>true
 | _=>false
def aej (P:Program) (cfg:fV) (L n:Nat) (g:FuncId) (S:aB) (vs:List KV) (rs:List (List KV)):Option (aa×List KV×List (List KV)):=
 match P.funcs.toList[g]? with
 | some fn=>match fn.body with
  | some c=>cond fn.results.toList.isEmpty (lQ P cfg (AL P cfg L n) L g c 1 (fun e t A=>
    Bool.rec (motive:=fun _=>Option (aa×List KV×List (List KV))) none (some (.ret,(S.cQ P t A).vs,(S.cQ P t A).rs)) (cond (aaa e) (S.Yr P t A) false)) (S.tm S.nr S.ids vs) (S.mem P vs rs)) none
  | none=>none
 | none=>none
def qt.Je (P:Program) (S:aB) (bs:List Nat) (fs:List (Option Nat)) (A:ai):qt->rj
 | .no=>.no
 | .out _ vs rs=>.out (.ng []) (S.VO P bs fs vs rs A)
 | .br c x y=>.br c (x.Je P S bs fs A) (y.Je P S bs fs A)
def alU (P:Program) (S:aB) (F:Z4):List KV->ai->rj:=fun args A=>
 .br (S.cQ P (lR args 0 .leaf) A).ok ((F (S.cQ P (lR args 0 .leaf) A).vs (S.cQ P (lR args 0 .leaf) A).rs).Je P S (S.cQ P (lR args 0 .leaf) A).bs (S.cQ P (lR args 0 .leaf) A).fs A) .no
theorem Nh {R:Type} {S:aB} {bs:List Nat} {fs:List (Option Nat)} {A:ai} {k:KV->ai->Option R} {r:R} : ∀ (x:qt),rj.run k (x.Je P S bs fs A)=some r->∃ e bw gF,x.ev=some (e,bw,gF)/\k (.ng []) (S.VO P bs fs bw gF A)=some r
 | .no,h=>absurd h (by simp [qt.Je,rj.run])
 | .out e vs rs,h=>⟨e,vs,rs,rfl,h⟩
 | .br c x y,h=>by
  have h:Bool.rec (motive:=fun _=>Option R) (rj.run k (y.Je P S bs fs A)) (rj.run k (x.Je P S bs fs A)) c=some r:=h;cases c with
  | true=>exact Nh x h
  | false=>exact Nh y h
theorem aho {ρ:Ren} {args:List KV} {bN:List Value} (hv:ny P E ρ args bN) (m:Nat):jB P E ρ (lR args 0 .leaf) (max m args.length) { tmps:=bN.toArray++Array.replicate (m - bN.toArray.size) undef,defers:=[] }:=by
 obtain ⟨ad9,zD,Mo⟩:=hv;have hlen:bN.length=args.length:=by rw [Mo.length,zD.length]
 have cT:(bN.toArray++Array.replicate (m - bN.toArray.size) undef).size=max m args.length:=by
  simp [hlen];omega
 refine ⟨cT,fun i=>?_,fun i hi=>?_⟩
 ·rw [BR]
  simp only [mc,true_and,bG,Nat.sub_zero,Trie.Bb];by_cases hi:i < args.length
  ·rw [ax hi]
   obtain ⟨u,hu⟩:∃ u,args[i]? = some u:=⟨_,cl hi⟩
   obtain ⟨m',h1,h2⟩:=zD.get hu;obtain ⟨u',h3,h4⟩:=Mo.get h1;rw [hu];have:(bN.toArray++Array.replicate (m - bN.toArray.size) undef).getD i undef=u':=by
    rw [dF,Array.getElem?_append_left (by simpa [hlen] using hi)];simp [h3]
   rw [this];exact ⟨m',h2,h4⟩
  ·rw [ae hi]
   exact VC.bz
 ·rw [BR,ae,Trie.Bb]
  simp only [mc,true_and,bG];have:=Nat.le_max_right m args.length;omega
theorem aek {cfg:fV} {L n:Nat} {g:FuncId} {S:aB} {F:Z4} (hP:P.funcs.toList.all gh=true) (hm:P.follows .mixedOrders=true) (eV:oX P cfg.pc) (gE:pt P cfg) (hy:Nat.blt g yB=true)
  (hF:∀ vs rs e bw gF,rM P S vs rs->(F vs rs).ev=some (e,bw,gF)->aej P cfg L n g S vs rs=some (e,bw,gF)) {R:Type} {args:List KV} {A:ai} {k:KV->ai->Option R} {r:R} (h:rj.run k (alU P S F args A)=some r):pq P g/\
  ∀ (E:Env) (B:St) (ρ:Ren) (base:Nat) (w:World) (bN:List Value),ny P E ρ args bN->KJ P E A B ρ base w->
   Calls P g bN.toArray w fun e w'=>∃ v v' E' A' B' ak,e = .returned v'/\VC P E' ak v v'/\Ev P base E A B ρ w E' A' B' ak w'/\k v A' = some r:=by
 have h:Bool.rec (motive:=fun _=>Option R) none (rj.run k ((F (S.cQ P (lR args 0 .leaf) A).vs (S.cQ P (lR args 0 .leaf) A).rs).Je P S (S.cQ P (lR args 0 .leaf) A).bs (S.cQ P (lR args 0 .leaf) A).fs A)) (S.cQ P (lR args 0 .leaf) A).ok=some r:=h;cases ho:(S.cQ P (lR args 0 .leaf) A).ok with
 | false=>rw [ho] at h; exact absurd h (by simp)
 | true=>
 rw [ho] at h;have hG:=zn ho;obtain ⟨e0,bw,gF,h9,qg⟩:=Nh _ h;have ky:=hF _ _ e0 bw gF hG.B8 h9;unfold aej at ky;split at ky
 ·rename_i fn hf
  split at ky
  ·rename_i c hc
   cases hre:fn.results.toList.isEmpty with
   | false=>rw [hre] at ky; exact absurd ky (by simp)
   | true=>
   rw [hre,ah] at ky;have Tf:P.funcs[g]? = some fn:=by simpa using hf
   have bM:=dU.1 hP fn (eS hf);unfold gh at bM;rw [hc] at bM;simp only [aj,iy] at bM;refine ⟨⟨hy,fn,Tf,by simp [hc],bM.2⟩,fun E B ρ base w bN hv hj=>?_⟩;refine calls_of_wp Tf hc ?_;have ht:=aho hv fn.ntmps;have R9:codeOk (max fn.ntmps args.length) c=true:=jw (Nat.le_max_left _ _) c bM.1;have uW:=oT (R:=aa×List KV×List (List KV)) hP hm eV gE L n;refine gi (L:=L) (f:=g) (N:=max fn.ntmps args.length) eV uW hm (gE.2 g fn c Tf hc) c 1 .root R9 _ _ _ _ (E.sub A (S.cQ P (lR args 0 .leaf) A).bs (S.cQ P (lR args 0 .leaf) A).fs S.nr) B ρ base _ w _ ky (hG.tkr ht) ⟨hG.dI hj.k,hj.s⟩ fun e t' E1 A1 B1 fC a1 w1 h1 h2 h3 h4=>?_;cases he:aaa e with
   | false=>simp only [he,ay] at h1; exact absurd h1 (by simp)
   | true=>
   simp only [he,ah] at h1;cases hi:S.Yr P t' A1 with
   | false=>simp only [hi] at h1; exact absurd h1 (by simp)
   | true=>
   simp only [hi,aR,bH] at h1;obtain ⟨_,rfl,rfl⟩:=h1;obtain ⟨i1,i2,i3⟩:=aci hi;have hG1:=zn i3;have HJ:KJ P (E.sub A (S.cQ P (lR args 0 .leaf) A).bs (S.cQ P (lR args 0 .leaf) A).fs S.nr) (S.mem P (S.cQ P (lR args 0 .leaf) A).vs (S.cQ P (lR args 0 .leaf) A).rs) B ρ base w:=⟨hG.dI hj.k,hj.s⟩
   obtain ⟨E2,_,r2⟩:=Yq hG hj.k (hG1.tkr h2) (hG1.dI h4.dI) (h4.co hG1) (Ys hG.B8 HJ h4 hG1 i1) (acj hG1 i2 hG.B8 HJ.k h4.le) hG1.B8.v hG1.B8.nz hG1.B8.pf;have ED:fn.results.toList = []:=List.isEmpty_iff.1 hre;have C0:(results fn a1.tmps).run P w1 = .ok (.tuple #[]) w1:=by
    rw [Iv,Sem.run_bind,Array.mapM_eq_mapM_toList,Sem.run_map,ED];rfl
   have Vy:bodyPost P fn (fun e w'=>∃ v v' E' A' B' ak,e = .returned v'/\VC P E' ak v v'/\Ev P base E A B ρ w E' A' B' ak w'/\k v A' = some r) .ret a1 w1:=
    ⟨h3,_,C0,_,_,E2,_,B1,fC,rfl,⟨_,.Q0 .nil,VR.mkTuple .nil⟩,r2,qg⟩
   cases e with
   | normal=>exact Vy
   | ret=>exact Vy
   | exit id=>simp [aaa] at he
   | goto l=>simp [aaa] at he
  ·simp at ky
 ·simp at ky
end
end Go.K
end
section
namespace Go.K
open Go Go.az
variable {P:Program} {E:Env}
def Pu (l:Nat):Code->Nat->Option (Code×Nat)
 | .seq (.label l') b,p=>cond (Nat.beq l' l) (some (b,2 * p+1)) none
 | .seq a b,p=>match findLabel a l with
  | some _=>none
  | none=>Pu l b (2 * p+1)
 | _,_=>none
theorem VS {root:Code} {l N:Nat} : ∀ {c:Code} {p:Nat} {b:Code} {q:Nat},Pu l c p=some (b,q)->Sub root p c->codeOk N c=true->findLabel c l=some (.seq .skip b)/\Sub root q b/\codeOk N b=true
 | c,p,b,q,h,hs,hc=>by
  unfold Pu at h;split at h
  ·rename_i l' b'
   cases hb:Nat.beq l' l with
   | false=>rw [hb] at h; simp at h
   | true=>
    rw [hb] at h;simp only [ah,aR,bH] at h;obtain ⟨rfl,rfl⟩:=h;obtain rfl:=aD hb;refine ⟨by simp [findLabel],hs.afW,?_⟩;simp only [codeOk,aj] at hc;exact hc.2
  ·rename_i a b' _
   split at h
   ·simp at h
   ·rename_i hfa
    simp only [codeOk,aj] at hc;obtain ⟨h1,h2,h3⟩:=VS h hs.afW hc.2;refine ⟨?_,h2,h3⟩;simp only [findLabel,hfa];exact h1
  ·simp at h
noncomputable def exG (l:Nat) (e:aa):aa:=
 aa.rec (.exit IC) (fun i=>cond (Nat.beq i IC) (.goto l) (.exit i)) (fun l'=>cond (Nat.beq l' l) .normal (.goto l')) .ret e
noncomputable def Kv (P:Program) (cfg:fV) (L n:Nat) (f:FuncId) (q:Nat) (body:Code) (l:Nat) (S:aB) (vs:List KV) (rs:List (List KV)):Option (aa×List KV×List (List KV)):=
 lQ P cfg (AL P cfg L n) L f body q (fun e t A=>
  Bool.rec (motive:=fun _=>Option (aa×List KV×List (List KV))) none (some (exG l e,(S.cQ P t A).vs,(S.cQ P t A).rs)) (cond (px (S.cQ P t A).bs S.ids) (S.cQ P t A).ok false)) (S.tm S.nr S.ids vs) (S.mem P vs rs)
section
variable {cfg:fV} {L n:Nat} {f:FuncId} {S:aB} {root body:Code} {q l N:Nat}
theorem acn (hP:P.funcs.toList.all gh=true) (hm:P.follows .mixedOrders=true) (eV:oX P cfg.pc) (gE:pt P cfg) {fn:Func} (hf:P.funcs[f]? = some fn) (hb:fn.body=some root) (hs:Sub root q body) (hc:codeOk N body=true)
  {vs bw:List KV} {rs gF:List (List KV)} {e:aa} (hr:Kv P cfg L n f q body l S vs rs=some (e,bw,gF)) {B:St} {ρ:Ren} {base:Nat} {a:Act} {w:World} {Q:Exit->Act->World->Prop} (bM:rM P S vs rs)
  (ht:jB P E ρ (S.tm S.nr S.ids vs) N a) (hj:KJ P E (S.mem P vs rs) B ρ base w)
  (hq:∀ e0 E' B' ak a' w',exG l e0=e->jB P E' ak (S.tm S.nr S.ids bw) N a'->a'.defers=a.defers->KJ P E' (S.mem P bw gF) B' ak base w'->Co base E (S.mem P vs rs) B ρ w E' (S.mem P bw gF) B' ak w'->(∀ k,k < S.rows.length->E'.κ k=E.κ k)->rM P S bw gF->Q e0.out a' w'):body.wp P Q a w:=by
 have uW:=oT (R:=aa×List KV×List (List KV)) hP hm eV gE L n;refine gi eV uW hm (gE.2 f fn root hf hb) body q hs hc _ _ _ _ E B ρ base a w Q hr ht hj fun e' t' E1 A1 B1 fC a1 w1 h1 h2 h3 h4=>?_;cases hi:px (S.cQ P t' A1).bs S.ids with
 | false=>
  simp only [hi,ay] at h1;exact absurd h1 (by simp)
 | true=>
  simp only [hi,ah] at h1;cases ho:(S.cQ P t' A1).ok with
  | false=>simp only [ho] at h1; exact absurd h1 (by simp)
  | true=>
   simp only [ho,aR,bH] at h1;obtain ⟨he,rfl,rfl⟩:=h1;have hG:=zn ho;have acg:=Db hi;refine hq e' _ B1 fC a1 w1 he (hG.tkr h2) h3 ⟨hG.dI h4.dI,h4.gD.dI⟩ (h4.co hG) (fun k hk=>?_) hG.B8;have hp:=cl hk;have vP:=cl (show k < rs.length by rw [bM.nz]; exact hk);obtain ⟨x,_,hx,_⟩:=hj.k.row k _ _ (mem_row bM.nz hp vP);have e1:(E1.sub A1 (S.cQ P t' A1).bs (S.cQ P t' A1).fs S.nr).κ k=E1.κ k:=by
    simp only [Env.sub];rw [acg,BZ S k hk,cD]
   rw [e1,hx];exact h4.le.κ k x hx
theorem aco {e:aa} (h:exG l e = .normal):e = .goto l:=by
 cases e with
 | normal=>exact absurd (show aa.exit IC = .normal from h) (by simp)
 | exit i=>
  have h:cond (Nat.beq i IC) (aa.goto l) (.exit i) = .normal:=h;cases hb:Nat.beq i IC <;> rw [hb] at h <;> simp at h
 | goto l'=>
  have h:cond (Nat.beq l' l) aa.normal (.goto l') = .normal:=h;cases hb:Nat.beq l' l with
  | true=>rw [aD hb]
  | false=>rw [hb] at h; simp at h
 | ret=>exact absurd (show aa.ret = .normal from h) (by simp)
theorem acp {e e' : aa} (h:exG l e=e') (hn:lu e' = false) (hg:∀ l',e'≠.goto l'):(e = .normal/\e' = .exit IC)\/(∃ i,e = .exit i/\e' = .exit i/\Nat.beq i IC=false)\/(e = .ret/\e' = .ret):=by
 cases e with
 | normal=>exact .inl ⟨rfl,h.symm⟩
 | exit i=>
  have h:cond (Nat.beq i IC) (aa.goto l) (.exit i)=e':=h;cases hb:Nat.beq i IC with
  | true=>rw [hb] at h; exact absurd h.symm (hg l)
  | false=>rw [hb] at h; exact .inr (.inl ⟨i,rfl,h.symm,hb⟩)
 | goto l'=>
  have h:cond (Nat.beq l' l) aa.normal (.goto l')=e':=h;cases hb:Nat.beq l' l with
  | true=>rw [hb] at h; rw [<- h] at hn; simp [lu] at hn
  | false=>rw [hb] at h; exact absurd h.symm (hg l')
 | ret=>exact .inr (.inr ⟨rfl,h.symm⟩)
theorem VT (hP:P.funcs.toList.all gh=true) (hm:P.follows .mixedOrders=true) (eV:oX P cfg.pc) (gE:pt P cfg) {fn:Func} (hf:P.funcs[f]? = some fn) (hb:fn.body=some root) (hs:Sub root q body) (hc:codeOk N body=true)
  {e:aa} {bw:List KV} {gF:List (List KV)} (hg:∀ l',e≠.goto l'):∀ (m:Nat) {vs:List KV} {rs:List (List KV)},py (Kv P cfg L n f q body l S) m vs rs=some (e,bw,gF)->∀ {E:Env} {B:St} {ρ:Ren} {base:Nat} {a:Act} {w:World} {Q:Exit->Act->World->Prop},rM P S vs rs->
  jB P E ρ (S.tm S.nr S.ids vs) N a->KJ P E (S.mem P vs rs) B ρ base w->
  (∀ e0 E' B' ak a' w',exG l e0=e->lu e=false->jB P E' ak (S.tm S.nr S.ids bw) N a'->a'.defers=a.defers->KJ P E' (S.mem P bw gF) B' ak base w'->Co base E (S.mem P vs rs) B ρ w E' (S.mem P bw gF) B' ak w'->(∀ k,k < S.rows.length->E'.κ k=E.κ k)->rM P S bw gF->Q e0.out a' w')->pr P l body Q m a w
 | 0,vs,rs,h,E,B,ρ,base,a,w,Q,bM,ht,hj,hq=>by simp [py] at h
 | m+1,vs,rs,h,E,B,ρ,base,a,w,Q,bM,ht,hj,hq=>by
  unfold py at h;split at h
  ·rename_i e1 Z8 rs1 hr
   unfold pr;refine acn hP hm eV gE hf hb hs hc hr bM ht hj fun e0 E' B' ak a' w' h0 h1 h2 h3 h4 h5 h6=>?_;cases hn:lu e1 with
   | true=>
    rw [hn,ah] at h;have he1:e1 = .normal:=by cases e1 <;> simp [lu] at hn ⊢
    rw [he1] at h0;obtain rfl:=aco h0;refine ⟨rfl,VT hP hm eV gE hf hb hs hc hg m h h6 h1 h3 fun e2 I0 I1 mG BB xP q0 qn q1 q2 q3 q4 q5 q6=>hq e2 I0 I1 mG BB xP q0 qn q1 (q2.trans h2) q3 (h4.trans q4) (fun k hk=>(q5 k hk).trans (h5 k hk)) q6⟩
   | false=>
    rw [hn,ay] at h;simp only [aR,bH] at h;obtain ⟨rfl,rfl,rfl⟩:=h;have hQ:=hq e0 E' B' ak a' w' h0 hn h1 h2 h3 h4 h5 h6;rcases acp h0 hn hg with ⟨rfl,_⟩ | ⟨i,rfl,_⟩ | ⟨rfl,_⟩ <;> exact hQ
  ·simp at h
theorem Pv {Q:Exit->Act->World->Prop} : ∀ {m:Nat} {a:Act} {w:World},pr P l body Q m a w->pr P l (.seq .skip body) Q m a w
 | 0,_,_,h=>h
 | m+1,a,w,h=>by
  unfold pr at h ⊢;refine wp_seq (wp_skip (Code.wp_mono (fun e a' w' k=>?_) h));cases e with
  | goto l'=>exact ⟨k.1,Pv k.2⟩
  | normal=>exact k
  | exit id=>exact k
  | ret=>exact k
  | panic ch=>exact k
  | outgrown=>exact k
theorem acq (hP:P.funcs.toList.all gh=true) (hm:P.follows .mixedOrders=true) (eV:oX P cfg.pc) (gE:pt P cfg) {fn:Func} (hf:P.funcs[f]? = some fn) (hb:fn.body=some root) (hs:Sub root q body) (hc:codeOk N body=true) {F:Z4}
  (hF:∀ vs rs e bw gF,rM P S vs rs->(F vs rs).ev=some (e,bw,gF)->py (Kv P cfg L n f q body l S) gI vs rs=some (e,bw,gF)):Vx P N l (.seq .skip body) (Pj P S F):=by
 intro R k r t A E B ρ base a w Q h ht hj hq;cases hpe:S.ajl t A with
 | true=>
  unfold Pj at h;rw [hpe] at h;exact absurd h (by simp [pZ.run])
 | false=>
 unfold Pj at h;rw [hpe,ay] at h;have h:Bool.rec (motive:=fun _=>Option R) none (((F (S.cQ P t A).vs (S.cQ P t A).rs).tell P S (S.cQ P t A).bs (S.cQ P t A).fs A).run (QX k)) (S.cQ P t A).ok=some r:=h;cases ho:(S.cQ P t A).ok with
 | false=>rw [ho] at h; exact absurd h (by simp)
 | true=>
  rw [ho] at h;have hG:=zn ho;obtain ⟨e,bw,gF,h9,qg⟩:=Kt _ h;have Ey:=hF _ _ e bw gF hG.B8 h9;have y7:∀ l',e≠.goto l':=fun l' he=>by rw [he] at qg; exact absurd qg (by simp [QX])
  refine ⟨gI,Pv (VT hP hm eV gE hf hb hs hc y7 gI Ey hG.B8 (hG.tkr ht) ⟨hG.dI hj.k,hj.s⟩ fun e0 E' B' ak a' w' q0 qn q1 q2 q3 q4 q5 q6=>?_)⟩;obtain ⟨E2,r1,r2⟩:=restore hG hj.k q1 q3.k q4 q5 q6.v q6.nz q6.pf;refine hq e0 _ E2 _ B' ak a' w' ?_ r1 q2 r2;rcases acp q0 qn y7 with ⟨rfl,rfl⟩ | ⟨i,rfl,rfl,KQ⟩ | ⟨rfl,rfl⟩
  ·exact qg
  ·have qg:Bool.rec (motive:=fun _=>Option R) (k (.exit i) (S.tm A.next (S.cQ P t A).bs bw) (S.back P (S.cQ P t A).bs (S.cQ P t A).fs bw gF A)) (k .normal (S.tm A.next (S.cQ P t A).bs bw) (S.back P (S.cQ P t A).bs (S.cQ P t A).fs bw gF A)) (Nat.beq i IC)=some r:=qg
   rw [KQ] at qg;exact qg
  ·exact qg
end
end Go.K
end
section
namespace Go.K
open Go Go.az
variable {P:Program} {E:Env}
def aab:Code->Bool->Option Code
 | .seq a _,false=>some a
 | .seq _ b,true=>some b
 | .cond _ a _,false=>some a
 | .cond _ _ b,true=>some b
 | .block _ a,false=>some a
 | .loop a,false=>some a
 | .scope a,false=>some a
 | _,_=>none
def mm:Nat->Code->Nat->Option Code
 | 0,_,_=>none
 | n+1,root,p=>cond (Nat.ble p 1) (cond (Nat.beq p 1) (some root) none) ((mm n root (p / 2)).bind fun c=>aab c (Nat.beq (p % 2) 1))
theorem Pw:∀ {n:Nat} {root c:Code} {p:Nat},mm n root p=some c->mm (n+1) root p=some c
 | 0,_,_,_,h=>by simp [mm] at h
 | n+1,root,c,p,h=>by
  unfold mm at h ⊢;cases hp:Nat.ble p 1 with
  | true=>rw [hp] at h; exact h
  | false=>
   rw [hp] at h;simp only [ay] at h ⊢;obtain ⟨d,h1,h2⟩:=aO.1 h;exact aO.2 ⟨d,Pw h1,h2⟩
theorem Ni {root c:Code} {p n:Nat} (h:mm n root p=some c):∀ k,mm (n+k) root p=some c
 | 0=>h
 | k+1=>Pw (Ni h k)
theorem Sub.pos {root c:Code} {p:Nat} (h:Sub root p c):1<=p:=by induction h <;> omega
theorem Sub.at {root c:Code} {p:Nat} (h:Sub root p c):∃ n,mm n root p=some c:=by
 have left:∀ {q n:Nat} {d:Code},1<=q->mm n root q=some d->mm (n+1) root (2 * q)=aab d false:=by
  intro q n d hq hd;unfold mm;have:Nat.ble (2 * q) 1=false:=by
   cases hb:Nat.ble (2 * q) 1 with
   | false=>rfl
   | true=>have:=cM hb; omega
  rw [this,ay,show 2 * q / 2=q by omega,hd,show 2 * q % 2=0 by omega];rfl
 have right:∀ {q n:Nat} {d:Code},1<=q->mm n root q=some d->mm (n+1) root (2 * q+1)=aab d true:=by
  intro q n d hq hd;unfold mm;have:Nat.ble (2 * q+1) 1=false:=by
   cases hb:Nat.ble (2 * q+1) 1 with
   | false=>rfl
   | true=>have:=cM hb; omega
  rw [this,ay,show (2 * q+1) / 2=q by omega,hd,show (2 * q+1) % 2=1 by omega];rfl
 induction h with
 | root=>exact ⟨1,rfl⟩
 | alN hs ih=>obtain ⟨n,hn⟩:=ih; exact ⟨n+1,left hs.pos hn⟩
 | afW hs ih=>obtain ⟨n,hn⟩:=ih; exact ⟨n+1,right hs.pos hn⟩
 | ajf hs ih=>obtain ⟨n,hn⟩:=ih; exact ⟨n+1,left hs.pos hn⟩
 | ajg hs ih=>obtain ⟨n,hn⟩:=ih; exact ⟨n+1,right hs.pos hn⟩
 | block hs ih=>obtain ⟨n,hn⟩:=ih; exact ⟨n+1,left hs.pos hn⟩
 | loop hs ih=>obtain ⟨n,hn⟩:=ih; exact ⟨n+1,left hs.pos hn⟩
 | scope hs ih=>obtain ⟨n,hn⟩:=ih; exact ⟨n+1,left hs.pos hn⟩
theorem Sub.uniq {root c d:Code} {p n:Nat} (h:Sub root p c) (k:mm n root p=some d):c=d:=by
 obtain ⟨m,hm⟩:=h.at;have h1:=Ni hm n;have h2:=Ni k m;rw [Nat.add_comm] at h1;rw [h1] at h2;simpa using h2
def uA (P:Program) (f p:Nat):Code:=
 match P.funcs.toList[f]? with
 | some fn=>match fn.body with
  | some c=>match mm 200 c p with
   | some (.loop b)=>b
   | _=>.skip
  | none=>.skip
 | none=>.skip
structure Lp where
 f:Nat
 p:Nat
 S:aB
 F:Z4
 st:Bool
noncomputable def aga (st:Bool) (P:Program) (cfg:fV) (L n:Nat) (f:FuncId) (p:Nat) (body:Code) (S:aB) (vs:List KV) (rs:List (List KV)):Option (aa×List KV×List (List KV)):=
 cond st (GC P cfg L n f p body S vs rs) (wI P cfg L n f p body S vs rs)
noncomputable def Px (P:Program):List Lp->FuncId->Nat->Option (bJ->ai->pZ)
 | [],_,_=>none
 | l::ls,f,p=>cond (Nat.beq l.f f&&Nat.beq l.p p) (some (cond l.st (aei P l.S l.F) (Pj P l.S l.F))) (Px P ls f p)
def Lp.Ok (P:Program) (l:Lp):Prop:=∃ cfg L n,oX P cfg.pc/\pt P cfg/\
 ∀ vs rs e bw gF,rM P l.S vs rs->(l.F vs rs).ev=some (e,bw,gF)->py (aga l.st P cfg L n l.f l.p (uA P l.f l.p) l.S) gI vs rs=some (e,bw,gF)
def B9 (P:Program) (f p:Nat):Bool:=
 match P.funcs.toList[f]? with
 | some fn=>match fn.body with
  | some c=>match mm 200 c p with
   | some (.loop _)=>true
   | _=>false
  | none=>false
 | none=>false
def E8 (P:Program) (f p:Nat):Option (Nat×Code×Nat):=
 match P.funcs.toList[f]? with
 | some fn=>match fn.body with
  | some c=>match mm 200 c p with
   | some (.scope b)=>match C4 b with
    | some l=>(Pu l b (2 * p)).map fun x=>(l,x.1,x.2)
    | none=>none
   | _=>none
  | none=>none
 | none=>none
def Lp.OkG (P:Program) (l:Lp):Prop:=l.st=false/\∃ Re b q cfg L n,E8 P l.f l.p=some (Re,b,q)/\oX P cfg.pc/\pt P cfg/\
 ∀ vs rs e bw gF,rM P l.S vs rs->(l.F vs rs).ev=some (e,bw,gF)->py (Kv P cfg L n l.f q b Re l.S) gI vs rs=some (e,bw,gF)
def Lp.ael (P:Program) (l:Lp):Prop:=(Lp.Ok P l/\B9 P l.f l.p=true)\/Lp.OkG P l
theorem SC {f p:Nat} {fn:Func} {c:Code} (hf:P.funcs[f]? = some fn) (hb:fn.body=some c) (h:B9 P f p=true):∃ b,mm 200 c p=some (.loop b)/\uA P f p=b:=by
 have Tf:P.funcs.toList[f]? = some fn:=by simpa using hf
 unfold B9 at h;unfold uA;simp only [Tf,hb] at h ⊢;split at h
 ·rename_i b pP
  exact ⟨b,pP,rfl⟩
 ·simp at h
theorem Py {f p Re q:Nat} {b:Code} {fn:Func} {c:Code} (hf:P.funcs[f]? = some fn) (hb:fn.body=some c) (h:E8 P f p=some (Re,b,q)):∃ x,mm 200 c p=some (.scope x)/\C4 x=some Re/\Pu Re x (2 * p)=some (b,q):=by
 have Tf:P.funcs.toList[f]? = some fn:=by simpa using hf
 unfold E8 at h;simp only [Tf,hb] at h;split at h
 ·rename_i x pP
  split at h
  ·rename_i l hl
   obtain ⟨y,h1,h2⟩:=aU.1 h;simp only [bH] at h2;obtain ⟨rfl,rfl,rfl⟩:=h2;exact ⟨x,pP,hl,h1⟩
  ·simp at h
 ·simp at h
theorem agb (hP:P.funcs.toList.all gh=true) (hm:P.follows .mixedOrders=true) {pc:FuncId->Option (List KV->KR KV)} {x:aiU} : ∀ {ls:List Lp},(∀ l∈ls,Lp.ael P l)->∀ f fn c,P.funcs[f]? = some fn->fn.body=some c->afX P ⟨pc,Px P ls,x⟩ f c
 | [],_=>fun f fn c hf hb=>⟨fun p F body h=>by simp [Px] at h,fun p F body h=>by simp [Px] at h⟩
 | l::ls,hl=>fun f fn c hf hb=>by
  have ih:=agb hP hm (pc:=pc) (x:=x) (fun l' iJ=>hl l' (rB _ iJ)) f fn c hf hb;have agc:∀ {p F},Px P (l::ls) f p=some F->Px P ls f p=some F\/(l.f=f/\l.p=p/\F=cond l.st (aei P l.S l.F) (Pj P l.S l.F)):=by
   intro p F h;unfold Px at h;cases hk:(Nat.beq l.f f&&Nat.beq l.p p) with
   | false=>rw [hk] at h; exact .inl h
   | true=>
    rw [hk] at h;simp only [ah,aR] at h;simp only [aj] at hk;exact .inr ⟨aD hk.1,aD hk.2,h.symm⟩
  constructor
  ·intro p F body h hs N hc
   rcases agc h with h | ⟨e1,e2,rfl⟩
   ·exact ih.1 p F body h hs N hc
   ·rcases hl l (by simp) with ⟨⟨cfg,L,n,eV,gE,hF⟩,hth⟩ | ⟨_,Re,b,q,cfg,L,n,yY,_⟩
    ·rw [e1,e2] at hF hth
     obtain ⟨b,pP,adR⟩:=SC hf hb hth;have:=hs.uniq pP;simp only [Code.loop.injEq] at this;rw [adR,<- this] at hF;cases eU:l.st with
     | true=>
      rw [eU] at hF;exact acm hP hm eV gE hf hb hs hc hF
     | false=>
      rw [eU] at hF;exact aeg hP hm eV gE hf hb hs hc hF
    ·rw [e1,e2] at yY
     obtain ⟨x,pP,_⟩:=Py hf hb yY;have:=hs.uniq pP;simp at this
  ·intro p F body h hs N hc lb hlb
   rcases agc h with h | ⟨e1,e2,rfl⟩
   ·exact ih.2 p F body h hs N hc lb hlb
   ·rcases hl l (by simp) with ⟨_,hth⟩ | ⟨eU,Re,b,q,cfg,L,n,yY,eV,gE,hF⟩
    ·rw [e1,e2] at hth
     obtain ⟨b,pP,_⟩:=SC hf hb hth;have:=hs.uniq pP;simp at this
    ·rw [e1,e2] at yY
     rw [e1] at hF;obtain ⟨x,pP,MU,hx2⟩:=Py hf hb yY;have:=hs.uniq pP;simp only [Code.scope.injEq] at this;subst this;rw [hlb] at MU;obtain rfl:=yz MU;obtain ⟨k1,k2,k3⟩:=VS hx2 hs.scope hc;rw [eU];exact ⟨_,k1,acq hP hm eV gE hf hb k2 k3 hF⟩
theorem Kw (hP:P.funcs.toList.all gh=true) (hm:P.follows .mixedOrders=true) {pc:FuncId->Option (List KV->KR KV)} {x:aiU} (hx:Yf P x.ac) {ls:List Lp} (hl:∀ l∈ls,Lp.ael P l):pt P ⟨pc,Px P ls,x⟩:=
 ⟨hx,agb hP hm hl⟩
structure Fc where
 g:Nat
 S:aB
 F:Z4
noncomputable def Yt (P:Program):List Fc->FuncId->Option (List KV->ai->rj)
 | [],_=>none
 | c::cs,g=>cond (Nat.beq c.g g) (some (alU P c.S c.F)) (Yt P cs g)
def Fc.Ok (P:Program) (c:Fc):Prop:=Nat.blt c.g yB=true/\∃ cfg L n,oX P cfg.pc/\pt P cfg/\
 ∀ vs rs e bw gF,rM P c.S vs rs->(c.F vs rs).ev=some (e,bw,gF)->aej P cfg L n c.g c.S vs rs=some (e,bw,gF)
theorem Kx (hP:P.funcs.toList.all gh=true) (hm:P.follows .mixedOrders=true):∀ {cs:List Fc},(∀ c∈cs,Fc.Ok P c)->Yf P (Yt P cs)
 | [],_=>fun g F h=>by simp [Yt] at h
 | c::cs,hc=>fun g F h=>by
  have h:Yt P (c::cs) g=some F:=h;unfold Yt at h;cases hk:Nat.beq c.g g with
  | false=>
   rw [hk] at h;intro R args A k r hr;exact Kx hP hm (fun c' Ul=>hc c' (rB _ Ul)) g F h args A k r hr
  | true=>
   rw [hk] at h;simp only [ah,aR] at h;subst h;have e1:=aD hk;subst e1;obtain ⟨hy,cfg,L,n,eV,gE,hF⟩:=hc c (by simp);intro R args A k r hr;exact aek hP hm eV gE hy hF hr
end Go.K
end
section
namespace Go.K
open Go Go.az
mutual
def KS (P:Program):KV->Prop
 | .int k n=>(Lit.int k n).wf=true
 | .str s=>s.size<=maxLen
 | .ts T _ n es acc=>n<=maxLen/\xD P es/\acc=qj es/\n * P.bytesOf T<=reachBytes
 | .agg cs=>xD P cs
 | _=>True
def xD (P:Program):List KV->Prop
 | []=>True
 | v::vs=>KS P v/\xD P vs
end
theorem AY {P:Program} : ∀ {a b:List KV},xD P a->xD P b->xD P (a++b)
 | [],_,_,h=>h
 | x::a,b,h,k=>by
  simp only [xD] at h;exact ⟨h.1,AY h.2 k⟩
theorem Rf {P:Program} : ∀ {l:List KV},xD P l->∀ v∈l,KS P v
 | [],_,v,h=>by simp at h
 | x::l,h,v,hv=>by
  simp only [xD] at h;rcases bd.1 hv with rfl | hv
  ·exact h.1
  ·exact Rf h.2 v hv
structure KU (P:Program) (W:World) (E:Env) (B:St) (ρ:Ren):Prop where
 dI:iu ρ B W.heap.size W
 k:du P E .empty B
 κ:∀ b,E.κ b=none
 nt:∀ b o,B.get b=some o->o.cr=false/\o.hO=none
 α:∀ b,E.α b=none
def Env.none:Env:=⟨fun _=>.none,fun _=>.none,fun _=>.none,fun _=>.none⟩
theorem Ge.empty {P:Program} {E:Env} {B:St} (oS:∀ b,E.α b=none):Ge P E .empty B:=by
 have hn:∀ b o,¬ ai.empty.get b=some o:=fun b o hb=>by simp [ai.empty,ai.get] at hb
 exact ⟨fun b v hb=>(hn b _ hb).elim,fun b v hb=>(hn b _ hb).elim,fun x ⟨b,v,_,_,hb,_⟩=>(hn b _ hb).elim,fun b c v u x L N L' N' hb=>(hn b _ hb).elim,fun b c v u x y L N L' N' cs e own g k bX e' nN k' hb=>(hn b _ hb).elim,fun b x _=>oS b,fun b p e=>by rw [oS b] at e; simp at e,fun b x L N e=>by rw [oS b] at e; simp at e,fun b v x L N cs e own g k hb=>(hn b _ hb).elim,fun b v hb=>(hn b _ hb).elim⟩
theorem KU.start (P:Program) (W:World):KU P W .none .empty (BD []):=by
 refine ⟨iu.empty W,⟨?_,?_,?_,?_,?_,?_,?_,?_,?_,?_,?_,?_,?_,?_,.empty fun _=>rfl⟩,fun _=>rfl,fun b o h=>by simp [St.get,St.empty] at h,fun _=>rfl⟩
 ·intro b cs aQ h; simp [ai.empty,ai.get] at h
 ·intro b cs aQ h; simp [ai.empty,ai.get] at h
 ·intro b r h; simp [Env.none] at h
 ·intro b r h; simp [Env.none] at h
 ·intro b c r h; simp [Env.none] at h
 ·intro b c r _ _ _ _ _ _ h; simp [Env.none] at h
 ·intro b r h; simp [Env.none] at h
 ·intro b r h; simp [Env.none] at h
 ·intro b o h; simp [ai.empty,ai.get] at h
 ·intro b r h; simp [Env.none] at h
 ·intro b r h; simp [Env.none] at h
 ·intro b r h; simp [Env.none] at h
 ·intro g _; simp [St.members,St.empty]
 ·intro g x h; simp [St.members,St.empty] at h
theorem KU.add {P:Program} {W:World} {E:Env} {B:St} {ρ:Ren} (h:KU P W E B ρ) {cs:List Value} {l:az.Loc}
  (hc:∀ (i:Nat) (v:Value),cs[i]? = some v->∃ v',W.cell? ⟨l.cb,l.cf+i,.none⟩=some v'/\VR ρ v v'/\scalar v=true) (hl:l.cb < W.heap.size) (hf:l.cf+cs.length<=l.rW) :
  KU P W (E.dW B.next ⟨cs,l.aQ,false,.none⟩) (B.new (.row cs l.aQ false .none)) (ρ.set B.next l)/\E.le (E.dW B.next ⟨cs,l.aQ,false,.none⟩)/\ρ.le (ρ.set B.next l):=by
 have hle:E.le (E.dW B.next ⟨cs,l.aQ,false,.none⟩):=⟨fun _ _ e=>e,fun _ _ e=>e,fun b r e=>by
  have:=h.k.lT b r e;simp only [Env.dW]; rw [ae (by omega)]; exact e,fun _ _ e=>e⟩
 have iY:=h.dI.um l;have fv:∀ b o,(B.new (.row cs l.aQ false .none)).get b=some o->(b=B.next/\o = .row cs l.aQ false .none)\/(b≠B.next/\B.get b=some o):=by
  intro b o hb;rw [St.cV] at hb;split at hb
  ·rename_i e; simp at hb; exact .inl ⟨e,hb.symm⟩
  ·rename_i e; exact .inr ⟨e,hb⟩
 have Yu:∀ b o,(B.new (.row cs l.aQ false .none)).get b=some o->o.cr=false/\o.hO = .none:=by
  intro b o hb;rcases fv b o hb with ⟨_,rfl⟩ | ⟨_,hb⟩
  ·exact ⟨rfl,rfl⟩
  ·exact h.nt b o hb
 refine ⟨⟨⟨⟨?_,?_,?_,?_,?_,?_⟩,?_,h.dI.size,h.dI.lL.mono iY⟩,?_,h.κ,Yu,h.α⟩,hle,iY⟩
 ·intro b mI aQ own aZ hb
  rcases fv b _ hb with ⟨rfl,e⟩ | ⟨bx,hb⟩
  ·simp only [aY.row.injEq] at e
   obtain ⟨rfl,rfl,rfl,rfl⟩:=e;refine ⟨l,by simp [Ren.set],⟨fun i v hi=>?_,fun _=>hl,fun e=>by simp at e,fun e=>by simp at e,hf,fun e=>by simp at e,rfl,hl,fun e=>by simp at e⟩⟩;obtain ⟨v',h1,h2,h3⟩:=hc i v hi;exact ⟨v',h1,h2.mono iY,h3⟩
  ·obtain ⟨l',h1,h2⟩:=h.dI.rel.row b mI aQ own aZ hb
   exact ⟨l',iY _ _ h1,⟨fun i v hi=>by obtain ⟨v',q1,q2,q3⟩:=h2.cells i v hi; exact ⟨v',q1,q2.mono iY,q3⟩,h2.nt,h2.cr,h2.there,h2.fits,h2.ends,h2.aQ,h2.gC,h2.mark⟩⟩
 ·intro b es hb
  have:=(Yu b _ hb).1;simp [aY.cr] at this
 ·intro b s pos hb
  have:=(Yu b _ hb).1;simp [aY.cr] at this
 ·intro b st e t ps a c hb
  have:=(Yu b _ hb).1;simp [aY.cr] at this
 ·intro b1 b2 o1 o2 l1 l2 _ h1 _ h3
  have:=(Yu b1 _ h1).1;rw [h3] at this; simp at this
 ·intro b o aF f hb hk
  have:=(Yu b _ hb).2;rw [hk] at this; simp at this
 ·intro b l' hb
  rw [St.cv];simp only [Ren.set] at hb;split at hb
  ·omega
  ·have:=h.dI.fT b l' hb; omega
 ·refine ⟨?_,?_,?_,?_,?_,?_,?_,?_,?_,?_,?_,?_,?_,?_,.empty h.α⟩
  ·intro b cs aQ h; simp [ai.empty,ai.get] at h
  ·intro b cs aQ h; simp [ai.empty,ai.get] at h
  ·intro b r hb
   simp only [Env.dW] at hb;split at hb
   ·rename_i e
    simp at hb;subst hb e;simp
   ·have:=h.k.lT b r hb
    rw [St.cV,ae (by omega)];exact h.k.z b r hb
  ·intro b x hb; have hb:E.κ b=some x:=hb; rw [h.κ b] at hb; simp at hb
  ·exact h.k.inj
  ·exact h.k.iA
  ·exact h.k.fT
  ·exact h.k.ll
  ·exact h.k.live
  ·intro b x hb; have:=h.k.eB b x hb; rw [St.cv]; omega
  ·intro b r hb
   simp only [Env.dW] at hb;rw [St.cv];split at hb
   ·omega
   ·have:=h.k.lT b r hb; omega
  ·intro b g hb; have:=h.k.iQ b g hb; rw [St.cv]; omega
  ·intro g hg; rw [St.cv] at hg; rw [St.jX]; exact h.k.fresh g (by omega)
  ·intro g x hx; rw [St.jX] at hx; rw [St.cv]; have:=h.k.mem g x hx; omega
def VU (P:Program):Nat->List Field->Option Nat
 | off,[]=>some off
 | off,f::fs=>cond (Nat.beq f.offset off) (VU P (off+P.cellsOf f.type) fs) .none
def wN (P:Program):Nat->TypeId->Bool
 | 0,_=>false
 | n+1,t=>match P.underlying t with
  | some (.int _) | some .bool | some .string=>true
  | some (.slice e)=>Nat.ble 1 (P.cellsOf e)&&wN P n e&&(match lay P 12 e with
   | some l=>Nat.beq l.ks.length (P.cellsOf e)&&(l.agg||Nat.beq l.ks.length 1)
   | .none=>false)
  | some (.struct fs)=>fs.toList.all (fun f=>wN P n f.type)&&(match VU P 0 fs.toList with
   | some k=>Nat.beq k (P.cellsOf t)
   | .none=>false)
  | some (.array len e)=>wN P n e&&Nat.beq (P.cellsOf t) (len * P.cellsOf e)
  | _=>false
def VV (W:World) (cs:List Value):Prop:=∀ a n c,Value.slice (some a) n c∈cs->0 < W.heap.size
def Got (P:Program) (W:World) (E:Env) (_:St) (ρ:Ren) (cs:List Value) (K:List KV->Prop):Prop:=
 ∃ E' B' ak ks,KU P W E' B' ak/\E.le E'/\ρ.le ak/\ny P E' ak ks cs/\xD P ks/\K ks
def TK {H:Type} (enc:TypeId×Value->H) (P:Program) (W:World) (n:Nat):Prop:=
 ∀ t,wN P n t=true->∀ (fuel:Nat) (cs:List Value) (x:DataW H×List MemPlace) (E:Env) (B:St) (ρ:Ren),DataW.trod enc P W 0 (fun _=>true) true fuel t cs=some x->(∀ w∈DataW.weights P t x.1,w<=reachBytes)->VV W cs->KU P W E B ρ->
  Got P W E B ρ cs fun ks=>∀ m l,lay P m t=some l->au l.ks ks=true
section
variable {H:Type} {enc:TypeId×Value->H} {P:Program} {W:World} {E:Env} {B:St} {ρ:Ren}
theorem ny.append {E:Env} {ρ:Ren} {a b:List KV} {a' b' : List Value} (h:ny P E ρ a a') (k:ny P E ρ b b'):ny P E ρ (a++b) (a'++b'):=by
 obtain ⟨m,h1,h2⟩:=h;obtain ⟨l,h3,h4⟩:=k;exact ⟨m++l,h1.append h3,h2.append h4⟩
theorem ny.mono {E E' : Env} {ρ ak:Ren} {a:List KV} {a' : List Value} (h:ny P E ρ a a') (hE:E.le E') (iY:ρ.le ak):ny P E' ak a a':=by
 obtain ⟨m,h1,h2⟩:=h;exact ⟨m,h1.mono hE,h2.mono iY⟩
theorem ny.len {E:Env} {ρ:Ren} {a:List KV} {a' : List Value} (h:ny P E ρ a a'):a'.length=a.length:=by
 obtain ⟨m,h1,h2⟩:=h;rw [h2.length,h1.length]
theorem D3:∀ {ks:List CK} {vs:List KV},au ks vs=true->vs.length=ks.length
 | [],[],_=>rfl
 | [],_::_,h=>by simp [au] at h
 | _::_,[],h=>by simp [au] at h
 | k::ks,v::vs,h=>by
  simp only [au,aj] at h;simp [D3 h.2]
theorem D5:∀ {ks ls:List CK} {vs us:List KV},au ks vs=true->au ls us=true->au (ks++ls) (vs++us)=true
 | [],_,[],_,_,h=>h
 | [],_,_::_,_,h,_=>by simp [au] at h
 | _::_,_,[],_,h,_=>by simp [au] at h
 | k::ks,ls,v::vs,us,h,h'=>by
  simp only [au,aj] at h;simp only [List.cons_append,au,aj];exact ⟨h.1,D5 h.2 h'⟩
theorem VV.sub {W:World} {cs ds:List Value} (h:VV W cs) (k:∀ v∈ds,v∈cs):VV W ds:=fun a n c hm=>h a n c (k _ hm)
theorem VW {cs:List Value} {i n:Nat} : ∀ v∈(cs.drop i).take n,v∈cs:=fun _ h=>List.mem_of_mem_drop (List.mem_of_mem_take h)
theorem SD (cs:List Value) (i m n:Nat):(cs.drop i).take m++(cs.drop (i+m)).take n=(cs.drop i).take (m+n):=by
 rw [List.take_add,List.drop_drop]
theorem Pz {n:Nat} (IH:TK enc P W n) {fuel:Nat} {cs:List Value} (hp:VV W cs):∀ (fs:List Field) (off k:Nat) (E:Env) (B:St) (ρ:Ren),KU P W E B ρ->VU P off fs=some k->k<=cs.length->(∀ f∈fs,wN P n f.type=true)->
  (∀ f∈fs,∃ x,DataW.trod enc P W 0 (fun _=>true) true fuel f.type ((cs.drop f.offset).take (P.cellsOf f.type))=some x/\∀ w∈DataW.weights P f.type x.1,w<=reachBytes)->
  off<=k/\Got P W E B ρ ((cs.drop off).take (k - off)) fun ks=>∀ m l,Iw (lay P m) fs off=some l->au l ks=true
 | [],off,k,E,B,ρ,hi,ht,hk,_,_=>by
  simp [VU] at ht; subst ht;refine ⟨ao _,E,B,ρ,[],hi,Env.le_refl _,Ren.le_refl _,?_,trivial,?_⟩
  ·rw [Nat.sub_self,List.take_zero]; exact ⟨[],.nil,.nil⟩
  ·intro m l h; simp [Iw] at h; subst h; rfl
 | f::fs,off,k,E,B,ρ,hi,ht,hk,he,hx=>by
  unfold VU at ht;cases hb:Nat.beq f.offset off with
  | false=>rw [hb] at ht; simp at ht
  | true=>
   rw [hb,ah] at ht;have Hb:=aD hb;obtain ⟨x,MU,FV⟩:=hx f (by simp);obtain ⟨E1,B1,fC,ks1,h1,h2,h3,h4,h5,h6⟩:=IH f.type (he f (by simp)) fuel _ x E B ρ MU FV (hp.sub VW) hi;obtain ⟨hle,E2,B2,nv,ks2,q1,q2,q3,q4,q5,q6⟩:=Pz IH hp fs (off+P.cellsOf f.type) k E1 B1 fC h1 ht hk (fun g hg=>he g (by simp [hg])) (fun g hg=>hx g (by simp [hg]));have hlen:ks1.length=P.cellsOf f.type:=by
    rw [<- h4.len,ju,List.length_drop,Hb];omega
   refine ⟨by omega,E2,B2,nv,ks1++ks2,q1,Env.le_trans h2 q2,Ren.le_trans h3 q3,?_,AY h5 q5,?_⟩
   ·have:=(h4.mono q2 q3).append q4
    rw [Hb,SD] at this;rw [show k - off=P.cellsOf f.type+(k - (off+P.cellsOf f.type)) by omega];exact this
   ·intro m l hl
    unfold Iw at hl;rw [hb,ah] at hl;obtain ⟨l1,AG,hl⟩:=aO.1 hl;obtain ⟨l2,iK,rfl⟩:=aU.1 hl;have ot:=h6 m l1 AG;have anW:=D3 ot;rw [<- anW,hlen] at iK;exact D5 ot (q6 m l2 iK)
theorem SE {n:Nat} (IH:TK enc P W n) {fuel len c:Nat} {e:TypeId} {cs:List Value} (hp:VV W cs) (he:wN P n e=true) (hc:P.cellsOf e=c) (hk:len * c<=cs.length) (hx:∀ i,i < len->∃ x,DataW.trod enc P W 0 (fun _=>true) true fuel e ((cs.drop (i * c)).take c)=some x/\∀ w∈DataW.weights P e x.1,w<=reachBytes) (hi:KU P W E B ρ):∀ j,j<=len->
  Got P W E B ρ (cs.take (j * c)) fun ks=>∀ m l,lay P m e=some l->au (cN l.ks j) ks=true
 | 0,_=>by
  refine ⟨E,B,ρ,[],hi,Env.le_refl _,Ren.le_refl _,?_,trivial,fun m l _=>rfl⟩;rw [Nat.zero_mul,List.take_zero]; exact ⟨[],.nil,.nil⟩
 | j+1,hj=>by
  obtain ⟨E1,B1,fC,ks1,h1,h2,h3,h4,h5,h6⟩:=SE IH hp he hc hk hx hi j (by omega);obtain ⟨x,MU,FV⟩:=hx j (by omega);obtain ⟨E2,B2,nv,ks2,q1,q2,q3,q4,q5,q6⟩:=IH e he fuel _ x E1 B1 fC MU FV (hp.sub VW) h1;refine ⟨E2,B2,nv,ks1++ks2,q1,Env.le_trans h2 q2,Ren.le_trans h3 q3,?_,AY h5 q5,?_⟩
  ·have:=(h4.mono q2 q3).append q4
   have e:=SD cs 0 (j * c) c;simp only [List.drop_zero,bG] at e;rw [e] at this;rw [show (j+1) * c=j * c+c by rw [Nat.succ_mul]];exact this
  ·intro m l hl
   have:cN l.ks (j+1)=cN l.ks j++l.ks:=by
    have comm:∀ n,l.ks++cN l.ks n=cN l.ks n++l.ks:=by
     intro n
     induction n with
     | zero=>simp [cN]
     | succ n ih=>simp only [cN,JT]; rw [ih]
    rw [<- comm]; rfl
   rw [this];exact D5 (h6 m l hl) (q6 m l hl)
theorem PA {a:Addr} {i k:Nat} {v:Value} (h:W.cell? ((a.add i).add k)=some v):W.cell? ⟨a.block,a.off+i+k,.none⟩=some v/\a.block < W.heap.size/\(i+k=0->a.spot = .none):=by
 have hb:((a.add i).add k).block=a.block:=by unfold Addr.add; split <;> split <;> rfl
 have ho:((a.add i).add k).off=a.off+i+k:=by
  unfold Addr.add;split <;> split <;> simp_all
 have hs:((a.add i).add k).spot = .none:=by
  unfold World.cell? at h;split at h
  ·split at h
   ·simp at h
   ·rename_i hs; simpa using hs
  ·simp at h
 have he:(a.add i).add k=⟨a.block,a.off+i+k,.none⟩:=by
  generalize (a.add i).add k=p at hb ho hs;obtain ⟨b,o,s⟩:=p;simp at hb ho hs;simp [hb,ho,hs]
 refine ⟨he ▸ h,?_,fun e=>?_⟩
 ·rw [he] at h
  unfold World.cell? at h;split at h
  ·rename_i heq
   exact (jg.1 heq).1
  ·simp at h
 ·have h1:i=0:=by omega
  have h2:k=0:=by omega
  subst h1 h2;simpa [Addr.add] using hs
theorem VX {a:Addr} {n:Nat} {cs:List Value} (h:W.cells? 0 a n=some cs):cs.length=n/\∀ (k:Nat) (v:Value),cs[k]? = some v->W.cell? (a.add k)=some v:=by
 unfold World.cells? at h;rw [ax (mc _)] at h;have hl:=mapM_some_length h;simp at hl;refine ⟨hl,fun k v hv=>?_⟩;have hk:k < n:=by rw [<- hl]; exact (cw.1 hv).1
 rw [mapM_some_get h k k (by simp [hk])];exact hv
theorem agd {ks:List KV} {agg:Bool} (h:xD P ks):KS P (HH agg ks):=by
 cases agg with
 | true=>exact h
 | false=>
  match ks,h with
  | [],_=>exact trivial
  | v::vs,h=>exact h.1
theorem LK {E:Env} {ρ:Ren} : ∀ {ks:List CK} {vs:List KV} {m:List Value},au ks vs=true->aK P E vs m->∀ v∈m,scalar v=true
 | [],[],m,_,h,v,hv=>by rw [h.bA] at hv; simp at hv
 | [],_::_,_,h,_,_,_=>by simp [au] at h
 | _::_,[],_,h,_,_,_=>by simp [au] at h
 | k::ks,u::vs,m,h,hm,v,hv=>by
  simp only [au,aj] at h;obtain ⟨y,ys,rfl,h1,h2⟩:=hm.cons_inv;rcases bd.1 hv with rfl | hv
  ·refine h1.scalar ?_
   have:=h.1;cases u <;> first | rfl | (cases k <;> simp [kindOk] at this)
  ·exact LK (ρ:=ρ) h.2 h2 v hv
theorem SF {n:Nat} (IH:TK enc P W n) {fuel len c:Nat} {e:TypeId} {l:Lay} {a:Addr} (he:wN P n e=true) (hl:lay P 12 e=some l) (AE:l.ks.length=c) (ha:l.agg=true\/l.ks.length=1) (hc:P.cellsOf e=c) (hc1:1<=c)
  (hx:∀ i,i < len->∃ x,(W.cells? 0 (a.add (i * c)) c).bind (DataW.trod enc P W 0 (fun _=>true) true fuel e)=some x/\∀ w∈DataW.weights P e x.1,w<=reachBytes) (hi:KU P W E B ρ):∀ j,j<=len->
  ∃ E' B' ak es us fl,KU P W E' B' ak/\E.le E'/\ρ.le ak/\es.length=j/\aK P E' es us/\dp l es=true/\xD P es/\fl.length=j * c/\mK c 0 fl us/\
   (∀ (i:Nat) (v:Value),fl[i]? = some v->∃ v',W.cell? ⟨a.block,a.off+i,.none⟩=some v'/\VR ak v v'/\scalar v=true)/\(0 < j->a.block < W.heap.size/\a.spot = .none)
 | 0,_=>⟨E,B,ρ,[],[],[],hi,Env.le_refl _,Ren.le_refl _,rfl,.nil,rfl,trivial,by simp,fun i x h=>by simp at h,fun i v h=>by simp at h,fun h=>by omega⟩
 | j+1,hj=>by
  obtain ⟨E1,B1,fC,es,us,fl,h1,h2,h3,h4,h5,h6,h7,h8,h9,qg,Vc⟩:=SF IH he hl AE ha hc hc1 hx hi j (by omega);obtain ⟨x,MU,FV⟩:=hx j (by omega);obtain ⟨cs,AD,hx2⟩:=aO.1 MU;obtain ⟨hlen,fv⟩:=VX AD;have Aj:a.block < W.heap.size:=by
   have h0:0 < cs.length:=by rw [hlen]; omega
   exact (PA (fv 0 _ (cl h0))).2.1
  obtain ⟨E2,B2,nv,ks,q1,q2,q3,⟨m,q4,q4'⟩,q5,q6⟩:=IH e he fuel cs x E1 B1 fC hx2 FV (fun _ _ _ _=>by omega) h1;have hk:=q6 12 l hl;have S8:m.length=c:=by rw [q4.length,D3 hk,AE]
  have uM:l.agg=true\/m.length=1:=by rw [S8,<- AE]; exact ha
  have yY:=LK (ρ:=ρ) hk q4;have la:=Ve yY uM;have hul:us.length=j:=by rw [h5.length,h4]
  refine ⟨E2,B2,nv,es++[HH l.agg ks],us++[mkE l.agg m],fl++m,q1,Env.le_trans h2 q2,Ren.le_trans h3 q3,by simp [h4],(h5.mono q2).append (.cons (Vf q4 uM) .nil),?_,AY h7 ⟨agd q5,trivial⟩,?_,?_,?_,fun _=>⟨Aj,?_⟩⟩
  ·have:∀ {es:List KV},dp l es=true->dp l (es++[HH l.agg ks])=true:=by
    intro es
    induction es with
    | nil=>intro _; simp [dp,Q5 hk ha]
    | cons e es ih=>
     intro h;simp only [dp,aj] at h;simp only [List.cons_append,dp,aj];exact ⟨h.1,ih h.2⟩
   exact this h6
  ·rw [gd,h8,S8,Nat.succ_mul]
  ·intro i y hy
   by_cases hi:i < j
   ·rw [nE (by omega)] at hy
    obtain ⟨r1,r2⟩:=h9 i y hy;refine ⟨r1,fun k z hz=>?_⟩;have:=r2 k z hz;rw [nE (cw.1 this).1];exact this
   ·rw [o3 (by omega),hul] at hy
    have hij:i=j:=by
     have:=(cw.1 hy).1;simp at this;omega
    subst hij;simp at hy;subst hy;have cT:(mkE l.agg m).cells.size=c:=by rw [<- Array.length_toList,la,S8]
    refine ⟨cT,fun k z hz=>?_⟩;rw [<- Array.getElem?_toList,la] at hz;rw [o3 (by rw [h8]; omega),h8,show 0+i * c+k - i * c=k by omega];exact hz
  ·intro i v hv
   by_cases hi:i < fl.length
   ·rw [nE hi] at hv
    obtain ⟨v',r1,r2,r3⟩:=qg i v hv;exact ⟨v',r1,r2.mono q3,r3⟩
   ·rw [o3 (by omega)] at hv
    obtain ⟨v',r1,r2⟩:=q4'.get hv;refine ⟨v',?_,r2,yY v (eS hv)⟩;have:=(PA (fv _ _ r1)).1;rw [h8] at this;rw [h8] at hi;rw [show a.off+i=a.off+j * c+(i - j * c) by omega];exact this
  ·by_cases h0:j=0
   ·subst h0
    have h0:0 < cs.length:=by rw [hlen]; omega
    exact (PA (fv 0 _ (cl h0))).2.2 (by omega)
   ·exact (Vc (by omega)).2
theorem zQ {e:TypeId} : ∀ {l:List (DataW H)} {d:DataW H},d∈l->∀ w∈DataW.weights P e d,w∈DataW.weightsAll P e l
 | [],_,h,_,_=>by simp at h
 | x::l,d,h,w,hw=>by
  simp only [DataW.weightsAll,eX];rcases bd.1 h with rfl | h
  ·exact .inl hw
  ·exact .inr (zQ h w hw)
theorem acr:∀ n,TK enc P W n
 | 0=>fun t ht=>by simp [wN] at ht
 | n+1=>by
  have IH:=acr n;intro t ht fuel cs x E B ρ hx hz hp hi;have hn:∀ {m l},lay P m t=some l->∃ m',m=m' + 1:=by
   intro m l h;cases m with
   | zero=>simp [lay] at h
   | succ m=>exact ⟨m,rfl⟩
  unfold wN at ht;split at ht
  ·rename_i k hu
   obtain ⟨i,rfl,_,hw⟩:=DataW.trod_int hu hx;refine ⟨E,B,ρ,[.int k i],hi,Env.le_refl _,Ren.le_refl _,⟨_,.cons .mkInt .nil,.cons (by simp [VR]) .nil⟩,⟨hw,trivial⟩,fun m l h=>?_⟩;obtain ⟨m',rfl⟩:=hn h;simp only [lay,hu,aR] at h;subst h;simp [au,kindOk]
  ·rename_i hu
   obtain ⟨b,rfl,_⟩:=DataW.trod_bool hu hx;refine ⟨E,B,ρ,[.bool b],hi,Env.le_refl _,Ren.le_refl _,⟨_,.cons .nH .nil,.cons (by simp [VR]) .nil⟩,⟨trivial,trivial⟩,fun m l h=>?_⟩;obtain ⟨m',rfl⟩:=hn h;simp only [lay,hu,aR] at h;subst h;simp [au,kindOk]
  ·rename_i hu
   obtain ⟨s,rfl,_,hw⟩:=DataW.trod_string hu hx;refine ⟨E,B,ρ,[.str s],hi,Env.le_refl _,Ren.le_refl _,⟨_,.cons .mkStr .nil,.cons (by simp [VR]) .nil⟩,⟨hw,trivial⟩,fun m l h=>?_⟩;obtain ⟨m',rfl⟩:=hn h;simp only [lay,hu,aR] at h;subst h;simp [au,kindOk]
  ·rename_i e hu
   simp only [aj] at ht;obtain ⟨⟨AK,DJ⟩,ht3⟩:=ht;have hc1:=cM AK;split at ht3
   ·rename_i l hl
    simp only [aj,oh] at ht3;have AE:=aD ht3.1;have uM:l.agg=true\/l.ks.length=1:=ht3.2.imp id aD;have hlF:aH P e=l:=by simp [aH,hl]
    have cT:aI P e=P.cellsOf e:=by rw [aI,hlF,AE]
    have fin:∀ {ks:List KV} {m:Nat} {l' : Lay} {mk:Mk} {nn:Nat} {es:List KV} {acc:Nat->KV},mk = .any->lay P m t=some l'->ks = [.ts e mk nn es acc]->au l'.ks ks=true:=by
     intro ks m l' mk nn es acc KN h nu;obtain ⟨m',rfl⟩:=hn h;simp only [lay,hu,aR] at h;subst h nu KN;simp [au,kindOk]
    rcases DataW.trod_slice hu hx with ⟨rfl,_⟩ | ⟨a,len,cap,elems,rest,fu,_,rfl,Um,_,hle,afe,wA,hE,hR,_⟩
    ·refine ⟨E,B,ρ,[.ts e .any 0 [] mJ],hi,Env.le_refl _,Ren.le_refl _,⟨[.slice .none 0 0],.cons ?_ .nil,.cons (by simp [VR]) .nil⟩,⟨⟨mc _,trivial,rfl,by rw [Nat.zero_mul]; exact mc _⟩,trivial⟩,fun m l h=>fin rfl h rfl⟩
     simp only [VK];exact ⟨⟨rfl,fun i h=>by omega,rfl⟩,[],.nil,.none,0,rfl,ao _,.inl ⟨rfl,rfl⟩,trivial⟩
    ·have akV:len * P.bytesOf e<=reachBytes:=by
      refine dA (Nat.mul_le_mul_right _ ?_) (hz ((elems.length+rest.length) * P.bytesOf e) ?_)
      ·omega
      ·rw [Um]; simp [DataW.weights,hu]
     have hxs:∀ i,i < len->∃ x,(W.cells? 0 (a.add (i * P.cellsOf e)) (P.cellsOf e)).bind (DataW.trod enc P W 0 (fun _=>true) true fu e)=some x/\∀ w∈DataW.weights P e x.1,w<=reachBytes:=by
      intro i h;rw [hE i h];have hi:i < elems.length:=by rw [wA]; exact h
      refine ⟨_,cl hi,fun w hw=>hz w ?_⟩;rw [Um];have:=zQ (l:=elems.map (·.1)) (vR.2 ⟨_,JU hi,rfl⟩) w hw;simp only [DataW.weights,hu,bd,eX];exact .inr (.inl this)
     obtain ⟨E1,B1,fC,es,us,fl,h1,h2,h3,h4,h5,h6,h7,h8,h9,qg,Vc⟩:=SF IH DJ hl AE uM rfl hc1 hxs hi len (ao _);have tV:0 < cap->a.block < W.heap.size/\a.spot = .none:=by
      intro h0;by_cases Ez:0 < len
      ·exact Vc Ez
      ·have Ez:len=0:=by omega
       subst Ez;obtain ⟨hr1,pQ⟩:=hR rfl;have hr3:=pQ 0 (by omega);rw [cl (by rw [hr1]; omega)] at hr3;obtain ⟨bX,aiw,_⟩:=aO.1 hr3;obtain ⟨hlen,fv⟩:=VX aiw;have h0:0 < bX.length:=by rw [hlen]; omega
       have:=PA (fv 0 _ (cl h0));exact ⟨this.2.1,this.2.2 (by omega)⟩
     have hh:0 < W.heap.size:=hp a len cap (by simp);have hlenes:us.length=len:=by rw [h5.length,h4]
     have afg:∃ lc:az.Loc,lc.aQ=P.cellsOf e/\lc.cb < W.heap.size/\lc.cf+fl.length<=lc.rW/\(cap≠0->a=⟨lc.cb,lc.cf,.none⟩)/\lc.cf+cap * lc.aQ<=lc.rW/\
       (∀ (i:Nat) (v:Value),fl[i]? = some v->∃ v',W.cell? ⟨lc.cb,lc.cf+i,.none⟩=some v'/\VR fC v v'/\scalar v=true):=by
      by_cases h0:cap=0
      ·subst h0
       have Ez:len=0:=by omega
       subst Ez;refine ⟨⟨0,0,0,P.cellsOf e⟩,rfl,hh,by simp [h8],fun h=>absurd rfl h,by simp,fun i v hv=>?_⟩;have:fl = []:=by apply List.eq_nil_of_length_eq_zero; simp [h8]
       rw [this] at hv; simp at hv
      ·obtain ⟨p1,p2⟩:=tV (by omega)
       refine ⟨⟨a.block,a.off,a.off+cap * P.cellsOf e,P.cellsOf e⟩,rfl,p1,?_,fun _=>?_,ao _,qg⟩
       ·rw [h8]; exact Nat.add_le_add_left (Nat.mul_le_mul_right _ hle) _
       ·obtain ⟨b,o,s⟩:=a
        simp at p2;simp [p2]
     obtain ⟨lc,l1,l2,l3,l4,l5,l6⟩:=afg;obtain ⟨i1,i2,i3⟩:=h1.add l6 l2 l3;refine ⟨_,_,_,[.ts e .any len es (qj es)],i1,Env.le_trans h2 i2,Ren.le_trans h3 i3,⟨[.slice (some ⟨B1.next,0,.none⟩) len len],.cons ?_ .nil,.cons ?_ .nil⟩,⟨⟨by omega,h7,rfl,akV⟩,trivial⟩,fun m l h=>fin rfl h rfl⟩
     ·simp only [VK]
      refine ⟨⟨h4.symm,fun i _=>rfl,by rw [hlF]; exact h6⟩,us,h5.mono i2,some ⟨B1.next,0,.none⟩,len,rfl,ao _,.inr ⟨B1.next,0,⟨fl,lc.aQ,false,.none⟩,rfl,by simp [Env.dW],by rw [l1,cT],?_⟩,trivial⟩;rw [cT];exact h9
     ·simp only [VR]
      exact ⟨trivial,ao _,lc,a,cap,by simp [Ren.set],hle,fun h=>by simpa using l4 h,by simpa using l5,rfl⟩
   ·simp at ht3
  ·rename_i fs hu
   simp only [aj,dU] at ht;split at ht
   ·rename_i k hk
    have hkc:=aD ht.2;obtain ⟨xs,fu,_,Um,hlen,hxs,hf⟩:=DataW.trod_struct hu hx;have hff:∀ f∈fs.toList,∃ x,DataW.trod enc P W 0 (fun _=>true) true fu f.type ((cs.drop f.offset).take (P.cellsOf f.type))=some x/\∀ w∈DataW.weights P f.type x.1,w<=reachBytes:=by
     intro f hm;obtain ⟨i,KK⟩:=List.getElem?_of_mem hm;have hi2:fs[i]? = some f:=by simpa using KK
     have aJ:i < xs.length:=by rw [hxs]; exact (jg.1 hi2).1
     refine ⟨xs[i],by rw [hf i f hi2]; exact cl aJ,fun w hw=>hz w ?_⟩;rw [Um];simp only [DataW.weights,hu];exact DataW.weights_mem_each (j:=i) (t:=f.type) (d:=xs[i].1) (by rw [mf,KK]; rfl) (by rw [mf,cl aJ]; rfl) w hw
    obtain ⟨_,E1,B1,fC,ks,h1,h2,h3,h4,h5,h6⟩:=Pz IH hp fs.toList 0 k E B ρ hi hk (by rw [hkc,hlen]; exact ao _) ht.1 hff;refine ⟨E1,B1,fC,ks,h1,h2,h3,?_,h5,fun m l h=>?_⟩
    ·have e:(cs.drop 0).take (k - 0)=cs:=by rw [List.drop_zero,Nat.sub_zero,hkc,<- hlen,List.take_length]
     rw [e] at h4;exact h4
    ·obtain ⟨m',rfl⟩:=hn h
     simp only [lay,hu,aU] at h;obtain ⟨l',iJ,rfl⟩:=h;exact h6 m' l' iJ
   ·simp at ht
  ·rename_i len e hu
   simp only [aj] at ht;have hkc:=aD ht.2;obtain ⟨xs,fu,_,Um,hlen,hxs,hf⟩:=DataW.trod_array hu hx;have hff:∀ i,i < len->∃ x,DataW.trod enc P W 0 (fun _=>true) true fu e ((cs.drop (i * P.cellsOf e)).take (P.cellsOf e))=some x/\∀ w∈DataW.weights P e x.1,w<=reachBytes:=by
    intro i h;have hi:i < xs.length:=by rw [hxs]; exact h
    refine ⟨xs[i],by rw [hf i h]; exact cl hi,fun w hw=>hz w ?_⟩;rw [Um];simp only [DataW.weights,hu];exact zQ (l:=xs.map (·.1)) (vR.2 ⟨_,JU hi,rfl⟩) w hw
   obtain ⟨E1,B1,fC,ks,h1,h2,h3,h4,h5,h6⟩:=SE IH hp ht.1 rfl (by rw [hlen,hkc]; exact ao _) hff hi len (ao _);refine ⟨E1,B1,fC,ks,h1,h2,h3,?_,h5,fun m l h=>?_⟩
   ·rw [<- hkc,<- hlen,List.take_length] at h4
    exact h4
   ·obtain ⟨m',rfl⟩:=hn h
    simp only [lay,hu,aU] at h;obtain ⟨l',iJ,rfl⟩:=h;exact h6 m' l' iJ
  ·simp at ht
end
end Go.K
end
section
namespace Go.K
open Go Go.az Go.WideShapes
mutual
def zR (P:Program):KV->Prop
 | .ts T _ n es acc=>fP P T n es acc/\uB P es
 | .agg cs=>uB P cs
 | _=>True
def uB (P:Program):List KV->Prop
 | []=>True
 | v::vs=>zR P v/\uB P vs
end
mutual
theorem VK.deep {P:Program} {E:Env} : ∀ {v:KV} {u:Value},VK P E v u->zR P v
 | .ts T m n es acc,u,h=>by
  obtain ⟨h1,us,h2,_⟩:=h.jz;exact ⟨h1,aK.deep h2⟩
 | .agg cs,u,h=>by
  obtain ⟨l,_,h1⟩:=h.jr;exact aK.deep (vs:=cs) h1
 | .int _ _,_,_ | .bool _,_,_ | .str _,_,_ | .ng _,_,_ | .tp ..,_,_ | .ptr ..,_,_ | .al ..,_,_ | .ap ..,_,_ | .sl ..,_,_ | .Al,_,_ | .jd,_,_ | .wk,_,_ | .map _,_,_ | .fn ..,_,_ | .BF,_,_ | .iface ..,_,_ | .BG,_,_ | .bz,_,_=>trivial
theorem aK.deep {P:Program} {E:Env} : ∀ {vs:List KV} {us:List Value},aK P E vs us->uB P vs
 | [],_,_=>trivial
 | v::vs,us,h=>by
  simp only [aK] at h;obtain ⟨y,ys,_,h1,h2⟩:=h;exact ⟨VK.deep h1,aK.deep h2⟩
end
def jQ (P:Program):List TypeId->List KV->Bool
 | [],[]=>true
 | t::ts,v::vs=>ca (aH P t) v&&jQ P ts vs
 | _,_=>false
theorem SG {P:Program} : ∀ {ts:List TypeId} {aow:List KV},jQ P ts aow=true->aow.length=ts.length
 | [],[],_=>rfl
 | [],_::_,h=>by simp [jQ] at h
 | _::_,[],h=>by simp [jQ] at h
 | t::ts,v::vs,h=>by
  simp only [jQ,aj] at h;simp [SG h.2]
def PB (P:Program) (t:TypeId):Bool:=wN P 30 t&&(match lay P 12 t with
 | some l=>Nat.beq l.ks.length (P.cellsOf t)
 | .none=>false)
section
variable {H:Type} {enc:TypeId×Value->H} {P:Program} {W:World}
theorem aac {r:Reach} {base:Nat} {t:TypeId} {v:Value} (h:Value.okWide P W r base t v):VV W v.cells.toList:=by
 intro a n c hm;have cell:∀ u,Cell.okWide P W r base u (.slice (some a) n c)->0 < W.heap.size:=by
  intro u hu;unfold Cell.okWide at hu;split at hu <;> try (rename_i heq; simp at heq; done)
  unfold Cell.ok at hu;split at hu <;> try (rename_i heq; simp at heq; done)
  ·rename_i e heq
   simp at heq;obtain ⟨rfl,rfl,rfl⟩:=heq;obtain ⟨_,_,_,_,row,cells,hs,_⟩:=hu;unfold World.shape? at hs;split at hs
   ·rename_i hh
    have:=(jg.1 hh).1;omega
   ·simp at hs
  ·exact hu.elim
 unfold Value.okWide at h;split at h
 ·obtain ⟨cs,rfl,_,ts,_,_,hc⟩:=h
  obtain ⟨i,hi⟩:=List.getElem?_of_mem hm;obtain ⟨u,_,hu⟩:=hc i _ (by simpa [Value.cells] using hi);exact cell u hu
 ·obtain ⟨cs,rfl,_,ts,_,_,hc⟩:=h
  obtain ⟨i,hi⟩:=List.getElem?_of_mem hm;obtain ⟨u,_,hu⟩:=hc i _ (by simpa [Value.cells] using hi);exact cell u hu
 ·have hv:v.cells.toList = [v]\/∃ cs,v = .agg cs:=by cases v <;> first | exact .inl rfl | exact .inr ⟨_,rfl⟩
  rcases hv with hv | ⟨cs,rfl⟩
  ·rw [hv] at hm
   simp at hm;subst hm;exact cell t h
  ·exfalso
   unfold Cell.okWide at h;split at h <;> try (rename_i heq; simp at heq; done)
   unfold Cell.ok at h;split at h <;> first | (rename_i heq; simp at heq; done) | exact h.elim
theorem ahp {E:Env} {B:St} {ρ:Ren} {t:TypeId} {v:Value} {d:DataW H} {ps:List MemPlace} {r:Reach} {base:Nat} (ht:PB P t=true) (hd:DataW.Trod enc P W 0 (fun _=>true) true t v d ps) (hz:∀ w∈DataW.weights P t d,w<=reachBytes) (hw:Value.okWide P W r base t v) (hi:KU P W E B ρ) :
  ∃ E' B' ak a,KU P W E' B' ak/\E.le E'/\ρ.le ak/\VC P E' ak a v/\ca (aH P t) a=true/\KS P a:=by
 unfold PB at ht;simp only [aj] at ht;obtain ⟨AK,DJ⟩:=ht;split at DJ
 ·rename_i l hl
  obtain ⟨fuel,hf⟩:=hd;obtain ⟨E1,B1,fC,ks,h1,h2,h3,⟨m,h4,h4'⟩,h5,h6⟩:=acr 30 t AK fuel _ _ E B ρ hf hz (aac hw) hi;have hk:=h6 12 l hl;have hlF:aH P t=l:=by simp [aH,hl]
  have age:(l.agg=true/\∃ cs:Array Value,v = .agg cs)\/(l.agg=false/\l.ks.length=1/\v.cells.toList = [v]):=by
   unfold wN at AK;split at AK
   ·rename_i k hu
    obtain ⟨n,rfl⟩:=okWide_int hu hw;simp only [lay,hu,aR] at hl;subst hl; exact .inr ⟨rfl,rfl,rfl⟩
   ·rename_i hu
    obtain ⟨n,rfl⟩:=okWide_bool hu hw;simp only [lay,hu,aR] at hl;subst hl; exact .inr ⟨rfl,rfl,rfl⟩
   ·rename_i hu
    obtain ⟨n,rfl⟩:=okWide_string hu hw;simp only [lay,hu,aR] at hl;subst hl; exact .inr ⟨rfl,rfl,rfl⟩
   ·rename_i e hu
    obtain ⟨a,n,c,rfl⟩:=okWide_slice hu hw;simp only [lay,hu,aR] at hl;subst hl; exact .inr ⟨rfl,rfl,rfl⟩
   ·rename_i fs hu
    simp only [lay,hu,aU] at hl;obtain ⟨_,_,rfl⟩:=hl;unfold Value.okWide at hw;rw [hu] at hw;obtain ⟨cs,rfl,_⟩:=hw;exact .inl ⟨rfl,cs,rfl⟩
   ·rename_i len e hu
    simp only [lay,hu,aU] at hl;obtain ⟨_,_,rfl⟩:=hl;unfold Value.okWide at hw;rw [hu] at hw;obtain ⟨cs,rfl,_⟩:=hw;exact .inl ⟨rfl,cs,rfl⟩
   ·simp at AK
  refine ⟨E1,B1,fC,HH l.agg ks,h1,h2,h3,?_,?_,agd h5⟩
  ·rcases age with ⟨ha,cs,rfl⟩ | ⟨ha,hlen,hv⟩
   ·rw [ha]
    exact ⟨.agg ⟨m⟩,.ns h4,VR.ns (l':=cs.toList) h4'⟩
   ·rw [ha]
    rw [hv] at h4';have S8:m.length=1:=by have:=h4'.length; simpa using this.symm
    have:=Vf (agg:=false) h4 (.inr S8)
    match m,S8,h4',this with
    | [y],_,h4',this=>
     obtain ⟨z,zs,e,q1,_⟩:=h4'.cons_inv;simp at e;refine ⟨y,this,?_⟩;rw [e.1]; exact q1
  ·rw [hlF]
   exact Q5 hk (age.imp (·.1) (·.2.1))
 ·simp at DJ
theorem VY {r:Reach} {base:Nat} : ∀ {ts:List TypeId} {vs:List Value} {ds:List (DataW H)} {ps:List MemPlace} {E:Env} {B:St} {ρ:Ren},(∀ t∈ts,PB P t=true)->DataW.TrodAll enc P W 0 (fun _=>true) true ts vs ds ps->(∀ w∈DataW.weightsEach P ts ds,w<=reachBytes)->
  (∀ (j:Nat) t v,ts[j]? = some t->vs[j]? = some v->Value.okWide P W r base t v)->KU P W E B ρ->∃ E' B' ak aow,KU P W E' B' ak/\E.le E'/\ρ.le ak/\ny P E' ak aow vs/\jQ P ts aow=true/\xD P aow
 | [],vs,ds,ps,E,B,ρ,_,h,_,_,hi=>by
  obtain ⟨rfl,_,_⟩:=Go.ChangeShapes.trodAll_nil h;exact ⟨E,B,ρ,[],hi,Env.le_refl _,Ren.le_refl _,⟨[],.nil,.nil⟩,rfl,trivial⟩
 | t::ts,vs,ds,ps,E,B,ρ,ht,h,hz,hw,hi=>by
  obtain ⟨v,Z8,d,ds1,a,b,rfl,rfl,rfl,h1,h2⟩:=Go.ChangeShapes.trodAll_cons h;obtain ⟨E1,B1,fC,x,q1,q2,q3,⟨u,q4,q4'⟩,q5,q6⟩:=ahp (ht t (by simp)) h1 (fun w hw=>hz w (by simp only [DataW.weightsEach,eX]; exact .inl hw)) (hw 0 t v rfl rfl) hi;obtain ⟨E2,B2,nv,xs,p1,p2,p3,⟨m,p4,p4'⟩,p5,p6⟩:=VY (fun t' h'=>ht t' (by simp [h'])) h2 (fun w hw=>hz w (by simp only [DataW.weightsEach,eX]; exact .inr hw)) (fun j t' v' h3 h4=>hw (j+1) t' v' (by simpa using h3) (by simpa using h4)) q1;exact ⟨E2,B2,nv,x::xs,p1,Env.le_trans q2 p2,Ren.le_trans q3 p3,⟨u::m,.cons (q4.mono p2) p4,.cons (q4'.mono p3) p4'⟩,by simp [jQ,q5,p5],⟨q6,p6⟩⟩
theorem LL:∀ {ts us:List TypeId} {ds gs:List (DataW H)},∀ w∈DataW.weightsEach P ts ds,w∈DataW.weightsEach P (ts++us) (ds++gs)
 | [],_,_,_,w,h=>by simp [DataW.weightsEach] at h
 | _::_,_,[],_,w,h=>by simp [DataW.weightsEach] at h
 | t::ts,us,d::ds,gs,w,h=>by
  simp only [List.cons_append,DataW.weightsEach,eX] at h ⊢;exact h.imp id (LL w)
theorem acs {ts us:List TypeId} {ds gs:List (DataW H)} (h:(DataW.weightsEach P (ts++us) (ds++gs)).all (·<=reachBytes)=true):∀ w∈DataW.weightsEach P ts ds,w<=reachBytes:=fun w hw=>by
 have:=dU.1 h w (LL w hw);simpa using this
theorem akW (hP:P.funcs.toList.all gh=true) (hm:P.follows .mixedOrders=true) {cfg:fV} (eV:oX P cfg.pc) (gE:pt P cfg) {L n:Nat} {f:FuncId} {ts:List TypeId} (hts:ts.all (PB P)=true)
  (gU:∀ aow,jQ P ts aow=true->xD P aow->uB P aow->x8 P cfg L n f (normArgs P ts aow)=some (.bool true)) {args:Array Value} {ds:List (DataW H)} {ps:List MemPlace} {r:Reach} {base:Nat}
  (hd:DataW.TrodAll enc P W 0 (fun _=>true) true ts args.toList ds ps) (hz:∀ w∈DataW.weightsEach P ts ds,w<=reachBytes) (hw:∀ (j:Nat) t v,ts[j]? = some t->args.toList[j]? = some v->Value.okWide P W r base t v) :
  Calls P f args W fun e w'=>e = .returned (.bool true)/\RowKit.Below W.heap.size W w':=by
 obtain ⟨E,B,ρ,aow,h1,_,_,h4,h5,h6⟩:=VY (dU.1 hts) hd hz hw (KU.start P W);have Rg:uB P aow:=by obtain ⟨m,q,_⟩:=h4; exact q.deep
 have ky:=gU aow h5 h6 Rg;have h4:ny P E ρ (normArgs P ts aow) args.toList:=by
  obtain ⟨m,q,q'⟩:=h4;exact ⟨m,aK.Gu (.of rfl) q (SG h5),q'⟩
 have uW:=oT (R:=KV) hP hm eV gE L n;obtain ⟨fn,c,hf,hc,bM,hnm,ky⟩:=I6 hP ky;have:=Gs eV uW hm L hf hc bM (gE.2 f fn c hf hc) ky h4 (base:=W.heap.size) (w:=W) ⟨h1.k,h1.dI⟩;refine this.mono ?_;rintro e w' ⟨vs,bw,E1,A1,B1,fC,rfl,⟨m,q1,q1'⟩,q2,q3⟩;have q3:Bool.rec (motive:=fun _=>Option KV) .none (some (BH (sQ P (ph P f) (xz A1 vs).1))) (Nat.beq vs.length (ph P f).length)=some (.bool true):=q3;obtain ⟨E2,_,q1⟩:=C8 q2.dI q1;cases hb:Nat.beq vs.length (ph P f).length with
 | false=>rw [hb] at q3; exact absurd q3 (by simp)
 | true=>
  rw [hb] at q3;have q3:some (BH (sQ P (ph P f) (xz A1 vs).1))=some (.bool true):=q3;simp only [aR] at q3;have hv:VC P E2 fC (BH (sQ P (ph P f) (xz A1 vs).1)) (Z1 bw):=I5 ⟨m,by rw [BS]; exact aK.Gu (.of rfl) q1 ((Gp A1 vs).trans (aD hb)),q1'⟩;rw [q3] at hv;have hg:=q2.gD;refine ⟨by rw [hv.dr],hg.kept.os,hg.kept.tape,hg.kept.output,hg.kept.size,fun k hk=>hg.kept.block k hk ?_⟩;rintro ⟨b,o,l,ho,wb,_⟩;rw [(h1.nt b o ho).1] at wb;simp at wb
end
noncomputable def Yv:List (Nat×(List KV->KR KV))->FuncId->Option (List KV->KR KV)
 | [],_=>.none
 | p::ps,g=>cond (Nat.beq p.1 g) (some p.2) (Yv ps g)
theorem agf {P:Program} : ∀ {ps:List (Nat×(List KV->KR KV))},(∀ p∈ps,cA P p.1 p.2)->oX P (Yv ps)
 | [],_=>fun g F h=>by simp [Yv] at h
 | p::ps,h=>fun g F hF=>by
  unfold Yv at hF;cases hb:Nat.beq p.1 g with
  | true=>
   rw [hb] at hF;simp only [ah,aR] at hF;have:=aD hb;subst this hF;exact h p (by simp)
  | false=>
   rw [hb] at hF;exact agf (fun q hq=>h q (rB _ hq)) g F hF
theorem acu (l:Lay):ca l .bz=false:=by
 show (!l.agg&&au l.ks [.bz])=false;cases l.ks with
 | nil=>simp [au]
 | cons c cs=>cases c <;> simp [au,kindOk]
theorem aem {P:Program} {t:TypeId} {v:KV} (h:ca (aH P t) (OU P t v)=true):∃ w,OU P t v=gW P (bU P df) t w:=by
 unfold OU at h ⊢;cases hb:ca (aH P t) (dv (aH P t) v) with
 | false=>rw [hb,ay,acu] at h; simp at h
 | true=>exact ⟨dv (aH P t) v,rfl⟩
theorem GD:∀ {ks:List CK} {cs:List KV},au ks cs=true->wm ks cs=cs
 | [],[],_=>rfl
 | [],_::_,h=>by simp [au] at h
 | _::_,[],h=>by simp [au] at h
 | k::ks,v::vs,h=>by
  simp only [au,aj] at h;have e:kP k v=v:=by
   unfold kP;split
   ·simp [kindOk] at h
   ·rename_i t t' m n es acc
    cases m <;> simp [kindOk] at h;obtain ⟨rfl,_⟩:=h;rw [p8,ah]
   ·rw [h.1]; rfl
  rw [wm,e,GD h.2]
theorem acv {l:Lay} {v:KV} (h:ca l v=true):dv l v=v:=by
 by_cases ha:∃ cs,v = .agg cs
 ·obtain ⟨cs,rfl⟩:=ha
  simp only [ca,aj] at h;show cond (l.agg&&Nat.beq cs.length l.ks.length) (KV.agg (wm l.ks cs)) .bz=_;rw [h.1,ou h.2,GD h.2];simp
 ·have h1:(!l.agg&&au l.ks [v])=true:=by
   cases v <;> first | exact h | exact absurd ⟨_,rfl⟩ ha | simp [ca] at h
  simp only [aj,iy] at h1;have e:dv l v=cond l.agg .bz (match l.ks with | [c]=>kP c v | _=>.bz):=by
   cases v <;> first | rfl | exact absurd ⟨_,rfl⟩ ha
  rw [e,h1.1,ay]
  match hk:l.ks,h1.2 with
  | [c],h2=>
   have:=GD h2;simpa [wm] using this
  | [],h2=>simp [au] at h2
  | _::_::_,h2=>simp [au] at h2
theorem aen {P:Program} {t:TypeId} {v:KV} (h:ca (aH P t) v=true):OU P t v=gW P (bU P df) t v:=by
 unfold OU;rw [acv h,h,ah]
noncomputable def pz (P:Program):List TypeId->(Nat->KV)->Nat->List KV
 | [],_,_=>[]
 | t::ts,w,k=>gW P (bU P df) t (w k)::pz P ts w (Nat.succ k)
theorem PC {P:Program} : ∀ {ts:List TypeId} {w w' : Nat->KV} {k:Nat},(∀ i,k<=i->w i=w' i)->pz P ts w k=pz P ts w' k
 | [],_,_,_,_=>rfl
 | t::ts,w,w',k,h=>by
  rw [pz,pz,h k (ao _),PC fun i hi=>h i (by omega)]
theorem Ca {P:Program} : ∀ {ts:List TypeId} {aow:List KV} (k:Nat),jQ P ts (normArgs P ts aow)=true->∃ w,normArgs P ts aow=pz P ts w k
 | [],aow,k,_=>⟨fun _=>.bz,by cases aow <;> rfl⟩
 | t::ts,[],k,h=>by simp [normArgs,jQ] at h
 | t::ts,v::vs,k,h=>by
  simp only [normArgs,jQ,aj] at h;obtain ⟨w,hw⟩:=aem h.1;obtain ⟨w',hw'⟩:=Ca (k+1) h.2;refine ⟨fun i=>if i=k then w else w' i,?_⟩;rw [normArgs,pz,hw,hw',ax rfl];rw [PC (w:=w') (w':=fun i=>if i=k then w else w' i) fun i hi=>by rw [ae (by omega)]]
theorem VZ {P:Program} : ∀ {ts:List TypeId} {aow:List KV} (k:Nat) {w:Nat->KV},jQ P ts aow=true->(∀ i,i < aow.length->w (k+i)=aow.getD i .bz)->normArgs P ts aow=pz P ts w k
 | [],[],k,_,_,_=>rfl
 | [],_::_,_,_,h,_=>by simp [jQ] at h
 | _::_,[],_,_,h,_=>by simp [jQ] at h
 | t::ts,v::vs,k,w,h,hw=>by
  simp only [jQ,aj] at h;rw [normArgs,pz,aen h.1,VZ (k+1) (w:=w) h.2 fun i hi=>by have:=hw (i+1) (by simp; omega); rw [show k+1+i=k+(i+1) by omega,this]; rfl];have:=hw 0 (by simp);rw [p7] at this;rw [this]; rfl
noncomputable def cI (P:Program) (g:FuncId) (F:List KV->KR KV):List KV->KR KV:=fun aow=>cond (jQ P (bL P g) aow) (F aow) .no
theorem ajC {P:Program} {g:FuncId} {F:List KV->KR KV} (hP:P.funcs.toList.all gh=true) (hm:P.follows .mixedOrders=true) {cfg:fV} (eV:oX P cfg.pc) (gE:pt P cfg) {L n:Nat}
  (h:∀ w v,aA (F (pz P (bL P g) w 0)) v->x8 P cfg L n g (pz P (bL P g) w 0)=some v) (hy:Nat.blt g yB=true:=by rfl):cA P g (cI P g F):=
 ajj hy hP hm fun aow v _ hF=>by
  unfold cI at hF;obtain ⟨hb,hF⟩:=aA.cond hF;obtain ⟨w,hw⟩:=Ca 0 hb;rw [hw] at hF ⊢;exact ⟨cfg,L,n,eV,gE,h w v hF⟩
noncomputable def ajD (P:Program) (d:CD) (w:KV):KV:=
 match d with
 | .k c=>bU P df (leaf c w)
 | .lit v=>v
 | .aF t=>bU P df (leaf (.slice t) w)
 | .arr t=>bU P df (leaf (.slice t) w)
 | .ref v=>v
noncomputable def D6 (P:Program):List CD->(Nat->KV)->Nat->List KV
 | [],_,_=>[]
 | d::ds,w,k=>ajD P d (w k)::D6 P ds w (Nat.succ k)
noncomputable def aad (P:Program) (d:VD) (w:Nat->KV):KV:=Bool.rec (motive:=fun _=>KV) ((D6 P d.ks w 0).headD .bz) (.agg (D6 P d.ks w 0)) d.agg
noncomputable def hZ (P:Program):List (Tmp×VD)->(Nat->Nat->KV)->Nat->List KV
 | [],_,_=>[]
 | p::ps,w,k=>aad P p.2 (w k)::hZ P ps w (Nat.succ k)
noncomputable def ib (P:Program):List (Tmp×List CD×Nat)->(Nat->Nat->KV)->Nat->List (List KV)
 | [],_,_=>[]
 | p::ps,w,k=>D6 P p.2.1 (w k) 0::ib P ps w (Nat.succ k)
theorem Yw {P:Program} {A:ai} {d:CD} {v:KV} (h:hX d (dX P A d v)=true):∃ w,dX P A d v=ajD P d w:=by
 cases d with
 | ref u=>exact ⟨.bz,rfl⟩
 | k c=>
  have e:dX P A (.k c) v=cond (kindOk c (kP c v)) (bU P df (leaf c (kP c v))) .bz:=rfl;cases hb:kindOk c (kP c v) with
  | true=>exact ⟨kP c v,by rw [e,hb]; rfl⟩
  | false=>
   rw [e,hb] at h;cases c <;> simp [hX,kindOk] at h
 | lit u=>
  have e:dX P A (.lit u) v=cond (sf u v) u .bz:=rfl;cases hb:sf u v with
  | true=>exact ⟨.bz,by rw [e,hb]; rfl⟩
  | false=>
   rw [e,hb,ay] at h;have h:sf u .bz=true:=h;cases u <;> first | (simp [sf] at h; done) | (rename_i f a b; cases f <;> cases a <;> cases b <;> simp [sf] at h)
 | aF t=>
  cases v with
  | jd=>exact ⟨.ts t .any 0 [] mJ,rfl⟩
  | ts t' m n es acc=>
   cases m with
   | aF f=>
    have e:dX P A (.aF t) (.ts t' (.aF f) n es acc)=cond (Nat.beq t t') (bU P df (.ts t .any n es acc)) .bz:=rfl;cases hb:Nat.beq t t' with
    | true=>exact ⟨.ts t .any n es acc,by rw [e,hb]; rfl⟩
    | false=>rw [e,hb] at h; simp [hX,kindOk] at h
   | _=>simp [dX,hX,kindOk] at h
  | _=>simp [dX,hX,kindOk] at h
 | arr t=>
  rcases Rc h with rfl | ⟨b,n,m,N,es,acc,rfl,_,he⟩
  ·exact ⟨.ts t .any 0 [] mJ,rfl⟩
  ·exact ⟨.ts t .any N es acc,he⟩
theorem PD {P:Program} : ∀ {ds:List CD} {w w' : Nat->KV} {k:Nat},(∀ i,k<=i->w i=w' i)->D6 P ds w k=D6 P ds w' k
 | [],_,_,_,_=>rfl
 | t::ts,w,w',k,h=>by
  rw [D6,D6,h k (ao _),PD fun i hi=>h i (by omega)]
theorem Rh {P:Program} {A:ai} : ∀ {ds:List CD} {vs:List KV} (k:Nat),cK ds (dY P A ds vs)=true->∃ w,dY P A ds vs=D6 P ds w k
 | [],vs,k,_=>⟨fun _=>.bz,by cases vs <;> rfl⟩
 | d::ds,[],k,h=>by simp [dY,cK] at h
 | d::ds,v::vs,k,h=>by
  simp only [dY,cK,aj] at h;obtain ⟨w,hw⟩:=Yw h.1;obtain ⟨w',hw'⟩:=Rh (k+1) h.2;refine ⟨fun i=>if i=k then w else w' i,?_⟩;rw [dY,D6,hw,hw',ax rfl];rw [PD (w:=w') (w':=fun i=>if i=k then w else w' i) fun i hi=>by rw [ae (by omega)]]
theorem ahq {P:Program} {A:ai} {d:VD} {v:KV} (h:sS d (rL P A d v)=true):∃ w,rL P A d v=aad P d w:=by
 have uM:=ub h;rcases uc h with ⟨cs,rfl,h1,h2,h3⟩ | ⟨h0,c,h1,h2,h3,h4,h5⟩
 ·obtain ⟨w,hw⟩:=Rh 0 h3
  refine ⟨w,?_⟩;have:d.agg=true:=by
   rcases uM with ⟨_,_,q,_⟩ | ⟨q,_⟩
   ·exact q
   ·exact absurd h2 (q _)
  rw [h2,hw,aad,this]
 ·obtain ⟨w,hw⟩:=Yw h3
  refine ⟨fun _=>w,?_⟩;have:d.agg=false:=by
   rcases uM with ⟨cs,q,_⟩ | ⟨_,q,_⟩
   ·rw [h2] at q; exact absurd q (h5 _)
   ·exact q
  rw [h2,hw,aad,this,h1]; rfl
theorem LM {P:Program} : ∀ {ps:List (Tmp×VD)} {w w' : Nat->Nat->KV} {k:Nat},(∀ i,k<=i->w i=w' i)->hZ P ps w k=hZ P ps w' k
 | [],_,_,_,_=>rfl
 | t::ts,w,w',k,h=>by
  rw [hZ,hZ,h k (ao _),LM fun i hi=>h i (by omega)]
theorem V1 {P:Program} {t:bJ} {A:ai} : ∀ {ps:List (Tmp×VD)} (k:Nat),dZ ps (lq P t A ps)=true->∃ w,lq P t A ps=hZ P ps w k
 | [],k,_=>⟨fun _ _=>.bz,rfl⟩
 | p::ps,k,h=>by
  simp only [lq,dZ,aj] at h;obtain ⟨w,hw⟩:=ahq h.1;obtain ⟨w',hw'⟩:=V1 (k+1) h.2;refine ⟨fun i=>if i=k then w else w' i,?_⟩;rw [lq,hZ,hw,hw',ax rfl];rw [LM (w:=w') (w':=fun i=>if i=k then w else w' i) fun i hi=>by rw [ae (by omega)]]
theorem LN {P:Program} : ∀ {ps:List (Tmp×List CD×Nat)} {w w' : Nat->Nat->KV} {k:Nat},(∀ i,k<=i->w i=w' i)->ib P ps w k=ib P ps w' k
 | [],_,_,_,_=>rfl
 | t::ts,w,w',k,h=>by
  rw [ib,ib,h k (ao _),LN fun i hi=>h i (by omega)]
theorem V2 {P:Program} : ∀ {ps:List (Tmp×List CD×Nat)} {rs:List (List KV)} (k:Nat),rs.length=ps.length->(∀ (i:Nat) p r,ps[i]? = some p->rs[i]? = some r->cK p.2.1 r=true)->
  (∀ (i:Nat) p,ps[i]? = some p->∃ A mI,rs[i]? = some (dY P A p.2.1 mI)/\mI.length=p.2.1.length)->∃ w,rs=ib P ps w k
 | [],[],k,_,_,_=>⟨fun _ _=>.bz,rfl⟩
 | [],_::_,_,h,_,_=>by simp at h
 | _::_,[],_,h,_,_=>by simp at h
 | p::ps,r::rs,k,hl,hg,hn=>by
  obtain ⟨A,mI,h1,_⟩:=hn 0 p rfl;simp only [List.getElem?_cons_zero,aR] at h1;have h2:=hg 0 p r rfl rfl;rw [h1] at h2;obtain ⟨w,hw⟩:=Rh 0 h2;obtain ⟨w',hw'⟩:=V2 (ps:=ps) (rs:=rs) (k+1) (by simpa using hl) (fun i p r a b=>hg (i+1) p r (by simpa using a) (by simpa using b)) fun i p a=>by simpa using hn (i+1) p (by simpa using a)
  refine ⟨fun i=>if i=k then w else w' i,?_⟩;rw [ib,h1,hw,ax rfl];congr 1;rw [hw'];exact LN fun i hi=>by rw [ae (by omega)]
theorem rM.form {P:Program} {S:aB} {vs:List KV} {rs:List (List KV)} (h:rM P S vs rs):∃ wv wr,vs=hZ P S.dh wv 0/\rs=ib P S.rows wr 0:=by
 obtain ⟨t,A,ht⟩:=h.vn;have hv:=h.v;rw [ht] at hv;obtain ⟨wv,hwv⟩:=V1 0 hv;obtain ⟨wr,hwr⟩:=V2 0 h.nz h.pf h.rn;exact ⟨wv,wr,by rw [ht,hwv],hwr⟩
inductive ba (X:Type) where
 | fail
 | next (x:X)
 | out (e:aa) (x:X)
def ba.enc {X:Type} (ev:X->List KV) (er:X->List (List KV)):ba X->Option (aa×List KV×List (List KV))
 | .fail=>.none
 | .next x=>some (.normal,ev x,er x)
 | .out e x=>some (e,ev x,er x)
theorem ba.dt {X:Type} (ev:X->List KV) (er:X->List (List KV)) (c:Bool) (a b:ba X):ba.enc ev er (cond c a b)=cond c (ba.enc ev er a) (ba.enc ev er b):=by cases c <;> rfl
def ba.go {X:Type} (step:X->ba X):Nat->X->ba X
 | 0,_=>.fail
 | n+1,x=>match step x with
  | .fail=>.fail
  | .next x=>ba.go step n x
  | .out e x=>cond (lu e) .fail (.out e x)
def vG:aa->aa->Bool
 | .normal,.normal=>true
 | .exit i,.exit j=>Nat.beq i j
 | .goto i,.goto j=>Nat.beq i j
 | .ret,.ret=>true
 | _,_=>false
theorem aae {a b:aa} (h:vG a b=true):a=b:=by
 cases a <;> cases b <;> simp [vG] at h <;> first | rfl | (subst h; rfl)
def ba.by {X:Type} (s:ba X) (e:aa):Bool:=
 match s with
 | .out e' _=>vG e' e
 | _=>false
def ba.st {X:Type} [Inhabited X] (s:ba X):X:=
 match s with
 | .out _ x=>x
 | _=>default
theorem go_iter {X:Type} {step:X->ba X} {ev:X->List KV} {er:X->List (List KV)} {rd:List KV->List (List KV)->Option (aa×List KV×List (List KV))} (h:∀ x,step x = .fail\/rd (ev x) (er x)=ba.enc ev er (step x)) :
  ∀ (n:Nat) (x:X) (e:aa) (y:X),ba.go step n x = .out e y->py rd n (ev x) (er x)=some (e,ev y,er y)
 | 0,x,e,y,hg=>by simp [ba.go] at hg
 | n+1,x,e,y,hg=>by
  simp only [ba.go] at hg;have hx:=h x;cases hs:step x with
  | fail=>rw [hs] at hg; simp at hg
  | next x'=>
   have hx:=hx.resolve_left (by rw [hs]; simp);rw [hs] at hg hx;simp only [py,hx,ba.enc,lu,ah];exact go_iter h n x' e y hg
  | out e' x'=>
   have hx:=hx.resolve_left (by rw [hs]; simp);rw [hs] at hg hx;simp only at hg;cases hn:lu e' with
   | true=>rw [hn] at hg; simp at hg
   | false=>
    rw [hn,ay] at hg;simp only [ba.out.injEq] at hg;obtain ⟨rfl,rfl⟩:=hg;simp only [py,hx,ba.enc,hn,ay]
def eC {X:Type} [Inhabited X] (ev:X->List KV) (er:X->List (List KV)) (s:ba X):List aa->qt
 | []=>.no
 | e::es=>.br (s.by e) (.out e (ev s.st) (er s.st)) (eC ev er s es)
theorem Nj {X:Type} [Inhabited X] {ev:X->List KV} {er:X->List (List KV)} {s:ba X} : ∀ {es:List aa} {e:aa} {vs:List KV} {rs:List (List KV)},(eC ev er s es).ev=some (e,vs,rs)->∃ x,s = .out e x/\vs=ev x/\rs=er x
 | [],e,vs,rs,h=>by simp [eC,qt.ev] at h
 | e'::es,e,vs,rs,h=>by
  simp only [eC,qt.ev] at h;cases hb:s.by e' with
  | false=>rw [hb] at h; exact Nj h
  | true=>
   rw [hb,ah] at h;simp only [aR,bH] at h;obtain ⟨rfl,rfl,rfl⟩:=h;cases s with
   | out e0 x=>
    have:=aae (show vG e0 e' = true from hb);subst this;exact ⟨x,rfl,rfl,rfl⟩
   | fail=>simp [ba.by] at hb
   | next x=>simp [ba.by] at hb
def goN {X:Type} (step:X->ba X) (x:X):ba X:=ba.go step gI x
theorem V3 {P:Program} {l:Lp} {X:Type} [Inhabited X] {cfg:fV} {L n:Nat} (eV:oX P cfg.pc) (gE:pt P cfg) {step:X->ba X} {ev:X->List KV} {er:X->List (List KV)} {es:List aa} {pa:List KV->List (List KV)->X}
  (hF:∀ vs rs,l.F vs rs=eC ev er (goN step (pa vs rs)) es) (eU:∀ wv wr,ev (pa (hZ P l.S.dh wv 0) (ib P l.S.rows wr 0))=hZ P l.S.dh wv 0/\er (pa (hZ P l.S.dh wv 0) (ib P l.S.rows wr 0))=ib P l.S.rows wr 0)
  (jZ:∀ x,step x = .fail\/aga l.st P cfg L n l.f l.p (uA P l.f l.p) l.S (ev x) (er x)=ba.enc ev er (step x)):l.Ok P:=
 ⟨cfg,L,n,eV,gE,fun vs rs e bw gF bM l9=>by
  obtain ⟨wv,wr,rfl,rfl⟩:=bM.form;obtain ⟨h1,h2⟩:=eU wv wr;rw [hF] at l9;obtain ⟨y,hy,rfl,rfl⟩:=Nj l9;have:=go_iter jZ gI _ e y hy;rw [h1,h2] at this;exact this⟩
theorem ahr {P:Program} {l:Lp} {X:Type} [Inhabited X] {cfg:fV} {L n:Nat} {Re q:Nat} {b:Code} (eV:oX P cfg.pc) (gE:pt P cfg) {step:X->ba X} {ev:X->List KV} {er:X->List (List KV)} {es:List aa} {pa:List KV->List (List KV)->X}
  (yY:E8 P l.f l.p=some (Re,b,q)) (hs:l.st=false) (hF:∀ vs rs,l.F vs rs=eC ev er (goN step (pa vs rs)) es) (eU:∀ wv wr,ev (pa (hZ P l.S.dh wv 0) (ib P l.S.rows wr 0))=hZ P l.S.dh wv 0/\er (pa (hZ P l.S.dh wv 0) (ib P l.S.rows wr 0))=ib P l.S.rows wr 0)
  (jZ:∀ x,step x = .fail\/Kv P cfg L n l.f q b Re l.S (ev x) (er x)=ba.enc ev er (step x)):l.OkG P:=
 ⟨hs,Re,b,q,cfg,L,n,yY,eV,gE,fun vs rs e bw gF bM l9=>by
  obtain ⟨wv,wr,rfl,rfl⟩:=bM.form;obtain ⟨h1,h2⟩:=eU wv wr;rw [hF] at l9;obtain ⟨y,hy,rfl,rfl⟩:=Nj l9;have:=go_iter jZ gI _ e y hy;rw [h1,h2] at this;exact this⟩
theorem ba.lit {X:Type} {ev:X->List KV} {er:X->List (List KV)} {R:Option (aa×List KV×List (List KV))} {k n:Int} {a b:ba X} (h:k=n->R=ba.enc ev er a) (h' : b = .fail\/R=ba.enc ev er b):cond (k==n) a b = .fail\/R=ba.enc ev er (cond (k==n) a b):=by
 cases e:k==n with
 | true=>exact .inr (h (by simpa using e))
 | false=>exact h'
theorem Z2 {P:Program} {aow:List KV} (h:jQ P [] aow=true):aow = []:=by
 cases aow with
 | nil=>rfl
 | cons a aow=>simp [jQ] at h
theorem ahs {ks:List CK} {v:KV} (h:ca ⟨true,ks⟩ v=true):∃ cs,v = .agg cs/\au ks cs=true:=by
 cases v with
 | agg cs=>exact ⟨cs,rfl,by simpa [ca] using h⟩
 | ng cs=>simp [ca] at h
 | _=>simp [ca] at h
end Go.K
end
section
namespace Go.K
open Go Go.az
variable {P:Program} {E:Env}
theorem cp.below {base:Nat} {ρ:Ren} {B:St} {w w' : World} (hs:iu ρ B base w) (h:RowKit.Below w.heap.size w w'):cp base ρ B w ρ B w':=by
 refine ⟨⟨.qd (fun b o hg hd=>?_) hs.rel.apart hs.rel.aX,hs.fT,dA hs.size h.size,hs.lL⟩,fun _ _=>rfl,⟨h.os,h.tape,h.output,h.size,fun k hk _=>h.block k hk⟩,ao _,ao _,fun _ _ _=>rfl,fun _ _ hk=>hk⟩;obtain ⟨l,e,ok⟩:=hs.rel.obj hg hd;exact ⟨l,e,ok.dj (Ren.le_refl _) (h.block _ (ok.lt hd)) h.size⟩
theorem SH {g:FuncId} {F:List KV->KR KV} (hc:pq P g)
  (h:∀ args v (E:Env) (A:ai) (B:St) (ρ:Ren) (base:Nat) (w:World) (bN:List Value),aA (F (normArgs P (bL P g) args)) v->args.length=(bL P g).length->ny P E ρ args bN->KJ P E A B ρ base w->
   Calls P g bN.toArray w fun e w'=>∃ v',e = .returned v'/\VC P E ρ v v'/\RowKit.Below w.heap.size w w'):cA P g F:=
 fun args v hF hlen=>⟨hc,fun E A B ρ base w bN hv hj=>(h args v E A B ρ base w bN hF hlen hv hj).mono fun _ _ ⟨v',h1,h2,h3⟩=>
  ⟨v',E,B,ρ,h1,h2,hj.k,cp.below hj.s h3,Env.le_refl _,ao _,fun _ _ _ _=>rfl,fun _ _ h=>.inl h,fun _ _ h=>.inl h,fun _ _ h=>.inl ⟨_,h⟩,fun _ _ _ _=>rfl,fun _ h=>.inl h,fun _ h=>.inl h,fun _ _ h=>.inl h,fun _ h=>.inl h,fun _ _ cs _ _ _ h=>⟨cs,h,rfl⟩⟩⟩
end Go.K
end
section
namespace Go.K
open Go Go.az
structure Sl (α:Type) where
 n:Nat
 get:Nat->α
instance {α:Type} [Inhabited α] : Inhabited (Sl α):=⟨⟨0,fun _=>default⟩⟩
def dS {α:Type} (T:TypeId) (k:α->KV) (s:Sl α):KV:=.ts T .any s.n ((List.range s.n).map fun i=>k (s.get i)) (fun i=>k (s.get i))
def nh {α:Type} (p:KV->α) (n:Nat) (acc:Nat->KV):Sl α:=⟨n,fun i=>p (acc i)⟩
def eG {α:Type} (p:KV->α) (v:KV):Sl α:=nh p (lenOf v) (tD v)
def kI (k:IntKind) (n:Int):KV:=.int k n
def kB (b:Bool):KV:=.bool b
abbrev bB (n:Int):Int:=IntKind.wrap .i64 n
def Sl.push {α:Type} [Inhabited α] (s:Sl α) (v:α):Sl α:=⟨s.n+1,fun i=>cond (Nat.blt i s.n) (s.get i) (cond (Nat.beq i s.n) v default)⟩
def Sl.join {α:Type} (s t:Sl α):Sl α:=⟨s.n+t.n,fun i=>cond (Nat.blt i s.n) (s.get i) (t.get (i - s.n))⟩
def Sl.lit {α:Type} [Inhabited α] (l:List α):Sl α:=⟨l.length,fun i=>l.getD i default⟩
theorem V4 {α:Type} [Inhabited α] {p:KV->α} {k:α->KV} (h:∀ x,p (k x)=x) (hd:p .bz=default) (l:List α):nh p l.length (qj (l.map k))=Sl.lit l:=by
 unfold nh Sl.lit qj;congr 1;funext i;rw [eN,eN,mf];cases l[i]? with
 | none=>exact hd
 | some x=>exact h x
theorem Ky {α:Type} [Inhabited α] {p:KV->α} {k:α->KV} (h:∀ x,p (k x)=x) (hd:p .bz=default) (s:Sl α) (v:α):nh p (s.n+1) (dV s.n (fun i=>k (s.get i)) (qj [k v]))=s.push v:=by
 unfold nh Sl.push;congr 1;funext i;unfold dV;cases hb:Nat.blt i s.n with
 | true=>exact h _
 | false=>
  have hi:s.n<=i:=by
   cases Nat.lt_or_ge i s.n with
   | inl h=>rw [<- b7,hb] at h; simp at h
   | inr h=>exact h
  rw [ay,ay];cases hq:Nat.beq i s.n with
  | true=>
   have:=aD hq;subst this;rw [Nat.sub_self,ah];exact h v
  | false=>
   have bx:i≠s.n:=fun e=>by rw [e,p8] at hq; simp at hq
   rw [ay];obtain ⟨j,hj⟩:∃ j,i - s.n=j+1:=⟨i - s.n - 1,by omega⟩
   rw [hj];exact hd
theorem Ri {α:Type} {p:KV->α} {k:α->KV} (h:∀ x,p (k x)=x) (s t:Sl α):nh p (s.n+t.n) (dV s.n (fun i=>k (s.get i)) (fun i=>k (t.get i)))=s.join t:=by
 unfold nh Sl.join;congr 1;funext i;unfold dV;cases Nat.blt i s.n <;> exact h _
def Sl.set {α:Type} (s:Sl α) (i:Nat) (v:α):Sl α:=⟨s.n,fun j=>cond (Nat.beq j i) v (s.get j)⟩
theorem acx {α:Type} {p:KV->α} {k:α->KV} (h:∀ x,p (k x)=x) (s:Sl α) (i:Nat) (v:α):nh p s.n (uv (fun j=>k (s.get j)) i (k v))=s.set i v:=by
 unfold nh Sl.set;congr 1;funext j;unfold uv;cases Nat.beq j i <;> exact h _
theorem V5 {α:Type} {p:KV->α} {k:α->KV} (h:∀ x,p (k x)=x) (m n n' : Nat) (acc fa:Nat->KV):nh p m (dV n (fun i=>k ((nh p n' acc).get i)) fa)=nh p m (dV n acc fa):=by
 unfold nh;congr 1;funext i;unfold dV;cases Nat.blt i n with
 | true=>exact h _
 | false=>rfl
theorem ajE {α:Type} {p:KV->α} {k:α->KV} (h:∀ x,p (k x)=x) (m n n' : Nat) (acc fa:Nat->KV):nh p m (dV n acc (fun i=>k ((nh p n' fa).get i)))=nh p m (dV n acc fa):=by
 unfold nh;congr 1;funext i;unfold dV;cases Nat.blt i n with
 | true=>rfl
 | false=>exact h _
theorem ajF {α:Type} {p:KV->α} {k:α->KV} (h:∀ x,p (k x)=x) (m n' i:Nat) (acc:Nat->KV) (v:KV):nh p m (uv (fun j=>k ((nh p n' acc).get j)) i v)=nh p m (uv acc i v):=by
 unfold nh;congr 1;funext j;unfold uv;cases Nat.beq j i with
 | true=>rfl
 | false=>exact h _
theorem ajG (m n n' : Nat) (acc fa:Nat->KV):nh (fun v=>aw (v.cells.getD 0 .bz)) m (dV n (fun i=>kI .i64 ((nh (fun v=>aw (v.cells.getD 0 .bz)) n' acc).get i)) fa)=nh (fun v=>aw (v.cells.getD 0 .bz)) m (dV n acc fa):=V5 (k:=kI .i64) (fun _=>rfl) ..
theorem acy (s:Sl Int) (i:Nat) (v:Int):s.set i v=nh (fun v=>aw (v.cells.getD 0 .bz)) s.n (uv (fun j=>kI .i64 (s.get j)) i (kI .i64 v)):=(acx (k:=kI .i64) (fun _=>rfl) s i v).symm
theorem aht (s:Sl Int) (v:Int):s.push v=nh (fun v=>aw (v.cells.getD 0 .bz)) (s.n+1) (dV s.n (fun i=>kI .i64 (s.get i)) (qj [kI .i64 v])):=(Ky (fun _=>rfl) rfl s v).symm
theorem ahu (s t:Sl Int):s.join t=nh (fun v=>aw (v.cells.getD 0 .bz)) (s.n+t.n) (dV s.n (fun i=>kI .i64 (s.get i)) (fun i=>kI .i64 (t.get i))):=(Ri (fun _=>rfl) s t).symm
theorem acz (l:List Int):Sl.lit l=nh (fun v=>aw (v.cells.getD 0 .bz)) l.length (qj (l.map (kI .i64))):=(V4 (fun _=>rfl) rfl l).symm
theorem cJ {α β:Type} (f:α->β) (c:Bool) (a b:Option α):Option.map f (cond c a b)=cond c (Option.map f a) (Option.map f b):=by cases c <;> rfl
def av (P:Program) (ps:List (Nat×(List KV->KR KV))):Prop:=∀ p∈ps,cA P p.1 p.2
theorem av.nil {P:Program} : av P []:=fun p hp=>by simp at hp
theorem av.cons {P:Program} {g:Nat} {F:List KV->KR KV} {ps:List (Nat×(List KV->KR KV))} (h:cA P g F) (t:av P ps):av P ((g,F)::ps):=fun p hp=>by
 rcases bd.1 hp with rfl | hp
 ·exact h
 ·exact t p hp
theorem av.pc {P:Program} {ps:List (Nat×(List KV->KR KV))} (h:av P ps):oX P (Yv ps):=agf h
def bO (P:Program) (ls:List Lp):Prop:=∀ l∈ls,l.ael P
theorem bO.nil {P:Program} : bO P []:=fun p hp=>by simp at hp
theorem bO.cons {P:Program} {l:Lp} {ls:List Lp} (h:l.Ok P) (h' : B9 P l.f l.p=true) (t:bO P ls):bO P (l::ls):=fun p hp=>by
 rcases bd.1 hp with rfl | hp
 ·exact .inl ⟨h,h'⟩
 ·exact t p hp
theorem bO.amG {P:Program} {l:Lp} {ls:List Lp} (h:l.OkG P) (t:bO P ls):bO P (l::ls):=fun p hp=>by
 rcases bd.1 hp with rfl | hp
 ·exact .inr h
 ·exact t p hp
def yg (P:Program) (fs:List Fc):Prop:=∀ c∈fs,c.Ok P
theorem yg.nil {P:Program} : yg P []:=fun p hp=>by simp at hp
noncomputable def mA (P:Program) (ps:List (Nat×(List KV->KR KV))) (ls:List Lp) (mt:TypeId->Bool:=fun _=>false) (fz:Bool:=false) (eg:Bool:=false) (fs:List Fc:=[]):fV:=⟨Yv ps,Px P ls,⟨Yt P fs,mt,fz,eg⟩⟩
noncomputable def cR {R:Type} [Inhabited R] (k:R->KV) (r:List KV->Option R):List KV->KR KV:=fun aow=>.iH (r aow).isSome (k ((r aow).getD default))
theorem SI {P:Program} {R:Type} [Inhabited R] {k:R->KV} {r:List KV->Option R} {g:FuncId} (hP:P.funcs.toList.all gh=true) (hm:P.follows .mixedOrders=true) {ps:List (Nat×(List KV->KR KV))} {ls:List Lp} (eV:av P ps) (gE:bO P ls) {L n:Nat} {mt:TypeId->Bool} {fz eg:Bool} {fs:List Fc}
  (h:∀ w,x8 P (mA P ps ls mt fz eg fs) L n g (pz P (bL P g) w 0)=(r (pz P (bL P g) w 0)).map k) (hy:Nat.blt g yB=true:=by rfl) (Tj:yg P fs:=by exact yg.nil):cA P g (cI P g (cR k r)):=
 ajC (cfg:=mA P ps ls mt fz eg fs) hP hm eV.pc (Kw hP hm (Kx hP hm Tj) gE) (hy:=hy) fun w v hv=>by
  obtain ⟨h1,h2⟩:=aA.iH hv;rw [h w];cases hr:r (pz P (bL P g) w 0) with
  | none=>rw [hr] at h1; simp at h1
  | some x=>rw [hr] at h2; rw [<- h2]; rfl
theorem acA {P:Program} {l:Lp} {X:Type} [Inhabited X] (hP:P.funcs.toList.all gh=true) (hm:P.follows .mixedOrders=true) {ps:List (Nat×(List KV->KR KV))} {ls:List Lp} (eV:av P ps) (gE:bO P ls) {L n:Nat} {mt:TypeId->Bool} {fz eg:Bool} {fs:List Fc} {step:X->ba X} {ev:X->List KV} {er:X->List (List KV)} {es:List aa} {pa:List KV->List (List KV)->X}
  (hF:l.F=fun vs rs=>eC ev er (goN step (pa vs rs)) es) (eU:∀ wv wr,ev (pa (hZ P l.S.dh wv 0) (ib P l.S.rows wr 0))=hZ P l.S.dh wv 0/\er (pa (hZ P l.S.dh wv 0) (ib P l.S.rows wr 0))=ib P l.S.rows wr 0)
  (jZ:∀ x,wI P (mA P ps ls mt fz eg fs) L n l.f l.p (uA P l.f l.p) l.S (ev x) (er x)=ba.enc ev er (step x)) (Tj:yg P fs:=by exact yg.nil) (hs:l.st=false:=by rfl):l.Ok P:=
 V3 (cfg:=mA P ps ls mt fz eg fs) eV.pc (Kw hP hm (Kx hP hm Tj) gE) (fun _ _=>by rw [hF]) eU (fun x=>.inr (by rw [hs]; exact jZ x))
theorem aaf {P:Program} {l:Lp} {X:Type} [Inhabited X] (hP:P.funcs.toList.all gh=true) (hm:P.follows .mixedOrders=true) {ps:List (Nat×(List KV->KR KV))} {ls:List Lp} (eV:av P ps) (gE:bO P ls) {L n:Nat} {mt:TypeId->Bool} {fz eg:Bool} {fs:List Fc} {step:X->ba X} {ev:X->List KV} {er:X->List (List KV)} {es:List aa} {pa:List KV->List (List KV)->X}
  (hF:l.F=fun vs rs=>eC ev er (goN step (pa vs rs)) es) (eU:∀ wv wr,ev (pa (hZ P l.S.dh wv 0) (ib P l.S.rows wr 0))=hZ P l.S.dh wv 0/\er (pa (hZ P l.S.dh wv 0) (ib P l.S.rows wr 0))=ib P l.S.rows wr 0)
  (jZ:∀ x,step x = .fail\/wI P (mA P ps ls mt fz eg fs) L n l.f l.p (uA P l.f l.p) l.S (ev x) (er x)=ba.enc ev er (step x)) (Tj:yg P fs:=by exact yg.nil) (hs:l.st=false:=by rfl):l.Ok P:=
 V3 (cfg:=mA P ps ls mt fz eg fs) eV.pc (Kw hP hm (Kx hP hm Tj) gE) (fun _ _=>by rw [hF]) eU (fun x=>by rw [hs]; exact jZ x)
noncomputable def PE (P:Program) (f p:Nat):Nat×Code×Nat:=(E8 P f p).getD (0,.skip,0)
noncomputable def aag (P:Program) (cfg:fV) (L n:Nat) (f p:Nat) (S:aB) (vs:List KV) (rs:List (List KV)):Option (aa×List KV×List (List KV)):=
 Kv P cfg L n f (PE P f p).2.2 (PE P f p).2.1 (PE P f p).1 S vs rs
theorem aah {P:Program} {l:Lp} {X:Type} [Inhabited X] (hP:P.funcs.toList.all gh=true) (hm:P.follows .mixedOrders=true) {ps:List (Nat×(List KV->KR KV))} {ls:List Lp} (eV:av P ps) (gE:bO P ls) {L n:Nat} {mt:TypeId->Bool} {fz eg:Bool} {fs:List Fc} {step:X->ba X} {ev:X->List KV} {er:X->List (List KV)} {es:List aa} {pa:List KV->List (List KV)->X}
  (hF:l.F=fun vs rs=>eC ev er (goN step (pa vs rs)) es) (eU:∀ wv wr,ev (pa (hZ P l.S.dh wv 0) (ib P l.S.rows wr 0))=hZ P l.S.dh wv 0/\er (pa (hZ P l.S.dh wv 0) (ib P l.S.rows wr 0))=ib P l.S.rows wr 0)
  (jZ:∀ x,aag P (mA P ps ls mt fz eg fs) L n l.f l.p l.S (ev x) (er x)=ba.enc ev er (step x)) (yY:(E8 P l.f l.p).isSome=true:=by kernel_rfl) (Tj:yg P fs:=by exact yg.nil) (hs:l.st=false:=by rfl):l.OkG P:=by
 obtain ⟨⟨Re,b,q⟩,hx⟩:=NT.1 yY;refine ahr (cfg:=mA P ps ls mt fz eg fs) (L:=L) (n:=n) eV.pc (Kw hP hm (Kx hP hm Tj) gE) hx hs (fun _ _=>by rw [hF]) eU (fun x=>.inr ?_);have:=jZ x;unfold aag PE at this;rw [hx] at this;exact this
theorem aai {P:Program} {l:Lp} {X:Type} [Inhabited X] (hP:P.funcs.toList.all gh=true) (hm:P.follows .mixedOrders=true) {ps:List (Nat×(List KV->KR KV))} {ls:List Lp} (eV:av P ps) (gE:bO P ls) {L n:Nat} {mt:TypeId->Bool} {fz eg:Bool} {fs:List Fc} {step:X->ba X} {ev:X->List KV} {er:X->List (List KV)} {es:List aa} {pa:List KV->List (List KV)->X}
  (hF:l.F=fun vs rs=>eC ev er (goN step (pa vs rs)) es) (eU:∀ wv wr,ev (pa (hZ P l.S.dh wv 0) (ib P l.S.rows wr 0))=hZ P l.S.dh wv 0/\er (pa (hZ P l.S.dh wv 0) (ib P l.S.rows wr 0))=ib P l.S.rows wr 0)
  (jZ:∀ x,GC P (mA P ps ls mt fz eg fs) L n l.f l.p (uA P l.f l.p) l.S (ev x) (er x)=ba.enc ev er (step x)) (Tj:yg P fs:=by exact yg.nil) (hs:l.st=true:=by rfl):l.Ok P:=
 V3 (cfg:=mA P ps ls mt fz eg fs) eV.pc (Kw hP hm (Kx hP hm Tj) gE) (fun _ _=>by rw [hF]) eU (fun x=>.inr (by rw [hs]; exact jZ x))
end Go.K
end
section
set_option maxRecDepth 20000
namespace Go.Proofs.YtckbdndhmcoihaaGreat.nodes
open Go Go.RowKit Go.Lib
abbrev hv (x:Int×Int):Value:=.agg #[.int .i64 x.1,.int .i64 x.2]
theorem s0:Tryz.prog.follows .mixedOrders=true:=by kernel_rfl
theorem amH (x y:Int×Int) (w:World):(Op.equal 32 (hv x) (hv y)).run Tryz.prog w = .ok (decide (x=y)) w:=by
 obtain ⟨s,g⟩:=x;obtain ⟨s',g'⟩:=y;have e:decide ((s,g)=(s',g'))=(s==s'&&g==g'):=by
  rw [Bool.eq_iff_iff];simp
 rw [e];have h:=K.IJ (P:=Tryz.prog) (E:=⟨fun _=>none,fun _=>none,fun _=>none,fun _=>none⟩) 12 10000 32 ⟨true,[.int .i64,.int .i64]⟩ [.int .i64 s,.int .i64 g] [.int .i64 s',.int .i64 g'] [.int .i64 s,.int .i64 g] [.int .i64 s',.int .i64 g'] ((s==s')&&((g==g')&&true))
  (by kernel_rfl) (by kernel_rfl) (by omega) (.cons .mkInt (.cons .mkInt .nil)) (.cons .mkInt (.cons .mkInt .nil)) rfl rfl rfl
 rw [yD] at h;exact az.eO h w
def PF (es:Array MapEntry) (S:List (Int×Int)):Prop:=es.toList.map (·.key)=S.map hv/\∀ e∈es.toList,e.val = .bool true
theorem acB (k:Int×Int) (w:World):∀ (l:List MapEntry) (S:List (Int×Int)) (i:Nat),l.map (·.key)=S.map hv->(∀ e∈l,e.val = .bool true)->
  ∃ r,(Instr.findAsking 32 (hv k) l i).run Tryz.prog w = .ok r w/\(k∈S->∃ j,r=some (i+j,.bool true)/\j < l.length/\l[j]?.map (·.key)=some (hv k))/\(k ∉ S->r=none)
 | [],[],i,_,_=>⟨none,rfl,fun h=>by simp at h,fun _=>rfl⟩
 | [],_::_,_,h,_=>by simp at h
 | _::_,[],_,h,_=>by simp at h
 | e::l,x::S,i,h,hb=>by
  simp only [List.map_cons,List.cons.injEq] at h;obtain ⟨r,h1,h2,h3⟩:=acB k w l S (i+1) h.2 (fun e' he=>hb e' (rB _ he));have he:=amH k x w;rw [<- h.1] at he;by_cases hx:k=x
  ·rw [aq hx] at he
   refine ⟨some (i,.bool true),?_,fun _=>⟨0,rfl,by simp,by simp [h.1,hx]⟩,fun hn=>absurd (by rw [hx]; exact List.mem_cons_self ..) hn⟩;have zD:=hb e (List.mem_cons_self ..);simp [Instr.findAsking,he,zD]
  ·rw [bu hx] at he
   refine ⟨r,?_,fun hm=>?_,fun hn=>h3 fun q=>hn (rB _ q)⟩
   ·simp only [Instr.findAsking,Sem.run_bind,he,fA]
    exact h1
   ·obtain ⟨j,q1,q2,q3⟩:=h2 ((bd.1 hm).resolve_left hx)
    exact ⟨j+1,by rw [q1]; congr 2; omega,by simp; omega,by simpa using q3⟩
theorem Yx (b:Bool) (k:Int×Int) (w:World):(Instr.checkKey b 10000 32 (hv k)).run Tryz.prog w = .ok () w:=by
 have h:az.cu Tryz.prog (Instr.checkKey b 10000 32 (hv k))=some ():=by cases b <;> kernel_rfl
 exact az.eO h w
theorem SJ (k:Int×Int) (w:World) {es:Array MapEntry} {S:List (Int×Int)} (h:PF es S) :
  ∃ r,(Instr.findKey 32 (hv k) es.toList).run Tryz.prog w = .ok r w/\(k∈S->∃ j,r=some (j,.bool true))/\(k ∉ S->r=none):=by
 obtain ⟨r,h1,h2,h3⟩:=acB k w es.toList S 0 h.1 h.2;have u32:=run_underlying Tryz.underlying32;unfold Instr.findKey;cases hl:es.toList with
 | nil=>
  rw [hl] at h1;refine ⟨none,?_,fun hk=>?_,fun _=>rfl⟩
  ·simp only [Sem.run_bind,u32,fA,Instr.findNow]
   rfl
  ·have:=h.1
   rw [hl] at this;have:S = []:=by simpa using this.symm
   rw [this] at hk;simp at hk
 | cons e l=>
  rw [hl] at h1;refine ⟨r,?_,fun hk=>?_,h3⟩
  ·have hn:∀ fs i,Instr.findNow (.struct fs) (hv k) (e::l) i=none:=fun fs i=>by
    unfold Instr.findNow;have:∀ v,Instr.sameNow (.struct fs) (hv k) v=none:=fun v=>by cases v <;> rfl
    rw [this]
   simp only [Sem.run_bind,u32,fA,hn];exact h1
  ·obtain ⟨j,q,_⟩:=h2 hk
   exact ⟨0+j,q⟩
theorem ahv {W:World} {mb:Nat} {es:Array MapEntry} {clock:Nat} {S:List (Int×Int)} (hm:W.heap[mb]? = some (.map es clock)) (h:PF es S) (k:Int×Int) :
  (Instr.lookup 202 (.map (some mb)) (hv k) false).run Tryz.prog W = .ok (.bool (decide (k∈S))) W:=by
 obtain ⟨r,h1,h2,h3⟩:=SJ k W h;have Jf:=run_underlying Tryz.underlying202;have v4:=Tryz.zeroValue4;unfold Instr.lookup;simp only [Sem.run_bind,Jf,fA,MapKept.run_getObj_map hm,Sem.run_pure,Yx,h1];by_cases hk:k∈S
 ·obtain ⟨j,rfl⟩:=h2 hk
  rw [aq hk];rfl
 ·rw [h3 hk,bu hk]
  simp only [Sem.run_bind,v4,fA,Sem.run_pure];rfl
def put (W:World) (mb:Nat) (o:Obj):World:={ W with heap:=W.heap.setIfInBounds mb o }
theorem ajH {W:World} {mb:Nat} {es:Array MapEntry} {clock:Nat} {S:List (Int×Int)} (hm:W.heap[mb]? = some (.map es clock)) (h:PF es S) (k:Int×Int) (hk:k ∉ S) :
  (Instr.mapUpdate 202 (.map (some mb)) (hv k) (.bool true)).run Tryz.prog W = .ok () (put W mb (.map (es.push ⟨hv k,.bool true,clock⟩) (clock+1))):=by
 obtain ⟨r,h1,h2,h3⟩:=SJ k W h;have Jf:=run_underlying Tryz.underlying202;unfold Instr.mapUpdate;simp only [Sem.run_bind,Jf,fA,MapKept.run_getObj_map hm,Sem.run_pure,Yx,h1,h3 hk];exact MapKept.run_setObj_map _ hm
theorem aeo {es:Array MapEntry} {S:List (Int×Int)} (h:PF es S) (k:Int×Int) (c:Nat):PF (es.push ⟨hv k,.bool true,c⟩) (S++[k]):=by
 refine ⟨?_,fun e he=>?_⟩
 ·rw [Array.toList_push,yA,yA,h.1]; rfl
 ·rw [Array.toList_push] at he
  rcases eX.1 he with he | he
  ·exact h.2 e he
  ·rw [List.mem_singleton.1 he]
theorem Rj:PF #[] []:=⟨rfl,fun e he=>by simp at he⟩
theorem ZZ {W:World} {mb:Nat} {o o' : Obj} (h:W.heap[mb]? = some o'):(put W mb o).heap[mb]? = some o:=by
 have aJ:mb < W.heap.size:=(jg.1 h).1;unfold put;simp [Array.getElem?_setIfInBounds,aJ]
theorem afV {W:World} {mb k:Nat} {o:Obj} (h:k≠mb):(put W mb o).heap[k]? = W.heap[k]?:=by
 unfold put;simp [Array.getElem?_setIfInBounds,Ne.symm h]
theorem Rl {W:World} {mb:Nat} {o:Obj} : (put W mb o).heap.size=W.heap.size:=by
 unfold put;simp
end Go.Proofs.YtckbdndhmcoihaaGreat.nodes
end
section
set_option maxRecDepth 20000
namespace Go.Proofs.YtckbdndhmcoihaaGreat.nodes
open Go Go.RowKit Go.Lib Go.Shelf
set_option maxHeartbeats 4000000 in
theorem akX (g:Nat) (lb:Array Value) (eg:∀ args w,(callFunc g args).run Tryz.prog w = .ok (.enter g args) w) (a:Option Addr) (n c:Nat) (x:Nat->Int×Int) (I:Nat->World->Prop) (T:World->Prop) (agh:n<=1000000)
  (dC:∀ W kk,kk < n->I kk W->∃ b off,a=some ⟨b,off,none⟩/\W.cell? ⟨b,off+kk * 2,none⟩=some (.int .i64 (x kk).1)/\W.cell? ⟨b,off+kk * 2+1,none⟩=some (.int .i64 (x kk).2))
  (dR:∀ kk W,kk < n->I kk W->Calls Tryz.prog g (#[hv (x kk)]++lb) W fun e W'=>e = .returned (.bool true)/\T W'\/e = .returned (.bool false)/\I (kk+1) W')
  (w:World) (h0:I 0 w):Calls Tryz.prog 174 #[.slice a n c,.func (.func g) #[] lb] w fun e W'=>(∃ kk:Nat,kk < n/\e = .returned (.int .i64 kk)/\T W')\/e = .returned (.int .i64 (-1))/\I n W':=by
 have mixed:=s0;have t32:=Tryz.underlying32; have a32:=Tryz.isAgg32; have z32:=Tryz.sizeOf32; have v32:=Tryz.zeroValue32; have u32:=run_underlying Tryz.underlying32;have t35:=Tryz.underlying35; have a35:=Tryz.isAgg35; have z35:=Tryz.sizeOf35; have v35:=Tryz.zeroValue35; have u35:=run_underlying Tryz.underlying35;have t3:=Tryz.underlying3; have a3:=Tryz.isAgg3; have z3:=Tryz.sizeOf3; have v3:=Tryz.zeroValue3; have u3:=run_underlying Tryz.underlying3
 go_enter Tryz.func174,Tryz.ntmps174
 go_wp2
 go_loopg [5,8] n (fun gg _ s8 wr=>∃ kk:Nat,kk<=n/\n - kk<=gg/\s8 = .int .i64 kk/\Aside (I kk wr))
 case atStart=>exact ⟨0,mc _,by omega,rfl,h0⟩
 case round=>
  obtain ⟨kk,Zb,hg,rfl,BW⟩:=hrel;by_cases aJ:kk < n
  ·have acC:(kk:Int) < (n:Int):=by omega
   obtain ⟨b,off,ea,l1,l2⟩:=dC wr kk aJ BW.out;subst ea;have hc:=dR kk wr aJ BW.out;clear dC dR;generalize hy:x kk=y at l1 l2 hc;clear hy
   go_wp2_with (go_at_fn g; refine hc.mono ?_; rintro e w' (⟨rfl,KQ⟩ | ⟨rfl,KQ⟩))
   ·go_wp2
    go_ret
    exact .inl ⟨kk,aJ,rfl,KQ⟩
   ·go_wp2
    go_roundg (n - (kk+1))
    case measure=>omega
    case rel=>exact ⟨kk+1,by omega,by omega,by go_num,KQ⟩
  ·have acC : ¬ (kk:Int) < (n:Int):=by omega
   have:kk=n:=by omega
   subst this
   go_wp2
   go_ret
   exact .inr ⟨rfl,BW.out⟩
set_option maxHeartbeats 4000000 in
theorem Nk (g:Nat) (lb:Array Value) (eg:∀ args w,(callFunc g args).run Tryz.prog w = .ok (.enter g args) w) (a:Option Addr) (n c:Nat) (x:Nat->Int×Int) (I:Nat->World->Prop) (T:World->Prop) (agh:n<=1000000)
  (dC:∀ W kk,kk < n->I kk W->∃ b off,a=some ⟨b,off,none⟩/\W.cell? ⟨b,off+kk * 2,none⟩=some (.int .i64 (x kk).1)/\W.cell? ⟨b,off+kk * 2+1,none⟩=some (.int .i64 (x kk).2))
  (dR:∀ kk W,kk < n->I kk W->Calls Tryz.prog g (#[hv (x kk)]++lb) W fun e W'=>e = .returned (.bool true)/\T W'\/e = .returned (.bool false)/\I (kk+1) W')
  (w:World) (h0:I 0 w):Calls Tryz.prog 122 #[.slice a n c,.func (.func g) #[] lb] w fun e W'=>∃ r,e = .returned (.bool r)/\(r=true/\T W'\/r=false/\I n W'):=by
 have mixed:=s0;have t35:=Tryz.underlying35; have a35:=Tryz.isAgg35; have z35:=Tryz.sizeOf35; have v35:=Tryz.zeroValue35; have u35:=run_underlying Tryz.underlying35;have t3:=Tryz.underlying3; have a3:=Tryz.isAgg3; have z3:=Tryz.sizeOf3; have v3:=Tryz.zeroValue3; have u3:=run_underlying Tryz.underlying3;have hI:=akX g lb eg a n c x I T agh dC dR w h0
 go_enter Tryz.func122,Tryz.ntmps122
 go_wp2_with (go_at_call 174; refine hI.mono ?_; rintro e w' (⟨kk,hk,rfl,KQ⟩ | ⟨rfl,KQ⟩))
 ·go_wp2
  go_ret
  exact ⟨true,by congr 2,.inl ⟨rfl,KQ⟩⟩
 ·go_wp2
  go_ret
  exact ⟨false,by congr 2,.inr ⟨rfl,KQ⟩⟩
structure G where
 sa:Option Addr
 sn:Nat
 sc:Nat
 ka:Option Addr
 kn:Nat
 kc:Nat
 ia:Nat->Option Addr
 im:Nat->Nat
 ic:Nat->Nat
 dw:Nat->Nat->Int×Int
structure GAt (q:G) (B:Nat) (W:World):Prop where
 kids:∀ i,i < q.kn->∃ b off,q.ka=some ⟨b,off,none⟩/\b < B/\W.cell? ⟨b,off+i,none⟩=some (.slice (q.ia i) (q.im i) (q.ic i))
 small:∀ i,i < q.kn->q.im i<=1000000
 row:∀ i,i < q.kn->∀ k,k < q.im i->∃ b off,q.ia i=some ⟨b,off,none⟩/\b < B/\W.cell? ⟨b,off+k * 2,none⟩=some (.int .i64 (q.dw i k).1)/\W.cell? ⟨b,off+k * 2+1,none⟩=some (.int .i64 (q.dw i k).2)
structure Kp (mb:Nat) (W W' : World):Prop where
 os:W'.os=W.os
 tape:W'.tape=W.tape
 output:W'.output=W.output
 size:W.heap.size<=W'.heap.size
 block:∀ k,k < W.heap.size->k≠mb->W'.heap[k]? = W.heap[k]?
theorem Kp.refl (mb:Nat) (W:World):Kp mb W W:=⟨rfl,rfl,rfl,ao _,fun _ _ _=>rfl⟩
theorem Kp.trans {mb:Nat} {W W' W2:World} (h:Kp mb W W') (k:Kp mb W' W2):Kp mb W W2:=
 ⟨k.os.trans h.os,k.tape.trans h.tape,k.output.trans h.output,dA h.size k.size,fun j hj hn=>(k.block j (dG hj h.size) hn).trans (h.block j hj hn)⟩
theorem Kp.below {mb B:Nat} {W W' : World} (h:Kp mb W W') (hB:B<=W.heap.size) (hm:B<=mb):Below B W W':=
 ⟨h.os,h.tape,h.output,h.size,fun k hk=>h.block k (by omega) (by omega)⟩
theorem Kp.cell {mb:Nat} {W W' : World} (h:Kp mb W W') {b j:Nat} (hb:b < W.heap.size) (hm:b≠mb):W'.cell? ⟨b,j,none⟩=W.cell? ⟨b,j,none⟩:=by
 have:=h.block b hb hm;unfold World.cell?;simp only [this]
theorem Kp.alloc {mb:Nat} (W:World) (o:Obj):Kp mb W (W.alloc o):=⟨rfl,rfl,rfl,by simp,fun k hk _=>Below.heap_alloc W o k hk⟩
theorem Kp.drew (mb:Nat) (W:World):Kp mb W W.drew:=⟨rfl,rfl,rfl,ao _,fun _ _ _=>rfl⟩
theorem Kp.put {mb:Nat} (W:World) (o:Obj):Kp mb W (put W mb o):=⟨rfl,rfl,rfl,by rw [Rl]; exact ao _,fun k _ hn=>afV hn⟩
theorem GAt.dj {q:G} {B mb:Nat} {W W' : World} (h:GAt q B W) (k:Kp mb W W') (hB:B<=W.heap.size) (hm:B<=mb):GAt q B W':=by
 refine ⟨fun i hi=>?_,h.small,fun i hi j hj=>?_⟩
 ·obtain ⟨b,off,h1,h2,h3⟩:=h.kids i hi
  exact ⟨b,off,h1,h2,by rw [k.cell (by omega) (by omega)]; exact h3⟩
 ·obtain ⟨b,off,h1,h2,h3,h4⟩:=h.row i hi j hj
  exact ⟨b,off,h1,h2,by rw [k.cell (by omega) (by omega)]; exact h3,by rw [k.cell (by omega) (by omega)]; exact h4⟩
structure uC (q:G) (B b1 b2 b3 b4 mb:Nat) (to:Int×Int) (W:World) (S:List (Int×Int)):Prop where
 g:GAt q B W
 eB:B<=W.heap.size
 l1:b1 < W.heap.size/\b1≠mb
 l2:b2 < W.heap.size/\b2≠mb
 l3:b3 < W.heap.size/\b3≠mb
 l4:b4 < W.heap.size/\b4≠mb
 m:B<=mb
 c1:W.cell? ⟨b1,0,none⟩=some (.int .i64 to.1)
 d1:W.cell? ⟨b1,1,none⟩=some (.int .i64 to.2)
 c2:W.cell? ⟨b2,0,none⟩=some (.map (some mb))
 c3:W.cell? ⟨b3,0,none⟩=some (.slice q.sa q.sn q.sc)
 d3:W.cell? ⟨b3,1,none⟩=some (.slice q.ka q.kn q.kc)
 c4:W.cell? ⟨b4,0,none⟩=some (.func (.func 175) #[] #[.pointer (some ⟨b1,0,none⟩),.pointer (some ⟨b2,0,none⟩),.pointer (some ⟨b3,0,none⟩),.pointer (some ⟨b4,0,none⟩)])
 map:∃ es clock,W.heap[mb]? = some (.map es clock)/\PF es S
 to:to ∉ S
theorem uC.dj {q:G} {B b1 b2 b3 b4 mb:Nat} {to:Int×Int} {W W' : World} {S S' : List (Int×Int)} (h:uC q B b1 b2 b3 b4 mb to W S) (k:Kp mb W W') (hm:∃ es clock,W'.heap[mb]? = some (.map es clock)/\PF es S') (ht:to ∉ S') :
  uC q B b1 b2 b3 b4 mb to W' S' where
 g:=h.g.dj k h.eB h.m
 eB:=dA h.eB k.size
 l1:=⟨dG h.l1.1 k.size,h.l1.2⟩
 l2:=⟨dG h.l2.1 k.size,h.l2.2⟩
 l3:=⟨dG h.l3.1 k.size,h.l3.2⟩
 l4:=⟨dG h.l4.1 k.size,h.l4.2⟩
 m:=h.m
 c1:=(k.cell h.l1.1 h.l1.2).trans h.c1
 d1:=(k.cell h.l1.1 h.l1.2).trans h.d1
 c2:=(k.cell h.l2.1 h.l2.2).trans h.c2
 c3:=(k.cell h.l3.1 h.l3.2).trans h.c3
 d3:=(k.cell h.l3.1 h.l3.2).trans h.d3
 c4:=(k.cell h.l4.1 h.l4.2).trans h.c4
 map:=hm
 to:=ht
inductive Reach (q:G) (to:Int×Int):Int×Int->Prop where
 | here:Reach q to to
 | dw (h:Int×Int) (k:Nat) (hk:k < q.im h.1.toNat) (r:Reach q to (q.dw h.1.toNat k)):Reach q to h
structure Grow (q:G) (S:List (Int×Int)) (h:Int×Int) (S' : List (Int×Int)):Prop where
 sub:∀ x∈S,x∈S'
 is:h∈S'
 new:∀ x∈S',x∈S\/∀ k,k < q.im x.1.toNat->q.dw x.1.toNat k∈S'
theorem filter_le {S S1:List (Int×Int)} (h:∀ x∈S,x∈S1):∀ U:List (Int×Int),(U.filter fun u=>!decide (u∈S1)).length<=(U.filter fun u=>!decide (u∈S)).length
 | []=>ao _
 | u::U=>by
  have ih:=filter_le h U;by_cases h1:u∈S
  ·rw [List.filter_cons_of_neg (by simp [h u h1]),List.filter_cons_of_neg (by simp [h1])]; exact ih
  ·rw [List.filter_cons_of_pos (p:=fun u=>!decide (u∈S)) (by simp [h1])]
   by_cases h2:u∈S1
   ·rw [List.filter_cons_of_neg (by simp [h2])]; exact Nat.le_succ_of_le ih
   ·rw [List.filter_cons_of_pos (by simp [h2])]; exact Nat.succ_le_succ ih
theorem filter_lt {S S1:List (Int×Int)} (h:∀ x∈S,x∈S1) {k:Int×Int} (hk:k ∉ S) (ot:k∈S1):∀ U:List (Int×Int),k∈U->(U.filter fun u=>!decide (u∈S1)).length < (U.filter fun u=>!decide (u∈S)).length
 | [],hm=>by simp at hm
 | u::U,hm=>by
  by_cases e:k=u
  ·subst e
   rw [List.filter_cons_of_neg (by simp [ot]),List.filter_cons_of_pos (p:=fun u=>!decide (u∈S)) (by simp [hk])];exact Nat.lt_succ_of_le (filter_le h U)
  ·have ih:=filter_lt h hk ot U ((bd.1 hm).resolve_left e)
   by_cases h1:u∈S
   ·rw [List.filter_cons_of_neg (by simp [h u h1]),List.filter_cons_of_neg (by simp [h1])]; exact ih
   ·rw [List.filter_cons_of_pos (p:=fun u=>!decide (u∈S)) (by simp [h1])]
    by_cases h2:u∈S1
    ·rw [List.filter_cons_of_neg (by simp [h2])]; exact Nat.lt_succ_of_lt ih
    ·rw [List.filter_cons_of_pos (by simp [h2])]; exact Nat.succ_lt_succ ih
set_option maxHeartbeats 4000000 in
theorem look (q:G) (B b1 b2 b3 b4 mb:Nat) (to:Int×Int) (U:List (Int×Int)) (hU:∀ u∈U,(0<=u.1/\u.1 < (q.kn:Int))/\∀ k,k < q.im u.1.toNat->q.dw u.1.toNat k∈U) :
  ∀ (fuel:Nat) (S:List (Int×Int)) (W:World) (h:Int×Int),h∈U->(U.filter fun u=>!decide (u∈S)).length < fuel->uC q B b1 b2 b3 b4 mb to W S->
   Calls Tryz.prog 175 #[hv h,.pointer (some ⟨b1,0,none⟩),.pointer (some ⟨b2,0,none⟩),.pointer (some ⟨b3,0,none⟩),.pointer (some ⟨b4,0,none⟩)] W fun e W'=>
    ∃ S',uC q B b1 b2 b3 b4 mb to W' S'/\Kp mb W W'/\(e = .returned (.bool true)/\Reach q to h\/e = .returned (.bool false)/\Grow q S h S'):=by
 intro fuel
 induction fuel with
 | zero=>exact fun S W h _ hf=>absurd hf (nF _)
 | succ fuel ih=>
  intro S W h hhU hf L;have mixed:=s0;have t32:=Tryz.underlying32; have a32:=Tryz.isAgg32; have z32:=Tryz.sizeOf32; have v32:=Tryz.zeroValue32; have u32:=run_underlying Tryz.underlying32;have t202:=Tryz.underlying202; have agi:=Tryz.isAgg202; have agj:=Tryz.sizeOf202; have agk:=Tryz.zeroValue202; have Jf:=run_underlying Tryz.underlying202;have t200:=Tryz.underlying200; have alW:=Tryz.isAgg200; have alX:=Tryz.sizeOf200; have alY:=Tryz.zeroValue200; have alZ:=run_underlying Tryz.underlying200;have t25:=Tryz.underlying25; have a25:=Tryz.isAgg25; have z25:=Tryz.sizeOf25; have v25:=Tryz.zeroValue25; have u25:=run_underlying Tryz.underlying25;have t27:=Tryz.underlying27; have a27:=Tryz.isAgg27; have z27:=Tryz.sizeOf27; have v27:=Tryz.zeroValue27; have u27:=run_underlying Tryz.underlying27;have t35:=Tryz.underlying35; have a35:=Tryz.isAgg35; have z35:=Tryz.sizeOf35; have v35:=Tryz.zeroValue35; have u35:=run_underlying Tryz.underlying35;have t3:=Tryz.underlying3; have a3:=Tryz.isAgg3; have z3:=Tryz.sizeOf3; have v3:=Tryz.zeroValue3; have u3:=run_underlying Tryz.underlying3;have t4:=Tryz.underlying4; have a4:=Tryz.isAgg4; have z4:=Tryz.sizeOf4; have v4:=Tryz.zeroValue4; have u4:=run_underlying Tryz.underlying4;obtain ⟨es,clock,ajI,acD⟩:=L.map;have al0:mb < W.heap.size:=(jg.1 ajI).1;by_cases DD:h=to
  ·subst DD
   have KA:=Kp.alloc (mb:=mb) W (.cells #[.int .i64 h.1,.int .i64 h.2] 32);have c1:(W.alloc (.cells #[.int .i64 h.1,.int .i64 h.2] 32)).cell? ⟨b1,0,none⟩=some (.int .i64 h.1):=(KA.cell L.l1.1 L.l1.2).trans L.c1;have d1:(W.alloc (.cells #[.int .i64 h.1,.int .i64 h.2] 32)).cell? ⟨b1,1,none⟩=some (.int .i64 h.2):=(KA.cell L.l1.1 L.l1.2).trans L.d1
   go_enter Tryz.func175,Tryz.ntmps175
   go_wp2
   go_ret
   exact ⟨S,L.dj KA ⟨es,clock,by rw [Below.heap_alloc W _ mb al0]; exact ajI,acD⟩ L.to,KA,.inl ⟨rfl,.here⟩⟩
  ·have KA:=Kp.alloc (mb:=mb) W (.cells #[.int .i64 h.1,.int .i64 h.2] 32)
   obtain ⟨t1,c1,d1,al1⟩:∃ t1,(W.alloc (.cells #[.int .i64 h.1,.int .i64 h.2] 32)).cell? ⟨b1,0,none⟩=some (.int .i64 t1)/\(W.alloc (.cells #[.int .i64 h.1,.int .i64 h.2] 32)).cell? ⟨b1,1,none⟩=some (.int .i64 to.2)/\(t1=h.1/\¬ h.2=to.2\/¬ h.1=t1):=by
    refine ⟨to.1,(KA.cell L.l1.1 L.l1.2).trans L.c1,(KA.cell L.l1.1 L.l1.2).trans L.d1,?_⟩;by_cases e1:h.1=to.1
    ·exact .inl ⟨e1.symm,fun e2=>DD (Prod.ext e1 e2)⟩
    ·exact .inr e1
   have c2:(W.alloc (.cells #[.int .i64 h.1,.int .i64 h.2] 32)).cell? ⟨b2,0,none⟩=some (.map (some mb)):=(KA.cell L.l2.1 L.l2.2).trans L.c2;have aak:(W.alloc (.cells #[.int .i64 h.1,.int .i64 h.2] 32)).heap[mb]? = some (.map es clock):=by rw [Below.heap_alloc W _ mb al0]; exact ajI
   have hlk:=ahv aak acD h;by_cases hS:h∈S
   ·rw [aq hS] at hlk
    have fin:∃ S',uC q B b1 b2 b3 b4 mb to (W.alloc (.cells #[.int .i64 h.1,.int .i64 h.2] 32)) S'/\Kp mb W (W.alloc (.cells #[.int .i64 h.1,.int .i64 h.2] 32))/\Grow q S h S':=
     ⟨S,L.dj KA ⟨es,clock,aak,acD⟩ L.to,KA,⟨fun x hx=>hx,hS,fun x hx=>.inl hx⟩⟩
    obtain ⟨S',f1,f2,f3⟩:=fin;rcases al1 with ⟨rfl,e2⟩ | e1
    ·go_enter Tryz.func175,Tryz.ntmps175
     go_wp2
     go_ret
     exact ⟨S',f1,f2,.inr ⟨rfl,f3⟩⟩
    ·go_enter Tryz.func175,Tryz.ntmps175
     go_wp2
     go_ret
     exact ⟨S',f1,f2,.inr ⟨rfl,f3⟩⟩
   ·rw [bu hS] at hlk
    have Lg:=ajH aak acD h hS;have amI:=ZZ (o:=.map (es.push ⟨hv h,.bool true,clock⟩) (clock+1)) aak;have KP:=Kp.put (mb:=mb) (W.alloc (.cells #[.int .i64 h.1,.int .i64 h.2] 32)) (.map (es.push ⟨hv h,.bool true,clock⟩) (clock+1));have LP:=L.dj (KA.trans KP) ⟨_,_,amI,aeo acD h clock⟩ (by
     rw [eX];rintro (hm | hm)
     ·exact L.to hm
     ·exact DD (List.mem_singleton.1 hm).symm)
    have cb:(put (W.alloc (.cells #[.int .i64 h.1,.int .i64 h.2] 32)) mb (.map (es.push ⟨hv h,.bool true,clock⟩) (clock+1))).cell? ⟨W.heap.size,0,none⟩=some (.int .i64 h.1):=by
     rw [KP.cell (by simp) (by omega)];simp
    have y7:=LP.g;obtain ⟨hU1,hU2⟩:=hU h hhU;obtain ⟨bk,ok,hka,hbk,dC⟩:=y7.kids h.1.toNat (by omega);have d3:=LP.d3;rw [hka] at d3;have c4:=LP.c4;have hbx:W.heap.size < (put (W.alloc (.cells #[.int .i64 h.1,.int .i64 h.2] 32)) mb (.map (es.push ⟨hv h,.bool true,clock⟩) (clock+1))).heap.size:=by rw [Rl]; simp
    have K2:=KA.trans KP;generalize put (W.alloc (.cells #[.int .i64 h.1,.int .i64 h.2] 32)) mb (.map (es.push ⟨hv h,.bool true,clock⟩) (clock+1))=W2 at *;have eg:∀ args w,(callFunc 175 args).run Tryz.prog w = .ok (.enter 175 args) w:=enters_of Tryz.func175 (by kernel_rfl) rfl;have qM:=Nk 175 #[.pointer (some ⟨b1,0,none⟩),.pointer (some ⟨b2,0,none⟩),.pointer (some ⟨b3,0,none⟩),.pointer (some ⟨b4,0,none⟩)] eg (q.ia h.1.toNat) (q.im h.1.toNat) (q.ic h.1.toNat) (q.dw h.1.toNat)
     (fun kk W'=>∃ S1,uC q B b1 b2 b3 b4 mb to W' S1/\Kp mb W2 W'/\(∀ x∈S,x∈S1)/\h∈S1/\(∀ j,j < kk->q.dw h.1.toNat j∈S1)/\∀ x∈S1,x∈S\/x=h\/∀ k,k < q.im x.1.toNat->q.dw x.1.toNat k∈S1)
     (fun W'=>∃ S1,uC q B b1 b2 b3 b4 mb to W' S1/\Kp mb W2 W'/\Reach q to h)
     (LP.g.small _ (by omega))
     (fun W' kk hk ⟨S1,L1,_⟩=>by
      obtain ⟨b,off,r1,_,r2,r3⟩:=L1.g.row h.1.toNat (by omega) kk hk;exact ⟨b,off,r1,r2,r3⟩)
     (fun kk W' hk ⟨S1,L1,k1,s1,s2,s3,s4⟩=>by
      refine (ih S1 W' (q.dw h.1.toNat kk) (hU2 kk hk) (dG (filter_lt s1 hS s2 U hhU) (Nat.le_of_lt_succ hf)) L1).mono ?_;rintro e W3 ⟨S2,L2,k2,⟨rfl,hr⟩ | ⟨rfl,AU⟩⟩
      ·exact .inl ⟨rfl,S2,L2,k1.trans k2,.dw h kk hk hr⟩
      ·refine .inr ⟨rfl,S2,L2,k1.trans k2,fun x hx=>AU.sub x (s1 x hx),AU.sub h s2,fun j hj=>?_,fun x hx=>?_⟩
       ·by_cases ej:j=kk
        ·subst ej; exact AU.is
        ·exact AU.sub _ (s3 j (by omega))
       ·rcases AU.new x hx with h1 | h1
        ·rcases s4 x h1 with h2 | h2 | h2
         ·exact .inl h2
         ·exact .inr (.inl h2)
         ·exact .inr (.inr fun k hk=>AU.sub _ (h2 k hk))
        ·exact .inr (.inr h1))
     W2.drew ⟨S++[h],LP.dj (Kp.drew mb W2) (by obtain ⟨mu,cl2,q1,q2⟩:=LP.map; exact ⟨mu,cl2,q1,q2⟩) LP.to,Kp.drew mb W2,fun x hx=>List.mem_append_left _ hx,List.mem_append_right _ (List.mem_singleton.2 rfl),fun j hj=>absurd hj (nF _),fun x hx=>(eX.1 hx).imp id fun q=>.inl (List.mem_singleton.1 q)⟩
    have Aj:0<=h.1:=hU1.1;have aJ:h.1 < (q.kn:Int):=hU1.2;have fin:∀ W' r,(r=true/\(∃ S1,uC q B b1 b2 b3 b4 mb to W' S1/\Kp mb W2 W'/\Reach q to h)\/r=false/\∃ S1,uC q B b1 b2 b3 b4 mb to W' S1/\Kp mb W2 W'/\(∀ x∈S,x∈S1)/\h∈S1/\(∀ j,j < q.im h.1.toNat->q.dw h.1.toNat j∈S1)/\∀ x∈S1,x∈S\/x=h\/∀ k,k < q.im x.1.toNat->q.dw x.1.toNat k∈S1)->
      ∃ S',uC q B b1 b2 b3 b4 mb to W' S'/\Kp mb W W'/\((Ending.returned (.bool r) = .returned (.bool true))/\Reach q to h\/(Ending.returned (.bool r) = .returned (.bool false))/\Grow q S h S'):=by
     rintro W' r (⟨rfl,S1,L1,k1,hr⟩ | ⟨rfl,S1,L1,k1,s1,s2,s3,s4⟩)
     ·exact ⟨S1,L1,K2.trans k1,.inl ⟨rfl,hr⟩⟩
     ·refine ⟨S1,L1,K2.trans k1,.inr ⟨rfl,s1,s2,fun x hx=>?_⟩⟩
      rcases s4 x hx with h1 | h1 | h1
      ·exact .inl h1
      ·subst h1; exact .inr s3
      ·exact .inr h1
    clear ih hU2 LP L y7 hf;rcases al1 with ⟨rfl,e2⟩ | e1
    ·go_enter Tryz.func175,Tryz.ntmps175
     go_wp2
     go_region_with (go_at_call 122; refine qM.mono ?_; rintro e w' ⟨r,rfl,hr⟩)
     all_goals (go_wp2; go_ret; exact fin _ _ (by assumption))
    ·go_enter Tryz.func175,Tryz.ntmps175
     go_wp2
     go_region_with (go_at_call 122; refine qM.mono ?_; rintro e w' ⟨r,rfl,hr⟩)
     all_goals (go_wp2; go_ret; exact fin _ _ (by assumption))
abbrev gv (q:G):Value:=.agg #[.slice q.sa q.sn q.sc,.slice q.ka q.kn q.kc]
def MapAt (mb:Nat) (W:World) (S:List (Int×Int)):Prop:=∃ es clock,W.heap[mb]? = some (.map es clock)/\PF es S
theorem rN (V:World) (o:Obj) (n:Nat) (h:n=V.heap.size):(V.alloc o).heap[n]? = some o:=by
 subst h;exact heap_alloc_new V o
theorem j8 {W:World} {b:Nat} {c:Array Value} {t:TypeId} (h:W.heap[b]? = some (.cells c t)) (i:Nat):W.cell? ⟨b,i,none⟩=c[i]?:=by
 unfold World.cell?;simp [h]
theorem anY (W:World) (A0 A1 A2 A3 A4:Obj):∃ V,V=((((W.alloc A0).alloc A1).alloc A2).alloc A3).alloc A4/\V.heap[W.heap.size]? = some A0/\V.heap[W.heap.size+1]? = some A1/\V.heap[W.heap.size+1+1]? = some A2/\V.heap[W.heap.size+1+1+1]? = some A3/\V.heap[W.heap.size+1+1+1+1]? = some A4/\V.heap.size=W.heap.size+5/\∀ mb,Kp mb W V:=by
 have s1:(W.alloc A0).heap.size=W.heap.size+1:=by simp
 have s2:((W.alloc A0).alloc A1).heap.size=W.heap.size+2:=by simp
 have s3:(((W.alloc A0).alloc A1).alloc A2).heap.size=W.heap.size+3:=by simp
 have s4:((((W.alloc A0).alloc A1).alloc A2).alloc A3).heap.size=W.heap.size+4:=by simp
 refine ⟨_,rfl,?_,?_,?_,?_,?_,by simp,fun mb=>((((Kp.alloc W A0).trans (Kp.alloc _ A1)).trans (Kp.alloc _ A2)).trans (Kp.alloc _ A3)).trans (Kp.alloc _ A4)⟩
 ·rw [Below.heap_alloc _ _ _ (by omega),Below.heap_alloc _ _ _ (by omega),Below.heap_alloc _ _ _ (by omega),Below.heap_alloc _ _ _ (by omega)]
  exact rN _ _ _ rfl
 ·rw [Below.heap_alloc _ _ _ (by omega),Below.heap_alloc _ _ _ (by omega),Below.heap_alloc _ _ _ (by omega)]
  exact rN _ _ _ (by omega)
 ·rw [Below.heap_alloc _ _ _ (by omega),Below.heap_alloc _ _ _ (by omega)]
  exact rN _ _ _ (by omega)
 ·rw [Below.heap_alloc _ _ _ (by omega)]
  exact rN _ _ _ (by omega)
 ·exact rN _ _ _ (by omega)
set_option maxHeartbeats 4000000 in
theorem below (q:G) (B mb:Nat) (pA to:Int×Int) (U:List (Int×Int)) (hU:∀ u∈U,(0<=u.1/\u.1 < (q.kn:Int))/\∀ k,k < q.im u.1.toNat->q.dw u.1.toNat k∈U) (S:List (Int×Int)) (W:World)
  (hf:pA∈U) (hg:GAt q B W) (hB:B<=W.heap.size) (hm:B<=mb) (hM:MapAt mb W S) (ht:to ∉ S) :
  Calls Tryz.prog 124 #[gv q,.map (some mb),hv pA,hv to] W fun e W'=>∃ S' r,e = .returned (.bool r)/\MapAt mb W' S'/\Kp mb W W'/\(r=true/\Reach q to pA\/r=false/\Grow q S pA S'/\to ∉ S'):=by
 have S8:mb < W.heap.size:=by obtain ⟨es,c,h,_⟩:=hM; exact (jg.1 h).1
 have qM:Calls Tryz.prog 175 #[hv pA,.pointer (some ⟨W.heap.size+1+1+1,0,none⟩),.pointer (some ⟨W.heap.size+1,0,none⟩),.pointer (some ⟨W.heap.size,0,none⟩),.pointer (some ⟨W.heap.size+1+1+1+1,0,none⟩)] (((((W.alloc (.cells #[.slice q.sa q.sn q.sc,.slice q.ka q.kn q.kc] 27)).alloc (.cells #[.map (some mb)] 202)).alloc (.cells #[.int .i64 pA.1,.int .i64 pA.2] 32)).alloc (.cells #[.int .i64 to.1,.int .i64 to.2] 32)).alloc (.cells #[.func (.func 175) #[] #[.pointer (some ⟨W.heap.size+1+1+1,0,none⟩),.pointer (some ⟨W.heap.size+1,0,none⟩),.pointer (some ⟨W.heap.size,0,none⟩),.pointer (some ⟨W.heap.size+1+1+1+1,0,none⟩)]] 200))
   fun e W'=>∃ S' r,e = .returned (.bool r)/\MapAt mb W' S'/\Kp mb W W'/\(r=true/\Reach q to pA\/r=false/\Grow q S pA S'/\to ∉ S'):=by
  obtain ⟨V,hV,v0,v1,v2,v3,v4,vs,vk⟩:=anY W (.cells #[.slice q.sa q.sn q.sc,.slice q.ka q.kn q.kc] 27) (.cells #[.map (some mb)] 202) (.cells #[.int .i64 pA.1,.int .i64 pA.2] 32) (.cells #[.int .i64 to.1,.int .i64 to.2] 32) (.cells #[.func (.func 175) #[] #[.pointer (some ⟨W.heap.size+1+1+1,0,none⟩),.pointer (some ⟨W.heap.size+1,0,none⟩),.pointer (some ⟨W.heap.size,0,none⟩),.pointer (some ⟨W.heap.size+1+1+1+1,0,none⟩)]] 200);rw [<- hV];have L:uC q B (W.heap.size+1+1+1) (W.heap.size+1) W.heap.size (W.heap.size+1+1+1+1) mb to V S:=
   ⟨hg.dj (vk mb) hB hm,by omega,by omega,by omega,by omega,by omega,hm,by rw [j8 v3]; rfl,by rw [j8 v3]; rfl,by rw [j8 v1]; rfl,by rw [j8 v0]; rfl,by rw [j8 v0]; rfl,by rw [j8 v4]; rfl,by
    obtain ⟨es,c,h1,h2⟩:=hM;have hk:=vk (mb+1);exact ⟨es,c,by rw [hk.block mb S8 (by omega)]; exact h1,h2⟩,ht⟩
  refine (look q B _ _ _ _ mb to U hU _ S V pA hf (AB _) L).mono ?_;rintro e W' ⟨S',L',k',⟨rfl,hr⟩ | ⟨rfl,AU⟩⟩
  ·exact ⟨S',true,rfl,L'.map,(vk mb).trans k',.inl ⟨rfl,hr⟩⟩
  ·exact ⟨S',false,rfl,L'.map,(vk mb).trans k',.inr ⟨rfl,AU,L'.to⟩⟩
 have mixed:=s0;have t32:=Tryz.underlying32; have a32:=Tryz.isAgg32; have z32:=Tryz.sizeOf32; have v32:=Tryz.zeroValue32; have u32:=run_underlying Tryz.underlying32;have t202:=Tryz.underlying202; have agi:=Tryz.isAgg202; have agj:=Tryz.sizeOf202; have agk:=Tryz.zeroValue202; have Jf:=run_underlying Tryz.underlying202;have t200:=Tryz.underlying200; have alW:=Tryz.isAgg200; have alX:=Tryz.sizeOf200; have alY:=Tryz.zeroValue200; have alZ:=run_underlying Tryz.underlying200;have t27:=Tryz.underlying27; have a27:=Tryz.isAgg27; have z27:=Tryz.sizeOf27; have v27:=Tryz.zeroValue27; have u27:=run_underlying Tryz.underlying27;have t4:=Tryz.underlying4; have a4:=Tryz.isAgg4; have z4:=Tryz.sizeOf4; have v4:=Tryz.zeroValue4; have u4:=run_underlying Tryz.underlying4;have cW:(((((W.alloc (.cells #[.slice q.sa q.sn q.sc,.slice q.ka q.kn q.kc] 27)).alloc (.cells #[.map (some mb)] 202)).alloc (.cells #[.int .i64 pA.1,.int .i64 pA.2] 32)).alloc (.cells #[.int .i64 to.1,.int .i64 to.2] 32)).alloc (.cells #[.nilFunc] 200)).cell? ⟨W.heap.size+1+1+1+1,0,none⟩=some .nilFunc:=by rw [World.cell?_alloc_at _ _ _ _ (by simp)]; rfl
 have fW:(((((W.alloc (.cells #[.slice q.sa q.sn q.sc,.slice q.ka q.kn q.kc] 27)).alloc (.cells #[.map (some mb)] 202)).alloc (.cells #[.int .i64 pA.1,.int .i64 pA.2] 32)).alloc (.cells #[.int .i64 to.1,.int .i64 to.2] 32)).alloc (.cells #[.nilFunc] 200)).frozen? ⟨W.heap.size+1+1+1+1,0,none⟩=false:=by rw [World.frozen?_alloc_at _ _ _ _ (by simp)]
 go_enter Tryz.func124,Tryz.ntmps124
 go_wp2_with (go_at_call 175; refine qM.mono ?_; rintro e w' ⟨S',r,rfl,hr⟩)
 go_wp2
 go_ret
 exact ⟨S',r,rfl,hr⟩
end Go.Proofs.YtckbdndhmcoihaaGreat.nodes
end
section
namespace Go.Proofs.YtckbdndhmcoihaaGreat.b
open Go.K
theorem funcs:Tryz.prog.funcs.toList.all az.gh=true:=by kernel_rfl
theorem mixed:Tryz.prog.follows .mixedOrders=true:=by kernel_rfl
noncomputable abbrev PG:Program:=Tryz.prog
noncomputable abbrev g0 (T:TypeId) (v:KV):KV:=gW PG (bU PG df) T v
theorem gX {R:Type} [Inhabited R] {k:R->KV} {r:List KV->Option R} {g:FuncId} {ps:List (Nat×(List KV->KR KV))} {ls:List Lp} {mt:TypeId->Bool} {fz eg:Bool} {a:(Nat->KV)->List KV} {q:(Nat->KV)->Option R} (eV:av PG ps) (gE:bO PG ls)
  (hr:∀ w,x8 PG (mA PG ps ls mt fz eg) 9 9 g (a w)=(q w).map k) (h:∀ w,pz PG (bL PG g) w 0=a w/\r (a w)=q w:=by exact fun w=>⟨by kernel_rfl,by kernel_rfl⟩) (hy:Nat.blt g az.yB=true:=by rfl):cA PG g (cI PG g (cR k r)):=
 SI funcs mixed eV gE (L:=9) (n:=9) (fun w=>by rw [(h w).1,(h w).2]; exact hr w) hy
theorem zS {l:Lp} {X:Type} [Inhabited X] {ps:List (Nat×(List KV->KR KV))} {ls:List Lp} {mt:TypeId->Bool} {fz eg:Bool} {step:X->ba X} {ev:X->List KV} {er:X->List (List KV)} {es:List az.aa} {pa:List KV->List (List KV)->X} (eV:av PG ps) (gE:bO PG ls)
  (jZ:∀ x,wI PG (mA PG ps ls mt fz eg) 9 9 l.f l.p (uA PG l.f l.p) l.S (ev x) (er x)=ba.enc ev er (step x)) (hF:l.F=fun vs rs=>eC ev er (goN step (pa vs rs)) es:=by rfl)
  (eU:∀ wv wr,ev (pa (hZ PG l.S.dh wv 0) (ib PG l.S.rows wr 0))=hZ PG l.S.dh wv 0/\er (pa (hZ PG l.S.dh wv 0) (ib PG l.S.rows wr 0))=ib PG l.S.rows wr 0:=by exact fun wv wr=>⟨by kernel_rfl,by kernel_rfl⟩) (hs:l.st=false:=by rfl):l.Ok PG:=
 acA funcs mixed eV gE (L:=9) (n:=9) hF eU jZ yg.nil hs
theorem rq {l:Lp} {ls:List Lp} (h:l.Ok PG) (r:bO PG ls) (t:B9 PG l.f l.p=true:=by kernel_rfl):bO PG (l::ls):=bO.cons h t r
noncomputable abbrev Xq (ps:List (Nat×(List KV->KR KV))) (ls:List Lp) (g:FuncId) (a:List KV):Option KV:=x8 PG (mA PG ps ls) 9 9 g a
noncomputable abbrev rk9 (ps:List (Nat×(List KV->KR KV))) (ls:List Lp) (f p:Nat) (S:aB):=wI PG (mA PG ps ls) 9 9 f p (uA PG f p) S
noncomputable abbrev AZ (ps:List (Nat×(List KV->KR KV))) (ls:List Lp) (g:FuncId) (a:List KV):Option KV:=x8 PG (mA PG ps ls (fun q=>Nat.beq q 3)) 9 9 g a
noncomputable abbrev GF (ps:List (Nat×(List KV->KR KV))) (ls:List Lp) (f p:Nat) (S:aB):=wI PG (mA PG ps ls (fun q=>Nat.beq q 3)) 9 9 f p (uA PG f p) S
abbrev v9 (vs:List KV) (i:Nat):KV:=vs.getD i .bz
abbrev r9 (rs:List (List KV)) (i k:Nat):KV:=(rs.getD i []).getD k .bz
abbrev i9:CD:=.k (.int .i64)
abbrev u9:CD:=.k (.int .u8)
abbrev b9:CD:=.k .bool
abbrev n9 (T:TypeId):CD:=.k (.slice T)
abbrev w9 (c:CD):VD:=⟨false,[c]⟩
end Go.Proofs.YtckbdndhmcoihaaGreat.b
end
section
namespace Go.Proofs.YtckbdndhmcoihaaGreat.b
open Go.K
noncomputable section
structure Slot where
 gen:Int
 live:Bool
instance:Inhabited Slot:=⟨⟨default,default⟩⟩
def amK (x:Slot):List KV:=[.int .i64 x.gen,.bool x.live]
def V6 (x:Slot):KV:=.agg (amK x)
def amL (c:Nat->KV):Slot:=⟨aw (c 0),j3 (c 1)⟩
def Rm (v:KV):Slot:=amL fun k=>v.cells.getD k .bz
def wO (s:Slot):Option (Bool):=(cond (decide (s.gen < 1)) (some (true)) (some ((decide (s.gen > 1073741824)))))
theorem KW (s:Slot):Xq [] [] 172 [V6 s] = (wO s).map kB:=by
 unfold wO
 try simp only [cJ]
 kernel_rfl
def wP:List KV->KR KV:=cI PG 172 (cR kB fun vs=>wO (Rm (v9 vs 0)))
theorem zo:cA PG 172 wP:=gX av.nil bO.nil fun w=>KW (Rm (g0 111 (w 0)))
structure lX where
 ct:(Sl Slot)
instance:Inhabited lX:=⟨⟨default⟩⟩
def akY (x:lX):List KV:=[dS 111 V6 x.ct]
def rO (x:lX):KV:=.agg (akY x)
def akZ (c:Nat->KV):lX:=⟨eG Rm (c 0)⟩
def Kz (v:KV):lX:=akZ fun k=>v.cells.getD k .bz
structure bR where
 s:(Sl Slot)
 t4:Int
 t7:Int
 t8:Int
instance:Inhabited bR:=⟨⟨default,default,default,default⟩⟩
def gm (x:bR):List KV:=[dS 111 V6 x.s,.fn (.func 172) [] [],.int .i64 x.t4,.int .i64 x.t7,.int .i64 x.t8]
def gp (x:bR):List (List KV):=[]
def j9 (vs:List KV) (rs:List (List KV)):bR:=⟨eG Rm (v9 vs 0),aw (v9 vs 2),aw (v9 vs 3),aw (v9 vs 4)⟩
def kC:aB:=⟨[(0,w9 (n9 111)),(1,⟨false,[.lit (.fn (.func 172) [] [])]⟩),(4,w9 i9),(7,w9 i9),(8,w9 i9)],[],[]⟩
def qv:=rk9 [(172,wP)] [] 210 26 kC
def db (x:bR):ba bR:=(cond (decide (x.t8 < x.t7)) (cond ((decide (0<=x.t8))&&(decide (x.t8 < (x.s.n:Int)))) (cond (decide ((x.s.get (Int.toNat x.t8)).gen < 1)) (.out az.aa.ret ⟨x.s,x.t8,x.t7,x.t8⟩) (cond (decide ((x.s.get (Int.toNat x.t8)).gen > 1073741824)) (.out az.aa.ret ⟨x.s,x.t8,x.t7,x.t8⟩) (.next ⟨x.s,x.t4,x.t7,(bB (x.t8+1))⟩))) .fail) (.out (az.aa.exit 0) x))
theorem pB (x:bR):qv (gm x) (gp x)=ba.enc gm gp (db x):=by
 unfold db
 try simp only [ba.dt]
 kernel_rfl
def kD:Lp:=⟨210,26,kC,fun vs rs=>eC gm gp (goN db (j9 vs rs)) [az.aa.exit 0,az.aa.ret],false⟩
theorem qw:kD.Ok PG:=zS (av.cons zo av.nil) bO.nil (pa:=j9) pB
def pC (a:lX):=goN db ⟨a.ct,0,(a.ct.n:Int),0⟩
def dz (a:lX):Option (Int):=(cond (decide ((a.ct.n:Int) > 128)) (some (8)) (cond ((pC a).by (az.aa.exit 0)) (some (0)) (cond ((pC a).by az.aa.ret) (cond (decide ((pC a).st.t4 >= 0)) (some (8)) (some (0))) none)))
theorem Rn (a:lX):Xq [(172,wP)] [kD] 120 [rO a] = (dz a).map (kI .i64):=by
 unfold dz
 try simp only [cJ]
 kernel_rfl
def Jg:List KV->KR KV:=cI PG 120 (cR (kI .i64) fun vs=>dz (Kz (v9 vs 0)))
theorem Df:cA PG 120 Jg:=gX (av.cons zo av.nil) (rq qw bO.nil) fun w=>Rn (Kz (g0 24 (w 0)))
structure Handle where
 slot:Int
 gen:Int
instance:Inhabited Handle:=⟨⟨default,default⟩⟩
def acE (x:Handle):List KV:=[.int .i64 x.slot,.int .i64 x.gen]
def jJ (x:Handle):KV:=.agg (acE x)
def acF (c:Nat->KV):Handle:=⟨aw (c 0),aw (c 1)⟩
def jK (v:KV):Handle:=acF fun k=>v.cells.getD k .bz
theorem Nl (x:Handle):jK (jJ x)=x:=rfl
theorem V7:jK .bz=default:=rfl
theorem GG (s:Sl Handle) (v:Handle):s.push v=nh jK (s.n+1) (dV s.n (fun i=>jJ (s.get i)) (qj [jJ v])):=(Ky Nl V7 s v).symm
theorem acG (l:List Handle):Sl.lit l=nh jK l.length (qj (l.map jJ)):=(V4 Nl V7 l).symm
theorem acH (m n n' : Nat) (acc fa:Nat->KV):nh jK m (dV n (fun i=>jJ ((nh jK n' acc).get i)) fa)=nh jK m (dV n acc fa):=V5 Nl ..
def jU (a:lX) (h:Handle):Option (Bool):=(cond (decide (h.slot >= 0)) (cond (decide (h.slot < (a.ct.n:Int))) (cond ((decide (0<=h.slot))&&(decide (h.slot < (a.ct.n:Int)))) (some ((((a.ct.get (Int.toNat h.slot)).gen==h.gen)&&(((a.ct.get (Int.toNat h.slot)).live==true)&&true)))) none) (some (false))) (some (false)))
theorem Tk (a:lX) (h:Handle):Xq [] [] 128 [rO a,jJ h] = (jU a h).map kB:=by
 unfold jU
 try simp only [cJ]
 kernel_rfl
def LO:List KV->KR KV:=cI PG 128 (cR kB fun vs=>jU (Kz (v9 vs 0)) (jK (v9 vs 1)))
theorem Ro:cA PG 128 LO:=gX av.nil bO.nil fun w=>Tk (Kz (g0 24 (w 0))) (jK (g0 32 (w 1)))
def pD (a:lX) (h:Handle):=dz a
def pE (a:lX) (h:Handle):=jU a h
def de (a:lX) (h:Handle):Option (Bool):=(cond (pD a h).isSome (cond (((pD a h).getD default)==0) (cond (pE a h).isSome (some (((pE a h).getD default))) none) (some (false))) none)
theorem Rp (a:lX) (h:Handle):Xq [(128,LO),(120,Jg)] [] 77 [rO a,jJ h] = (de a h).map kB:=by
 unfold de
 try simp only [cJ]
 kernel_rfl
def ss:List KV->KR KV:=cI PG 77 (cR kB fun vs=>de (Kz (v9 vs 0)) (jK (v9 vs 1)))
theorem oz:cA PG 77 ss:=gX (av.cons Ro (av.cons Df av.nil)) bO.nil fun w=>Rp (Kz (g0 24 (w 0))) (jK (g0 32 (w 1)))
end
end Go.Proofs.YtckbdndhmcoihaaGreat.b
end
