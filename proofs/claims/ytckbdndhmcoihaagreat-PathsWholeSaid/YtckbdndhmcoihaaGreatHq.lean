/- Part of the proof of PathsWhole: the machine, shown to be the model's, and plain models. No conditions. -/
import Derived.Test.YtckbdndhmcoihaaGreatGq
import Derived.SizedLaws
import Derived.OpenShut
import Derived.ChangeArms
import Derived.WideShapes
import Derived.Below
import Derived.KernelRfl
import Derived.Test.YtckbdndhmcoihaaGreatProg
import Derived.WalkKit
import Derived.Lib.Walk
import Derived.Lib.SliceRun
import Derived.Shelf.SlicesQ.Load
import Derived.Shelf.GgClosure.Gives
import Derived.MapKept
import Derived.Deep.RegionWith
import Derived.Laws.EntriesVeiled
set_option linter.unusedSimpArgs false
set_option linter.unusedVariables false
section
namespace Go.K
open Go Go.aA
variable {P:Program} {E:Env}
def Env.re (E:Env) (f n:Nat):Env:={ κ:=E.κ,z:=E.z,φ:=E.φ,α:=fun b=>if b=f then E.α n else E.α b }
theorem Env.ajg {f n:Nat} (h:∀ p,E.α f=some p->E.α n=some p):E.le (E.re f n):=⟨fun b p e=>by
 simp only [Env.re];split
 ·rename_i e1; subst e1; exact h p e
 ·exact e,fun _ _ e=>e,fun _ _ e=>e,fun _ _ e=>e⟩
theorem Env.adY {f n:Nat} : (E.re f n).α f=E.α n:=by simp [Env.re]
theorem Env.yo {f n b:Nat} (h:b≠f):(E.re f n).α b=E.α b:=by simp [Env.re,h]
theorem du.swap {A:ai} {B:St} {f n:Nat} {v:KV} (h:du P E A B) (hf:A.get f=some .dead) (hn:A.get n=some (.arr v)) (Mz:E.κ f=none) (oM:∀ p,E.α f=some p->E.α n=some p) :
  du P (E.re f n) ((A.put f (.arr v)).put n .dead) B/\(∀ x,AR ((A.put f (.arr v)).put n .dead) (E.re f n) x->AR A E x)/\∀ g,AF ((A.put f (.arr v)).put n .dead) (E.re f n) B g->AF A E B g:=by
 have bA:f≠n:=fun e=>by rw [e,hn] at hf; simp at hf
 have hle:=Env.ajg oM;have gi:∀ b o,((A.put f (.arr v)).put n .dead).get b=some o->(b=n/\o = .dead)\/(b=f/\o = .arr v)\/(b≠f/\b≠n/\A.get b=some o):=fun b o hb=>by
  rw [ai.b6] at hb;split at hb
  ·rename_i e; simp at hb; exact .inl ⟨e,hb.symm⟩
  ·rename_i e
   rw [ai.b6] at hb;split at hb
   ·rename_i e2; simp at hb; exact .inr (.inl ⟨e2,hb.symm⟩)
   ·rename_i e2; exact .inr (.inr ⟨e2,e,hb⟩)
 have hA:∀ b u,((A.put f (.arr v)).put n .dead).get b=some (.arr u)->∃ c,A.get c=some (.arr u)/\(E.re f n).α b=E.α c/\((b=f/\c=n)\/(b≠f/\b≠n/\c=b)):=fun b u hb=>by
  rcases gi b _ hb with ⟨_,e⟩ | ⟨e,e2⟩ | ⟨e,e2,e3⟩
  ·simp at e
  ·simp at e2; subst e2 e; exact ⟨n,hn,Env.adY,.inl ⟨rfl,rfl⟩⟩
  ·exact ⟨b,e3,Env.yo e,.inr ⟨e,e2,rfl⟩⟩
 have ajh:∀ {b c d:Nat},((b=f/\d=n)\/(b≠f/\b≠n/\d=b))->((c=f/\d=n)\/(c≠f/\c≠n/\d=c))->b=c:=fun h1 h2=>by
  rcases h1 with ⟨a1,a2⟩ | ⟨a1,a2,a3⟩ <;> rcases h2 with ⟨b1,b2⟩ | ⟨b1,b2,b3⟩ <;> omega
 have po:∀ x,AR ((A.put f (.arr v)).put n .dead) (E.re f n) x->AR A E x:=fun x ⟨b,u,L,N,h1,h2⟩=>by
  obtain ⟨c,h3,h4,_⟩:=hA b u h1;exact ⟨c,u,L,N,h3,by rw [<- h4]; exact h2⟩
 have IW:∀ g,AF ((A.put f (.arr v)).put n .dead) (E.re f n) B g->AF A E B g:=fun g ⟨b,u,x,L,N,cs,e,own,k,h1,h2,h3⟩=>by
  obtain ⟨c,h4,h5,_⟩:=hA b u h1;exact ⟨c,u,x,L,N,cs,e,own,k,h4,by rw [<- h5]; exact h2,h3⟩
 have hold:∀ b o,((A.put f (.arr v)).put n .dead).get b=some o->b < A.next:=fun b o hb=>by
  rcases gi b _ hb with ⟨e,_⟩ | ⟨e,_⟩ | ⟨_,_,e⟩
  ·rw [e]; exact h.live n _ hn
  ·rw [e]; exact h.live f _ hf
  ·exact h.live b o e
 refine ⟨⟨fun b cs aQ hb=>?_,fun b top sz hb=>?_,h.z,h.apart,h.inj,fun b c g tb sb tc sc hb hc=>?_,h.fZ,h.lk,hold,h.eD,h.lT,h.iU,h.fresh,h.mem,?_⟩,po,IW⟩
 ·rcases gi b _ hb with ⟨_,e⟩ | ⟨_,e⟩ | ⟨_,_,e⟩
  ·simp at e
  ·simp at e
  ·obtain ⟨x,b5,h1,h2,h3⟩:=h.row b cs aQ e
   exact ⟨x,b5,h1,h2,h3.mono hle⟩
 ·rcases gi b _ hb with ⟨_,e⟩ | ⟨_,e⟩ | ⟨_,_,e⟩
  ·simp at e
  ·simp at e
  ·exact h.aF b top sz e
 ·rcases gi b _ hb with ⟨_,e⟩ | ⟨_,e⟩ | ⟨_,_,hb⟩
  ·simp at e
  ·simp at e
  rcases gi c _ hc with ⟨_,e⟩ | ⟨_,e⟩ | ⟨_,_,hc⟩
  ·simp at e
  ·simp at e
  exact h.iB b c g tb sb tc sc hb hc
 ·refine ⟨fun b u hb=>?_,fun b u hb=>?_,fun x q=>h.ar.z x (po x q),fun b c u u' x L N L' N' h1 h2 h3 h4=>?_,fun b c u u' x y L N L' N' cs e own g k b5 e' nJ k' h1 h2 h3 h4 h5 h6=>?_,fun b x e=>?_,fun b p e=>?_,fun b x L N e=>?_,fun b u x L N cs e own g k h1 h2 h3=>?_,fun b u hb=>?_⟩
  ·obtain ⟨c,h1,h2,_⟩:=hA b u hb
   obtain ⟨T,N,es,acc,q1,q2,q3,q4⟩:=h.ar.arr c u h1;refine ⟨T,N,es,acc,q1,q2,q3,?_⟩;rw [h2];exact q4.imp id fun ⟨x,cs,aZ,aP,r1,r2,r3,r4⟩=>⟨x,cs,aZ,aP,r1,r2,r3.mono hle,r4⟩
  ·rcases gi b _ hb with ⟨_,e⟩ | ⟨_,e⟩ | ⟨e1,_,e⟩
   ·simp at e
   ·simp at e
   ·exact (h.ar.iI b u e).mono hle (Env.yo e1)
  ·obtain ⟨b',k1,k2,k3⟩:=hA b u h1
   obtain ⟨c',l1,l2,l3⟩:=hA c u' h2;rw [k2] at h3; rw [l2] at h4;have:=h.ar.inj b' c' u u' x L N L' N' k1 l1 h3 h4;subst this;exact ajh k3 l3
  ·obtain ⟨b',k1,k2,k3⟩:=hA b u h1
   obtain ⟨c',l1,l2,l3⟩:=hA c u' h2;rw [k2] at h3; rw [l2] at h4;have:=h.ar.rC b' c' u u' x y L N L' N' cs e own g k b5 e' nJ k' k1 l1 h3 h4 h5 h6;subst this;exact ajh k3 l3
  ·have hb:b≠f:=fun e2=>by rw [e2] at e; rw [show (E.re f n).κ f=E.κ f from rfl,Mz] at e; simp at e
   rw [Env.yo hb];exact h.ar.WT b x e
  ·by_cases hb:b=f
   ·rw [hb]; exact h.live f _ hf
   ·rw [Env.yo hb] at e; exact h.ar.fZ b p e
  ·by_cases hb:b=f
   ·rw [hb,Env.adY] at e; exact h.ar.eD n x L N e
   ·rw [Env.yo hb] at e; exact h.ar.eD b x L N e
  ·obtain ⟨c,k1,k2,_⟩:=hA b u h1
   rw [k2] at h2;obtain ⟨q1,q2,q3⟩:=h.ar.p7 c u x L N cs e own g k k1 h2 h3;exact ⟨q1,q2,fun y hy hy2=>⟨(q3 y hy hy2).1,fun q=>(q3 y hy hy2).2.1 (po y q),(q3 y hy hy2).2.2⟩⟩
  ·refine ⟨hold b _ hb,?_⟩
   rcases gi b _ hb with ⟨_,e⟩ | ⟨e,_⟩ | ⟨_,_,e⟩
   ·simp at e
   ·rw [e]; exact Mz
   ·exact (h.ar.nk b u e).2
structure Sw (E:Env) (A:ai) (B:St) (E' : Env) (A' : ai):Prop where
 le:E.le E'
 κ:E'.κ=E.κ
 z:E'.z=E.z
 φ:E'.φ=E.φ
 next:A'.next=A.next
 ar:∀ x,AR A' E' x->AR A E x
 af:∀ g,AF A' E' B g->AF A E B g
theorem Sw.refl {A:ai} {B:St} : Sw E A B E A:=⟨Env.le_refl _,rfl,rfl,rfl,rfl,fun _ h=>h,fun _ h=>h⟩
theorem Sw.trans {E1 E2 E3:Env} {A1 A2 A3:ai} {B:St} (h:Sw E1 A1 B E2 A2) (k:Sw E2 A2 B E3 A3):Sw E1 A1 B E3 A3:=
 ⟨Env.le_trans h.le k.le,k.κ.trans h.κ,k.z.trans h.z,k.φ.trans h.φ,k.next.trans h.next,fun x q=>h.ar x (k.ar x q),fun g q=>h.af g (k.af g q)⟩
theorem Ev.sw {base:Nat} {E1 E2 E3:Env} {A1 A2 A3:ai} {B1 B2:St} {fH nv:Ren} {w1 w2:World} (h:Ev P base E1 A1 B1 fH w1 E2 A2 B2 nv w2) (hk:du P E3 A3 B2) (k:Sw E2 A2 B2 E3 A3):Ev P base E1 A1 B1 fH w1 E3 A3 B2 nv w2 where
 dI:=hk
 gG:=h.gG
 le:=Env.le_trans h.le k.le
 next:=by rw [k.next]; exact h.next
 di:=h.di
 new b x e:=h.new b x (by rw [<- k.κ]; exact e)
 qN b r e:=h.qN b r (by rw [<- k.z]; exact e)
 pj b g e:=h.pj b g (by rw [<- k.φ]; exact e)
 nw:=h.nw
 jT x q:=h.jT x (k.ar x q)
 j9 g q:=h.j9 g (k.af g q)
 rI:=h.rI
 lU y q:=h.lU y (q.imp (k.ar y) fun ⟨g,q1,q2⟩=>⟨g,k.af g q1,q2⟩)
 rows:=h.rows
noncomputable section
def aji (A:ai) (f j:Nat) (o:gJ):ai:=
 match o with
 | .arr v=>(A.put f (.arr v)).put j .dead
 | _=>A
def A7 (A:ai):List (Option Nat)->Nat->List gJ->ai
 | some f::fs,j,o::os=>A7 (aji A f j o) fs (Nat.succ j) os
 | none::fs,j,_::os=>A7 A fs (Nat.succ j) os
 | _,_,_=>A
structure X6 (E:Env) (A:ai) (fs:List (Option Nat)) (j:Nat) (os:List gJ):Prop where
 one:∀ (i:Nat) f v,fs[i]? = some (some f)->os[i]? = some (.arr v)->A.get f=some .dead/\E.κ f=none/\A.get (j+i)=some (.arr v)/\∀ p,E.α f=some p->E.α (j+i)=some p
 lt:∀ (i f:Nat),fs[i]? = some (some f)->f < j
 nodup:∀ (i k f:Nat),fs[i]? = some (some f)->fs[k]? = some (some f)->i=k
theorem X6.tail {E1:Env} {A A1:ai} {x:Option Nat} {o:gJ} {fs:List (Option Nat)} {os:List gJ} {j:Nat} (h:X6 E A (x::fs) j (o::os)) (oM:∀ b,x≠some b->E1.α b=E.α b) (Mz:E1.κ=E.κ) (hg:∀ b,x≠some b->b≠j->A1.get b=A.get b):X6 E1 A1 fs (Nat.succ j) os where
 one i f v e1 e2:=by
  obtain ⟨h1,h3,h4,h5⟩:=h.one (i+1) f v (by simpa using e1) (by simpa using e2);have aI:=h.lt (i+1) f (by simpa using e1);rw [show j+(i+1)=Nat.succ j+i by omega] at h4 h5;have hf:x≠some f:=fun e=>by have:=h.nodup (i+1) 0 f (by simpa using e1) (by simp [e]); omega
  have hn:x≠some (Nat.succ j+i):=fun e=>by have:=h.lt 0 (Nat.succ j+i) (by simp [e]); omega
  exact ⟨by rw [hg f hf (by omega)]; exact h1,by rw [Mz]; exact h3,by rw [hg _ hn (by omega)]; exact h4,fun p e=>by rw [oM f hf] at e; rw [oM _ hn]; exact h5 p e⟩
 lt i f e:=by have:=h.lt (i+1) f (by simpa using e); omega
 nodup i k f e1 e2:=by have:=h.nodup (i+1) (k+1) f (by simpa using e1) (by simpa using e2); omega
theorem QR {B:St} : ∀ {fs:List (Option Nat)} {os:List gJ} {j:Nat} {E:Env} {A:ai},du P E A B->X6 E A fs j os->∃ E',du P E' (A7 A fs j os) B/\Sw E A B E' (A7 A fs j os)/\
  (∀ (i:Nat) f v,fs[i]? = some (some f)->os[i]? = some (.arr v)->E'.α f=E.α (j+i))/\(∀ b,(∀ i:Nat,fs[i]?≠some (some b))->E'.α b=E.α b)
 | [],os,j,E,A,h,_=>⟨E,h,.refl,fun i f v e=>by simp at e,fun _ _=>rfl⟩
 | x::fs,[],j,E,A,h,_=>⟨E,by cases x <;> exact h,by cases x <;> exact .refl,fun i f v _ e=>by simp at e,fun _ _=>rfl⟩
 | none::fs,o::os,j,E,A,h,ho=>by
  obtain ⟨E',h1,h2,h3,h4⟩:=QR h (ho.tail (fun _ _=>rfl) rfl fun _ _ _=>rfl);refine ⟨E',h1,h2,fun i f v e1 e2=>?_,fun b hb=>h4 b fun i=>by have:=hb (i+1); simpa using this⟩;cases i with
  | zero=>simp at e1
  | succ i=>
   rw [h3 i f v (by simpa using e1) (by simpa using e2)];congr 1;omega
 | some f0::fs,o::os,j,E,A,h,ho=>by
  have anz:∀ i:Nat,fs[i]?≠some (some f0):=fun i e=>by have:=ho.nodup (i+1) 0 f0 (by simpa using e) (by simp); omega
  have step:∀ {E1:Env} {A1:ai},du P E1 A1 B->Sw E A B E1 A1->aji A f0 j o=A1->(∀ b,b≠f0->E1.α b=E.α b)->(∀ v,o = .arr v->E1.α f0=E.α j)->X6 E1 A1 fs (Nat.succ j) os->
    ∃ E',du P E' (A7 A (some f0::fs) j (o::os)) B/\Sw E A B E' (A7 A (some f0::fs) j (o::os))/\(∀ (i:Nat) f v,(some f0::fs)[i]? = some (some f)->(o::os)[i]? = some (.arr v)->E'.α f=E.α (j+i))/\(∀ b,(∀ i:Nat,(some f0::fs)[i]?≠some (some b))->E'.α b=E.α b):=by
   intro E1 A1 k1 k2 k3 k4 k5 k6;obtain ⟨E',h1,h2,h3,h4⟩:=QR k1 k6;have e0:A7 A (some f0::fs) j (o::os)=A7 A1 fs (Nat.succ j) os:=by rw [<- k3]; rfl
   rw [e0];refine ⟨E',h1,k2.trans h2,fun i f v e1 e2=>?_,fun b hb=>?_⟩
   ·cases i with
    | zero=>
     simp at e1 e2;subst e1;rw [h4 f0 anz];exact k5 v e2
    | succ i=>
     rw [h3 i f v (by simpa using e1) (by simpa using e2),k4 _ fun e=>by have:=ho.lt 0 f0 (by simp); omega];congr 1;omega
   ·rw [h4 b fun i=>by have:=hb (i+1); simpa using this]
    exact k4 b fun e=>hb 0 (by simp [e])
  cases o with
  | arr v=>
   obtain ⟨h1,h2,h3,h4⟩:=ho.one 0 f0 v (by simp) (by simp);obtain ⟨q1,q2,q3⟩:=h.swap (n:=j) h1 h3 h2 h4;have fA:∀ b,some f0≠some b->b≠j->((A.put f0 (.arr v)).put j .dead).get b=A.get b:=fun b e1 e2=>by
    rw [ai.b6,ae e2,ai.b6,ae fun e=>e1 (by rw [e])]
   exact step q1 ⟨Env.ajg h4,rfl,rfl,rfl,by rw [ai.o8,ai.o8],q2,q3⟩ rfl (fun b hb=>Env.yo hb) (fun _ _=>Env.adY) (ho.tail (fun b hb=>Env.yo fun e=>hb (by rw [e])) rfl fA)
  | _=>exact step h .refl rfl (fun _ _=>rfl) (fun v e=>by simp at e) (ho.tail (fun _ _=>rfl) rfl fun _ _ _=>rfl)
def rnB (fs:List (Option Nat)) (nx b:Nat):Nat:=cond (Nat.ble nx b) (match XK (b - nx) fs with
 | some (some f)=>f
 | _=>b) b
def rn1 (fs:List (Option Nat)) (nx:Nat) (v:KV):KV:=
 match v with
 | .al t b o n=>.al t (rnB fs nx b) o n
 | v=>v
def afN (fs:List (Option Nat)) (nx:Nat):List KV->List KV
 | []=>[]
 | v::vs=>rn1 fs nx v::afN fs nx vs
def rnV (fs:List (Option Nat)) (nx:Nat) (v:KV):KV:=
 match v with
 | .agg cs=>.agg (afN fs nx cs)
 | v=>rn1 fs nx v
def ajj (fs:List (Option Nat)) (nx:Nat):List (Nat×KV)->List (Nat×KV)
 | []=>[]
 | q::qs=>(q.1,rnV fs nx q.2)::ajj fs nx qs
def Vm (E1 E2:Env) (fs:List (Option Nat)) (nx:Nat):Prop:=E1.le E2/\∀ (i f:Nat),fs[i]? = some (some f)->∀ p,E1.α (nx+i)=some p->E2.α f=some p
theorem akC {E1 E2:Env} {fs:List (Option Nat)} {nx b:Nat} (h:Vm E1 E2 fs nx) {p:Nat×Nat×Nat} (e:E1.α b=some p):E2.α (rnB fs nx b)=some p:=by
 unfold rnB;cases hb:Nat.ble nx b with
 | false=>exact h.1.α b p e
 | true=>
  simp only [ah];have hb:=cL hb;rw [UA];split
  ·rename_i f hf
   exact h.2 _ f hf p (by rw [show nx+(b - nx)=b by omega]; exact e)
  ·exact h.1.α b p e
theorem afO {E1 E2:Env} {fs:List (Option Nat)} {nx:Nat} (h:Vm E1 E2 fs nx) {v:KV} {u:Value} (hv:VK P E1 v u):VK P E2 (rn1 fs nx v) u:=by
 unfold rn1;split
 ·rename_i t b o n
  refine .IE ?_;rcases hv.rH with q | ⟨x,L,N,c,q1,q2⟩
  ·exact .inl q
  ·exact .inr ⟨x,L,N,c,akC h q1,q2⟩
 ·exact hv.mono h.1
theorem Vn {E1 E2:Env} {fs:List (Option Nat)} {nx:Nat} (h:Vm E1 E2 fs nx):∀ {vs:List KV} {us:List Value},aK P E1 vs us->aK P E2 (afN fs nx vs) us
 | [],us,hv=>by rw [hv.bz]; exact .nil
 | v::vs,us,hv=>by
  obtain ⟨u,WQ,rfl,h1,h2⟩:=hv.cons_inv;exact .cons (afO h h1) (Vn h h2)
theorem akD {E1 E2:Env} {fs:List (Option Nat)} {nx:Nat} (h:Vm E1 E2 fs nx) {v:KV} {u:Value} (hv:VK P E1 v u):VK P E2 (rnV fs nx v) u:=by
 unfold rnV;split
 ·obtain ⟨m,rfl,h1⟩:=hv.ju
  exact .nt (Vn h h1)
 ·exact afO h hv
theorem Sb {E1 E2:Env} {fs:List (Option Nat)} {nx:Nat} (h:Vm E1 E2 fs nx):∀ (l:List (Nat×KV)),ot P E1 E2 l (ajj fs nx l)
 | []=>trivial
 | _::qs=>⟨rfl,fun _ hv=>akD h hv,Sb h qs⟩
end
end Go.K
end
section
namespace Go.K
open Go Go.aA
variable {P:Program} {E:Env}
noncomputable section
def wY:List CD->List Bool
 | []=>[]
 | .aF _::ds=>false::wY ds
 | .arr _::ds=>true::wY ds
 | _::ds=>wY ds
def Tk:List (Tmp×VD)->List Bool
 | []=>[]
 | p::ps=>wY p.2.ks++Tk ps
def Tl:List (Tmp×List CD×Nat)->List Bool
 | []=>[]
 | p::ps=>wY p.2.1++Tl ps
def aB.kinds (S:aB):List Bool:=Tk S.dh++Tl S.rows
def Dm:gJ->Bool
 | .arr _=>true
 | _=>false
theorem qv:∀ {ds:List CD} {vs:List KV},vs.length=ds.length->(lW P ds vs).map Dm=wY ds
 | [],[],_=>rfl
 | [],_::_,e=>by simp at e
 | _::_,[],e=>by simp at e
 | .k c::ds,v::vs,e=>by simp only [lW,wY]; exact qv (by simpa using e)
 | .lit w::ds,v::vs,e=>by simp only [lW,wY]; exact qv (by simpa using e)
 | .ref w::ds,v::vs,e=>by simp only [lW,wY]; exact qv (by simpa using e)
 | .aF t::ds,v::vs,e=>by simp only [lW,wY,List.map_cons,Dm]; rw [qv (by simpa using e)]
 | .arr t::ds,v::vs,e=>by simp only [lW,wY,List.map_cons,Dm]; rw [qv (by simpa using e)]
theorem O9:∀ {ps:List (Tmp×VD)} {vs:List KV},dY ps vs=true->(wT P ps vs).map Dm=Tk ps
 | [],[],_=>rfl
 | [],_::_,h=>by simp [dY] at h
 | _::_,[],h=>by simp [dY] at h
 | p::ps,v::vs,h=>by
  simp only [dY,aj] at h;simp only [wT,Tk,yH];rw [qv (Ja h.1),O9 h.2]
theorem Pa:∀ {ps:List (Tmp×List CD×Nat)} {rs:List (List KV)},rs.length=ps.length->(∀ (k:Nat) p r,ps[k]? = some p->rs[k]? = some r->cH p.2.1 r=true)->(ym P ps rs).map Dm=Tl ps
 | [],[],_,_=>rfl
 | [],_::_,e,_=>by simp at e
 | _::_,[],e,_=>by simp at e
 | p::ps,r::rs,e,h=>by
  simp only [ym,Tl,yH];rw [qv (wV (h 0 p r rfl rfl)),Pa (by simpa using e) fun k p r h1 h2=>h (k+1) p r h1 h2]
theorem Sc {S:aB} {vs:List KV} {rs:List (List KV)} (hv:dY S.dh vs=true) (hl:rs.length=S.rows.length) (hg:∀ (k:Nat) p r,S.rows[k]? = some p->rs[k]? = some r->cH p.2.1 r=true):(S.lens P vs rs).map Dm=S.kinds:=by
 rw [aB.lens,yH,O9 hv,Pa hl hg]; rfl
theorem MX {S:aB} {os:List gJ} (h:os.map Dm=S.kinds) {i:Nat} (hi:S.kinds[i]? = some true):∃ v,os[i]? = some (.arr v):=by
 rw [<- h,mg,aU] at hi;obtain ⟨o,h1,h2⟩:=hi;cases o <;> simp [Dm] at h2;exact ⟨_,h1⟩
def si:List Bool->List (Option Nat)->List (Option Nat)
 | true::ks,f::fs=>f::si ks fs
 | false::ks,_::fs=>none::si ks fs
 | _,_=>[]
theorem MZ:∀ {ks:List Bool} {fs:List (Option Nat)} {i f:Nat},(si ks fs)[i]? = some (some f)->ks[i]? = some true/\fs[i]? = some (some f)
 | [],_,_,_,h=>by simp [si] at h
 | true::_,[],_,_,h=>by simp [si] at h
 | false::_,[],_,_,h=>by simp [si] at h
 | true::ks,f::fs,0,_,h=>by simp [si] at h; simp [h]
 | false::ks,f::fs,0,_,h=>by simp [si] at h
 | true::ks,f::fs,i+1,_,h=>by simpa using MZ (ks:=ks) (fs:=fs) (i:=i) (by simpa [si] using h)
 | false::ks,f::fs,i+1,_,h=>by simpa using MZ (ks:=ks) (fs:=fs) (i:=i) (by simpa [si] using h)
def sk:List Bool->List (Option Nat)->Nat->Bool
 | true::ks,some f::fs,j=>Nat.beq f j&&sk ks fs (Nat.succ j)
 | true::_,none::_,_=>false
 | false::ks,_::fs,j=>sk ks fs (Nat.succ j)
 | _,_,_=>true
theorem GN:∀ {ks:List Bool} {fs:List (Option Nat)} {j i:Nat} {x:Option Nat},sk ks fs j=true->ks[i]? = some true->fs[i]? = some x->x=some (j+i)
 | [],_,_,_,_,_,h,_=>by simp at h
 | _::_,[],_,_,_,_,_,h=>by simp at h
 | true::_,none::_,_,_,_,h,_,_=>by simp [sk] at h
 | true::ks,some f::fs,j,0,x,h,_,e=>by
  simp only [sk,aj] at h;simp at e;rw [<- e,aE h.1];rfl
 | false::ks,_::fs,j,0,x,_,h,_=>by simp at h
 | true::ks,some f::fs,j,i+1,x,h,h2,e=>by
  simp only [sk,aj] at h;rw [GN (i:=i) (x:=x) h.2 (by simpa using h2) (by simpa using e)];congr 1;omega
 | false::ks,_::fs,j,i+1,x,h,h2,e=>by
  rw [GN (ks:=ks) (fs:=fs) (j:=Nat.succ j) (i:=i) (x:=x) (by simpa [sk] using h) (by simpa using h2) (by simpa using e)];congr 1;omega
theorem Km {S:aB} {vs:List KV} {rs:List (List KV)} (hv:dY S.dh vs=true) (hl:rs.length=S.rows.length) (hg:∀ (k:Nat) p r,S.rows[k]? = some p->rs[k]? = some r->cH p.2.1 r=true):(S.lens P vs rs).length=lq S.dh+(S.rows.map fun p=>oo p.2.1).sum:=by
 rw [aB.lens,fE,yV hv,D9 hl hg rfl]
def aB.r8 (S:aB) (nx:Nat) (bs:List Nat) (fs:List (Option Nat)) (vs:List KV):bI:=gK (ajj (si S.kinds fs) nx (S.prs nx bs vs))
def ZT (fs:List (Option Nat)) (nx:Nat) (A:ai) (b:Nat):ai:=
 match A.get b with
 | some (.row cs aQ)=>A.put b (.row (afN fs nx cs) aQ)
 | _=>A
def Tn (fs:List (Option Nat)) (nx:Nat):List Nat->ai->ai
 | [],A=>A
 | b::bs,A=>Tn fs nx bs (ZT fs nx A b)
theorem du.amn {A:ai} {B:St} (h:du P E A B) {b:Nat} {cs iw:List KV} {aQ:Nat} (hb:A.get b=some (.row cs aQ)) (hc:∀ us,aK P E cs us->aK P E iw us):du P E (A.put b (.row iw aQ)) B/\Sw E A B E (A.put b (.row iw aQ)):=by
 have gi:∀ c o,(A.put b (.row iw aQ)).get c=some o->(c=b/\o = .row iw aQ)\/A.get c=some o:=fun c o hg=>by
  rw [ai.b6] at hg;split at hg
  ·rename_i e; simp at hg; exact .inl ⟨e,hg.symm⟩
  ·exact .inr hg
 have iP:∀ c v,(A.put b (.row iw aQ)).get c=some (.arr v)->A.get c=some (.arr v):=fun c v hg=>by
  rcases gi c _ hg with ⟨_,e⟩ | e
  ·simp at e
  ·exact e
 have rW:∀ c t s,(A.put b (.row iw aQ)).get c=some (.aF t s)->A.get c=some (.aF t s):=fun c t s hg=>by
  rcases gi c _ hg with ⟨_,e⟩ | e
  ·simp at e
  ·exact e
 refine ⟨⟨fun c b5 e' hg=>?_,fun c t s hg=>h.aF c t s (rW _ _ _ hg),h.z,h.apart,h.inj,fun c d g tb sb tc sc h1 h2=>h.iB c d g tb sb tc sc (rW _ _ _ h1) (rW _ _ _ h2),h.fZ,h.lk,fun c o hg=>?_,h.eD,h.lT,h.iU,h.fresh,h.mem,
  h.ar.di (Env.le_refl _) (fun _=>rfl) iP (fun c v hg=>?_) (ao _) (ao _) (fun _ _=>rfl) (fun _ _ e=>.inl e) (fun _ _ e=>.inl e) (fun _ g e=>.inl ⟨_,e⟩) (fun _ _=>rfl) h.mem⟩,
  ⟨Env.le_refl _,rfl,rfl,rfl,rfl,fun x ⟨c,v,L,N,h1,h2⟩=>⟨c,v,L,N,iP _ _ h1,h2⟩,fun g ⟨c,v,x,L,N,cs,e,own,k,h1,h2⟩=>⟨c,v,x,L,N,cs,e,own,k,iP _ _ h1,h2⟩⟩⟩
 ·rcases gi c _ hg with ⟨rfl,e⟩ | e
  ·simp at e
   obtain ⟨rfl,rfl⟩:=e;obtain ⟨x,us,h1,h2,h3⟩:=h.row _ _ _ hb;exact ⟨x,us,h1,h2,hc us h3⟩
  ·exact h.row c b5 e' e
 ·rcases gi c _ hg with ⟨rfl,_⟩ | e
  ·exact h.live _ _ hb
  ·exact h.live c o e
 ·rcases gi c _ hg with ⟨_,e⟩ | e
  ·simp at e
  ·exact e
theorem Vo {B:St} {fs:List (Option Nat)} {nx:Nat} (hr:Vm E E fs nx):∀ (bs:List Nat) {A:ai},du P E A B->du P E (Tn fs nx bs A) B/\Sw E A B E (Tn fs nx bs A)
 | [],A,h=>⟨h,.refl⟩
 | b::bs,A,h=>by
  have h1:du P E (ZT fs nx A b) B/\Sw E A B E (ZT fs nx A b):=by
   unfold ZT;split
   ·rename_i cs aQ hb
    exact h.amn hb fun us hv=>Vn hr hv
   ·exact ⟨h,.refl⟩
  obtain ⟨h2,h3⟩:=Vo hr bs h1.1;exact ⟨h2,h1.2.trans h3⟩
def aB.Vp (S:aB) (P:Program) (bs:List Nat) (fs:List (Option Nat)) (vs:List KV) (rs:List (List KV)) (A:ai):ai:=Tn (si S.kinds fs) A.next bs (A7 (S.back P bs fs vs rs A) (si S.kinds fs) A.next (S.lens P vs rs))
def afP (S:aB) (E E' : Env):Prop:=∀ (i:Nat) p,S.kinds[i]? = some true->E.α (S.nr+i)=some p->E'.α (S.nr+i)=some p
theorem X7 {S:aB} {t:bI} {A:ai} {B B1:St} {g:GR} {ρ fH:Ren} {base N:Nat} {w w1:World} {a1:Act} {vs:List KV} {rs:List (List KV)} {E1:Env} (hG:cQ P S t A g) (hk:du P E A B)
  (ht:jD P E1 fH (S.tm S.nr S.ids vs) N a1) (hs:du P E1 (S.mem P vs rs) B1) (lj:Co base (E.sub A g.bs g.fs S.nr) (S.mem P g.vs g.rs) B ρ w E1 (S.mem P vs rs) B1 fH w1) (Mz:∀ k,k < S.rows.length->E1.κ k=(E.sub A g.bs g.fs S.nr).κ k)
  (hpl:afP S (E.sub A g.bs g.fs S.nr) E1)
  (hv:dY S.dh vs=true) (Ia:rs.length=S.rows.length) (hrg:∀ (k:Nat) p r,S.rows[k]? = some p->rs[k]? = some r->cH p.2.1 r=true) :
  ∃ E',jD P E' fH (S.r8 A.next g.bs g.fs vs) N a1/\Ev P base E A B ρ w E' (S.Vp P g.bs g.fs vs rs A) B1 fH w1:=by
 obtain ⟨ht0,ma⟩:=X4 hG hk ht hs lj Mz hv Ia hrg;have gd:(vi (ml A g.bs S.rows (S.B9 A.next g.bs rs)) g.fs).next=A.next:=by rw [Di,MS]
 have hlen:(S.lens P vs rs).length=g.fs.length:=by
  rw [Km hv Ia hrg,hG.fs,oP,<- hG.lens,Km hG.dh hG.nz hG.pe]
 have hki:=Sc (P:=P) hv Ia hrg;have hold:∀ (i:Nat) f,(si S.kinds g.fs)[i]? = some (some f)->g.fs[i]? = some (some f)/\S.kinds[i]? = some true/\∃ u,A.get f=some (.arr u):=by
  intro i f hi;obtain ⟨oj,hi⟩:=MZ hi;refine ⟨hi,oj,?_⟩;have aI:i < (S.lens P g.vs g.rs).length:=by rw [hG.lens,<- oP,<- hG.fs]; exact (cp.1 hi).1
  obtain ⟨fi,_,h2,h3⟩:=hG.fact (cl aI);rw [hi] at h2; simp at h2;obtain ⟨u0,hu0⟩:=MX (Sc (P:=P) hG.dh hG.nz hG.pe) oj;rw [cl aI] at hu0;simp at hu0;rcases h3 with ⟨n,sz,e,_⟩ | ⟨T,v,_,⟨h3,_⟩ | ⟨f',m,N,es,acc,h3,h4,_⟩⟩
  ·rw [hu0] at e; simp at e
  ·rw [h3] at h2; simp at h2
  ·rw [h3] at h2; simp at h2; subst h2; exact ⟨_,h4⟩
 have mi:∀ (i f:Nat),(si S.kinds g.fs)[i]? = some (some f)->∀ p,(E.up E1 S.nr A.next).α f=some p->(E.up E1 S.nr A.next).α (A.next+i)=some p:=fun i f hi p e=>by
  obtain ⟨hi,oj,u,hu⟩:=hold i f hi;rw [Env.Fh (hk.live f _ hu)] at e;rw [Env.Fg];exact hpl i p oj (by rw [Env.Cc,hi]; exact e)
 have hsw:X6 (E.up E1 S.nr A.next) (S.back P g.bs g.fs vs rs A) (si S.kinds g.fs) A.next (S.lens P vs rs):=by
  refine ⟨fun i f v hi hv=>?_,fun i f hi=>?_,fun i k f h1 h2=>s0 hG.Tj i k f (hold i f h1).1 (hold k f h2).1⟩
  ·obtain ⟨KC,_,u,hu⟩:=hold i f hi
   refine ⟨?_,(hk.ar.nk f u hu).2,?_,mi i f hi⟩
   ·rw [aB.back,A6 (by rw [gd]; exact hk.live f _ hu),Ca,ax (sf.2 (eW KC))]
   ·have:=I8 (A:=vi (ml A g.bs S.rows (S.B9 A.next g.bs rs)) g.fs) hv
    rw [gd] at this;exact this
  ·obtain ⟨_,_,u,hu⟩:=hold i f hi
   exact hk.live f _ hu
 obtain ⟨E',q1,q2,q3,q4⟩:=QR ma.dI hsw;have Vq:Vm E' E' (si S.kinds g.fs) A.next:=⟨Env.le_refl _,fun i f hi p e=>by
  obtain ⟨v,vX⟩:=MX hki (hold i f hi).2.1;rw [q3 i f v hi vX];rw [q4 (A.next+i) fun j hj=>by
   obtain ⟨_,_,u,hu⟩:=hold j _ hj;have:=hk.live _ _ hu;omega] at e
  exact e⟩
 obtain ⟨q5,q6⟩:=Vo Vq g.bs q1;refine ⟨E',?_,ma.sw q5 (q2.trans q6)⟩;refine jD.ai9 ht0 (Sb ⟨q2.le,fun i f hi p e=>?_⟩ _);obtain ⟨v,vX⟩:=MX hki (hold i f hi).2.1;rw [q3 i f v hi vX];exact e
def aB.X8 (S:aB) (P:Program) (t:bI) (A:ai):Bool:=cond (px (S.cP P t A).bs S.ids) (cond (sk S.kinds (S.cP P t A).fs S.nr) (S.cP P t A).ok false) false
theorem ab2 {S:aB} {t:bI} {A:ai} (h:S.X8 P t A=true):px (S.cP P t A).bs S.ids=true/\sk S.kinds (S.cP P t A).fs S.nr=true/\(S.cP P t A).ok=true:=by
 unfold aB.X8 at h;cases h1:px (S.cP P t A).bs S.ids with
 | false=>rw [h1] at h; simp at h
 | true=>
  cases h2:sk S.kinds (S.cP P t A).fs S.nr with
  | false=>rw [h1,h2] at h; simp at h
  | true=>rw [h1,h2] at h; exact ⟨rfl,rfl,h⟩
def GP (P:Program) (cfg:gf) (L n:Nat) (f:FuncId) (p:Nat) (body:Code) (S:aB) (vs:List KV) (rs:List (List KV)):Option (aa×List KV×List (List KV)):=
 lQ P cfg (AV P cfg L n) L f body (2 * p) (fun e t A=>
  Bool.rec (motive:=fun _=>Option (aa×List KV×List (List KV))) none (some (e,(S.cP P t A).vs,(S.cP P t A).rs)) (S.X8 P t A)) (S.tm S.nr S.ids vs) (S.mem P vs rs)
theorem ab3 {S:aB} {t:bI} {A:ai} {B0:St} {E1:Env} {g:GR} {vs:List KV} {rs:List (List KV)} (hG:cQ P S t A g) (hf:sk S.kinds g.fs S.nr=true) (bL:rL P S vs rs) (hs:du P E (S.mem P vs rs) B0) (hle:E.le E1):afP S E (E1.sub A g.bs g.fs S.nr):=fun i p oj e=>by
 have hd:=hs.ar.fZ _ p e;rw [aB.mem,eU,mw bL.nz,Km bL.v bL.nz bL.pe] at hd;have aI:i < g.fs.length:=by
  rw [hG.fs,oP,<- hG.lens,Km hG.dh hG.nz hG.pe];omega
 have h1:=cl aI;rw [Env.Cc,h1,GN hf oj h1];exact hle.α _ p e
section
variable {cfg:gf} {L n:Nat} {f:FuncId} {S:aB} {root body:Code} {p N:Nat}
theorem X9 {t' : bI} {A1:ai} {B B1:St} {ρ fH:Ren} {base:Nat} {w w1:World} {E1:Env} {vs:List KV} {rs:List (List KV)} (bL:rL P S vs rs) (hj:KJ P E (S.mem P vs rs) B ρ base w) (h4:Ev P base E (S.mem P vs rs) B ρ w E1 A1 B1 fH w1) (_:cQ P S t' A1 (S.cP P t' A1)) (hi:px (S.cP P t' A1).bs S.ids=true) :
  ∀ k,k < S.rows.length->(E1.sub A1 (S.cP P t' A1).bs (S.cP P t' A1).fs S.nr).κ k=E.κ k:=fun k hk=>by
 have ab1:=Dj hi;have hp:=cl hk;have vZ:=cl (show k < rs.length by rw [bL.nz]; exact hk);obtain ⟨x,_,hx,_⟩:=hj.k.row k _ _ (mem_row bL.nz hp vZ);have e1:(E1.sub A1 (S.cP P t' A1).bs (S.cP P t' A1).fs S.nr).κ k=E1.κ k:=by
  simp only [Env.sub];rw [ab1,Cb S k hk,cA]
 rw [e1,hx];exact h4.le.κ k x hx
theorem ab4 (hP:P.funcs.toList.all gq=true) (hm:P.follows .mixedOrders=true) (e8:oW P cfg.pc) (gH:pt P cfg) {fn:Func} (hf:P.funcs[f]? = some fn) (hb:fn.body=some root) (hs:Sub root p (.loop body)) (hc:codeOk N body=true)
  {vs bw:List KV} {rs gI:List (List KV)} {e:aa} (hr:GP P cfg L n f p body S vs rs=some (e,bw,gI)) {B:St} {ρ:Ren} {base:Nat} {a:Act} {w:World} {Q:Exit->Act->World->Prop} (bL:rL P S vs rs)
  (ht:jD P E ρ (S.tm S.nr S.ids vs) N a) (hj:KJ P E (S.mem P vs rs) B ρ base w)
  (hq:∀ E' B' ak a' w',jD P E' ak (S.tm S.nr S.ids bw) N a'->a'.defers=a.defers->KJ P E' (S.mem P bw gI) B' ak base w'->Co base E (S.mem P vs rs) B ρ w E' (S.mem P bw gI) B' ak w'->(∀ k,k < S.rows.length->E'.κ k=E.κ k)->rL P S bw gI->afP S E E'->Q e.out a' w'):body.wp P Q a w:=by
 have vf:=oO (R:=aa×List KV×List (List KV)) hP hm e8 gH L n;refine gu e8 vf hm (gH.2 f fn root hf hb) body (2 * p) hs.loop hc _ _ _ _ E B ρ base a w Q hr ht hj fun e' t' E1 A1 B1 fH a1 w1 h1 h2 h3 h4=>?_;cases hi:S.X8 P t' A1 with
 | false=>simp only [hi] at h1; exact absurd h1 (by simp)
 | true=>
  simp only [hi,aR,bG] at h1;obtain ⟨rfl,rfl,rfl⟩:=h1;obtain ⟨i1,i2,i3⟩:=ab2 hi;have hG:=zt i3;exact hq _ B1 fH a1 w1 (hG.tkr h2) h3 ⟨hG.dI h4.dI,h4.gG.dI⟩ (h4.co hG) (X9 bL hj h4 hG i1) hG.Cg (ab3 hG i2 bL hj.k h4.le)
theorem Vr (hP:P.funcs.toList.all gq=true) (hm:P.follows .mixedOrders=true) (e8:oW P cfg.pc) (gH:pt P cfg) {fn:Func} (hf:P.funcs[f]? = some fn) (hb:fn.body=some root) (hs:Sub root p (.loop body)) (hc:codeOk N body=true)
  {e:aa} {bw:List KV} {gI:List (List KV)} : ∀ (m:Nat) {vs:List KV} {rs:List (List KV)},py (GP P cfg L n f p body S) m vs rs=some (e,bw,gI)->∀ {E:Env} {B:St} {ρ:Ren} {base:Nat} {a:Act} {w:World} {Q:Exit->Act->World->Prop},rL P S vs rs->
  jD P E ρ (S.tm S.nr S.ids vs) N a->KJ P E (S.mem P vs rs) B ρ base w->
  (∀ E' B' ak a' w',jD P E' ak (S.tm S.nr S.ids bw) N a'->a'.defers=a.defers->KJ P E' (S.mem P bw gI) B' ak base w'->Co base E (S.mem P vs rs) B ρ w E' (S.mem P bw gI) B' ak w'->(∀ k,k < S.rows.length->E'.κ k=E.κ k)->rL P S bw gI->afP S E E'->Q e.out a' w')->Code.rounds P body Q m a w
 | 0,vs,rs,h,E,B,ρ,base,a,w,Q,bL,ht,hj,hq=>by simp [py] at h
 | m+1,vs,rs,h,E,B,ρ,base,a,w,Q,bL,ht,hj,hq=>by
  unfold py at h;split at h
  ·rename_i e1 ZS rs1 hr
   rw [rounds_succ];refine ab4 hP hm e8 gH hf hb hs hc hr bL ht hj fun E' B' ak a' w' h1 h2 h3 h4 h5 h6 h7=>?_;have fin:ko e1=false->some (e1,ZS,rs1)=some (e,bw,gI)->Q e1.out a' w':=by
    intro _ h;simp only [aR,bG] at h;obtain ⟨rfl,rfl,rfl⟩:=h;exact hq E' B' ak a' w' h1 h2 h3 h4 h5 h6 h7
   cases e1 with
   | normal=>
    have h:py (GP P cfg L n f p body S) m ZS rs1=some (e,bw,gI):=h;exact Vr hP hm e8 gH hf hb hs hc m h h6 h1 h3 fun IZ I0 mF BM xZ q1 q2 q3 q4 q5 q6 q7=>hq IZ I0 mF BM xZ q1 (q2.trans h2) q3 (h4.trans q4) (fun k hk=>(q5 k hk).trans (h5 k hk)) q6 fun i p oj e=>q7 i p oj (h7 i p oj e)
   | exit id=>exact fin rfl h
   | goto l=>exact fin rfl h
   | ret=>exact fin rfl h
  ·simp at h
def qu.Jc (P:Program) (S:aB) (bs:List Nat) (fs:List (Option Nat)) (A:ai):qu->p0
 | .no=>.no
 | .out e vs rs=>.out e (S.r8 A.next bs fs vs) (S.Vp P bs fs vs rs A)
 | .br c x y=>.br c (x.Jc P S bs fs A) (y.Jc P S bs fs A)
def adZ (P:Program) (S:aB) (F:ZO):bI->ai->p0:=fun t A=>
 .br (S.cP P t A).ok ((F (S.cP P t A).vs (S.cP P t A).rs).Jc P S (S.cP P t A).bs (S.cP P t A).fs A) .no
theorem M0 {R:Type} {bs:List Nat} {fs:List (Option Nat)} {A:ai} {k:KE R} {r:R} : ∀ (x:qu),(x.Jc P S bs fs A).run k=some r->∃ e bw gI,x.ev=some (e,bw,gI)/\k e (S.r8 A.next bs fs bw) (S.Vp P bs fs bw gI A)=some r
 | .no,h=>absurd h (by simp [qu.Jc,p0.run])
 | .out e vs rs,h=>⟨e,vs,rs,rfl,h⟩
 | .br c x y,h=>by
  have h:Bool.rec (motive:=fun _=>Option R) ((y.Jc P S bs fs A).run k) ((x.Jc P S bs fs A).run k) c=some r:=h;cases c with
  | true=>exact M0 x h
  | false=>exact M0 y h
theorem ab5 (hP:P.funcs.toList.all gq=true) (hm:P.follows .mixedOrders=true) (e8:oW P cfg.pc) (gH:pt P cfg) {fn:Func} (hf:P.funcs[f]? = some fn) (hb:fn.body=some root) (hs:Sub root p (.loop body)) (hc:codeOk N body=true) {F:ZO}
  (hF:∀ vs rs e bw gI,rL P S vs rs->(F vs rs).ev=some (e,bw,gI)->py (GP P cfg L n f p body S) hX vs rs=some (e,bw,gI)):Ke P N body (adZ P S F):=by
 intro R k r t A E B ρ base a w Q h ht hj hq;have h:Bool.rec (motive:=fun _=>Option R) none (((F (S.cP P t A).vs (S.cP P t A).rs).Jc P S (S.cP P t A).bs (S.cP P t A).fs A).run k) (S.cP P t A).ok=some r:=h
 ·cases ho:(S.cP P t A).ok with
  | false=>rw [ho] at h; exact absurd h (by simp)
  | true=>
   rw [ho] at h;have hG:=zt ho;obtain ⟨e,bw,gI,h9,qh⟩:=M0 _ h;have AI:=hF _ _ e bw gI hG.Cg h9;refine Vr hP hm e8 gH hf hb hs hc hX AI hG.Cg (hG.tkr ht) ⟨hG.dI hj.k,hj.s⟩ fun E' B' ak a' w' q1 q2 q3 q4 q5 q6 q7=>?_;obtain ⟨E2,r1,r2⟩:=X7 hG hj.k q1 q3.k q4 q5 q7 q6.v q6.nz q6.pe;exact hq e _ E2 _ B' ak a' w' qh r1 q2 r2
end
def ZU:aa->Bool
 | .normal=>true
 | .ret=>true
 | _=>false
def ad0 (P:Program) (cfg:gf) (L n:Nat) (g:FuncId) (S:aB) (vs:List KV) (rs:List (List KV)):Option (aa×List KV×List (List KV)):=
 match P.funcs.toList[g]? with
 | some fn=>match fn.body with
  | some c=>cond fn.results.toList.isEmpty (lQ P cfg (AV P cfg L n) L g c 1 (fun e t A=>
    Bool.rec (motive:=fun _=>Option (aa×List KV×List (List KV))) none (some (.ret,(S.cP P t A).vs,(S.cP P t A).rs)) (cond (ZU e) (S.X8 P t A) false)) (S.tm S.nr S.ids vs) (S.mem P vs rs)) none
  | none=>none
 | none=>none
def qu.Jd (P:Program) (S:aB) (bs:List Nat) (fs:List (Option Nat)) (A:ai):qu->rj
 | .no=>.no
 | .out _ vs rs=>.out (.nh []) (S.Vp P bs fs vs rs A)
 | .br c x y=>.br c (x.Jd P S bs fs A) (y.Jd P S bs fs A)
def alC (P:Program) (S:aB) (F:ZO):List KV->ai->rj:=fun args A=>
 .br (S.cP P (lR args 0 .leaf) A).ok ((F (S.cP P (lR args 0 .leaf) A).vs (S.cP P (lR args 0 .leaf) A).rs).Jd P S (S.cP P (lR args 0 .leaf) A).bs (S.cP P (lR args 0 .leaf) A).fs A) .no
theorem M1 {R:Type} {S:aB} {bs:List Nat} {fs:List (Option Nat)} {A:ai} {k:KV->ai->Option R} {r:R} : ∀ (x:qu),rj.run k (x.Jd P S bs fs A)=some r->∃ e bw gI,x.ev=some (e,bw,gI)/\k (.nh []) (S.Vp P bs fs bw gI A)=some r
 | .no,h=>absurd h (by simp [qu.Jd,rj.run])
 | .out e vs rs,h=>⟨e,vs,rs,rfl,h⟩
 | .br c x y,h=>by
  have h:Bool.rec (motive:=fun _=>Option R) (rj.run k (y.Jd P S bs fs A)) (rj.run k (x.Jd P S bs fs A)) c=some r:=h;cases c with
  | true=>exact M1 x h
  | false=>exact M1 y h
theorem ag6 {ρ:Ren} {args:List KV} {bM:List Value} (hv:ny P E ρ args bM) (m:Nat):jD P E ρ (lR args 0 .leaf) (max m args.length) { tmps:=bM.toArray++Array.replicate (m - bM.toArray.size) undef,defers:=[] }:=by
 obtain ⟨adQ,zL,L8⟩:=hv;have hlen:bM.length=args.length:=by rw [L8.length,zL.length]
 have cS:(bM.toArray++Array.replicate (m - bM.toArray.size) undef).size=max m args.length:=by
  simp [hlen];omega
 refine ⟨cS,fun i=>?_,fun i hi=>?_⟩
 ·rw [B5]
  simp only [mf,true_and,bF,Nat.sub_zero,Trie.Bj];by_cases hi:i < args.length
  ·rw [ax hi]
   obtain ⟨u,hu⟩:∃ u,args[i]? = some u:=⟨_,cl hi⟩
   obtain ⟨m',h1,h2⟩:=zL.get hu;obtain ⟨u',h3,h4⟩:=L8.get h1;rw [hu];have:(bM.toArray++Array.replicate (m - bM.toArray.size) undef).getD i undef=u':=by
    rw [dF,Array.getElem?_append_left (by simpa [hlen] using hi)];simp [h3]
   rw [this];exact ⟨m',h2,h4⟩
  ·rw [ae hi]
   exact VC.bx
 ·rw [B5,ae,Trie.Bj]
  simp only [mf,true_and,bF];have:=Nat.le_max_right m args.length;omega
theorem ad1 {cfg:gf} {L n:Nat} {g:FuncId} {S:aB} {F:ZO} (hP:P.funcs.toList.all gq=true) (hm:P.follows .mixedOrders=true) (e8:oW P cfg.pc) (gH:pt P cfg) (hy:Nat.blt g yB=true)
  (hF:∀ vs rs e bw gI,rL P S vs rs->(F vs rs).ev=some (e,bw,gI)->ad0 P cfg L n g S vs rs=some (e,bw,gI)) {R:Type} {args:List KV} {A:ai} {k:KV->ai->Option R} {r:R} (h:rj.run k (alC P S F args A)=some r):pq P g/\
  ∀ (E:Env) (B:St) (ρ:Ren) (base:Nat) (w:World) (bM:List Value),ny P E ρ args bM->KJ P E A B ρ base w->
   Calls P g bM.toArray w fun e w'=>∃ v v' E' A' B' ak,e = .returned v'/\VC P E' ak v v'/\Ev P base E A B ρ w E' A' B' ak w'/\k v A' = some r:=by
 have h:Bool.rec (motive:=fun _=>Option R) none (rj.run k ((F (S.cP P (lR args 0 .leaf) A).vs (S.cP P (lR args 0 .leaf) A).rs).Jd P S (S.cP P (lR args 0 .leaf) A).bs (S.cP P (lR args 0 .leaf) A).fs A)) (S.cP P (lR args 0 .leaf) A).ok=some r:=h;cases ho:(S.cP P (lR args 0 .leaf) A).ok with
 | false=>rw [ho] at h; exact absurd h (by simp)
 | true=>
 rw [ho] at h;have hG:=zt ho;obtain ⟨e0,bw,gI,h9,qh⟩:=M1 _ h;have kx:=hF _ _ e0 bw gI hG.Cg h9;unfold ad0 at kx;split at kx
 ·rename_i fn hf
  split at kx
  ·rename_i c hc
   cases hre:fn.results.toList.isEmpty with
   | false=>rw [hre] at kx; exact absurd kx (by simp)
   | true=>
   rw [hre,ah] at kx;have SQ:P.funcs[g]? = some fn:=by simpa using hf
   have bL:=dS.1 hP fn (eW hf);unfold gq at bL;rw [hc] at bL;simp only [aj,iA] at bL;refine ⟨⟨hy,fn,SQ,by simp [hc],bL.2⟩,fun E B ρ base w bM hv hj=>?_⟩;refine calls_of_wp SQ hc ?_;have ht:=ag6 hv fn.ntmps;have RK:codeOk (max fn.ntmps args.length) c=true:=jy (Nat.le_max_left _ _) c bL.1;have vf:=oO (R:=aa×List KV×List (List KV)) hP hm e8 gH L n;refine gu (L:=L) (f:=g) (N:=max fn.ntmps args.length) e8 vf hm (gH.2 g fn c SQ hc) c 1 .root RK _ _ _ _ (E.sub A (S.cP P (lR args 0 .leaf) A).bs (S.cP P (lR args 0 .leaf) A).fs S.nr) B ρ base _ w _ kx (hG.tkr ht) ⟨hG.dI hj.k,hj.s⟩ fun e t' E1 A1 B1 fH a1 w1 h1 h2 h3 h4=>?_;cases he:ZU e with
   | false=>simp only [he,ay] at h1; exact absurd h1 (by simp)
   | true=>
   simp only [he,ah] at h1;cases hi:S.X8 P t' A1 with
   | false=>simp only [hi] at h1; exact absurd h1 (by simp)
   | true=>
   simp only [hi,aR,bG] at h1;obtain ⟨_,rfl,rfl⟩:=h1;obtain ⟨i1,i2,i3⟩:=ab2 hi;have hG1:=zt i3;have Ch:KJ P (E.sub A (S.cP P (lR args 0 .leaf) A).bs (S.cP P (lR args 0 .leaf) A).fs S.nr) (S.mem P (S.cP P (lR args 0 .leaf) A).vs (S.cP P (lR args 0 .leaf) A).rs) B ρ base w:=⟨hG.dI hj.k,hj.s⟩
   obtain ⟨E2,_,r2⟩:=X7 hG hj.k (hG1.tkr h2) (hG1.dI h4.dI) (h4.co hG1) (X9 hG.Cg Ch h4 hG1 i1) (ab3 hG1 i2 hG.Cg Ch.k h4.le) hG1.Cg.v hG1.Cg.nz hG1.Cg.pe;have EU:fn.results.toList = []:=List.isEmpty_iff.1 hre;have C7:(results fn a1.tmps).run P w1 = .ok (.tuple #[]) w1:=by
    rw [Iv,Sem.run_bind,Array.mapM_eq_mapM_toList,Sem.run_map,EU];rfl
   have Vc:bodyPost P fn (fun e w'=>∃ v v' E' A' B' ak,e = .returned v'/\VC P E' ak v v'/\Ev P base E A B ρ w E' A' B' ak w'/\k v A' = some r) .ret a1 w1:=
    ⟨h3,_,C7,_,_,E2,_,B1,fH,rfl,⟨_,.QE .nil,VR.mkTuple .nil⟩,r2,qh⟩
   cases e with
   | normal=>exact Vc
   | ret=>exact Vc
   | exit id=>simp [ZU] at he
   | goto l=>simp [ZU] at he
  ·simp at kx
 ·simp at kx
end
end Go.K
end
section
namespace Go.K
open Go Go.aA
variable {P:Program} {E:Env}
def Pb (l:Nat):Code->Nat->Option (Code×Nat)
 | .seq (.label l') b,p=>cond (Nat.beq l' l) (some (b,2 * p+1)) none
 | .seq a b,p=>match findLabel a l with
  | some _=>none
  | none=>Pb l b (2 * p+1)
 | _,_=>none
theorem Vs {root:Code} {l N:Nat} : ∀ {c:Code} {p:Nat} {b:Code} {q:Nat},Pb l c p=some (b,q)->Sub root p c->codeOk N c=true->findLabel c l=some (.seq .skip b)/\Sub root q b/\codeOk N b=true
 | c,p,b,q,h,hs,hc=>by
  unfold Pb at h;split at h
  ·rename_i l' b'
   cases hb:Nat.beq l' l with
   | false=>rw [hb] at h; simp at h
   | true=>
    rw [hb] at h;simp only [ah,aR,bG] at h;obtain ⟨rfl,rfl⟩:=h;obtain rfl:=aE hb;refine ⟨by simp [findLabel],hs.afC,?_⟩;simp only [codeOk,aj] at hc;exact hc.2
  ·rename_i a b' _
   split at h
   ·simp at h
   ·rename_i hfa
    simp only [codeOk,aj] at hc;obtain ⟨h1,h2,h3⟩:=Vs h hs.afC hc.2;refine ⟨?_,h2,h3⟩;simp only [findLabel,hfa];exact h1
  ·simp at h
noncomputable def exG (l:Nat) (e:aa):aa:=
 aa.rec (.exit IC) (fun i=>cond (Nat.beq i IC) (.goto l) (.exit i)) (fun l'=>cond (Nat.beq l' l) .normal (.goto l')) .ret e
noncomputable def Ko (P:Program) (cfg:gf) (L n:Nat) (f:FuncId) (q:Nat) (body:Code) (l:Nat) (S:aB) (vs:List KV) (rs:List (List KV)):Option (aa×List KV×List (List KV)):=
 lQ P cfg (AV P cfg L n) L f body q (fun e t A=>
  Bool.rec (motive:=fun _=>Option (aa×List KV×List (List KV))) none (some (exG l e,(S.cP P t A).vs,(S.cP P t A).rs)) (cond (px (S.cP P t A).bs S.ids) (S.cP P t A).ok false)) (S.tm S.nr S.ids vs) (S.mem P vs rs)
section
variable {cfg:gf} {L n:Nat} {f:FuncId} {S:aB} {root body:Code} {q l N:Nat}
theorem ab6 (hP:P.funcs.toList.all gq=true) (hm:P.follows .mixedOrders=true) (e8:oW P cfg.pc) (gH:pt P cfg) {fn:Func} (hf:P.funcs[f]? = some fn) (hb:fn.body=some root) (hs:Sub root q body) (hc:codeOk N body=true)
  {vs bw:List KV} {rs gI:List (List KV)} {e:aa} (hr:Ko P cfg L n f q body l S vs rs=some (e,bw,gI)) {B:St} {ρ:Ren} {base:Nat} {a:Act} {w:World} {Q:Exit->Act->World->Prop} (bL:rL P S vs rs)
  (ht:jD P E ρ (S.tm S.nr S.ids vs) N a) (hj:KJ P E (S.mem P vs rs) B ρ base w)
  (hq:∀ e0 E' B' ak a' w',exG l e0=e->jD P E' ak (S.tm S.nr S.ids bw) N a'->a'.defers=a.defers->KJ P E' (S.mem P bw gI) B' ak base w'->Co base E (S.mem P vs rs) B ρ w E' (S.mem P bw gI) B' ak w'->(∀ k,k < S.rows.length->E'.κ k=E.κ k)->rL P S bw gI->Q e0.out a' w'):body.wp P Q a w:=by
 have vf:=oO (R:=aa×List KV×List (List KV)) hP hm e8 gH L n;refine gu e8 vf hm (gH.2 f fn root hf hb) body q hs hc _ _ _ _ E B ρ base a w Q hr ht hj fun e' t' E1 A1 B1 fH a1 w1 h1 h2 h3 h4=>?_;cases hi:px (S.cP P t' A1).bs S.ids with
 | false=>
  simp only [hi,ay] at h1;exact absurd h1 (by simp)
 | true=>
  simp only [hi,ah] at h1;cases ho:(S.cP P t' A1).ok with
  | false=>simp only [ho] at h1; exact absurd h1 (by simp)
  | true=>
   simp only [ho,aR,bG] at h1;obtain ⟨he,rfl,rfl⟩:=h1;have hG:=zt ho;have ab1:=Dj hi;refine hq e' _ B1 fH a1 w1 he (hG.tkr h2) h3 ⟨hG.dI h4.dI,h4.gG.dI⟩ (h4.co hG) (fun k hk=>?_) hG.Cg;have hp:=cl hk;have vZ:=cl (show k < rs.length by rw [bL.nz]; exact hk);obtain ⟨x,_,hx,_⟩:=hj.k.row k _ _ (mem_row bL.nz hp vZ);have e1:(E1.sub A1 (S.cP P t' A1).bs (S.cP P t' A1).fs S.nr).κ k=E1.κ k:=by
    simp only [Env.sub];rw [ab1,Cb S k hk,cA]
   rw [e1,hx];exact h4.le.κ k x hx
theorem ab7 {e:aa} (h:exG l e = .normal):e = .goto l:=by
 cases e with
 | normal=>exact absurd (show aa.exit IC = .normal from h) (by simp)
 | exit i=>
  have h:cond (Nat.beq i IC) (aa.goto l) (.exit i) = .normal:=h;cases hb:Nat.beq i IC <;> rw [hb] at h <;> simp at h
 | goto l'=>
  have h:cond (Nat.beq l' l) aa.normal (.goto l') = .normal:=h;cases hb:Nat.beq l' l with
  | true=>rw [aE hb]
  | false=>rw [hb] at h; simp at h
 | ret=>exact absurd (show aa.ret = .normal from h) (by simp)
theorem ab8 {e e' : aa} (h:exG l e=e') (hn:ko e' = false) (hg:∀ l',e'≠.goto l'):(e = .normal/\e' = .exit IC)\/(∃ i,e = .exit i/\e' = .exit i/\Nat.beq i IC=false)\/(e = .ret/\e' = .ret):=by
 cases e with
 | normal=>exact .inl ⟨rfl,h.symm⟩
 | exit i=>
  have h:cond (Nat.beq i IC) (aa.goto l) (.exit i)=e':=h;cases hb:Nat.beq i IC with
  | true=>rw [hb] at h; exact absurd h.symm (hg l)
  | false=>rw [hb] at h; exact .inr (.inl ⟨i,rfl,h.symm,hb⟩)
 | goto l'=>
  have h:cond (Nat.beq l' l) aa.normal (.goto l')=e':=h;cases hb:Nat.beq l' l with
  | true=>rw [hb] at h; rw [<- h] at hn; simp [ko] at hn
  | false=>rw [hb] at h; exact absurd h.symm (hg l')
 | ret=>exact .inr (.inr ⟨rfl,h.symm⟩)
theorem Vt (hP:P.funcs.toList.all gq=true) (hm:P.follows .mixedOrders=true) (e8:oW P cfg.pc) (gH:pt P cfg) {fn:Func} (hf:P.funcs[f]? = some fn) (hb:fn.body=some root) (hs:Sub root q body) (hc:codeOk N body=true)
  {e:aa} {bw:List KV} {gI:List (List KV)} (hg:∀ l',e≠.goto l'):∀ (m:Nat) {vs:List KV} {rs:List (List KV)},py (Ko P cfg L n f q body l S) m vs rs=some (e,bw,gI)->∀ {E:Env} {B:St} {ρ:Ren} {base:Nat} {a:Act} {w:World} {Q:Exit->Act->World->Prop},rL P S vs rs->
  jD P E ρ (S.tm S.nr S.ids vs) N a->KJ P E (S.mem P vs rs) B ρ base w->
  (∀ e0 E' B' ak a' w',exG l e0=e->ko e=false->jD P E' ak (S.tm S.nr S.ids bw) N a'->a'.defers=a.defers->KJ P E' (S.mem P bw gI) B' ak base w'->Co base E (S.mem P vs rs) B ρ w E' (S.mem P bw gI) B' ak w'->(∀ k,k < S.rows.length->E'.κ k=E.κ k)->rL P S bw gI->Q e0.out a' w')->pr P l body Q m a w
 | 0,vs,rs,h,E,B,ρ,base,a,w,Q,bL,ht,hj,hq=>by simp [py] at h
 | m+1,vs,rs,h,E,B,ρ,base,a,w,Q,bL,ht,hj,hq=>by
  unfold py at h;split at h
  ·rename_i e1 ZS rs1 hr
   unfold pr;refine ab6 hP hm e8 gH hf hb hs hc hr bL ht hj fun e0 E' B' ak a' w' h0 h1 h2 h3 h4 h5 h6=>?_;cases hn:ko e1 with
   | true=>
    rw [hn,ah] at h;have he1:e1 = .normal:=by cases e1 <;> simp [ko] at hn ⊢
    rw [he1] at h0;obtain rfl:=ab7 h0;refine ⟨rfl,Vt hP hm e8 gH hf hb hs hc hg m h h6 h1 h3 fun e2 IZ I0 mF BM xZ q0 qn q1 q2 q3 q4 q5 q6=>hq e2 IZ I0 mF BM xZ q0 qn q1 (q2.trans h2) q3 (h4.trans q4) (fun k hk=>(q5 k hk).trans (h5 k hk)) q6⟩
   | false=>
    rw [hn,ay] at h;simp only [aR,bG] at h;obtain ⟨rfl,rfl,rfl⟩:=h;have hQ:=hq e0 E' B' ak a' w' h0 hn h1 h2 h3 h4 h5 h6;rcases ab8 h0 hn hg with ⟨rfl,_⟩ | ⟨i,rfl,_⟩ | ⟨rfl,_⟩ <;> exact hQ
  ·simp at h
theorem Pc {Q:Exit->Act->World->Prop} : ∀ {m:Nat} {a:Act} {w:World},pr P l body Q m a w->pr P l (.seq .skip body) Q m a w
 | 0,_,_,h=>h
 | m+1,a,w,h=>by
  unfold pr at h ⊢;refine wp_seq (wp_skip (Code.wp_mono (fun e a' w' k=>?_) h));cases e with
  | goto l'=>exact ⟨k.1,Pc k.2⟩
  | normal=>exact k
  | exit id=>exact k
  | ret=>exact k
  | panic ch=>exact k
  | outgrown=>exact k
theorem ab9 (hP:P.funcs.toList.all gq=true) (hm:P.follows .mixedOrders=true) (e8:oW P cfg.pc) (gH:pt P cfg) {fn:Func} (hf:P.funcs[f]? = some fn) (hb:fn.body=some root) (hs:Sub root q body) (hc:codeOk N body=true) {F:ZO}
  (hF:∀ vs rs e bw gI,rL P S vs rs->(F vs rs).ev=some (e,bw,gI)->py (Ko P cfg L n f q body l S) hX vs rs=some (e,bw,gI)):Vb P N l (.seq .skip body) (O2 P S F):=by
 intro R k r t A E B ρ base a w Q h ht hj hq;cases hpe:S.ai3 t A with
 | true=>
  unfold O2 at h;rw [hpe] at h;exact absurd h (by simp [p0.run])
 | false=>
 unfold O2 at h;rw [hpe,ay] at h;have h:Bool.rec (motive:=fun _=>Option R) none (((F (S.cP P t A).vs (S.cP P t A).rs).tell P S (S.cP P t A).bs (S.cP P t A).fs A).run (QB k)) (S.cP P t A).ok=some r:=h;cases ho:(S.cP P t A).ok with
 | false=>rw [ho] at h; exact absurd h (by simp)
 | true=>
  rw [ho] at h;have hG:=zt ho;obtain ⟨e,bw,gI,h9,qh⟩:=Kl _ h;have AI:=hF _ _ e bw gI hG.Cg h9;have ze:∀ l',e≠.goto l':=fun l' he=>by rw [he] at qh; exact absurd qh (by simp [QB])
  refine ⟨hX,Pc (Vt hP hm e8 gH hf hb hs hc ze hX AI hG.Cg (hG.tkr ht) ⟨hG.dI hj.k,hj.s⟩ fun e0 E' B' ak a' w' q0 qn q1 q2 q3 q4 q5 q6=>?_)⟩;obtain ⟨E2,r1,r2⟩:=restore hG hj.k q1 q3.k q4 q5 q6.v q6.nz q6.pe;refine hq e0 _ E2 _ B' ak a' w' ?_ r1 q2 r2;rcases ab8 q0 qn ze with ⟨rfl,rfl⟩ | ⟨i,rfl,rfl,KI⟩ | ⟨rfl,rfl⟩
  ·exact qh
  ·have qh:Bool.rec (motive:=fun _=>Option R) (k (.exit i) (S.tm A.next (S.cP P t A).bs bw) (S.back P (S.cP P t A).bs (S.cP P t A).fs bw gI A)) (k .normal (S.tm A.next (S.cP P t A).bs bw) (S.back P (S.cP P t A).bs (S.cP P t A).fs bw gI A)) (Nat.beq i IC)=some r:=qh
   rw [KI] at qh;exact qh
  ·exact qh
end
end Go.K
end
section
namespace Go.K
open Go Go.aA
variable {P:Program} {E:Env}
def ZV:Code->Bool->Option Code
 | .seq a _,false=>some a
 | .seq _ b,true=>some b
 | .cond _ a _,false=>some a
 | .cond _ _ b,true=>some b
 | .block _ a,false=>some a
 | .loop a,false=>some a
 | .scope a,false=>some a
 | _,_=>none
def mn:Nat->Code->Nat->Option Code
 | 0,_,_=>none
 | n+1,root,p=>cond (Nat.ble p 1) (cond (Nat.beq p 1) (some root) none) ((mn n root (p / 2)).bind fun c=>ZV c (Nat.beq (p % 2) 1))
theorem Pd:∀ {n:Nat} {root c:Code} {p:Nat},mn n root p=some c->mn (n+1) root p=some c
 | 0,_,_,_,h=>by simp [mn] at h
 | n+1,root,c,p,h=>by
  unfold mn at h ⊢;cases hp:Nat.ble p 1 with
  | true=>rw [hp] at h; exact h
  | false=>
   rw [hp] at h;simp only [ay] at h ⊢;obtain ⟨d,h1,h2⟩:=aO.1 h;exact aO.2 ⟨d,Pd h1,h2⟩
theorem M3 {root c:Code} {p n:Nat} (h:mn n root p=some c):∀ k,mn (n+k) root p=some c
 | 0=>h
 | k+1=>Pd (M3 h k)
theorem Sub.pos {root c:Code} {p:Nat} (h:Sub root p c):1<=p:=by induction h <;> omega
theorem Sub.at {root c:Code} {p:Nat} (h:Sub root p c):∃ n,mn n root p=some c:=by
 have left:∀ {q n:Nat} {d:Code},1<=q->mn n root q=some d->mn (n+1) root (2 * q)=ZV d false:=by
  intro q n d hq hd;unfold mn;have:Nat.ble (2 * q) 1=false:=by
   cases hb:Nat.ble (2 * q) 1 with
   | false=>rfl
   | true=>have:=cL hb; omega
  rw [this,ay,show 2 * q / 2=q by omega,hd,show 2 * q % 2=0 by omega];rfl
 have right:∀ {q n:Nat} {d:Code},1<=q->mn n root q=some d->mn (n+1) root (2 * q+1)=ZV d true:=by
  intro q n d hq hd;unfold mn;have:Nat.ble (2 * q+1) 1=false:=by
   cases hb:Nat.ble (2 * q+1) 1 with
   | false=>rfl
   | true=>have:=cL hb; omega
  rw [this,ay,show (2 * q+1) / 2=q by omega,hd,show (2 * q+1) % 2=1 by omega];rfl
 induction h with
 | root=>exact ⟨1,rfl⟩
 | alv hs ih=>obtain ⟨n,hn⟩:=ih; exact ⟨n+1,left hs.pos hn⟩
 | afC hs ih=>obtain ⟨n,hn⟩:=ih; exact ⟨n+1,right hs.pos hn⟩
 | aiX hs ih=>obtain ⟨n,hn⟩:=ih; exact ⟨n+1,left hs.pos hn⟩
 | aiY hs ih=>obtain ⟨n,hn⟩:=ih; exact ⟨n+1,right hs.pos hn⟩
 | block hs ih=>obtain ⟨n,hn⟩:=ih; exact ⟨n+1,left hs.pos hn⟩
 | loop hs ih=>obtain ⟨n,hn⟩:=ih; exact ⟨n+1,left hs.pos hn⟩
 | scope hs ih=>obtain ⟨n,hn⟩:=ih; exact ⟨n+1,left hs.pos hn⟩
theorem Sub.uniq {root c d:Code} {p n:Nat} (h:Sub root p c) (k:mn n root p=some d):c=d:=by
 obtain ⟨m,hm⟩:=h.at;have h1:=M3 hm n;have h2:=M3 k m;rw [Nat.add_comm] at h1;rw [h1] at h2;simpa using h2
def uI (P:Program) (f p:Nat):Code:=
 match P.funcs.toList[f]? with
 | some fn=>match fn.body with
  | some c=>match mn 200 c p with
   | some (.loop b)=>b
   | _=>.skip
  | none=>.skip
 | none=>.skip
structure Lp where
 f:Nat
 p:Nat
 S:aB
 F:ZO
 st:Bool
noncomputable def afQ (st:Bool) (P:Program) (cfg:gf) (L n:Nat) (f:FuncId) (p:Nat) (body:Code) (S:aB) (vs:List KV) (rs:List (List KV)):Option (aa×List KV×List (List KV)):=
 cond st (GP P cfg L n f p body S vs rs) (wU P cfg L n f p body S vs rs)
noncomputable def Pe (P:Program):List Lp->FuncId->Nat->Option (bI->ai->p0)
 | [],_,_=>none
 | l::ls,f,p=>cond (Nat.beq l.f f&&Nat.beq l.p p) (some (cond l.st (adZ P l.S l.F) (O2 P l.S l.F))) (Pe P ls f p)
def Lp.Ok (P:Program) (l:Lp):Prop:=∃ cfg L n,oW P cfg.pc/\pt P cfg/\
 ∀ vs rs e bw gI,rL P l.S vs rs->(l.F vs rs).ev=some (e,bw,gI)->py (afQ l.st P cfg L n l.f l.p (uI P l.f l.p) l.S) hX vs rs=some (e,bw,gI)
def Ci (P:Program) (f p:Nat):Bool:=
 match P.funcs.toList[f]? with
 | some fn=>match fn.body with
  | some c=>match mn 200 c p with
   | some (.loop _)=>true
   | _=>false
  | none=>false
 | none=>false
def Fj (P:Program) (f p:Nat):Option (Nat×Code×Nat):=
 match P.funcs.toList[f]? with
 | some fn=>match fn.body with
  | some c=>match mn 200 c p with
   | some (.scope b)=>match Dc b with
    | some l=>(Pb l b (2 * p)).map fun x=>(l,x.1,x.2)
    | none=>none
   | _=>none
  | none=>none
 | none=>none
def Lp.OkG (P:Program) (l:Lp):Prop:=l.st=false/\∃ QS b q cfg L n,Fj P l.f l.p=some (QS,b,q)/\oW P cfg.pc/\pt P cfg/\
 ∀ vs rs e bw gI,rL P l.S vs rs->(l.F vs rs).ev=some (e,bw,gI)->py (Ko P cfg L n l.f q b QS l.S) hX vs rs=some (e,bw,gI)
def Lp.ad2 (P:Program) (l:Lp):Prop:=(Lp.Ok P l/\Ci P l.f l.p=true)\/Lp.OkG P l
theorem Sd {f p:Nat} {fn:Func} {c:Code} (hf:P.funcs[f]? = some fn) (hb:fn.body=some c) (h:Ci P f p=true):∃ b,mn 200 c p=some (.loop b)/\uI P f p=b:=by
 have SQ:P.funcs.toList[f]? = some fn:=by simpa using hf
 unfold Ci at h;unfold uI;simp only [SQ,hb] at h ⊢;split at h
 ·rename_i b pQ
  exact ⟨b,pQ,rfl⟩
 ·simp at h
theorem Pf {f p QS q:Nat} {b:Code} {fn:Func} {c:Code} (hf:P.funcs[f]? = some fn) (hb:fn.body=some c) (h:Fj P f p=some (QS,b,q)):∃ x,mn 200 c p=some (.scope x)/\Dc x=some QS/\Pb QS x (2 * p)=some (b,q):=by
 have SQ:P.funcs.toList[f]? = some fn:=by simpa using hf
 unfold Fj at h;simp only [SQ,hb] at h;split at h
 ·rename_i x pQ
  split at h
  ·rename_i l hl
   obtain ⟨y,h1,h2⟩:=aU.1 h;simp only [bG] at h2;obtain ⟨rfl,rfl,rfl⟩:=h2;exact ⟨x,pQ,hl,h1⟩
  ·simp at h
 ·simp at h
theorem afR (hP:P.funcs.toList.all gq=true) (hm:P.follows .mixedOrders=true) {pc:FuncId->Option (List KV->KR KV)} {x:aiC} : ∀ {ls:List Lp},(∀ l∈ls,Lp.ad2 P l)->∀ f fn c,P.funcs[f]? = some fn->fn.body=some c->afD P ⟨pc,Pe P ls,x⟩ f c
 | [],_=>fun f fn c hf hb=>⟨fun p F body h=>by simp [Pe] at h,fun p F body h=>by simp [Pe] at h⟩
 | l::ls,hl=>fun f fn c hf hb=>by
  have ih:=afR hP hm (pc:=pc) (x:=x) (fun l' iL=>hl l' (rA _ iL)) f fn c hf hb;have afS:∀ {p F},Pe P (l::ls) f p=some F->Pe P ls f p=some F\/(l.f=f/\l.p=p/\F=cond l.st (adZ P l.S l.F) (O2 P l.S l.F)):=by
   intro p F h;unfold Pe at h;cases hk:(Nat.beq l.f f&&Nat.beq l.p p) with
   | false=>rw [hk] at h; exact .inl h
   | true=>
    rw [hk] at h;simp only [ah,aR] at h;simp only [aj] at hk;exact .inr ⟨aE hk.1,aE hk.2,h.symm⟩
  constructor
  ·intro p F body h hs N hc
   rcases afS h with h | ⟨e1,e2,rfl⟩
   ·exact ih.1 p F body h hs N hc
   ·rcases hl l (by simp) with ⟨⟨cfg,L,n,e8,gH,hF⟩,hth⟩ | ⟨_,QS,b,q,cfg,L,n,y8,_⟩
    ·rw [e1,e2] at hF hth
     obtain ⟨b,pQ,ady⟩:=Sd hf hb hth;have:=hs.uniq pQ;simp only [Code.loop.injEq] at this;rw [ady,<- this] at hF;cases eZ:l.st with
     | true=>
      rw [eZ] at hF;exact ab5 hP hm e8 gH hf hb hs hc hF
     | false=>
      rw [eZ] at hF;exact adX hP hm e8 gH hf hb hs hc hF
    ·rw [e1,e2] at y8
     obtain ⟨x,pQ,_⟩:=Pf hf hb y8;have:=hs.uniq pQ;simp at this
  ·intro p F body h hs N hc lb hlb
   rcases afS h with h | ⟨e1,e2,rfl⟩
   ·exact ih.2 p F body h hs N hc lb hlb
   ·rcases hl l (by simp) with ⟨_,hth⟩ | ⟨eZ,QS,b,q,cfg,L,n,y8,e8,gH,hF⟩
    ·rw [e1,e2] at hth
     obtain ⟨b,pQ,_⟩:=Sd hf hb hth;have:=hs.uniq pQ;simp at this
    ·rw [e1,e2] at y8
     rw [e1] at hF;obtain ⟨x,pQ,MG,hx2⟩:=Pf hf hb y8;have:=hs.uniq pQ;simp only [Code.scope.injEq] at this;subst this;rw [hlb] at MG;obtain rfl:=wa MG;obtain ⟨k1,k2,k3⟩:=Vs hx2 hs.scope hc;rw [eZ];exact ⟨_,k1,ab9 hP hm e8 gH hf hb k2 k3 hF⟩
theorem Kq (hP:P.funcs.toList.all gq=true) (hm:P.follows .mixedOrders=true) {pc:FuncId->Option (List KV->KR KV)} {x:aiC} (hx:XW P x.ac) {ls:List Lp} (hl:∀ l∈ls,Lp.ad2 P l):pt P ⟨pc,Pe P ls,x⟩:=
 ⟨hx,afR hP hm hl⟩
structure Fc where
 g:Nat
 S:aB
 F:ZO
noncomputable def Ya (P:Program):List Fc->FuncId->Option (List KV->ai->rj)
 | [],_=>none
 | c::cs,g=>cond (Nat.beq c.g g) (some (alC P c.S c.F)) (Ya P cs g)
def Fc.Ok (P:Program) (c:Fc):Prop:=Nat.blt c.g yB=true/\∃ cfg L n,oW P cfg.pc/\pt P cfg/\
 ∀ vs rs e bw gI,rL P c.S vs rs->(c.F vs rs).ev=some (e,bw,gI)->ad0 P cfg L n c.g c.S vs rs=some (e,bw,gI)
theorem Kr (hP:P.funcs.toList.all gq=true) (hm:P.follows .mixedOrders=true):∀ {cs:List Fc},(∀ c∈cs,Fc.Ok P c)->XW P (Ya P cs)
 | [],_=>fun g F h=>by simp [Ya] at h
 | c::cs,hc=>fun g F h=>by
  have h:Ya P (c::cs) g=some F:=h;unfold Ya at h;cases hk:Nat.beq c.g g with
  | false=>
   rw [hk] at h;intro R args A k r hr;exact Kr hP hm (fun c' TZ=>hc c' (rA _ TZ)) g F h args A k r hr
  | true=>
   rw [hk] at h;simp only [ah,aR] at h;subst h;have e1:=aE hk;subst e1;obtain ⟨hy,cfg,L,n,e8,gH,hF⟩:=hc c (by simp);intro R args A k r hr;exact ad1 hP hm e8 gH hy hF hr
end Go.K
end
section
namespace Go.K
open Go Go.aA
mutual
def KK (P:Program):KV->Prop
 | .int k n=>(Lit.int k n).wf=true
 | .str s=>s.size<=maxLen
 | .ts T _ n es acc=>n<=maxLen/\xP P es/\acc=qk es/\n * P.bytesOf T<=reachBytes
 | .agg cs=>xP P cs
 | _=>True
def xP (P:Program):List KV->Prop
 | []=>True
 | v::vs=>KK P v/\xP P vs
end
theorem A8 {P:Program} : ∀ {a b:List KV},xP P a->xP P b->xP P (a++b)
 | [],_,_,h=>h
 | x::a,b,h,k=>by
  simp only [xP] at h;exact ⟨h.1,A8 h.2 k⟩
theorem QT {P:Program} : ∀ {l:List KV},xP P l->∀ v∈l,KK P v
 | [],_,v,h=>by simp at h
 | x::l,h,v,hv=>by
  simp only [xP] at h;rcases bd.1 hv with rfl | hv
  ·exact h.1
  ·exact QT h.2 v hv
structure KL (P:Program) (W:World) (E:Env) (B:St) (ρ:Ren):Prop where
 dI:iv ρ B W.heap.size W
 k:du P E .empty B
 κ:∀ b,E.κ b=none
 nu:∀ b o,B.get b=some o->o.ct=false/\o.hO=none
 α:∀ b,E.α b=none
def Env.none:Env:=⟨fun _=>.none,fun _=>.none,fun _=>.none,fun _=>.none⟩
theorem Gq.empty {P:Program} {E:Env} {B:St} (oM:∀ b,E.α b=none):Gq P E .empty B:=by
 have hn:∀ b o,¬ ai.empty.get b=some o:=fun b o hb=>by simp [ai.empty,ai.get] at hb
 exact ⟨fun b v hb=>(hn b _ hb).elim,fun b v hb=>(hn b _ hb).elim,fun x ⟨b,v,_,_,hb,_⟩=>(hn b _ hb).elim,fun b c v u x L N L' N' hb=>(hn b _ hb).elim,fun b c v u x y L N L' N' cs e own g k b5 e' nJ k' hb=>(hn b _ hb).elim,fun b x _=>oM b,fun b p e=>by rw [oM b] at e; simp at e,fun b x L N e=>by rw [oM b] at e; simp at e,fun b v x L N cs e own g k hb=>(hn b _ hb).elim,fun b v hb=>(hn b _ hb).elim⟩
theorem KL.start (P:Program) (W:World):KL P W .none .empty (BO []):=by
 refine ⟨iv.empty W,⟨?_,?_,?_,?_,?_,?_,?_,?_,?_,?_,?_,?_,?_,?_,.empty fun _=>rfl⟩,fun _=>rfl,fun b o h=>by simp [St.get,St.empty] at h,fun _=>rfl⟩
 ·intro b cs aQ h; simp [ai.empty,ai.get] at h
 ·intro b cs aQ h; simp [ai.empty,ai.get] at h
 ·intro b r h; simp [Env.none] at h
 ·intro b r h; simp [Env.none] at h
 ·intro b c r h; simp [Env.none] at h
 ·intro b c r _ _ _ _ _ _ h; simp [Env.none] at h
 ·intro b r h; simp [Env.none] at h
 ·intro b r h; simp [Env.none] at h
 ·intro b o h; simp [ai.empty,ai.get] at h
 ·intro b r h; simp [Env.none] at h
 ·intro b r h; simp [Env.none] at h
 ·intro b r h; simp [Env.none] at h
 ·intro g _; simp [St.members,St.empty]
 ·intro g x h; simp [St.members,St.empty] at h
theorem KL.add {P:Program} {W:World} {E:Env} {B:St} {ρ:Ren} (h:KL P W E B ρ) {cs:List Value} {l:aA.Loc}
  (hc:∀ (i:Nat) (v:Value),cs[i]? = some v->∃ v',W.cell? ⟨l.cb,l.cg+i,.none⟩=some v'/\VR ρ v v'/\scalar v=true) (hl:l.cb < W.heap.size) (hf:l.cg+cs.length<=l.rV) :
  KL P W (E.dV B.next ⟨cs,l.aQ,false,.none⟩) (B.new (.row cs l.aQ false .none)) (ρ.set B.next l)/\E.le (E.dV B.next ⟨cs,l.aQ,false,.none⟩)/\ρ.le (ρ.set B.next l):=by
 have hle:E.le (E.dV B.next ⟨cs,l.aQ,false,.none⟩):=⟨fun _ _ e=>e,fun _ _ e=>e,fun b r e=>by
  have:=h.k.lT b r e;simp only [Env.dV]; rw [ae (by omega)]; exact e,fun _ _ e=>e⟩
 have iZ:=h.dI.uy l;have fA:∀ b o,(B.new (.row cs l.aQ false .none)).get b=some o->(b=B.next/\o = .row cs l.aQ false .none)\/(b≠B.next/\B.get b=some o):=by
  intro b o hb;rw [St.cV] at hb;split at hb
  ·rename_i e; simp at hb; exact .inl ⟨e,hb.symm⟩
  ·rename_i e; exact .inr ⟨e,hb⟩
 have Yb:∀ b o,(B.new (.row cs l.aQ false .none)).get b=some o->o.ct=false/\o.hO = .none:=by
  intro b o hb;rcases fA b o hb with ⟨_,rfl⟩ | ⟨_,hb⟩
  ·exact ⟨rfl,rfl⟩
  ·exact h.nu b o hb
 refine ⟨⟨⟨⟨?_,?_,?_,?_,?_,?_⟩,?_,h.dI.size,h.dI.lK.mono iZ⟩,?_,h.κ,Yb,h.α⟩,hle,iZ⟩
 ·intro b mG aQ own aZ hb
  rcases fA b _ hb with ⟨rfl,e⟩ | ⟨bA,hb⟩
  ·simp only [aY.row.injEq] at e
   obtain ⟨rfl,rfl,rfl,rfl⟩:=e;refine ⟨l,by simp [Ren.set],⟨fun i v hi=>?_,fun _=>hl,fun e=>by simp at e,fun e=>by simp at e,hf,fun e=>by simp at e,rfl,hl,fun e=>by simp at e⟩⟩;obtain ⟨v',h1,h2,h3⟩:=hc i v hi;exact ⟨v',h1,h2.mono iZ,h3⟩
  ·obtain ⟨l',h1,h2⟩:=h.dI.rel.row b mG aQ own aZ hb
   exact ⟨l',iZ _ _ h1,⟨fun i v hi=>by obtain ⟨v',q1,q2,q3⟩:=h2.cells i v hi; exact ⟨v',q1,q2.mono iZ,q3⟩,h2.nu,h2.ct,h2.there,h2.fits,h2.ends,h2.aQ,h2.gF,h2.mark⟩⟩
 ·intro b es hb
  have:=(Yb b _ hb).1;simp [aY.ct] at this
 ·intro b s pos hb
  have:=(Yb b _ hb).1;simp [aY.ct] at this
 ·intro b st e t ps a c hb
  have:=(Yb b _ hb).1;simp [aY.ct] at this
 ·intro b1 b2 o1 o2 l1 l2 _ h1 _ h3
  have:=(Yb b1 _ h1).1;rw [h3] at this; simp at this
 ·intro b o aF f hb hk
  have:=(Yb b _ hb).2;rw [hk] at this; simp at this
 ·intro b l' hb
  rw [St.cw];simp only [Ren.set] at hb;split at hb
  ·omega
  ·have:=h.dI.fZ b l' hb; omega
 ·refine ⟨?_,?_,?_,?_,?_,?_,?_,?_,?_,?_,?_,?_,?_,?_,.empty h.α⟩
  ·intro b cs aQ h; simp [ai.empty,ai.get] at h
  ·intro b cs aQ h; simp [ai.empty,ai.get] at h
  ·intro b r hb
   simp only [Env.dV] at hb;split at hb
   ·rename_i e
    simp at hb;subst hb e;simp
   ·have:=h.k.lT b r hb
    rw [St.cV,ae (by omega)];exact h.k.z b r hb
  ·intro b x hb; have hb:E.κ b=some x:=hb; rw [h.κ b] at hb; simp at hb
  ·exact h.k.inj
  ·exact h.k.iB
  ·exact h.k.fZ
  ·exact h.k.lk
  ·exact h.k.live
  ·intro b x hb; have:=h.k.eD b x hb; rw [St.cw]; omega
  ·intro b r hb
   simp only [Env.dV] at hb;rw [St.cw];split at hb
   ·omega
   ·have:=h.k.lT b r hb; omega
  ·intro b g hb; have:=h.k.iU b g hb; rw [St.cw]; omega
  ·intro g hg; rw [St.cw] at hg; rw [St.j3]; exact h.k.fresh g (by omega)
  ·intro g x hx; rw [St.j3] at hx; rw [St.cw]; have:=h.k.mem g x hx; omega
def Vu (P:Program):Nat->List Field->Option Nat
 | off,[]=>some off
 | off,f::fs=>cond (Nat.beq f.offset off) (Vu P (off+P.cellsOf f.type) fs) .none
def wZ (P:Program):Nat->TypeId->Bool
 | 0,_=>false
 | n+1,t=>match P.underlying t with
  | some (.int _) | some .bool | some .string=>true
  | some (.slice e)=>Nat.ble 1 (P.cellsOf e)&&wZ P n e&&(match lay P 12 e with
   | some l=>Nat.beq l.ks.length (P.cellsOf e)&&(l.agg||Nat.beq l.ks.length 1)
   | .none=>false)
  | some (.struct fs)=>fs.toList.all (fun f=>wZ P n f.type)&&(match Vu P 0 fs.toList with
   | some k=>Nat.beq k (P.cellsOf t)
   | .none=>false)
  | some (.array len e)=>wZ P n e&&Nat.beq (P.cellsOf t) (len * P.cellsOf e)
  | _=>false
def Vv (W:World) (cs:List Value):Prop:=∀ a n c,Value.slice (some a) n c∈cs->0 < W.heap.size
def Got (P:Program) (W:World) (E:Env) (_:St) (ρ:Ren) (cs:List Value) (K:List KV->Prop):Prop:=
 ∃ E' B' ak ks,KL P W E' B' ak/\E.le E'/\ρ.le ak/\ny P E' ak ks cs/\xP P ks/\K ks
def Tp {H:Type} (enc:TypeId×Value->H) (P:Program) (W:World) (n:Nat):Prop:=
 ∀ t,wZ P n t=true->∀ (fuel:Nat) (cs:List Value) (x:DataW H×List MemPlace) (E:Env) (B:St) (ρ:Ren),DataW.trod enc P W 0 (fun _=>true) true fuel t cs=some x->(∀ w∈DataW.weights P t x.1,w<=reachBytes)->Vv W cs->KL P W E B ρ->
  Got P W E B ρ cs fun ks=>∀ m l,lay P m t=some l->aq l.ks ks=true
section
variable {H:Type} {enc:TypeId×Value->H} {P:Program} {W:World} {E:Env} {B:St} {ρ:Ren}
theorem ny.append {E:Env} {ρ:Ren} {a b:List KV} {a' b' : List Value} (h:ny P E ρ a a') (k:ny P E ρ b b'):ny P E ρ (a++b) (a'++b'):=by
 obtain ⟨m,h1,h2⟩:=h;obtain ⟨l,h3,h4⟩:=k;exact ⟨m++l,h1.append h3,h2.append h4⟩
theorem ny.mono {E E' : Env} {ρ ak:Ren} {a:List KV} {a' : List Value} (h:ny P E ρ a a') (hE:E.le E') (iZ:ρ.le ak):ny P E' ak a a':=by
 obtain ⟨m,h1,h2⟩:=h;exact ⟨m,h1.mono hE,h2.mono iZ⟩
theorem ny.len {E:Env} {ρ:Ren} {a:List KV} {a' : List Value} (h:ny P E ρ a a'):a'.length=a.length:=by
 obtain ⟨m,h1,h2⟩:=h;rw [h2.length,h1.length]
theorem Eb:∀ {ks:List CK} {vs:List KV},aq ks vs=true->vs.length=ks.length
 | [],[],_=>rfl
 | [],_::_,h=>by simp [aq] at h
 | _::_,[],h=>by simp [aq] at h
 | k::ks,v::vs,h=>by
  simp only [aq,aj] at h;simp [Eb h.2]
theorem Ec:∀ {ks ls:List CK} {vs us:List KV},aq ks vs=true->aq ls us=true->aq (ks++ls) (vs++us)=true
 | [],_,[],_,_,h=>h
 | [],_,_::_,_,h,_=>by simp [aq] at h
 | _::_,_,[],_,h,_=>by simp [aq] at h
 | k::ks,ls,v::vs,us,h,h'=>by
  simp only [aq,aj] at h;simp only [List.cons_append,aq,aj];exact ⟨h.1,Ec h.2 h'⟩
theorem Vv.sub {W:World} {cs ds:List Value} (h:Vv W cs) (k:∀ v∈ds,v∈cs):Vv W ds:=fun a n c hm=>h a n c (k _ hm)
theorem Vw {cs:List Value} {i n:Nat} : ∀ v∈(cs.drop i).take n,v∈cs:=fun _ h=>List.mem_of_mem_drop (List.mem_of_mem_take h)
theorem Se (cs:List Value) (i m n:Nat):(cs.drop i).take m++(cs.drop (i+m)).take n=(cs.drop i).take (m+n):=by
 rw [List.take_add,List.drop_drop]
theorem Pg {n:Nat} (IH:Tp enc P W n) {fuel:Nat} {cs:List Value} (hp:Vv W cs):∀ (fs:List Field) (off k:Nat) (E:Env) (B:St) (ρ:Ren),KL P W E B ρ->Vu P off fs=some k->k<=cs.length->(∀ f∈fs,wZ P n f.type=true)->
  (∀ f∈fs,∃ x,DataW.trod enc P W 0 (fun _=>true) true fuel f.type ((cs.drop f.offset).take (P.cellsOf f.type))=some x/\∀ w∈DataW.weights P f.type x.1,w<=reachBytes)->
  off<=k/\Got P W E B ρ ((cs.drop off).take (k - off)) fun ks=>∀ m l,Iw (lay P m) fs off=some l->aq l ks=true
 | [],off,k,E,B,ρ,hi,ht,hk,_,_=>by
  simp [Vu] at ht; subst ht;refine ⟨ao _,E,B,ρ,[],hi,Env.le_refl _,Ren.le_refl _,?_,trivial,?_⟩
  ·rw [Nat.sub_self,List.take_zero]; exact ⟨[],.nil,.nil⟩
  ·intro m l h; simp [Iw] at h; subst h; rfl
 | f::fs,off,k,E,B,ρ,hi,ht,hk,he,hx=>by
  unfold Vu at ht;cases hb:Nat.beq f.offset off with
  | false=>rw [hb] at ht; simp at ht
  | true=>
   rw [hb,ah] at ht;have Hg:=aE hb;obtain ⟨x,MG,F7⟩:=hx f (by simp);obtain ⟨E1,B1,fH,ks1,h1,h2,h3,h4,h5,h6⟩:=IH f.type (he f (by simp)) fuel _ x E B ρ MG F7 (hp.sub Vw) hi;obtain ⟨hle,E2,B2,nv,ks2,q1,q2,q3,q4,q5,q6⟩:=Pg IH hp fs (off+P.cellsOf f.type) k E1 B1 fH h1 ht hk (fun g hg=>he g (by simp [hg])) (fun g hg=>hx g (by simp [hg]));have hlen:ks1.length=P.cellsOf f.type:=by
    rw [<- h4.len,jw,List.length_drop,Hg];omega
   refine ⟨by omega,E2,B2,nv,ks1++ks2,q1,Env.le_trans h2 q2,Ren.le_trans h3 q3,?_,A8 h5 q5,?_⟩
   ·have:=(h4.mono q2 q3).append q4
    rw [Hg,Se] at this;rw [show k - off=P.cellsOf f.type+(k - (off+P.cellsOf f.type)) by omega];exact this
   ·intro m l hl
    unfold Iw at hl;rw [hb,ah] at hl;obtain ⟨l1,AL,hl⟩:=aO.1 hl;obtain ⟨l2,iM,rfl⟩:=aU.1 hl;have oj:=h6 m l1 AL;have anA:=Eb oj;rw [<- anA,hlen] at iM;exact Ec oj (q6 m l2 iM)
theorem Sf {n:Nat} (IH:Tp enc P W n) {fuel len c:Nat} {e:TypeId} {cs:List Value} (hp:Vv W cs) (he:wZ P n e=true) (hc:P.cellsOf e=c) (hk:len * c<=cs.length) (hx:∀ i,i < len->∃ x,DataW.trod enc P W 0 (fun _=>true) true fuel e ((cs.drop (i * c)).take c)=some x/\∀ w∈DataW.weights P e x.1,w<=reachBytes) (hi:KL P W E B ρ):∀ j,j<=len->
  Got P W E B ρ (cs.take (j * c)) fun ks=>∀ m l,lay P m e=some l->aq (cM l.ks j) ks=true
 | 0,_=>by
  refine ⟨E,B,ρ,[],hi,Env.le_refl _,Ren.le_refl _,?_,trivial,fun m l _=>rfl⟩;rw [Nat.zero_mul,List.take_zero]; exact ⟨[],.nil,.nil⟩
 | j+1,hj=>by
  obtain ⟨E1,B1,fH,ks1,h1,h2,h3,h4,h5,h6⟩:=Sf IH hp he hc hk hx hi j (by omega);obtain ⟨x,MG,F7⟩:=hx j (by omega);obtain ⟨E2,B2,nv,ks2,q1,q2,q3,q4,q5,q6⟩:=IH e he fuel _ x E1 B1 fH MG F7 (hp.sub Vw) h1;refine ⟨E2,B2,nv,ks1++ks2,q1,Env.le_trans h2 q2,Ren.le_trans h3 q3,?_,A8 h5 q5,?_⟩
  ·have:=(h4.mono q2 q3).append q4
   have e:=Se cs 0 (j * c) c;simp only [List.drop_zero,bF] at e;rw [e] at this;rw [show (j+1) * c=j * c+c by rw [Nat.succ_mul]];exact this
  ·intro m l hl
   have:cM l.ks (j+1)=cM l.ks j++l.ks:=by
    have comm:∀ n,l.ks++cM l.ks n=cM l.ks n++l.ks:=by
     intro n
     induction n with
     | zero=>simp [cM]
     | succ n ih=>simp only [cM,JO]; rw [ih]
    rw [<- comm]; rfl
   rw [this];exact Ec (h6 m l hl) (q6 m l hl)
theorem Ph {a:Addr} {i k:Nat} {v:Value} (h:W.cell? ((a.add i).add k)=some v):W.cell? ⟨a.block,a.off+i+k,.none⟩=some v/\a.block < W.heap.size/\(i+k=0->a.spot = .none):=by
 have hb:((a.add i).add k).block=a.block:=by unfold Addr.add; split <;> split <;> rfl
 have ho:((a.add i).add k).off=a.off+i+k:=by
  unfold Addr.add;split <;> split <;> simp_all
 have hs:((a.add i).add k).spot = .none:=by
  unfold World.cell? at h;split at h
  ·split at h
   ·simp at h
   ·rename_i hs; simpa using hs
  ·simp at h
 have he:(a.add i).add k=⟨a.block,a.off+i+k,.none⟩:=by
  generalize (a.add i).add k=p at hb ho hs;obtain ⟨b,o,s⟩:=p;simp at hb ho hs;simp [hb,ho,hs]
 refine ⟨he ▸ h,?_,fun e=>?_⟩
 ·rw [he] at h
  unfold World.cell? at h;split at h
  ·rename_i heq
   exact (jh.1 heq).1
  ·simp at h
 ·have h1:i=0:=by omega
  have h2:k=0:=by omega
  subst h1 h2;simpa [Addr.add] using hs
theorem Vx {a:Addr} {n:Nat} {cs:List Value} (h:W.cells? 0 a n=some cs):cs.length=n/\∀ (k:Nat) (v:Value),cs[k]? = some v->W.cell? (a.add k)=some v:=by
 unfold World.cells? at h;rw [ax (mf _)] at h;have hl:=mapM_some_length h;simp at hl;refine ⟨hl,fun k v hv=>?_⟩;have hk:k < n:=by rw [<- hl]; exact (cp.1 hv).1
 rw [mapM_some_get h k k (by simp [hk])];exact hv
theorem afT {ks:List KV} {agg:Bool} (h:xP P ks):KK P (HI agg ks):=by
 cases agg with
 | true=>exact h
 | false=>
  match ks,h with
  | [],_=>exact trivial
  | v::vs,h=>exact h.1
theorem LF {E:Env} {ρ:Ren} : ∀ {ks:List CK} {vs:List KV} {m:List Value},aq ks vs=true->aK P E vs m->∀ v∈m,scalar v=true
 | [],[],m,_,h,v,hv=>by rw [h.bz] at hv; simp at hv
 | [],_::_,_,h,_,_,_=>by simp [aq] at h
 | _::_,[],_,h,_,_,_=>by simp [aq] at h
 | k::ks,u::vs,m,h,hm,v,hv=>by
  simp only [aq,aj] at h;obtain ⟨y,ys,rfl,h1,h2⟩:=hm.cons_inv;rcases bd.1 hv with rfl | hv
  ·refine h1.scalar ?_
   have:=h.1;cases u <;> first | rfl | (cases k <;> simp [kindOk] at this)
  ·exact LF (ρ:=ρ) h.2 h2 v hv
theorem Sg {n:Nat} (IH:Tp enc P W n) {fuel len c:Nat} {e:TypeId} {l:Lay} {a:Addr} (he:wZ P n e=true) (hl:lay P 12 e=some l) (AK:l.ks.length=c) (ha:l.agg=true\/l.ks.length=1) (hc:P.cellsOf e=c) (hc1:1<=c)
  (hx:∀ i,i < len->∃ x,(W.cells? 0 (a.add (i * c)) c).bind (DataW.trod enc P W 0 (fun _=>true) true fuel e)=some x/\∀ w∈DataW.weights P e x.1,w<=reachBytes) (hi:KL P W E B ρ):∀ j,j<=len->
  ∃ E' B' ak es us fl,KL P W E' B' ak/\E.le E'/\ρ.le ak/\es.length=j/\aK P E' es us/\dn l es=true/\xP P es/\fl.length=j * c/\mJ c 0 fl us/\
   (∀ (i:Nat) (v:Value),fl[i]? = some v->∃ v',W.cell? ⟨a.block,a.off+i,.none⟩=some v'/\VR ak v v'/\scalar v=true)/\(0 < j->a.block < W.heap.size/\a.spot = .none)
 | 0,_=>⟨E,B,ρ,[],[],[],hi,Env.le_refl _,Ren.le_refl _,rfl,.nil,rfl,trivial,by simp,fun i x h=>by simp at h,fun i v h=>by simp at h,fun h=>by omega⟩
 | j+1,hj=>by
  obtain ⟨E1,B1,fH,es,us,fl,h1,h2,h3,h4,h5,h6,h7,h8,h9,qh,UN⟩:=Sg IH he hl AK ha hc hc1 hx hi j (by omega);obtain ⟨x,MG,F7⟩:=hx j (by omega);obtain ⟨cs,AJ,hx2⟩:=aO.1 MG;obtain ⟨hlen,fA⟩:=Vx AJ;have Aq:a.block < W.heap.size:=by
   have h0:0 < cs.length:=by rw [hlen]; omega
   exact (Ph (fA 0 _ (cl h0))).2.1
  obtain ⟨E2,B2,nv,ks,q1,q2,q3,⟨m,q4,q4'⟩,q5,q6⟩:=IH e he fuel cs x E1 B1 fH hx2 F7 (fun _ _ _ _=>by omega) h1;have hk:=q6 12 l hl;have SJ:m.length=c:=by rw [q4.length,Eb hk,AK]
  have uZ:l.agg=true\/m.length=1:=by rw [SJ,<- AK]; exact ha
  have y8:=LF (ρ:=ρ) hk q4;have k8:=UQ y8 uZ;have hul:us.length=j:=by rw [h5.length,h4]
  refine ⟨E2,B2,nv,es++[HI l.agg ks],us++[mkE l.agg m],fl++m,q1,Env.le_trans h2 q2,Ren.le_trans h3 q3,by simp [h4],(h5.mono q2).append (.cons (UR q4 uZ) .nil),?_,A8 h7 ⟨afT q5,trivial⟩,?_,?_,?_,fun _=>⟨Aq,?_⟩⟩
  ·have:∀ {es:List KV},dn l es=true->dn l (es++[HI l.agg ks])=true:=by
    intro es
    induction es with
    | nil=>intro _; simp [dn,QJ hk ha]
    | cons e es ih=>
     intro h;simp only [dn,aj] at h;simp only [List.cons_append,dn,aj];exact ⟨h.1,ih h.2⟩
   exact this h6
  ·rw [fE,h8,SJ,Nat.succ_mul]
  ·intro i y hy
   by_cases hi:i < j
   ·rw [mL (by omega)] at hy
    obtain ⟨r1,r2⟩:=h9 i y hy;refine ⟨r1,fun k z hz=>?_⟩;have:=r2 k z hz;rw [mL (cp.1 this).1];exact this
   ·rw [n4 (by omega),hul] at hy
    have hij:i=j:=by
     have:=(cp.1 hy).1;simp at this;omega
    subst hij;simp at hy;subst hy;have cS:(mkE l.agg m).cells.size=c:=by rw [<- Array.length_toList,k8,SJ]
    refine ⟨cS,fun k z hz=>?_⟩;rw [<- Array.getElem?_toList,k8] at hz;rw [n4 (by rw [h8]; omega),h8,show 0+i * c+k - i * c=k by omega];exact hz
  ·intro i v hv
   by_cases hi:i < fl.length
   ·rw [mL hi] at hv
    obtain ⟨v',r1,r2,r3⟩:=qh i v hv;exact ⟨v',r1,r2.mono q3,r3⟩
   ·rw [n4 (by omega)] at hv
    obtain ⟨v',r1,r2⟩:=q4'.get hv;refine ⟨v',?_,r2,y8 v (eW hv)⟩;have:=(Ph (fA _ _ r1)).1;rw [h8] at this;rw [h8] at hi;rw [show a.off+i=a.off+j * c+(i - j * c) by omega];exact this
  ·by_cases h0:j=0
   ·subst h0
    have h0:0 < cs.length:=by rw [hlen]; omega
    exact (Ph (fA 0 _ (cl h0))).2.2 (by omega)
   ·exact (UN (by omega)).2
theorem zX {e:TypeId} : ∀ {l:List (DataW H)} {d:DataW H},d∈l->∀ w∈DataW.weights P e d,w∈DataW.weightsAll P e l
 | [],_,h,_,_=>by simp at h
 | x::l,d,h,w,hw=>by
  simp only [DataW.weightsAll,eP];rcases bd.1 h with rfl | h
  ·exact .inl hw
  ·exact .inr (zX h w hw)
theorem aca:∀ n,Tp enc P W n
 | 0=>fun t ht=>by simp [wZ] at ht
 | n+1=>by
  have IH:=aca n;intro t ht fuel cs x E B ρ hx hz hp hi;have hn:∀ {m l},lay P m t=some l->∃ m',m=m' + 1:=by
   intro m l h;cases m with
   | zero=>simp [lay] at h
   | succ m=>exact ⟨m,rfl⟩
  unfold wZ at ht;split at ht
  ·rename_i k hu
   obtain ⟨i,rfl,_,hw⟩:=DataW.trod_int hu hx;refine ⟨E,B,ρ,[.int k i],hi,Env.le_refl _,Ren.le_refl _,⟨_,.cons .mkInt .nil,.cons (by simp [VR]) .nil⟩,⟨hw,trivial⟩,fun m l h=>?_⟩;obtain ⟨m',rfl⟩:=hn h;simp only [lay,hu,aR] at h;subst h;simp [aq,kindOk]
  ·rename_i hu
   obtain ⟨b,rfl,_⟩:=DataW.trod_bool hu hx;refine ⟨E,B,ρ,[.bool b],hi,Env.le_refl _,Ren.le_refl _,⟨_,.cons .nE .nil,.cons (by simp [VR]) .nil⟩,⟨trivial,trivial⟩,fun m l h=>?_⟩;obtain ⟨m',rfl⟩:=hn h;simp only [lay,hu,aR] at h;subst h;simp [aq,kindOk]
  ·rename_i hu
   obtain ⟨s,rfl,_,hw⟩:=DataW.trod_string hu hx;refine ⟨E,B,ρ,[.str s],hi,Env.le_refl _,Ren.le_refl _,⟨_,.cons .mkStr .nil,.cons (by simp [VR]) .nil⟩,⟨hw,trivial⟩,fun m l h=>?_⟩;obtain ⟨m',rfl⟩:=hn h;simp only [lay,hu,aR] at h;subst h;simp [aq,kindOk]
  ·rename_i e hu
   simp only [aj] at ht;obtain ⟨⟨AU,DR⟩,ht3⟩:=ht;have hc1:=cL AU;split at ht3
   ·rename_i l hl
    simp only [aj,oa] at ht3;have AK:=aE ht3.1;have uZ:l.agg=true\/l.ks.length=1:=ht3.2.imp id aE;have hlF:aH P e=l:=by simp [aH,hl]
    have cS:aJ P e=P.cellsOf e:=by rw [aJ,hlF,AK]
    have fin:∀ {ks:List KV} {m:Nat} {l' : Lay} {mk:Mk} {nn:Nat} {es:List KV} {acc:Nat->KV},mk = .any->lay P m t=some l'->ks = [.ts e mk nn es acc]->aq l'.ks ks=true:=by
     intro ks m l' mk nn es acc KG h oK;obtain ⟨m',rfl⟩:=hn h;simp only [lay,hu,aR] at h;subst h oK KG;simp [aq,kindOk]
    rcases DataW.trod_slice hu hx with ⟨rfl,_⟩ | ⟨a,len,cap,elems,rest,fu,_,rfl,T0,_,hle,aeT,wN,hE,hR,_⟩
    ·refine ⟨E,B,ρ,[.ts e .any 0 [] mI],hi,Env.le_refl _,Ren.le_refl _,⟨[.slice .none 0 0],.cons ?_ .nil,.cons (by simp [VR]) .nil⟩,⟨⟨mf _,trivial,rfl,by rw [Nat.zero_mul]; exact mf _⟩,trivial⟩,fun m l h=>fin rfl h rfl⟩
     simp only [VK];exact ⟨⟨rfl,fun i h=>by omega,rfl⟩,[],.nil,.none,0,rfl,ao _,.inl ⟨rfl,rfl⟩,trivial⟩
    ·have akE:len * P.bytesOf e<=reachBytes:=by
      refine dx (Nat.mul_le_mul_right _ ?_) (hz ((elems.length+rest.length) * P.bytesOf e) ?_)
      ·omega
      ·rw [T0]; simp [DataW.weights,hu]
     have hxs:∀ i,i < len->∃ x,(W.cells? 0 (a.add (i * P.cellsOf e)) (P.cellsOf e)).bind (DataW.trod enc P W 0 (fun _=>true) true fu e)=some x/\∀ w∈DataW.weights P e x.1,w<=reachBytes:=by
      intro i h;rw [hE i h];have hi:i < elems.length:=by rw [wN]; exact h
      refine ⟨_,cl hi,fun w hw=>hz w ?_⟩;rw [T0];have:=zX (l:=elems.map (·.1)) (ur.2 ⟨_,JP hi,rfl⟩) w hw;simp only [DataW.weights,hu,bd,eP];exact .inr (.inl this)
     obtain ⟨E1,B1,fH,es,us,fl,h1,h2,h3,h4,h5,h6,h7,h8,h9,qh,UN⟩:=Sg IH DR hl AK uZ rfl hc1 hxs hi len (ao _);have ua:0 < cap->a.block < W.heap.size/\a.spot = .none:=by
      intro h0;by_cases DM:0 < len
      ·exact UN DM
      ·have DM:len=0:=by omega
       subst DM;obtain ⟨hr1,pR⟩:=hR rfl;have hr3:=pR 0 (by omega);rw [cl (by rw [hr1]; omega)] at hr3;obtain ⟨b5,aid,_⟩:=aO.1 hr3;obtain ⟨hlen,fA⟩:=Vx aid;have h0:0 < b5.length:=by rw [hlen]; omega
       have:=Ph (fA 0 _ (cl h0));exact ⟨this.2.1,this.2.2 (by omega)⟩
     have hh:0 < W.heap.size:=hp a len cap (by simp);have hlenes:us.length=len:=by rw [h5.length,h4]
     have aeV:∃ lc:aA.Loc,lc.aQ=P.cellsOf e/\lc.cb < W.heap.size/\lc.cg+fl.length<=lc.rV/\(cap≠0->a=⟨lc.cb,lc.cg,.none⟩)/\lc.cg+cap * lc.aQ<=lc.rV/\
       (∀ (i:Nat) (v:Value),fl[i]? = some v->∃ v',W.cell? ⟨lc.cb,lc.cg+i,.none⟩=some v'/\VR fH v v'/\scalar v=true):=by
      by_cases h0:cap=0
      ·subst h0
       have DM:len=0:=by omega
       subst DM;refine ⟨⟨0,0,0,P.cellsOf e⟩,rfl,hh,by simp [h8],fun h=>absurd rfl h,by simp,fun i v hv=>?_⟩;have:fl = []:=by apply List.eq_nil_of_length_eq_zero; simp [h8]
       rw [this] at hv; simp at hv
      ·obtain ⟨p1,p2⟩:=ua (by omega)
       refine ⟨⟨a.block,a.off,a.off+cap * P.cellsOf e,P.cellsOf e⟩,rfl,p1,?_,fun _=>?_,ao _,qh⟩
       ·rw [h8]; exact Nat.add_le_add_left (Nat.mul_le_mul_right _ hle) _
       ·obtain ⟨b,o,s⟩:=a
        simp at p2;simp [p2]
     obtain ⟨lc,l1,l2,l3,l4,l5,l6⟩:=aeV;obtain ⟨i1,i2,i3⟩:=h1.add l6 l2 l3;refine ⟨_,_,_,[.ts e .any len es (qk es)],i1,Env.le_trans h2 i2,Ren.le_trans h3 i3,⟨[.slice (some ⟨B1.next,0,.none⟩) len len],.cons ?_ .nil,.cons ?_ .nil⟩,⟨⟨by omega,h7,rfl,akE⟩,trivial⟩,fun m l h=>fin rfl h rfl⟩
     ·simp only [VK]
      refine ⟨⟨h4.symm,fun i _=>rfl,by rw [hlF]; exact h6⟩,us,h5.mono i2,some ⟨B1.next,0,.none⟩,len,rfl,ao _,.inr ⟨B1.next,0,⟨fl,lc.aQ,false,.none⟩,rfl,by simp [Env.dV],by rw [l1,cS],?_⟩,trivial⟩;rw [cS];exact h9
     ·simp only [VR]
      exact ⟨trivial,ao _,lc,a,cap,by simp [Ren.set],hle,fun h=>by simpa using l4 h,by simpa using l5,rfl⟩
   ·simp at ht3
  ·rename_i fs hu
   simp only [aj,dS] at ht;split at ht
   ·rename_i k hk
    have hkc:=aE ht.2;obtain ⟨xs,fu,_,T0,hlen,hxs,hf⟩:=DataW.trod_struct hu hx;have hff:∀ f∈fs.toList,∃ x,DataW.trod enc P W 0 (fun _=>true) true fu f.type ((cs.drop f.offset).take (P.cellsOf f.type))=some x/\∀ w∈DataW.weights P f.type x.1,w<=reachBytes:=by
     intro f hm;obtain ⟨i,KC⟩:=List.getElem?_of_mem hm;have hi2:fs[i]? = some f:=by simpa using KC
     have aI:i < xs.length:=by rw [hxs]; exact (jh.1 hi2).1
     refine ⟨xs[i],by rw [hf i f hi2]; exact cl aI,fun w hw=>hz w ?_⟩;rw [T0];simp only [DataW.weights,hu];exact DataW.weights_mem_each (j:=i) (t:=f.type) (d:=xs[i].1) (by rw [mg,KC]; rfl) (by rw [mg,cl aI]; rfl) w hw
    obtain ⟨_,E1,B1,fH,ks,h1,h2,h3,h4,h5,h6⟩:=Pg IH hp fs.toList 0 k E B ρ hi hk (by rw [hkc,hlen]; exact ao _) ht.1 hff;refine ⟨E1,B1,fH,ks,h1,h2,h3,?_,h5,fun m l h=>?_⟩
    ·have e:(cs.drop 0).take (k - 0)=cs:=by rw [List.drop_zero,Nat.sub_zero,hkc,<- hlen,List.take_length]
     rw [e] at h4;exact h4
    ·obtain ⟨m',rfl⟩:=hn h
     simp only [lay,hu,aU] at h;obtain ⟨l',iL,rfl⟩:=h;exact h6 m' l' iL
   ·simp at ht
  ·rename_i len e hu
   simp only [aj] at ht;have hkc:=aE ht.2;obtain ⟨xs,fu,_,T0,hlen,hxs,hf⟩:=DataW.trod_array hu hx;have hff:∀ i,i < len->∃ x,DataW.trod enc P W 0 (fun _=>true) true fu e ((cs.drop (i * P.cellsOf e)).take (P.cellsOf e))=some x/\∀ w∈DataW.weights P e x.1,w<=reachBytes:=by
    intro i h;have hi:i < xs.length:=by rw [hxs]; exact h
    refine ⟨xs[i],by rw [hf i h]; exact cl hi,fun w hw=>hz w ?_⟩;rw [T0];simp only [DataW.weights,hu];exact zX (l:=xs.map (·.1)) (ur.2 ⟨_,JP hi,rfl⟩) w hw
   obtain ⟨E1,B1,fH,ks,h1,h2,h3,h4,h5,h6⟩:=Sf IH hp ht.1 rfl (by rw [hlen,hkc]; exact ao _) hff hi len (ao _);refine ⟨E1,B1,fH,ks,h1,h2,h3,?_,h5,fun m l h=>?_⟩
   ·rw [<- hkc,<- hlen,List.take_length] at h4
    exact h4
   ·obtain ⟨m',rfl⟩:=hn h
    simp only [lay,hu,aU] at h;obtain ⟨l',iL,rfl⟩:=h;exact h6 m' l' iL
  ·simp at ht
end
end Go.K
end
section
namespace Go.K
open Go Go.aA Go.WideShapes
mutual
def zY (P:Program):KV->Prop
 | .ts T _ n es acc=>fV P T n es acc/\uJ P es
 | .agg cs=>uJ P cs
 | _=>True
def uJ (P:Program):List KV->Prop
 | []=>True
 | v::vs=>zY P v/\uJ P vs
end
mutual
theorem VK.deep {P:Program} {E:Env} : ∀ {v:KV} {u:Value},VK P E v u->zY P v
 | .ts T m n es acc,u,h=>by
  obtain ⟨h1,us,h2,_⟩:=h.jC;exact ⟨h1,aK.deep h2⟩
 | .agg cs,u,h=>by
  obtain ⟨l,_,h1⟩:=h.ju;exact aK.deep (vs:=cs) h1
 | .int _ _,_,_ | .bool _,_,_ | .str _,_,_ | .nh _,_,_ | .tp ..,_,_ | .ptr ..,_,_ | .al ..,_,_ | .ap ..,_,_ | .sl ..,_,_ | .Au,_,_ | .je,_,_ | .wF,_,_ | .map _,_,_ | .fn ..,_,_ | .BP,_,_ | .iface ..,_,_ | .BQ,_,_ | .bx,_,_=>trivial
theorem aK.deep {P:Program} {E:Env} : ∀ {vs:List KV} {us:List Value},aK P E vs us->uJ P vs
 | [],_,_=>trivial
 | v::vs,us,h=>by
  simp only [aK] at h;obtain ⟨y,ys,_,h1,h2⟩:=h;exact ⟨VK.deep h1,aK.deep h2⟩
end
def jS (P:Program):List TypeId->List KV->Bool
 | [],[]=>true
 | t::ts,v::vs=>cf (aH P t) v&&jS P ts vs
 | _,_=>false
theorem Sh {P:Program} : ∀ {ts:List TypeId} {aob:List KV},jS P ts aob=true->aob.length=ts.length
 | [],[],_=>rfl
 | [],_::_,h=>by simp [jS] at h
 | _::_,[],h=>by simp [jS] at h
 | t::ts,v::vs,h=>by
  simp only [jS,aj] at h;simp [Sh h.2]
def Pj (P:Program) (t:TypeId):Bool:=wZ P 30 t&&(match lay P 12 t with
 | some l=>Nat.beq l.ks.length (P.cellsOf t)
 | .none=>false)
section
variable {H:Type} {enc:TypeId×Value->H} {P:Program} {W:World}
theorem ZW {r:Reach} {base:Nat} {t:TypeId} {v:Value} (h:Value.okWide P W r base t v):Vv W v.cells.toList:=by
 intro a n c hm;have cell:∀ u,Cell.okWide P W r base u (.slice (some a) n c)->0 < W.heap.size:=by
  intro u hu;unfold Cell.okWide at hu;split at hu <;> try (rename_i heq; simp at heq; done)
  unfold Cell.ok at hu;split at hu <;> try (rename_i heq; simp at heq; done)
  ·rename_i e heq
   simp at heq;obtain ⟨rfl,rfl,rfl⟩:=heq;obtain ⟨_,_,_,_,row,cells,hs,_⟩:=hu;unfold World.shape? at hs;split at hs
   ·rename_i hh
    have:=(jh.1 hh).1;omega
   ·simp at hs
  ·exact hu.elim
 unfold Value.okWide at h;split at h
 ·obtain ⟨cs,rfl,_,ts,_,_,hc⟩:=h
  obtain ⟨i,hi⟩:=List.getElem?_of_mem hm;obtain ⟨u,_,hu⟩:=hc i _ (by simpa [Value.cells] using hi);exact cell u hu
 ·obtain ⟨cs,rfl,_,ts,_,_,hc⟩:=h
  obtain ⟨i,hi⟩:=List.getElem?_of_mem hm;obtain ⟨u,_,hu⟩:=hc i _ (by simpa [Value.cells] using hi);exact cell u hu
 ·have hv:v.cells.toList = [v]\/∃ cs,v = .agg cs:=by cases v <;> first | exact .inl rfl | exact .inr ⟨_,rfl⟩
  rcases hv with hv | ⟨cs,rfl⟩
  ·rw [hv] at hm
   simp at hm;subst hm;exact cell t h
  ·exfalso
   unfold Cell.okWide at h;split at h <;> try (rename_i heq; simp at heq; done)
   unfold Cell.ok at h;split at h <;> first | (rename_i heq; simp at heq; done) | exact h.elim
theorem ag7 {E:Env} {B:St} {ρ:Ren} {t:TypeId} {v:Value} {d:DataW H} {ps:List MemPlace} {r:Reach} {base:Nat} (ht:Pj P t=true) (hd:DataW.Trod enc P W 0 (fun _=>true) true t v d ps) (hz:∀ w∈DataW.weights P t d,w<=reachBytes) (hw:Value.okWide P W r base t v) (hi:KL P W E B ρ) :
  ∃ E' B' ak a,KL P W E' B' ak/\E.le E'/\ρ.le ak/\VC P E' ak a v/\cf (aH P t) a=true/\KK P a:=by
 unfold Pj at ht;simp only [aj] at ht;obtain ⟨AU,DR⟩:=ht;split at DR
 ·rename_i l hl
  obtain ⟨fuel,hf⟩:=hd;obtain ⟨E1,B1,fH,ks,h1,h2,h3,⟨m,h4,h4'⟩,h5,h6⟩:=aca 30 t AU fuel _ _ E B ρ hf hz (ZW hw) hi;have hk:=h6 12 l hl;have hlF:aH P t=l:=by simp [aH,hl]
  have afU:(l.agg=true/\∃ cs:Array Value,v = .agg cs)\/(l.agg=false/\l.ks.length=1/\v.cells.toList = [v]):=by
   unfold wZ at AU;split at AU
   ·rename_i k hu
    obtain ⟨n,rfl⟩:=okWide_int hu hw;simp only [lay,hu,aR] at hl;subst hl; exact .inr ⟨rfl,rfl,rfl⟩
   ·rename_i hu
    obtain ⟨n,rfl⟩:=okWide_bool hu hw;simp only [lay,hu,aR] at hl;subst hl; exact .inr ⟨rfl,rfl,rfl⟩
   ·rename_i hu
    obtain ⟨n,rfl⟩:=okWide_string hu hw;simp only [lay,hu,aR] at hl;subst hl; exact .inr ⟨rfl,rfl,rfl⟩
   ·rename_i e hu
    obtain ⟨a,n,c,rfl⟩:=okWide_slice hu hw;simp only [lay,hu,aR] at hl;subst hl; exact .inr ⟨rfl,rfl,rfl⟩
   ·rename_i fs hu
    simp only [lay,hu,aU] at hl;obtain ⟨_,_,rfl⟩:=hl;unfold Value.okWide at hw;rw [hu] at hw;obtain ⟨cs,rfl,_⟩:=hw;exact .inl ⟨rfl,cs,rfl⟩
   ·rename_i len e hu
    simp only [lay,hu,aU] at hl;obtain ⟨_,_,rfl⟩:=hl;unfold Value.okWide at hw;rw [hu] at hw;obtain ⟨cs,rfl,_⟩:=hw;exact .inl ⟨rfl,cs,rfl⟩
   ·simp at AU
  refine ⟨E1,B1,fH,HI l.agg ks,h1,h2,h3,?_,?_,afT h5⟩
  ·rcases afU with ⟨ha,cs,rfl⟩ | ⟨ha,hlen,hv⟩
   ·rw [ha]
    exact ⟨.agg ⟨m⟩,.nt h4,VR.nt (l':=cs.toList) h4'⟩
   ·rw [ha]
    rw [hv] at h4';have SJ:m.length=1:=by have:=h4'.length; simpa using this.symm
    have:=UR (agg:=false) h4 (.inr SJ)
    match m,SJ,h4',this with
    | [y],_,h4',this=>
     obtain ⟨z,zs,e,q1,_⟩:=h4'.cons_inv;simp at e;refine ⟨y,this,?_⟩;rw [e.1]; exact q1
  ·rw [hlF]
   exact QJ hk (afU.imp (·.1) (·.2.1))
 ·simp at DR
theorem Vy {r:Reach} {base:Nat} : ∀ {ts:List TypeId} {vs:List Value} {ds:List (DataW H)} {ps:List MemPlace} {E:Env} {B:St} {ρ:Ren},(∀ t∈ts,Pj P t=true)->DataW.TrodAll enc P W 0 (fun _=>true) true ts vs ds ps->(∀ w∈DataW.weightsEach P ts ds,w<=reachBytes)->
  (∀ (j:Nat) t v,ts[j]? = some t->vs[j]? = some v->Value.okWide P W r base t v)->KL P W E B ρ->∃ E' B' ak aob,KL P W E' B' ak/\E.le E'/\ρ.le ak/\ny P E' ak aob vs/\jS P ts aob=true/\xP P aob
 | [],vs,ds,ps,E,B,ρ,_,h,_,_,hi=>by
  obtain ⟨rfl,_,_⟩:=Go.ChangeShapes.trodAll_nil h;exact ⟨E,B,ρ,[],hi,Env.le_refl _,Ren.le_refl _,⟨[],.nil,.nil⟩,rfl,trivial⟩
 | t::ts,vs,ds,ps,E,B,ρ,ht,h,hz,hw,hi=>by
  obtain ⟨v,ZS,d,ds1,a,b,rfl,rfl,rfl,h1,h2⟩:=Go.ChangeShapes.trodAll_cons h;obtain ⟨E1,B1,fH,x,q1,q2,q3,⟨u,q4,q4'⟩,q5,q6⟩:=ag7 (ht t (by simp)) h1 (fun w hw=>hz w (by simp only [DataW.weightsEach,eP]; exact .inl hw)) (hw 0 t v rfl rfl) hi;obtain ⟨E2,B2,nv,xs,p1,p2,p3,⟨m,p4,p4'⟩,p5,p6⟩:=Vy (fun t' h'=>ht t' (by simp [h'])) h2 (fun w hw=>hz w (by simp only [DataW.weightsEach,eP]; exact .inr hw)) (fun j t' v' h3 h4=>hw (j+1) t' v' (by simpa using h3) (by simpa using h4)) q1;exact ⟨E2,B2,nv,x::xs,p1,Env.le_trans q2 p2,Ren.le_trans q3 p3,⟨u::m,.cons (q4.mono p2) p4,.cons (q4'.mono p3) p4'⟩,by simp [jS,q5,p5],⟨q6,p6⟩⟩
theorem LG:∀ {ts us:List TypeId} {ds gs:List (DataW H)},∀ w∈DataW.weightsEach P ts ds,w∈DataW.weightsEach P (ts++us) (ds++gs)
 | [],_,_,_,w,h=>by simp [DataW.weightsEach] at h
 | _::_,_,[],_,w,h=>by simp [DataW.weightsEach] at h
 | t::ts,us,d::ds,gs,w,h=>by
  simp only [List.cons_append,DataW.weightsEach,eP] at h ⊢;exact h.imp id (LG w)
theorem acb {ts us:List TypeId} {ds gs:List (DataW H)} (h:(DataW.weightsEach P (ts++us) (ds++gs)).all (·<=reachBytes)=true):∀ w∈DataW.weightsEach P ts ds,w<=reachBytes:=fun w hw=>by
 have:=dS.1 h w (LG w hw);simpa using this
theorem akF (hP:P.funcs.toList.all gq=true) (hm:P.follows .mixedOrders=true) {cfg:gf} (e8:oW P cfg.pc) (gH:pt P cfg) {L n:Nat} {f:FuncId} {ts:List TypeId} (hts:ts.all (Pj P)=true)
  (gV:∀ aob,jS P ts aob=true->xP P aob->uJ P aob->zS P cfg L n f (normArgs P ts aob)=some (.bool true)) {args:Array Value} {ds:List (DataW H)} {ps:List MemPlace} {r:Reach} {base:Nat}
  (hd:DataW.TrodAll enc P W 0 (fun _=>true) true ts args.toList ds ps) (hz:∀ w∈DataW.weightsEach P ts ds,w<=reachBytes) (hw:∀ (j:Nat) t v,ts[j]? = some t->args.toList[j]? = some v->Value.okWide P W r base t v) :
  Calls P f args W fun e w'=>e = .returned (.bool true)/\RowKit.Below W.heap.size W w':=by
 obtain ⟨E,B,ρ,aob,h1,_,_,h4,h5,h6⟩:=Vy (dS.1 hts) hd hz hw (KL.start P W);have QU:uJ P aob:=by obtain ⟨m,q,_⟩:=h4; exact q.deep
 have kx:=gV aob h5 h6 QU;have h4:ny P E ρ (normArgs P ts aob) args.toList:=by
  obtain ⟨m,q,q'⟩:=h4;exact ⟨m,aK.GG (.of rfl) q (Sh h5),q'⟩
 have vf:=oO (R:=KV) hP hm e8 gH L n;obtain ⟨fn,c,hf,hc,bL,hnm,kx⟩:=I5 hP kx;have:=GF e8 vf hm L hf hc bL (gH.2 f fn c hf hc) kx h4 (base:=W.heap.size) (w:=W) ⟨h1.k,h1.dI⟩;refine this.mono ?_;rintro e w' ⟨vs,bw,E1,A1,B1,fH,rfl,⟨m,q1,q1'⟩,q2,q3⟩;have q3:Bool.rec (motive:=fun _=>Option KV) .none (some (BR (sR P (pg P f) (xL A1 vs).1))) (Nat.beq vs.length (pg P f).length)=some (.bool true):=q3;obtain ⟨E2,_,q1⟩:=Dg q2.dI q1;cases hb:Nat.beq vs.length (pg P f).length with
 | false=>rw [hb] at q3; exact absurd q3 (by simp)
 | true=>
  rw [hb] at q3;have q3:some (BR (sR P (pg P f) (xL A1 vs).1))=some (.bool true):=q3;simp only [aR] at q3;have hv:VC P E2 fH (BR (sR P (pg P f) (xL A1 vs).1)) (ZL bw):=I4 ⟨m,by rw [B6]; exact aK.GG (.of rfl) q1 ((GB A1 vs).trans (aE hb)),q1'⟩;rw [q3] at hv;have hg:=q2.gG;refine ⟨by rw [hv.dq],hg.kept.os,hg.kept.tape,hg.kept.output,hg.kept.size,fun k hk=>hg.kept.block k hk ?_⟩;rintro ⟨b,o,l,ho,wz,_⟩;rw [(h1.nu b o ho).1] at wz;simp at wz
end
noncomputable def Yc:List (Nat×(List KV->KR KV))->FuncId->Option (List KV->KR KV)
 | [],_=>.none
 | p::ps,g=>cond (Nat.beq p.1 g) (some p.2) (Yc ps g)
theorem afV {P:Program} : ∀ {ps:List (Nat×(List KV->KR KV))},(∀ p∈ps,cB P p.1 p.2)->oW P (Yc ps)
 | [],_=>fun g F h=>by simp [Yc] at h
 | p::ps,h=>fun g F hF=>by
  unfold Yc at hF;cases hb:Nat.beq p.1 g with
  | true=>
   rw [hb] at hF;simp only [ah,aR] at hF;have:=aE hb;subst this hF;exact h p (by simp)
  | false=>
   rw [hb] at hF;exact afV (fun q hq=>h q (rA _ hq)) g F hF
theorem acd (l:Lay):cf l .bx=false:=by
 show (!l.agg&&aq l.ks [.bx])=false;cases l.ks with
 | nil=>simp [aq]
 | cons c cs=>cases c <;> simp [aq,kindOk]
theorem ad3 {P:Program} {t:TypeId} {v:KV} (h:cf (aH P t) (OB P t v)=true):∃ w,OB P t v=gX P (bX P df) t w:=by
 unfold OB at h ⊢;cases hb:cf (aH P t) (dv (aH P t) v) with
 | false=>rw [hb,ay,acd] at h; simp at h
 | true=>exact ⟨dv (aH P t) v,rfl⟩
theorem GQ:∀ {ks:List CK} {cs:List KV},aq ks cs=true->wG ks cs=cs
 | [],[],_=>rfl
 | [],_::_,h=>by simp [aq] at h
 | _::_,[],h=>by simp [aq] at h
 | k::ks,v::vs,h=>by
  simp only [aq,aj] at h;have e:kO k v=v:=by
   unfold kO;split
   ·simp [kindOk] at h
   ·rename_i t t' m n es acc
    cases m <;> simp [kindOk] at h;obtain ⟨rfl,_⟩:=h;rw [p9,ah]
   ·rw [h.1]; rfl
  rw [wG,e,GQ h.2]
theorem ace {l:Lay} {v:KV} (h:cf l v=true):dv l v=v:=by
 by_cases ha:∃ cs,v = .agg cs
 ·obtain ⟨cs,rfl⟩:=ha
  simp only [cf,aj] at h;show cond (l.agg&&Nat.beq cs.length l.ks.length) (KV.agg (wG l.ks cs)) .bx=_;rw [h.1,om h.2,GQ h.2];simp
 ·have h1:(!l.agg&&aq l.ks [v])=true:=by
   cases v <;> first | exact h | exact absurd ⟨_,rfl⟩ ha | simp [cf] at h
  simp only [aj,iA] at h1;have e:dv l v=cond l.agg .bx (match l.ks with | [c]=>kO c v | _=>.bx):=by
   cases v <;> first | rfl | exact absurd ⟨_,rfl⟩ ha
  rw [e,h1.1,ay]
  match hk:l.ks,h1.2 with
  | [c],h2=>
   have:=GQ h2;simpa [wG] using this
  | [],h2=>simp [aq] at h2
  | _::_::_,h2=>simp [aq] at h2
theorem ad4 {P:Program} {t:TypeId} {v:KV} (h:cf (aH P t) v=true):OB P t v=gX P (bX P df) t v:=by
 unfold OB;rw [ace h,h,ah]
noncomputable def pz (P:Program):List TypeId->(Nat->KV)->Nat->List KV
 | [],_,_=>[]
 | t::ts,w,k=>gX P (bX P df) t (w k)::pz P ts w (Nat.succ k)
theorem Pk {P:Program} : ∀ {ts:List TypeId} {w w' : Nat->KV} {k:Nat},(∀ i,k<=i->w i=w' i)->pz P ts w k=pz P ts w' k
 | [],_,_,_,_=>rfl
 | t::ts,w,w',k,h=>by
  rw [pz,pz,h k (ao _),Pk fun i hi=>h i (by omega)]
theorem Cj {P:Program} : ∀ {ts:List TypeId} {aob:List KV} (k:Nat),jS P ts (normArgs P ts aob)=true->∃ w,normArgs P ts aob=pz P ts w k
 | [],aob,k,_=>⟨fun _=>.bx,by cases aob <;> rfl⟩
 | t::ts,[],k,h=>by simp [normArgs,jS] at h
 | t::ts,v::vs,k,h=>by
  simp only [normArgs,jS,aj] at h;obtain ⟨w,hw⟩:=ad3 h.1;obtain ⟨w',ZX⟩:=Cj (k+1) h.2;refine ⟨fun i=>if i=k then w else w' i,?_⟩;rw [normArgs,pz,hw,ZX,ax rfl];rw [Pk (w:=w') (w':=fun i=>if i=k then w else w' i) fun i hi=>by rw [ae (by omega)]]
theorem Vz {P:Program} : ∀ {ts:List TypeId} {aob:List KV} (k:Nat) {w:Nat->KV},jS P ts aob=true->(∀ i,i < aob.length->w (k+i)=aob.getD i .bx)->normArgs P ts aob=pz P ts w k
 | [],[],k,_,_,_=>rfl
 | [],_::_,_,_,h,_=>by simp [jS] at h
 | _::_,[],_,_,h,_=>by simp [jS] at h
 | t::ts,v::vs,k,w,h,hw=>by
  simp only [jS,aj] at h;rw [normArgs,pz,ad4 h.1,Vz (k+1) (w:=w) h.2 fun i hi=>by have:=hw (i+1) (by simp; omega); rw [show k+1+i=k+(i+1) by omega,this]; rfl];have:=hw 0 (by simp);rw [p8] at this;rw [this]; rfl
noncomputable def cJ (P:Program) (g:FuncId) (F:List KV->KR KV):List KV->KR KV:=fun aob=>cond (jS P (bK P g) aob) (F aob) .no
theorem ajk {P:Program} {g:FuncId} {F:List KV->KR KV} (hP:P.funcs.toList.all gq=true) (hm:P.follows .mixedOrders=true) {cfg:gf} (e8:oW P cfg.pc) (gH:pt P cfg) {L n:Nat}
  (h:∀ w v,az (F (pz P (bK P g) w 0)) v->zS P cfg L n g (pz P (bK P g) w 0)=some v) (hy:Nat.blt g yB=true:=by rfl):cB P g (cJ P g F):=
 ai1 hy hP hm fun aob v _ hF=>by
  unfold cJ at hF;obtain ⟨hb,hF⟩:=az.cond hF;obtain ⟨w,hw⟩:=Cj 0 hb;rw [hw] at hF ⊢;exact ⟨cfg,L,n,e8,gH,h w v hF⟩
noncomputable def ajl (P:Program) (d:CD) (w:KV):KV:=
 match d with
 | .k c=>bX P df (leaf c w)
 | .lit v=>v
 | .aF t=>bX P df (leaf (.slice t) w)
 | .arr t=>bX P df (leaf (.slice t) w)
 | .ref v=>v
noncomputable def Ed (P:Program):List CD->(Nat->KV)->Nat->List KV
 | [],_,_=>[]
 | d::ds,w,k=>ajl P d (w k)::Ed P ds w (Nat.succ k)
noncomputable def ZY (P:Program) (d:VD) (w:Nat->KV):KV:=Bool.rec (motive:=fun _=>KV) ((Ed P d.ks w 0).headD .bx) (.agg (Ed P d.ks w 0)) d.agg
noncomputable def ib (P:Program):List (Tmp×VD)->(Nat->Nat->KV)->Nat->List KV
 | [],_,_=>[]
 | p::ps,w,k=>ZY P p.2 (w k)::ib P ps w (Nat.succ k)
noncomputable def ie (P:Program):List (Tmp×List CD×Nat)->(Nat->Nat->KV)->Nat->List (List KV)
 | [],_,_=>[]
 | p::ps,w,k=>Ed P p.2.1 (w k) 0::ie P ps w (Nat.succ k)
theorem Yd {P:Program} {A:ai} {d:CD} {v:KV} (h:hZ d (dW P A d v)=true):∃ w,dW P A d v=ajl P d w:=by
 cases d with
 | ref u=>exact ⟨.bx,rfl⟩
 | k c=>
  have e:dW P A (.k c) v=cond (kindOk c (kO c v)) (bX P df (leaf c (kO c v))) .bx:=rfl;cases hb:kindOk c (kO c v) with
  | true=>exact ⟨kO c v,by rw [e,hb]; rfl⟩
  | false=>
   rw [e,hb] at h;cases c <;> simp [hZ,kindOk] at h
 | lit u=>
  have e:dW P A (.lit u) v=cond (se u v) u .bx:=rfl;cases hb:se u v with
  | true=>exact ⟨.bx,by rw [e,hb]; rfl⟩
  | false=>
   rw [e,hb,ay] at h;have h:se u .bx=true:=h;cases u <;> first | (simp [se] at h; done) | (rename_i f a b; cases f <;> cases a <;> cases b <;> simp [se] at h)
 | aF t=>
  cases v with
  | je=>exact ⟨.ts t .any 0 [] mI,rfl⟩
  | ts t' m n es acc=>
   cases m with
   | aF f=>
    have e:dW P A (.aF t) (.ts t' (.aF f) n es acc)=cond (Nat.beq t t') (bX P df (.ts t .any n es acc)) .bx:=rfl;cases hb:Nat.beq t t' with
    | true=>exact ⟨.ts t .any n es acc,by rw [e,hb]; rfl⟩
    | false=>rw [e,hb] at h; simp [hZ,kindOk] at h
   | _=>simp [dW,hZ,kindOk] at h
  | _=>simp [dW,hZ,kindOk] at h
 | arr t=>
  rcases QQ h with rfl | ⟨b,n,m,N,es,acc,rfl,_,he⟩
  ·exact ⟨.ts t .any 0 [] mI,rfl⟩
  ·exact ⟨.ts t .any N es acc,he⟩
theorem Pl {P:Program} : ∀ {ds:List CD} {w w' : Nat->KV} {k:Nat},(∀ i,k<=i->w i=w' i)->Ed P ds w k=Ed P ds w' k
 | [],_,_,_,_=>rfl
 | t::ts,w,w',k,h=>by
  rw [Ed,Ed,h k (ao _),Pl fun i hi=>h i (by omega)]
theorem QV {P:Program} {A:ai} : ∀ {ds:List CD} {vs:List KV} (k:Nat),cH ds (dX P A ds vs)=true->∃ w,dX P A ds vs=Ed P ds w k
 | [],vs,k,_=>⟨fun _=>.bx,by cases vs <;> rfl⟩
 | d::ds,[],k,h=>by simp [dX,cH] at h
 | d::ds,v::vs,k,h=>by
  simp only [dX,cH,aj] at h;obtain ⟨w,hw⟩:=Yd h.1;obtain ⟨w',ZX⟩:=QV (k+1) h.2;refine ⟨fun i=>if i=k then w else w' i,?_⟩;rw [dX,Ed,hw,ZX,ax rfl];rw [Pl (w:=w') (w':=fun i=>if i=k then w else w' i) fun i hi=>by rw [ae (by omega)]]
theorem ag8 {P:Program} {A:ai} {d:VD} {v:KV} (h:sU d (rK P A d v)=true):∃ w,rK P A d v=ZY P d w:=by
 have uZ:=ug h;rcases uh h with ⟨cs,rfl,h1,h2,h3⟩ | ⟨h0,c,h1,h2,h3,h4,h5⟩
 ·obtain ⟨w,hw⟩:=QV 0 h3
  refine ⟨w,?_⟩;have:d.agg=true:=by
   rcases uZ with ⟨_,_,q,_⟩ | ⟨q,_⟩
   ·exact q
   ·exact absurd h2 (q _)
  rw [h2,hw,ZY,this]
 ·obtain ⟨w,hw⟩:=Yd h3
  refine ⟨fun _=>w,?_⟩;have:d.agg=false:=by
   rcases uZ with ⟨cs,q,_⟩ | ⟨_,q,_⟩
   ·rw [h2] at q; exact absurd q (h5 _)
   ·exact q
  rw [h2,hw,ZY,this,h1]; rfl
theorem LH {P:Program} : ∀ {ps:List (Tmp×VD)} {w w' : Nat->Nat->KV} {k:Nat},(∀ i,k<=i->w i=w' i)->ib P ps w k=ib P ps w' k
 | [],_,_,_,_=>rfl
 | t::ts,w,w',k,h=>by
  rw [ib,ib,h k (ao _),LH fun i hi=>h i (by omega)]
theorem VA {P:Program} {t:bI} {A:ai} : ∀ {ps:List (Tmp×VD)} (k:Nat),dY ps (ln P t A ps)=true->∃ w,ln P t A ps=ib P ps w k
 | [],k,_=>⟨fun _ _=>.bx,rfl⟩
 | p::ps,k,h=>by
  simp only [ln,dY,aj] at h;obtain ⟨w,hw⟩:=ag8 h.1;obtain ⟨w',ZX⟩:=VA (k+1) h.2;refine ⟨fun i=>if i=k then w else w' i,?_⟩;rw [ln,ib,hw,ZX,ax rfl];rw [LH (w:=w') (w':=fun i=>if i=k then w else w' i) fun i hi=>by rw [ae (by omega)]]
theorem LI {P:Program} : ∀ {ps:List (Tmp×List CD×Nat)} {w w' : Nat->Nat->KV} {k:Nat},(∀ i,k<=i->w i=w' i)->ie P ps w k=ie P ps w' k
 | [],_,_,_,_=>rfl
 | t::ts,w,w',k,h=>by
  rw [ie,ie,h k (ao _),LI fun i hi=>h i (by omega)]
theorem VB {P:Program} : ∀ {ps:List (Tmp×List CD×Nat)} {rs:List (List KV)} (k:Nat),rs.length=ps.length->(∀ (i:Nat) p r,ps[i]? = some p->rs[i]? = some r->cH p.2.1 r=true)->
  (∀ (i:Nat) p,ps[i]? = some p->∃ A mG,rs[i]? = some (dX P A p.2.1 mG)/\mG.length=p.2.1.length)->∃ w,rs=ie P ps w k
 | [],[],k,_,_,_=>⟨fun _ _=>.bx,rfl⟩
 | [],_::_,_,h,_,_=>by simp at h
 | _::_,[],_,h,_,_=>by simp at h
 | p::ps,r::rs,k,hl,hg,hn=>by
  obtain ⟨A,mG,h1,_⟩:=hn 0 p rfl;simp only [List.getElem?_cons_zero,aR] at h1;have h2:=hg 0 p r rfl rfl;rw [h1] at h2;obtain ⟨w,hw⟩:=QV 0 h2;obtain ⟨w',ZX⟩:=VB (ps:=ps) (rs:=rs) (k+1) (by simpa using hl) (fun i p r a b=>hg (i+1) p r (by simpa using a) (by simpa using b)) fun i p a=>by simpa using hn (i+1) p (by simpa using a)
  refine ⟨fun i=>if i=k then w else w' i,?_⟩;rw [ie,h1,hw,ax rfl];congr 1;rw [ZX];exact LI fun i hi=>by rw [ae (by omega)]
theorem rL.form {P:Program} {S:aB} {vs:List KV} {rs:List (List KV)} (h:rL P S vs rs):∃ wv wr,vs=ib P S.dh wv 0/\rs=ie P S.rows wr 0:=by
 obtain ⟨t,A,ht⟩:=h.vn;have hv:=h.v;rw [ht] at hv;obtain ⟨wv,hwv⟩:=VA 0 hv;obtain ⟨wr,hwr⟩:=VB 0 h.nz h.pe h.rn;exact ⟨wv,wr,by rw [ht,hwv],hwr⟩
inductive ba (X:Type) where
 | fail
 | next (x:X)
 | out (e:aa) (x:X)
def ba.enc {X:Type} (ev:X->List KV) (er:X->List (List KV)):ba X->Option (aa×List KV×List (List KV))
 | .fail=>.none
 | .next x=>some (.normal,ev x,er x)
 | .out e x=>some (e,ev x,er x)
theorem ba.dr {X:Type} (ev:X->List KV) (er:X->List (List KV)) (c:Bool) (a b:ba X):ba.enc ev er (cond c a b)=cond c (ba.enc ev er a) (ba.enc ev er b):=by cases c <;> rfl
def ba.go {X:Type} (step:X->ba X):Nat->X->ba X
 | 0,_=>.fail
 | n+1,x=>match step x with
  | .fail=>.fail
  | .next x=>ba.go step n x
  | .out e x=>cond (ko e) .fail (.out e x)
def vN:aa->aa->Bool
 | .normal,.normal=>true
 | .exit i,.exit j=>Nat.beq i j
 | .goto i,.goto j=>Nat.beq i j
 | .ret,.ret=>true
 | _,_=>false
theorem ZZ {a b:aa} (h:vN a b=true):a=b:=by
 cases a <;> cases b <;> simp [vN] at h <;> first | rfl | (subst h; rfl)
def ba.by {X:Type} (s:ba X) (e:aa):Bool:=
 match s with
 | .out e' _=>vN e' e
 | _=>false
def ba.st {X:Type} [Inhabited X] (s:ba X):X:=
 match s with
 | .out _ x=>x
 | _=>default
theorem go_iter {X:Type} {step:X->ba X} {ev:X->List KV} {er:X->List (List KV)} {rd:List KV->List (List KV)->Option (aa×List KV×List (List KV))} (h:∀ x,step x = .fail\/rd (ev x) (er x)=ba.enc ev er (step x)) :
  ∀ (n:Nat) (x:X) (e:aa) (y:X),ba.go step n x = .out e y->py rd n (ev x) (er x)=some (e,ev y,er y)
 | 0,x,e,y,hg=>by simp [ba.go] at hg
 | n+1,x,e,y,hg=>by
  simp only [ba.go] at hg;have hx:=h x;cases hs:step x with
  | fail=>rw [hs] at hg; simp at hg
  | next x'=>
   have hx:=hx.resolve_left (by rw [hs]; simp);rw [hs] at hg hx;simp only [py,hx,ba.enc,ko,ah];exact go_iter h n x' e y hg
  | out e' x'=>
   have hx:=hx.resolve_left (by rw [hs]; simp);rw [hs] at hg hx;simp only at hg;cases hn:ko e' with
   | true=>rw [hn] at hg; simp at hg
   | false=>
    rw [hn,ay] at hg;simp only [ba.out.injEq] at hg;obtain ⟨rfl,rfl⟩:=hg;simp only [py,hx,ba.enc,hn,ay]
def eE {X:Type} [Inhabited X] (ev:X->List KV) (er:X->List (List KV)) (s:ba X):List aa->qu
 | []=>.no
 | e::es=>.br (s.by e) (.out e (ev s.st) (er s.st)) (eE ev er s es)
theorem M4 {X:Type} [Inhabited X] {ev:X->List KV} {er:X->List (List KV)} {s:ba X} : ∀ {es:List aa} {e:aa} {vs:List KV} {rs:List (List KV)},(eE ev er s es).ev=some (e,vs,rs)->∃ x,s = .out e x/\vs=ev x/\rs=er x
 | [],e,vs,rs,h=>by simp [eE,qu.ev] at h
 | e'::es,e,vs,rs,h=>by
  simp only [eE,qu.ev] at h;cases hb:s.by e' with
  | false=>rw [hb] at h; exact M4 h
  | true=>
   rw [hb,ah] at h;simp only [aR,bG] at h;obtain ⟨rfl,rfl,rfl⟩:=h;cases s with
   | out e0 x=>
    have:=ZZ (show vN e0 e' = true from hb);subst this;exact ⟨x,rfl,rfl,rfl⟩
   | fail=>simp [ba.by] at hb
   | next x=>simp [ba.by] at hb
def goN {X:Type} (step:X->ba X) (x:X):ba X:=ba.go step hX x
theorem VE {P:Program} {l:Lp} {X:Type} [Inhabited X] {cfg:gf} {L n:Nat} (e8:oW P cfg.pc) (gH:pt P cfg) {step:X->ba X} {ev:X->List KV} {er:X->List (List KV)} {es:List aa} {pa:List KV->List (List KV)->X}
  (hF:∀ vs rs,l.F vs rs=eE ev er (goN step (pa vs rs)) es) (eZ:∀ wv wr,ev (pa (ib P l.S.dh wv 0) (ie P l.S.rows wr 0))=ib P l.S.dh wv 0/\er (pa (ib P l.S.dh wv 0) (ie P l.S.rows wr 0))=ie P l.S.rows wr 0)
  (j5:∀ x,step x = .fail\/afQ l.st P cfg L n l.f l.p (uI P l.f l.p) l.S (ev x) (er x)=ba.enc ev er (step x)):l.Ok P:=
 ⟨cfg,L,n,e8,gH,fun vs rs e bw gI bL ma=>by
  obtain ⟨wv,wr,rfl,rfl⟩:=bL.form;obtain ⟨h1,h2⟩:=eZ wv wr;rw [hF] at ma;obtain ⟨y,hy,rfl,rfl⟩:=M4 ma;have:=go_iter j5 hX _ e y hy;rw [h1,h2] at this;exact this⟩
theorem ag9 {P:Program} {l:Lp} {X:Type} [Inhabited X] {cfg:gf} {L n:Nat} {QS q:Nat} {b:Code} (e8:oW P cfg.pc) (gH:pt P cfg) {step:X->ba X} {ev:X->List KV} {er:X->List (List KV)} {es:List aa} {pa:List KV->List (List KV)->X}
  (y8:Fj P l.f l.p=some (QS,b,q)) (hs:l.st=false) (hF:∀ vs rs,l.F vs rs=eE ev er (goN step (pa vs rs)) es) (eZ:∀ wv wr,ev (pa (ib P l.S.dh wv 0) (ie P l.S.rows wr 0))=ib P l.S.dh wv 0/\er (pa (ib P l.S.dh wv 0) (ie P l.S.rows wr 0))=ie P l.S.rows wr 0)
  (j5:∀ x,step x = .fail\/Ko P cfg L n l.f q b QS l.S (ev x) (er x)=ba.enc ev er (step x)):l.OkG P:=
 ⟨hs,QS,b,q,cfg,L,n,y8,e8,gH,fun vs rs e bw gI bL ma=>by
  obtain ⟨wv,wr,rfl,rfl⟩:=bL.form;obtain ⟨h1,h2⟩:=eZ wv wr;rw [hF] at ma;obtain ⟨y,hy,rfl,rfl⟩:=M4 ma;have:=go_iter j5 hX _ e y hy;rw [h1,h2] at this;exact this⟩
theorem ba.lit {X:Type} {ev:X->List KV} {er:X->List (List KV)} {R:Option (aa×List KV×List (List KV))} {k n:Int} {a b:ba X} (h:k=n->R=ba.enc ev er a) (h' : b = .fail\/R=ba.enc ev er b):cond (k==n) a b = .fail\/R=ba.enc ev er (cond (k==n) a b):=by
 cases e:k==n with
 | true=>exact .inr (h (by simpa using e))
 | false=>exact h'
theorem ZM {P:Program} {aob:List KV} (h:jS P [] aob=true):aob = []:=by
 cases aob with
 | nil=>rfl
 | cons a aob=>simp [jS] at h
theorem aha {ks:List CK} {v:KV} (h:cf ⟨true,ks⟩ v=true):∃ cs,v = .agg cs/\aq ks cs=true:=by
 cases v with
 | agg cs=>exact ⟨cs,rfl,by simpa [cf] using h⟩
 | nh cs=>simp [cf] at h
 | _=>simp [cf] at h
end Go.K
end
section
namespace Go.K
open Go Go.aA
variable {P:Program} {E:Env}
theorem cq.below {base:Nat} {ρ:Ren} {B:St} {w w' : World} (hs:iv ρ B base w) (h:RowKit.Below w.heap.size w w'):cq base ρ B w ρ B w':=by
 refine ⟨⟨.qe (fun b o hg hd=>?_) hs.rel.apart hs.rel.aX,hs.fZ,dx hs.size h.size,hs.lK⟩,fun _ _=>rfl,⟨h.os,h.tape,h.output,h.size,fun k hk _=>h.block k hk⟩,ao _,ao _,fun _ _ _=>rfl,fun _ _ hk=>hk⟩;obtain ⟨l,e,ok⟩:=hs.rel.obj hg hd;exact ⟨l,e,ok.di (Ren.le_refl _) (h.block _ (ok.lt hd)) h.size⟩
theorem Si {g:FuncId} {F:List KV->KR KV} (hc:pq P g)
  (h:∀ args v (E:Env) (A:ai) (B:St) (ρ:Ren) (base:Nat) (w:World) (bM:List Value),az (F (normArgs P (bK P g) args)) v->args.length=(bK P g).length->ny P E ρ args bM->KJ P E A B ρ base w->
   Calls P g bM.toArray w fun e w'=>∃ v',e = .returned v'/\VC P E ρ v v'/\RowKit.Below w.heap.size w w'):cB P g F:=
 fun args v hF hlen=>⟨hc,fun E A B ρ base w bM hv hj=>(h args v E A B ρ base w bM hF hlen hv hj).mono fun _ _ ⟨v',h1,h2,h3⟩=>
  ⟨v',E,B,ρ,h1,h2,hj.k,cq.below hj.s h3,Env.le_refl _,ao _,fun _ _ _ _=>rfl,fun _ _ h=>.inl h,fun _ _ h=>.inl h,fun _ _ h=>.inl ⟨_,h⟩,fun _ _ _ _=>rfl,fun _ h=>.inl h,fun _ h=>.inl h,fun _ _ h=>.inl h,fun _ h=>.inl h,fun _ _ cs _ _ _ h=>⟨cs,h,rfl⟩⟩⟩
end Go.K
end
section
namespace Go.K
open Go Go.aA
structure Sl (α:Type) where
 n:Nat
 get:Nat->α
instance {α:Type} [Inhabited α] : Inhabited (Sl α):=⟨⟨0,fun _=>default⟩⟩
def dD {α:Type} (T:TypeId) (k:α->KV) (s:Sl α):KV:=.ts T .any s.n ((List.range s.n).map fun i=>k (s.get i)) (fun i=>k (s.get i))
def ni {α:Type} (p:KV->α) (n:Nat) (acc:Nat->KV):Sl α:=⟨n,fun i=>p (acc i)⟩
def eA {α:Type} (p:KV->α) (v:KV):Sl α:=ni p (lenOf v) (tG v)
def kI (k:IntKind) (n:Int):KV:=.int k n
def kB (b:Bool):KV:=.bool b
abbrev bR (n:Int):Int:=IntKind.wrap .i64 n
def Sl.push {α:Type} [Inhabited α] (s:Sl α) (v:α):Sl α:=⟨s.n+1,fun i=>cond (Nat.blt i s.n) (s.get i) (cond (Nat.beq i s.n) v default)⟩
def Sl.join {α:Type} (s t:Sl α):Sl α:=⟨s.n+t.n,fun i=>cond (Nat.blt i s.n) (s.get i) (t.get (i - s.n))⟩
def Sl.lit {α:Type} [Inhabited α] (l:List α):Sl α:=⟨l.length,fun i=>l.getD i default⟩
theorem VF {α:Type} [Inhabited α] {p:KV->α} {k:α->KV} (h:∀ x,p (k x)=x) (hd:p .bx=default) (l:List α):ni p l.length (qk (l.map k))=Sl.lit l:=by
 unfold ni Sl.lit qk;congr 1;funext i;rw [eO,eO,mg];cases l[i]? with
 | none=>exact hd
 | some x=>exact h x
theorem Ks {α:Type} [Inhabited α] {p:KV->α} {k:α->KV} (h:∀ x,p (k x)=x) (hd:p .bx=default) (s:Sl α) (v:α):ni p (s.n+1) (dU s.n (fun i=>k (s.get i)) (qk [k v]))=s.push v:=by
 unfold ni Sl.push;congr 1;funext i;unfold dU;cases hb:Nat.blt i s.n with
 | true=>exact h _
 | false=>
  have hi:s.n<=i:=by
   cases Nat.lt_or_ge i s.n with
   | inl h=>rw [<- b8,hb] at h; simp at h
   | inr h=>exact h
  rw [ay,ay];cases hq:Nat.beq i s.n with
  | true=>
   have:=aE hq;subst this;rw [Nat.sub_self,ah];exact h v
  | false=>
   have bA:i≠s.n:=fun e=>by rw [e,p9] at hq; simp at hq
   rw [ay];obtain ⟨j,hj⟩:∃ j,i - s.n=j+1:=⟨i - s.n - 1,by omega⟩
   rw [hj];exact hd
theorem QW {α:Type} {p:KV->α} {k:α->KV} (h:∀ x,p (k x)=x) (s t:Sl α):ni p (s.n+t.n) (dU s.n (fun i=>k (s.get i)) (fun i=>k (t.get i)))=s.join t:=by
 unfold ni Sl.join;congr 1;funext i;unfold dU;cases Nat.blt i s.n <;> exact h _
def Sl.set {α:Type} (s:Sl α) (i:Nat) (v:α):Sl α:=⟨s.n,fun j=>cond (Nat.beq j i) v (s.get j)⟩
theorem acg {α:Type} {p:KV->α} {k:α->KV} (h:∀ x,p (k x)=x) (s:Sl α) (i:Nat) (v:α):ni p s.n (uD (fun j=>k (s.get j)) i (k v))=s.set i v:=by
 unfold ni Sl.set;congr 1;funext j;unfold uD;cases Nat.beq j i <;> exact h _
theorem VG {α:Type} {p:KV->α} {k:α->KV} (h:∀ x,p (k x)=x) (m n n' : Nat) (acc fg:Nat->KV):ni p m (dU n (fun i=>k ((ni p n' acc).get i)) fg)=ni p m (dU n acc fg):=by
 unfold ni;congr 1;funext i;unfold dU;cases Nat.blt i n with
 | true=>exact h _
 | false=>rfl
theorem ajm {α:Type} {p:KV->α} {k:α->KV} (h:∀ x,p (k x)=x) (m n n' : Nat) (acc fg:Nat->KV):ni p m (dU n acc (fun i=>k ((ni p n' fg).get i)))=ni p m (dU n acc fg):=by
 unfold ni;congr 1;funext i;unfold dU;cases Nat.blt i n with
 | true=>rfl
 | false=>exact h _
theorem ajn {α:Type} {p:KV->α} {k:α->KV} (h:∀ x,p (k x)=x) (m n' i:Nat) (acc:Nat->KV) (v:KV):ni p m (uD (fun j=>k ((ni p n' acc).get j)) i v)=ni p m (uD acc i v):=by
 unfold ni;congr 1;funext j;unfold uD;cases Nat.beq j i with
 | true=>rfl
 | false=>exact h _
theorem ajo (m n n' : Nat) (acc fg:Nat->KV):ni (fun v=>av (v.cells.getD 0 .bx)) m (dU n (fun i=>kI .i64 ((ni (fun v=>av (v.cells.getD 0 .bx)) n' acc).get i)) fg)=ni (fun v=>av (v.cells.getD 0 .bx)) m (dU n acc fg):=VG (k:=kI .i64) (fun _=>rfl) ..
theorem ach (s:Sl Int) (i:Nat) (v:Int):s.set i v=ni (fun v=>av (v.cells.getD 0 .bx)) s.n (uD (fun j=>kI .i64 (s.get j)) i (kI .i64 v)):=(acg (k:=kI .i64) (fun _=>rfl) s i v).symm
theorem Ye (s:Sl Int) (v:Int):s.push v=ni (fun v=>av (v.cells.getD 0 .bx)) (s.n+1) (dU s.n (fun i=>kI .i64 (s.get i)) (qk [kI .i64 v])):=(Ks (fun _=>rfl) rfl s v).symm
theorem ahb (s t:Sl Int):s.join t=ni (fun v=>av (v.cells.getD 0 .bx)) (s.n+t.n) (dU s.n (fun i=>kI .i64 (s.get i)) (fun i=>kI .i64 (t.get i))):=(QW (fun _=>rfl) s t).symm
theorem aci (l:List Int):Sl.lit l=ni (fun v=>av (v.cells.getD 0 .bx)) l.length (qk (l.map (kI .i64))):=(VF (fun _=>rfl) rfl l).symm
theorem cK {α β:Type} (f:α->β) (c:Bool) (a b:Option α):Option.map f (cond c a b)=cond c (Option.map f a) (Option.map f b):=by cases c <;> rfl
def aw (P:Program) (ps:List (Nat×(List KV->KR KV))):Prop:=∀ p∈ps,cB P p.1 p.2
theorem aw.nil {P:Program} : aw P []:=fun p hp=>by simp at hp
theorem aw.cons {P:Program} {g:Nat} {F:List KV->KR KV} {ps:List (Nat×(List KV->KR KV))} (h:cB P g F) (t:aw P ps):aw P ((g,F)::ps):=fun p hp=>by
 rcases bd.1 hp with rfl | hp
 ·exact h
 ·exact t p hp
theorem aw.pc {P:Program} {ps:List (Nat×(List KV->KR KV))} (h:aw P ps):oW P (Yc ps):=afV h
def bP (P:Program) (ls:List Lp):Prop:=∀ l∈ls,l.ad2 P
theorem bP.nil {P:Program} : bP P []:=fun p hp=>by simp at hp
theorem bP.cons {P:Program} {l:Lp} {ls:List Lp} (h:l.Ok P) (h' : Ci P l.f l.p=true) (t:bP P ls):bP P (l::ls):=fun p hp=>by
 rcases bd.1 hp with rfl | hp
 ·exact .inl ⟨h,h'⟩
 ·exact t p hp
theorem bP.amo {P:Program} {l:Lp} {ls:List Lp} (h:l.OkG P) (t:bP P ls):bP P (l::ls):=fun p hp=>by
 rcases bd.1 hp with rfl | hp
 ·exact .inr h
 ·exact t p hp
def yp (P:Program) (fs:List Fc):Prop:=∀ c∈fs,c.Ok P
theorem yp.nil {P:Program} : yp P []:=fun p hp=>by simp at hp
noncomputable def mS (P:Program) (ps:List (Nat×(List KV->KR KV))) (ls:List Lp) (mt:TypeId->Bool:=fun _=>false) (fz:Bool:=false) (eg:Bool:=false) (fs:List Fc:=[]):gf:=⟨Yc ps,Pe P ls,⟨Ya P fs,mt,fz,eg⟩⟩
noncomputable def cU {R:Type} [Inhabited R] (k:R->KV) (r:List KV->Option R):List KV->KR KV:=fun aob=>.iJ (r aob).isSome (k ((r aob).getD default))
theorem Sj {P:Program} {R:Type} [Inhabited R] {k:R->KV} {r:List KV->Option R} {g:FuncId} (hP:P.funcs.toList.all gq=true) (hm:P.follows .mixedOrders=true) {ps:List (Nat×(List KV->KR KV))} {ls:List Lp} (e8:aw P ps) (gH:bP P ls) {L n:Nat} {mt:TypeId->Bool} {fz eg:Bool} {fs:List Fc}
  (h:∀ w,zS P (mS P ps ls mt fz eg fs) L n g (pz P (bK P g) w 0)=(r (pz P (bK P g) w 0)).map k) (hy:Nat.blt g yB=true:=by rfl) (SV:yp P fs:=by exact yp.nil):cB P g (cJ P g (cU k r)):=
 ajk (cfg:=mS P ps ls mt fz eg fs) hP hm e8.pc (Kq hP hm (Kr hP hm SV) gH) (hy:=hy) fun w v hv=>by
  obtain ⟨h1,h2⟩:=az.iJ hv;rw [h w];cases hr:r (pz P (bK P g) w 0) with
  | none=>rw [hr] at h1; simp at h1
  | some x=>rw [hr] at h2; rw [<- h2]; rfl
theorem acj {P:Program} {l:Lp} {X:Type} [Inhabited X] (hP:P.funcs.toList.all gq=true) (hm:P.follows .mixedOrders=true) {ps:List (Nat×(List KV->KR KV))} {ls:List Lp} (e8:aw P ps) (gH:bP P ls) {L n:Nat} {mt:TypeId->Bool} {fz eg:Bool} {fs:List Fc} {step:X->ba X} {ev:X->List KV} {er:X->List (List KV)} {es:List aa} {pa:List KV->List (List KV)->X}
  (hF:l.F=fun vs rs=>eE ev er (goN step (pa vs rs)) es) (eZ:∀ wv wr,ev (pa (ib P l.S.dh wv 0) (ie P l.S.rows wr 0))=ib P l.S.dh wv 0/\er (pa (ib P l.S.dh wv 0) (ie P l.S.rows wr 0))=ie P l.S.rows wr 0)
  (j5:∀ x,wU P (mS P ps ls mt fz eg fs) L n l.f l.p (uI P l.f l.p) l.S (ev x) (er x)=ba.enc ev er (step x)) (SV:yp P fs:=by exact yp.nil) (hs:l.st=false:=by rfl):l.Ok P:=
 VE (cfg:=mS P ps ls mt fz eg fs) e8.pc (Kq hP hm (Kr hP hm SV) gH) (fun _ _=>by rw [hF]) eZ (fun x=>.inr (by rw [hs]; exact j5 x))
theorem Z0 {P:Program} {l:Lp} {X:Type} [Inhabited X] (hP:P.funcs.toList.all gq=true) (hm:P.follows .mixedOrders=true) {ps:List (Nat×(List KV->KR KV))} {ls:List Lp} (e8:aw P ps) (gH:bP P ls) {L n:Nat} {mt:TypeId->Bool} {fz eg:Bool} {fs:List Fc} {step:X->ba X} {ev:X->List KV} {er:X->List (List KV)} {es:List aa} {pa:List KV->List (List KV)->X}
  (hF:l.F=fun vs rs=>eE ev er (goN step (pa vs rs)) es) (eZ:∀ wv wr,ev (pa (ib P l.S.dh wv 0) (ie P l.S.rows wr 0))=ib P l.S.dh wv 0/\er (pa (ib P l.S.dh wv 0) (ie P l.S.rows wr 0))=ie P l.S.rows wr 0)
  (j5:∀ x,step x = .fail\/wU P (mS P ps ls mt fz eg fs) L n l.f l.p (uI P l.f l.p) l.S (ev x) (er x)=ba.enc ev er (step x)) (SV:yp P fs:=by exact yp.nil) (hs:l.st=false:=by rfl):l.Ok P:=
 VE (cfg:=mS P ps ls mt fz eg fs) e8.pc (Kq hP hm (Kr hP hm SV) gH) (fun _ _=>by rw [hF]) eZ (fun x=>by rw [hs]; exact j5 x)
noncomputable def Pm (P:Program) (f p:Nat):Nat×Code×Nat:=(Fj P f p).getD (0,.skip,0)
noncomputable def Z1 (P:Program) (cfg:gf) (L n:Nat) (f p:Nat) (S:aB) (vs:List KV) (rs:List (List KV)):Option (aa×List KV×List (List KV)):=
 Ko P cfg L n f (Pm P f p).2.2 (Pm P f p).2.1 (Pm P f p).1 S vs rs
theorem Z2 {P:Program} {l:Lp} {X:Type} [Inhabited X] (hP:P.funcs.toList.all gq=true) (hm:P.follows .mixedOrders=true) {ps:List (Nat×(List KV->KR KV))} {ls:List Lp} (e8:aw P ps) (gH:bP P ls) {L n:Nat} {mt:TypeId->Bool} {fz eg:Bool} {fs:List Fc} {step:X->ba X} {ev:X->List KV} {er:X->List (List KV)} {es:List aa} {pa:List KV->List (List KV)->X}
  (hF:l.F=fun vs rs=>eE ev er (goN step (pa vs rs)) es) (eZ:∀ wv wr,ev (pa (ib P l.S.dh wv 0) (ie P l.S.rows wr 0))=ib P l.S.dh wv 0/\er (pa (ib P l.S.dh wv 0) (ie P l.S.rows wr 0))=ie P l.S.rows wr 0)
  (j5:∀ x,Z1 P (mS P ps ls mt fz eg fs) L n l.f l.p l.S (ev x) (er x)=ba.enc ev er (step x)) (y8:(Fj P l.f l.p).isSome=true:=by kernel_rfl) (SV:yp P fs:=by exact yp.nil) (hs:l.st=false:=by rfl):l.OkG P:=by
 obtain ⟨⟨QS,b,q⟩,hx⟩:=NB.1 y8;refine ag9 (cfg:=mS P ps ls mt fz eg fs) (L:=L) (n:=n) e8.pc (Kq hP hm (Kr hP hm SV) gH) hx hs (fun _ _=>by rw [hF]) eZ (fun x=>.inr ?_);have:=j5 x;unfold Z1 Pm at this;rw [hx] at this;exact this
theorem Z3 {P:Program} {l:Lp} {X:Type} [Inhabited X] (hP:P.funcs.toList.all gq=true) (hm:P.follows .mixedOrders=true) {ps:List (Nat×(List KV->KR KV))} {ls:List Lp} (e8:aw P ps) (gH:bP P ls) {L n:Nat} {mt:TypeId->Bool} {fz eg:Bool} {fs:List Fc} {step:X->ba X} {ev:X->List KV} {er:X->List (List KV)} {es:List aa} {pa:List KV->List (List KV)->X}
  (hF:l.F=fun vs rs=>eE ev er (goN step (pa vs rs)) es) (eZ:∀ wv wr,ev (pa (ib P l.S.dh wv 0) (ie P l.S.rows wr 0))=ib P l.S.dh wv 0/\er (pa (ib P l.S.dh wv 0) (ie P l.S.rows wr 0))=ie P l.S.rows wr 0)
  (j5:∀ x,GP P (mS P ps ls mt fz eg fs) L n l.f l.p (uI P l.f l.p) l.S (ev x) (er x)=ba.enc ev er (step x)) (SV:yp P fs:=by exact yp.nil) (hs:l.st=true:=by rfl):l.Ok P:=
 VE (cfg:=mS P ps ls mt fz eg fs) e8.pc (Kq hP hm (Kr hP hm SV) gH) (fun _ _=>by rw [hF]) eZ (fun x=>.inr (by rw [hs]; exact j5 x))
end Go.K
end
section
set_option maxRecDepth 20000
namespace Go.Proofs.YtckbdndhmcoihaaGreat.nodes
open Go Go.RowKit Go.Lib
abbrev hv (x:Int×Int):Value:=.agg #[.int .i64 x.1,.int .i64 x.2]
theorem s5:Tryz.prog.follows .mixedOrders=true:=by kernel_rfl
theorem amp (x y:Int×Int) (w:World):(Op.equal 32 (hv x) (hv y)).run Tryz.prog w = .ok (decide (x=y)) w:=by
 obtain ⟨s,g⟩:=x;obtain ⟨s',g'⟩:=y;have e:decide ((s,g)=(s',g'))=(s==s'&&g==g'):=by
  rw [Bool.eq_iff_iff];simp
 rw [e];have h:=K.IJ (P:=Tryz.prog) (E:=⟨fun _=>none,fun _=>none,fun _=>none,fun _=>none⟩) 12 10000 32 ⟨true,[.int .i64,.int .i64]⟩ [.int .i64 s,.int .i64 g] [.int .i64 s',.int .i64 g'] [.int .i64 s,.int .i64 g] [.int .i64 s',.int .i64 g'] ((s==s')&&((g==g')&&true))
  (by kernel_rfl) (by kernel_rfl) (by omega) (.cons .mkInt (.cons .mkInt .nil)) (.cons .mkInt (.cons .mkInt .nil)) rfl rfl rfl
 rw [yI] at h;exact aA.eQ h w
def Pn (es:Array MapEntry) (S:List (Int×Int)):Prop:=es.toList.map (·.key)=S.map hv/\∀ e∈es.toList,e.val = .bool true
theorem ack (k:Int×Int) (w:World):∀ (l:List MapEntry) (S:List (Int×Int)) (i:Nat),l.map (·.key)=S.map hv->(∀ e∈l,e.val = .bool true)->
  ∃ r,(Instr.findAsking 32 (hv k) l i).run Tryz.prog w = .ok r w/\(k∈S->∃ j,r=some (i+j,.bool true)/\j < l.length/\l[j]?.map (·.key)=some (hv k))/\(k ∉ S->r=none)
 | [],[],i,_,_=>⟨none,rfl,fun h=>by simp at h,fun _=>rfl⟩
 | [],_::_,_,h,_=>by simp at h
 | _::_,[],_,h,_=>by simp at h
 | e::l,x::S,i,h,hb=>by
  simp only [List.map_cons,List.cons.injEq] at h;obtain ⟨r,h1,h2,h3⟩:=ack k w l S (i+1) h.2 (fun e' he=>hb e' (rA _ he));have he:=amp k x w;rw [<- h.1] at he;by_cases hx:k=x
  ·rw [au hx] at he
   refine ⟨some (i,.bool true),?_,fun _=>⟨0,rfl,by simp,by simp [h.1,hx]⟩,fun hn=>absurd (by rw [hx]; exact List.mem_cons_self ..) hn⟩;have zL:=hb e (List.mem_cons_self ..);simp [Instr.findAsking,he,zL]
  ·rw [bu hx] at he
   refine ⟨r,?_,fun hm=>?_,fun hn=>h3 fun q=>hn (rA _ q)⟩
   ·simp only [Instr.findAsking,Sem.run_bind,he,fF]
    exact h1
   ·obtain ⟨j,q1,q2,q3⟩:=h2 ((bd.1 hm).resolve_left hx)
    exact ⟨j+1,by rw [q1]; congr 2; omega,by simp; omega,by simpa using q3⟩
theorem Yf (b:Bool) (k:Int×Int) (w:World):(Instr.checkKey b 10000 32 (hv k)).run Tryz.prog w = .ok () w:=by
 have h:aA.cv Tryz.prog (Instr.checkKey b 10000 32 (hv k))=some ():=by cases b <;> kernel_rfl
 exact aA.eQ h w
theorem Sk (k:Int×Int) (w:World) {es:Array MapEntry} {S:List (Int×Int)} (h:Pn es S) :
  ∃ r,(Instr.findKey 32 (hv k) es.toList).run Tryz.prog w = .ok r w/\(k∈S->∃ j,r=some (j,.bool true))/\(k ∉ S->r=none):=by
 obtain ⟨r,h1,h2,h3⟩:=ack k w es.toList S 0 h.1 h.2;have u32:=run_underlying Tryz.underlying32;unfold Instr.findKey;cases hl:es.toList with
 | nil=>
  rw [hl] at h1;refine ⟨none,?_,fun hk=>?_,fun _=>rfl⟩
  ·simp only [Sem.run_bind,u32,fF,Instr.findNow]
   rfl
  ·have:=h.1
   rw [hl] at this;have:S = []:=by simpa using this.symm
   rw [this] at hk;simp at hk
 | cons e l=>
  rw [hl] at h1;refine ⟨r,?_,fun hk=>?_,h3⟩
  ·have hn:∀ fs i,Instr.findNow (.struct fs) (hv k) (e::l) i=none:=fun fs i=>by
    unfold Instr.findNow;have:∀ v,Instr.sameNow (.struct fs) (hv k) v=none:=fun v=>by cases v <;> rfl
    rw [this]
   simp only [Sem.run_bind,u32,fF,hn];exact h1
  ·obtain ⟨j,q,_⟩:=h2 hk
   exact ⟨0+j,q⟩
theorem ahc {W:World} {mb:Nat} {es:Array MapEntry} {clock:Nat} {S:List (Int×Int)} (hm:W.heap[mb]? = some (.map es clock)) (h:Pn es S) (k:Int×Int) :
  (Instr.lookup 202 (.map (some mb)) (hv k) false).run Tryz.prog W = .ok (.bool (decide (k∈S))) W:=by
 obtain ⟨r,h1,h2,h3⟩:=Sk k W h;have Je:=run_underlying Tryz.underlying202;have v4:=Tryz.zeroValue4;unfold Instr.lookup;simp only [Sem.run_bind,Je,fF,MapKept.run_getObj_map hm,Sem.run_pure,Yf,h1];by_cases hk:k∈S
 ·obtain ⟨j,rfl⟩:=h2 hk
  rw [au hk];rfl
 ·rw [h3 hk,bu hk]
  simp only [Sem.run_bind,v4,fF,Sem.run_pure];rfl
def put (W:World) (mb:Nat) (o:Obj):World:={ W with heap:=W.heap.setIfInBounds mb o }
theorem ajp {W:World} {mb:Nat} {es:Array MapEntry} {clock:Nat} {S:List (Int×Int)} (hm:W.heap[mb]? = some (.map es clock)) (h:Pn es S) (k:Int×Int) (hk:k ∉ S) :
  (Instr.mapUpdate 202 (.map (some mb)) (hv k) (.bool true)).run Tryz.prog W = .ok () (put W mb (.map (es.push ⟨hv k,.bool true,clock⟩) (clock+1))):=by
 obtain ⟨r,h1,h2,h3⟩:=Sk k W h;have Je:=run_underlying Tryz.underlying202;unfold Instr.mapUpdate;simp only [Sem.run_bind,Je,fF,MapKept.run_getObj_map hm,Sem.run_pure,Yf,h1,h3 hk];exact MapKept.run_setObj_map _ hm
theorem ad5 {es:Array MapEntry} {S:List (Int×Int)} (h:Pn es S) (k:Int×Int) (c:Nat):Pn (es.push ⟨hv k,.bool true,c⟩) (S++[k]):=by
 refine ⟨?_,fun e he=>?_⟩
 ·rw [Array.toList_push,yH,yH,h.1]; rfl
 ·rw [Array.toList_push] at he
  rcases eP.1 he with he | he
  ·exact h.2 e he
  ·rw [List.mem_singleton.1 he]
theorem QX:Pn #[] []:=⟨rfl,fun e he=>by simp at he⟩
theorem ZJ {W:World} {mb:Nat} {o o' : Obj} (h:W.heap[mb]? = some o'):(put W mb o).heap[mb]? = some o:=by
 have aI:mb < W.heap.size:=(jh.1 h).1;unfold put;simp [Array.getElem?_setIfInBounds,aI]
theorem afB {W:World} {mb k:Nat} {o:Obj} (h:k≠mb):(put W mb o).heap[k]? = W.heap[k]?:=by
 unfold put;simp [Array.getElem?_setIfInBounds,Ne.symm h]
theorem QY {W:World} {mb:Nat} {o:Obj} : (put W mb o).heap.size=W.heap.size:=by
 unfold put;simp
end Go.Proofs.YtckbdndhmcoihaaGreat.nodes
end
section
set_option maxRecDepth 20000
namespace Go.Proofs.YtckbdndhmcoihaaGreat.nodes
open Go Go.RowKit Go.Lib Go.Shelf
set_option maxHeartbeats 4000000 in
theorem akG (g:Nat) (lb:Array Value) (eg:∀ args w,(callFunc g args).run Tryz.prog w = .ok (.enter g args) w) (a:Option Addr) (n c:Nat) (x:Nat->Int×Int) (I:Nat->World->Prop) (T:World->Prop) (afW:n<=1000000)
  (dB:∀ W kk,kk < n->I kk W->∃ b off,a=some ⟨b,off,none⟩/\W.cell? ⟨b,off+kk * 2,none⟩=some (.int .i64 (x kk).1)/\W.cell? ⟨b,off+kk * 2+1,none⟩=some (.int .i64 (x kk).2))
  (dR:∀ kk W,kk < n->I kk W->Calls Tryz.prog g (#[hv (x kk)]++lb) W fun e W'=>e = .returned (.bool true)/\T W'\/e = .returned (.bool false)/\I (kk+1) W')
  (w:World) (h0:I 0 w):Calls Tryz.prog 174 #[.slice a n c,.func (.func g) #[] lb] w fun e W'=>(∃ kk:Nat,kk < n/\e = .returned (.int .i64 kk)/\T W')\/e = .returned (.int .i64 (-1))/\I n W':=by
 have mixed:=s5;have t32:=Tryz.underlying32; have a32:=Tryz.isAgg32; have z32:=Tryz.sizeOf32; have v32:=Tryz.zeroValue32; have u32:=run_underlying Tryz.underlying32;have t35:=Tryz.underlying35; have a35:=Tryz.isAgg35; have z35:=Tryz.sizeOf35; have v35:=Tryz.zeroValue35; have u35:=run_underlying Tryz.underlying35;have t3:=Tryz.underlying3; have a3:=Tryz.isAgg3; have z3:=Tryz.sizeOf3; have v3:=Tryz.zeroValue3; have u3:=run_underlying Tryz.underlying3
 go_enter Tryz.func174,Tryz.ntmps174
 go_wp2
 go_loopg [5,8] n (fun gg _ s8 wr=>∃ kk:Nat,kk<=n/\n - kk<=gg/\s8 = .int .i64 kk/\Aside (I kk wr))
 case atStart=>exact ⟨0,mf _,by omega,rfl,h0⟩
 case round=>
  obtain ⟨kk,YT,hg,rfl,BW⟩:=hrel;by_cases aI:kk < n
  ·have acm:(kk:Int) < (n:Int):=by omega
   obtain ⟨b,off,ea,l1,l2⟩:=dB wr kk aI BW.out;subst ea;have hc:=dR kk wr aI BW.out;clear dB dR;generalize hy:x kk=y at l1 l2 hc;clear hy
   go_wp2_with (go_at_fn g; refine hc.mono ?_; rintro e w' (⟨rfl,KI⟩ | ⟨rfl,KI⟩))
   ·go_wp2
    go_ret
    exact .inl ⟨kk,aI,rfl,KI⟩
   ·go_wp2
    go_roundg (n - (kk+1))
    case measure=>omega
    case rel=>exact ⟨kk+1,by omega,by omega,by go_num,KI⟩
  ·have acm : ¬ (kk:Int) < (n:Int):=by omega
   have:kk=n:=by omega
   subst this
   go_wp2
   go_ret
   exact .inr ⟨rfl,BW.out⟩
set_option maxHeartbeats 4000000 in
theorem M5 (g:Nat) (lb:Array Value) (eg:∀ args w,(callFunc g args).run Tryz.prog w = .ok (.enter g args) w) (a:Option Addr) (n c:Nat) (x:Nat->Int×Int) (I:Nat->World->Prop) (T:World->Prop) (afW:n<=1000000)
  (dB:∀ W kk,kk < n->I kk W->∃ b off,a=some ⟨b,off,none⟩/\W.cell? ⟨b,off+kk * 2,none⟩=some (.int .i64 (x kk).1)/\W.cell? ⟨b,off+kk * 2+1,none⟩=some (.int .i64 (x kk).2))
  (dR:∀ kk W,kk < n->I kk W->Calls Tryz.prog g (#[hv (x kk)]++lb) W fun e W'=>e = .returned (.bool true)/\T W'\/e = .returned (.bool false)/\I (kk+1) W')
  (w:World) (h0:I 0 w):Calls Tryz.prog 122 #[.slice a n c,.func (.func g) #[] lb] w fun e W'=>∃ r,e = .returned (.bool r)/\(r=true/\T W'\/r=false/\I n W'):=by
 have mixed:=s5;have t35:=Tryz.underlying35; have a35:=Tryz.isAgg35; have z35:=Tryz.sizeOf35; have v35:=Tryz.zeroValue35; have u35:=run_underlying Tryz.underlying35;have t3:=Tryz.underlying3; have a3:=Tryz.isAgg3; have z3:=Tryz.sizeOf3; have v3:=Tryz.zeroValue3; have u3:=run_underlying Tryz.underlying3;have hI:=akG g lb eg a n c x I T afW dB dR w h0
 go_enter Tryz.func122,Tryz.ntmps122
 go_wp2_with (go_at_call 174; refine hI.mono ?_; rintro e w' (⟨kk,hk,rfl,KI⟩ | ⟨rfl,KI⟩))
 ·go_wp2
  go_ret
  exact ⟨true,by congr 2,.inl ⟨rfl,KI⟩⟩
 ·go_wp2
  go_ret
  exact ⟨false,by congr 2,.inr ⟨rfl,KI⟩⟩
structure G where
 sa:Option Addr
 sn:Nat
 sc:Nat
 ka:Option Addr
 kn:Nat
 kc:Nat
 ia:Nat->Option Addr
 im:Nat->Nat
 ic:Nat->Nat
 cR:Nat->Nat->Int×Int
structure GAt (q:G) (B:Nat) (W:World):Prop where
 kids:∀ i,i < q.kn->∃ b off,q.ka=some ⟨b,off,none⟩/\b < B/\W.cell? ⟨b,off+i,none⟩=some (.slice (q.ia i) (q.im i) (q.ic i))
 small:∀ i,i < q.kn->q.im i<=1000000
 row:∀ i,i < q.kn->∀ k,k < q.im i->∃ b off,q.ia i=some ⟨b,off,none⟩/\b < B/\W.cell? ⟨b,off+k * 2,none⟩=some (.int .i64 (q.cR i k).1)/\W.cell? ⟨b,off+k * 2+1,none⟩=some (.int .i64 (q.cR i k).2)
structure Kp (mb:Nat) (W W' : World):Prop where
 os:W'.os=W.os
 tape:W'.tape=W.tape
 output:W'.output=W.output
 size:W.heap.size<=W'.heap.size
 block:∀ k,k < W.heap.size->k≠mb->W'.heap[k]? = W.heap[k]?
theorem Kp.refl (mb:Nat) (W:World):Kp mb W W:=⟨rfl,rfl,rfl,ao _,fun _ _ _=>rfl⟩
theorem Kp.trans {mb:Nat} {W W' W2:World} (h:Kp mb W W') (k:Kp mb W' W2):Kp mb W W2:=
 ⟨k.os.trans h.os,k.tape.trans h.tape,k.output.trans h.output,dx h.size k.size,fun j hj hn=>(k.block j (dG hj h.size) hn).trans (h.block j hj hn)⟩
theorem Kp.below {mb B:Nat} {W W' : World} (h:Kp mb W W') (hB:B<=W.heap.size) (hm:B<=mb):Below B W W':=
 ⟨h.os,h.tape,h.output,h.size,fun k hk=>h.block k (by omega) (by omega)⟩
theorem Kp.cell {mb:Nat} {W W' : World} (h:Kp mb W W') {b j:Nat} (hb:b < W.heap.size) (hm:b≠mb):W'.cell? ⟨b,j,none⟩=W.cell? ⟨b,j,none⟩:=by
 have:=h.block b hb hm;unfold World.cell?;simp only [this]
theorem Kp.alloc {mb:Nat} (W:World) (o:Obj):Kp mb W (W.alloc o):=⟨rfl,rfl,rfl,by simp,fun k hk _=>Below.heap_alloc W o k hk⟩
theorem Kp.drew (mb:Nat) (W:World):Kp mb W W.drew:=⟨rfl,rfl,rfl,ao _,fun _ _ _=>rfl⟩
theorem Kp.put {mb:Nat} (W:World) (o:Obj):Kp mb W (put W mb o):=⟨rfl,rfl,rfl,by rw [QY]; exact ao _,fun k _ hn=>afB hn⟩
theorem GAt.di {q:G} {B mb:Nat} {W W' : World} (h:GAt q B W) (k:Kp mb W W') (hB:B<=W.heap.size) (hm:B<=mb):GAt q B W':=by
 refine ⟨fun i hi=>?_,h.small,fun i hi j hj=>?_⟩
 ·obtain ⟨b,off,h1,h2,h3⟩:=h.kids i hi
  exact ⟨b,off,h1,h2,by rw [k.cell (by omega) (by omega)]; exact h3⟩
 ·obtain ⟨b,off,h1,h2,h3,h4⟩:=h.row i hi j hj
  exact ⟨b,off,h1,h2,by rw [k.cell (by omega) (by omega)]; exact h3,by rw [k.cell (by omega) (by omega)]; exact h4⟩
structure uK (q:G) (B b1 b2 b3 b4 mb:Nat) (to:Int×Int) (W:World) (S:List (Int×Int)):Prop where
 g:GAt q B W
 eD:B<=W.heap.size
 l1:b1 < W.heap.size/\b1≠mb
 l2:b2 < W.heap.size/\b2≠mb
 l3:b3 < W.heap.size/\b3≠mb
 l4:b4 < W.heap.size/\b4≠mb
 m:B<=mb
 c1:W.cell? ⟨b1,0,none⟩=some (.int .i64 to.1)
 d1:W.cell? ⟨b1,1,none⟩=some (.int .i64 to.2)
 c2:W.cell? ⟨b2,0,none⟩=some (.map (some mb))
 c3:W.cell? ⟨b3,0,none⟩=some (.slice q.sa q.sn q.sc)
 d3:W.cell? ⟨b3,1,none⟩=some (.slice q.ka q.kn q.kc)
 c4:W.cell? ⟨b4,0,none⟩=some (.func (.func 175) #[] #[.pointer (some ⟨b1,0,none⟩),.pointer (some ⟨b2,0,none⟩),.pointer (some ⟨b3,0,none⟩),.pointer (some ⟨b4,0,none⟩)])
 map:∃ es clock,W.heap[mb]? = some (.map es clock)/\Pn es S
 to:to ∉ S
theorem uK.di {q:G} {B b1 b2 b3 b4 mb:Nat} {to:Int×Int} {W W' : World} {S S' : List (Int×Int)} (h:uK q B b1 b2 b3 b4 mb to W S) (k:Kp mb W W') (hm:∃ es clock,W'.heap[mb]? = some (.map es clock)/\Pn es S') (ht:to ∉ S') :
  uK q B b1 b2 b3 b4 mb to W' S' where
 g:=h.g.di k h.eD h.m
 eD:=dx h.eD k.size
 l1:=⟨dG h.l1.1 k.size,h.l1.2⟩
 l2:=⟨dG h.l2.1 k.size,h.l2.2⟩
 l3:=⟨dG h.l3.1 k.size,h.l3.2⟩
 l4:=⟨dG h.l4.1 k.size,h.l4.2⟩
 m:=h.m
 c1:=(k.cell h.l1.1 h.l1.2).trans h.c1
 d1:=(k.cell h.l1.1 h.l1.2).trans h.d1
 c2:=(k.cell h.l2.1 h.l2.2).trans h.c2
 c3:=(k.cell h.l3.1 h.l3.2).trans h.c3
 d3:=(k.cell h.l3.1 h.l3.2).trans h.d3
 c4:=(k.cell h.l4.1 h.l4.2).trans h.c4
 map:=hm
 to:=ht
inductive Reach (q:G) (to:Int×Int):Int×Int->Prop where
 | here:Reach q to to
 | cR (h:Int×Int) (k:Nat) (hk:k < q.im h.1.toNat) (r:Reach q to (q.cR h.1.toNat k)):Reach q to h
structure Grow (q:G) (S:List (Int×Int)) (h:Int×Int) (S' : List (Int×Int)):Prop where
 sub:∀ x∈S,x∈S'
 is:h∈S'
 new:∀ x∈S',x∈S\/∀ k,k < q.im x.1.toNat->q.cR x.1.toNat k∈S'
theorem filter_le {S S1:List (Int×Int)} (h:∀ x∈S,x∈S1):∀ U:List (Int×Int),(U.filter fun u=>!decide (u∈S1)).length<=(U.filter fun u=>!decide (u∈S)).length
 | []=>ao _
 | u::U=>by
  have ih:=filter_le h U;by_cases h1:u∈S
  ·rw [List.filter_cons_of_neg (by simp [h u h1]),List.filter_cons_of_neg (by simp [h1])]; exact ih
  ·rw [List.filter_cons_of_pos (p:=fun u=>!decide (u∈S)) (by simp [h1])]
   by_cases h2:u∈S1
   ·rw [List.filter_cons_of_neg (by simp [h2])]; exact Nat.le_succ_of_le ih
   ·rw [List.filter_cons_of_pos (by simp [h2])]; exact Nat.succ_le_succ ih
theorem filter_lt {S S1:List (Int×Int)} (h:∀ x∈S,x∈S1) {k:Int×Int} (hk:k ∉ S) (oj:k∈S1):∀ U:List (Int×Int),k∈U->(U.filter fun u=>!decide (u∈S1)).length < (U.filter fun u=>!decide (u∈S)).length
 | [],hm=>by simp at hm
 | u::U,hm=>by
  by_cases e:k=u
  ·subst e
   rw [List.filter_cons_of_neg (by simp [oj]),List.filter_cons_of_pos (p:=fun u=>!decide (u∈S)) (by simp [hk])];exact Nat.lt_succ_of_le (filter_le h U)
  ·have ih:=filter_lt h hk oj U ((bd.1 hm).resolve_left e)
   by_cases h1:u∈S
   ·rw [List.filter_cons_of_neg (by simp [h u h1]),List.filter_cons_of_neg (by simp [h1])]; exact ih
   ·rw [List.filter_cons_of_pos (p:=fun u=>!decide (u∈S)) (by simp [h1])]
    by_cases h2:u∈S1
    ·rw [List.filter_cons_of_neg (by simp [h2])]; exact Nat.lt_succ_of_lt ih
    ·rw [List.filter_cons_of_pos (by simp [h2])]; exact Nat.succ_lt_succ ih
set_option maxHeartbeats 4000000 in
theorem look (q:G) (B b1 b2 b3 b4 mb:Nat) (to:Int×Int) (U:List (Int×Int)) (hU:∀ u∈U,(0<=u.1/\u.1 < (q.kn:Int))/\∀ k,k < q.im u.1.toNat->q.cR u.1.toNat k∈U) :
  ∀ (fuel:Nat) (S:List (Int×Int)) (W:World) (h:Int×Int),h∈U->(U.filter fun u=>!decide (u∈S)).length < fuel->uK q B b1 b2 b3 b4 mb to W S->
   Calls Tryz.prog 175 #[hv h,.pointer (some ⟨b1,0,none⟩),.pointer (some ⟨b2,0,none⟩),.pointer (some ⟨b3,0,none⟩),.pointer (some ⟨b4,0,none⟩)] W fun e W'=>
    ∃ S',uK q B b1 b2 b3 b4 mb to W' S'/\Kp mb W W'/\(e = .returned (.bool true)/\Reach q to h\/e = .returned (.bool false)/\Grow q S h S'):=by
 intro fuel
 induction fuel with
 | zero=>exact fun S W h _ hf=>absurd hf (mM _)
 | succ fuel ih=>
  intro S W h hhU hf L;have mixed:=s5;have t32:=Tryz.underlying32; have a32:=Tryz.isAgg32; have z32:=Tryz.sizeOf32; have v32:=Tryz.zeroValue32; have u32:=run_underlying Tryz.underlying32;have t202:=Tryz.underlying202; have afX:=Tryz.isAgg202; have afY:=Tryz.sizeOf202; have afZ:=Tryz.zeroValue202; have Je:=run_underlying Tryz.underlying202;have t200:=Tryz.underlying200; have alE:=Tryz.isAgg200; have alF:=Tryz.sizeOf200; have alG:=Tryz.zeroValue200; have alH:=run_underlying Tryz.underlying200;have t25:=Tryz.underlying25; have a25:=Tryz.isAgg25; have z25:=Tryz.sizeOf25; have v25:=Tryz.zeroValue25; have u25:=run_underlying Tryz.underlying25;have t27:=Tryz.underlying27; have a27:=Tryz.isAgg27; have z27:=Tryz.sizeOf27; have v27:=Tryz.zeroValue27; have u27:=run_underlying Tryz.underlying27;have t35:=Tryz.underlying35; have a35:=Tryz.isAgg35; have z35:=Tryz.sizeOf35; have v35:=Tryz.zeroValue35; have u35:=run_underlying Tryz.underlying35;have t3:=Tryz.underlying3; have a3:=Tryz.isAgg3; have z3:=Tryz.sizeOf3; have v3:=Tryz.zeroValue3; have u3:=run_underlying Tryz.underlying3;have t4:=Tryz.underlying4; have a4:=Tryz.isAgg4; have z4:=Tryz.sizeOf4; have v4:=Tryz.zeroValue4; have u4:=run_underlying Tryz.underlying4;obtain ⟨es,clock,ajq,acn⟩:=L.map;have alI:mb < W.heap.size:=(jh.1 ajq).1;by_cases DJ:h=to
  ·subst DJ
   have KA:=Kp.alloc (mb:=mb) W (.cells #[.int .i64 h.1,.int .i64 h.2] 32);have c1:(W.alloc (.cells #[.int .i64 h.1,.int .i64 h.2] 32)).cell? ⟨b1,0,none⟩=some (.int .i64 h.1):=(KA.cell L.l1.1 L.l1.2).trans L.c1;have d1:(W.alloc (.cells #[.int .i64 h.1,.int .i64 h.2] 32)).cell? ⟨b1,1,none⟩=some (.int .i64 h.2):=(KA.cell L.l1.1 L.l1.2).trans L.d1
   go_enter Tryz.func175,Tryz.ntmps175
   go_wp2
   go_ret
   exact ⟨S,L.di KA ⟨es,clock,by rw [Below.heap_alloc W _ mb alI]; exact ajq,acn⟩ L.to,KA,.inl ⟨rfl,.here⟩⟩
  ·have KA:=Kp.alloc (mb:=mb) W (.cells #[.int .i64 h.1,.int .i64 h.2] 32)
   obtain ⟨t1,c1,d1,alJ⟩:∃ t1,(W.alloc (.cells #[.int .i64 h.1,.int .i64 h.2] 32)).cell? ⟨b1,0,none⟩=some (.int .i64 t1)/\(W.alloc (.cells #[.int .i64 h.1,.int .i64 h.2] 32)).cell? ⟨b1,1,none⟩=some (.int .i64 to.2)/\(t1=h.1/\¬ h.2=to.2\/¬ h.1=t1):=by
    refine ⟨to.1,(KA.cell L.l1.1 L.l1.2).trans L.c1,(KA.cell L.l1.1 L.l1.2).trans L.d1,?_⟩;by_cases e1:h.1=to.1
    ·exact .inl ⟨e1.symm,fun e2=>DJ (Prod.ext e1 e2)⟩
    ·exact .inr e1
   have c2:(W.alloc (.cells #[.int .i64 h.1,.int .i64 h.2] 32)).cell? ⟨b2,0,none⟩=some (.map (some mb)):=(KA.cell L.l2.1 L.l2.2).trans L.c2;have Z5:(W.alloc (.cells #[.int .i64 h.1,.int .i64 h.2] 32)).heap[mb]? = some (.map es clock):=by rw [Below.heap_alloc W _ mb alI]; exact ajq
   have hlk:=ahc Z5 acn h;by_cases hS:h∈S
   ·rw [au hS] at hlk
    have fin:∃ S',uK q B b1 b2 b3 b4 mb to (W.alloc (.cells #[.int .i64 h.1,.int .i64 h.2] 32)) S'/\Kp mb W (W.alloc (.cells #[.int .i64 h.1,.int .i64 h.2] 32))/\Grow q S h S':=
     ⟨S,L.di KA ⟨es,clock,Z5,acn⟩ L.to,KA,⟨fun x hx=>hx,hS,fun x hx=>.inl hx⟩⟩
    obtain ⟨S',f1,f2,f3⟩:=fin;rcases alJ with ⟨rfl,e2⟩ | e1
    ·go_enter Tryz.func175,Tryz.ntmps175
     go_wp2
     go_ret
     exact ⟨S',f1,f2,.inr ⟨rfl,f3⟩⟩
    ·go_enter Tryz.func175,Tryz.ntmps175
     go_wp2
     go_ret
     exact ⟨S',f1,f2,.inr ⟨rfl,f3⟩⟩
   ·rw [bu hS] at hlk
    have Lb:=ajp Z5 acn h hS;have amq:=ZJ (o:=.map (es.push ⟨hv h,.bool true,clock⟩) (clock+1)) Z5;have KP:=Kp.put (mb:=mb) (W.alloc (.cells #[.int .i64 h.1,.int .i64 h.2] 32)) (.map (es.push ⟨hv h,.bool true,clock⟩) (clock+1));have LP:=L.di (KA.trans KP) ⟨_,_,amq,ad5 acn h clock⟩ (by
     rw [eP];rintro (hm | hm)
     ·exact L.to hm
     ·exact DJ (List.mem_singleton.1 hm).symm)
    have cb:(put (W.alloc (.cells #[.int .i64 h.1,.int .i64 h.2] 32)) mb (.map (es.push ⟨hv h,.bool true,clock⟩) (clock+1))).cell? ⟨W.heap.size,0,none⟩=some (.int .i64 h.1):=by
     rw [KP.cell (by simp) (by omega)];simp
    have ze:=LP.g;obtain ⟨hU1,hU2⟩:=hU h hhU;obtain ⟨bk,ok,hka,hbk,dB⟩:=ze.kids h.1.toNat (by omega);have d3:=LP.d3;rw [hka] at d3;have c4:=LP.c4;have hbx:W.heap.size < (put (W.alloc (.cells #[.int .i64 h.1,.int .i64 h.2] 32)) mb (.map (es.push ⟨hv h,.bool true,clock⟩) (clock+1))).heap.size:=by rw [QY]; simp
    have K2:=KA.trans KP;generalize put (W.alloc (.cells #[.int .i64 h.1,.int .i64 h.2] 32)) mb (.map (es.push ⟨hv h,.bool true,clock⟩) (clock+1))=W2 at *;have eg:∀ args w,(callFunc 175 args).run Tryz.prog w = .ok (.enter 175 args) w:=enters_of Tryz.func175 (by kernel_rfl) rfl;have qM:=M5 175 #[.pointer (some ⟨b1,0,none⟩),.pointer (some ⟨b2,0,none⟩),.pointer (some ⟨b3,0,none⟩),.pointer (some ⟨b4,0,none⟩)] eg (q.ia h.1.toNat) (q.im h.1.toNat) (q.ic h.1.toNat) (q.cR h.1.toNat)
     (fun kk W'=>∃ S1,uK q B b1 b2 b3 b4 mb to W' S1/\Kp mb W2 W'/\(∀ x∈S,x∈S1)/\h∈S1/\(∀ j,j < kk->q.cR h.1.toNat j∈S1)/\∀ x∈S1,x∈S\/x=h\/∀ k,k < q.im x.1.toNat->q.cR x.1.toNat k∈S1)
     (fun W'=>∃ S1,uK q B b1 b2 b3 b4 mb to W' S1/\Kp mb W2 W'/\Reach q to h)
     (LP.g.small _ (by omega))
     (fun W' kk hk ⟨S1,L1,_⟩=>by
      obtain ⟨b,off,r1,_,r2,r3⟩:=L1.g.row h.1.toNat (by omega) kk hk;exact ⟨b,off,r1,r2,r3⟩)
     (fun kk W' hk ⟨S1,L1,k1,s1,s2,s3,s4⟩=>by
      refine (ih S1 W' (q.cR h.1.toNat kk) (hU2 kk hk) (dG (filter_lt s1 hS s2 U hhU) (Nat.le_of_lt_succ hf)) L1).mono ?_;rintro e W3 ⟨S2,L2,k2,⟨rfl,hr⟩ | ⟨rfl,AZ⟩⟩
      ·exact .inl ⟨rfl,S2,L2,k1.trans k2,.cR h kk hk hr⟩
      ·refine .inr ⟨rfl,S2,L2,k1.trans k2,fun x hx=>AZ.sub x (s1 x hx),AZ.sub h s2,fun j hj=>?_,fun x hx=>?_⟩
       ·by_cases ej:j=kk
        ·subst ej; exact AZ.is
        ·exact AZ.sub _ (s3 j (by omega))
       ·rcases AZ.new x hx with h1 | h1
        ·rcases s4 x h1 with h2 | h2 | h2
         ·exact .inl h2
         ·exact .inr (.inl h2)
         ·exact .inr (.inr fun k hk=>AZ.sub _ (h2 k hk))
        ·exact .inr (.inr h1))
     W2.drew ⟨S++[h],LP.di (Kp.drew mb W2) (by obtain ⟨mu,cl2,q1,q2⟩:=LP.map; exact ⟨mu,cl2,q1,q2⟩) LP.to,Kp.drew mb W2,fun x hx=>List.mem_append_left _ hx,List.mem_append_right _ (List.mem_singleton.2 rfl),fun j hj=>absurd hj (mM _),fun x hx=>(eP.1 hx).imp id fun q=>.inl (List.mem_singleton.1 q)⟩
    have Aq:0<=h.1:=hU1.1;have aI:h.1 < (q.kn:Int):=hU1.2;have fin:∀ W' r,(r=true/\(∃ S1,uK q B b1 b2 b3 b4 mb to W' S1/\Kp mb W2 W'/\Reach q to h)\/r=false/\∃ S1,uK q B b1 b2 b3 b4 mb to W' S1/\Kp mb W2 W'/\(∀ x∈S,x∈S1)/\h∈S1/\(∀ j,j < q.im h.1.toNat->q.cR h.1.toNat j∈S1)/\∀ x∈S1,x∈S\/x=h\/∀ k,k < q.im x.1.toNat->q.cR x.1.toNat k∈S1)->
      ∃ S',uK q B b1 b2 b3 b4 mb to W' S'/\Kp mb W W'/\((Ending.returned (.bool r) = .returned (.bool true))/\Reach q to h\/(Ending.returned (.bool r) = .returned (.bool false))/\Grow q S h S'):=by
     rintro W' r (⟨rfl,S1,L1,k1,hr⟩ | ⟨rfl,S1,L1,k1,s1,s2,s3,s4⟩)
     ·exact ⟨S1,L1,K2.trans k1,.inl ⟨rfl,hr⟩⟩
     ·refine ⟨S1,L1,K2.trans k1,.inr ⟨rfl,s1,s2,fun x hx=>?_⟩⟩
      rcases s4 x hx with h1 | h1 | h1
      ·exact .inl h1
      ·subst h1; exact .inr s3
      ·exact .inr h1
    clear ih hU2 LP L ze hf;rcases alJ with ⟨rfl,e2⟩ | e1
    ·go_enter Tryz.func175,Tryz.ntmps175
     go_wp2
     go_region_with (go_at_call 122; refine qM.mono ?_; rintro e w' ⟨r,rfl,hr⟩)
     all_goals (go_wp2; go_ret; exact fin _ _ (by assumption))
    ·go_enter Tryz.func175,Tryz.ntmps175
     go_wp2
     go_region_with (go_at_call 122; refine qM.mono ?_; rintro e w' ⟨r,rfl,hr⟩)
     all_goals (go_wp2; go_ret; exact fin _ _ (by assumption))
abbrev gv (q:G):Value:=.agg #[.slice q.sa q.sn q.sc,.slice q.ka q.kn q.kc]
def MapAt (mb:Nat) (W:World) (S:List (Int×Int)):Prop:=∃ es clock,W.heap[mb]? = some (.map es clock)/\Pn es S
theorem rM (V:World) (o:Obj) (n:Nat) (h:n=V.heap.size):(V.alloc o).heap[n]? = some o:=by
 subst h;exact heap_alloc_new V o
theorem kd {W:World} {b:Nat} {c:Array Value} {t:TypeId} (h:W.heap[b]? = some (.cells c t)) (i:Nat):W.cell? ⟨b,i,none⟩=c[i]?:=by
 unfold World.cell?;simp [h]
theorem anC (W:World) (A0 A1 A2 A3 A4:Obj):∃ V,V=((((W.alloc A0).alloc A1).alloc A2).alloc A3).alloc A4/\V.heap[W.heap.size]? = some A0/\V.heap[W.heap.size+1]? = some A1/\V.heap[W.heap.size+1+1]? = some A2/\V.heap[W.heap.size+1+1+1]? = some A3/\V.heap[W.heap.size+1+1+1+1]? = some A4/\V.heap.size=W.heap.size+5/\∀ mb,Kp mb W V:=by
 have s1:(W.alloc A0).heap.size=W.heap.size+1:=by simp
 have s2:((W.alloc A0).alloc A1).heap.size=W.heap.size+2:=by simp
 have s3:(((W.alloc A0).alloc A1).alloc A2).heap.size=W.heap.size+3:=by simp
 have s4:((((W.alloc A0).alloc A1).alloc A2).alloc A3).heap.size=W.heap.size+4:=by simp
 refine ⟨_,rfl,?_,?_,?_,?_,?_,by simp,fun mb=>((((Kp.alloc W A0).trans (Kp.alloc _ A1)).trans (Kp.alloc _ A2)).trans (Kp.alloc _ A3)).trans (Kp.alloc _ A4)⟩
 ·rw [Below.heap_alloc _ _ _ (by omega),Below.heap_alloc _ _ _ (by omega),Below.heap_alloc _ _ _ (by omega),Below.heap_alloc _ _ _ (by omega)]
  exact rM _ _ _ rfl
 ·rw [Below.heap_alloc _ _ _ (by omega),Below.heap_alloc _ _ _ (by omega),Below.heap_alloc _ _ _ (by omega)]
  exact rM _ _ _ (by omega)
 ·rw [Below.heap_alloc _ _ _ (by omega),Below.heap_alloc _ _ _ (by omega)]
  exact rM _ _ _ (by omega)
 ·rw [Below.heap_alloc _ _ _ (by omega)]
  exact rM _ _ _ (by omega)
 ·exact rM _ _ _ (by omega)
set_option maxHeartbeats 4000000 in
theorem below (q:G) (B mb:Nat) (pA to:Int×Int) (U:List (Int×Int)) (hU:∀ u∈U,(0<=u.1/\u.1 < (q.kn:Int))/\∀ k,k < q.im u.1.toNat->q.cR u.1.toNat k∈U) (S:List (Int×Int)) (W:World)
  (hf:pA∈U) (hg:GAt q B W) (hB:B<=W.heap.size) (hm:B<=mb) (hM:MapAt mb W S) (ht:to ∉ S) :
  Calls Tryz.prog 124 #[gv q,.map (some mb),hv pA,hv to] W fun e W'=>∃ S' r,e = .returned (.bool r)/\MapAt mb W' S'/\Kp mb W W'/\(r=true/\Reach q to pA\/r=false/\Grow q S pA S'/\to ∉ S'):=by
 have SJ:mb < W.heap.size:=by obtain ⟨es,c,h,_⟩:=hM; exact (jh.1 h).1
 have qM:Calls Tryz.prog 175 #[hv pA,.pointer (some ⟨W.heap.size+1+1+1,0,none⟩),.pointer (some ⟨W.heap.size+1,0,none⟩),.pointer (some ⟨W.heap.size,0,none⟩),.pointer (some ⟨W.heap.size+1+1+1+1,0,none⟩)] (((((W.alloc (.cells #[.slice q.sa q.sn q.sc,.slice q.ka q.kn q.kc] 27)).alloc (.cells #[.map (some mb)] 202)).alloc (.cells #[.int .i64 pA.1,.int .i64 pA.2] 32)).alloc (.cells #[.int .i64 to.1,.int .i64 to.2] 32)).alloc (.cells #[.func (.func 175) #[] #[.pointer (some ⟨W.heap.size+1+1+1,0,none⟩),.pointer (some ⟨W.heap.size+1,0,none⟩),.pointer (some ⟨W.heap.size,0,none⟩),.pointer (some ⟨W.heap.size+1+1+1+1,0,none⟩)]] 200))
   fun e W'=>∃ S' r,e = .returned (.bool r)/\MapAt mb W' S'/\Kp mb W W'/\(r=true/\Reach q to pA\/r=false/\Grow q S pA S'/\to ∉ S'):=by
  obtain ⟨V,hV,v0,v1,v2,v3,v4,vs,vk⟩:=anC W (.cells #[.slice q.sa q.sn q.sc,.slice q.ka q.kn q.kc] 27) (.cells #[.map (some mb)] 202) (.cells #[.int .i64 pA.1,.int .i64 pA.2] 32) (.cells #[.int .i64 to.1,.int .i64 to.2] 32) (.cells #[.func (.func 175) #[] #[.pointer (some ⟨W.heap.size+1+1+1,0,none⟩),.pointer (some ⟨W.heap.size+1,0,none⟩),.pointer (some ⟨W.heap.size,0,none⟩),.pointer (some ⟨W.heap.size+1+1+1+1,0,none⟩)]] 200);rw [<- hV];have L:uK q B (W.heap.size+1+1+1) (W.heap.size+1) W.heap.size (W.heap.size+1+1+1+1) mb to V S:=
   ⟨hg.di (vk mb) hB hm,by omega,by omega,by omega,by omega,by omega,hm,by rw [kd v3]; rfl,by rw [kd v3]; rfl,by rw [kd v1]; rfl,by rw [kd v0]; rfl,by rw [kd v0]; rfl,by rw [kd v4]; rfl,by
    obtain ⟨es,c,h1,h2⟩:=hM;have hk:=vk (mb+1);exact ⟨es,c,by rw [hk.block mb SJ (by omega)]; exact h1,h2⟩,ht⟩
  refine (look q B _ _ _ _ mb to U hU _ S V pA hf (yJ _) L).mono ?_;rintro e W' ⟨S',L',k',⟨rfl,hr⟩ | ⟨rfl,AZ⟩⟩
  ·exact ⟨S',true,rfl,L'.map,(vk mb).trans k',.inl ⟨rfl,hr⟩⟩
  ·exact ⟨S',false,rfl,L'.map,(vk mb).trans k',.inr ⟨rfl,AZ,L'.to⟩⟩
 have mixed:=s5;have t32:=Tryz.underlying32; have a32:=Tryz.isAgg32; have z32:=Tryz.sizeOf32; have v32:=Tryz.zeroValue32; have u32:=run_underlying Tryz.underlying32;have t202:=Tryz.underlying202; have afX:=Tryz.isAgg202; have afY:=Tryz.sizeOf202; have afZ:=Tryz.zeroValue202; have Je:=run_underlying Tryz.underlying202;have t200:=Tryz.underlying200; have alE:=Tryz.isAgg200; have alF:=Tryz.sizeOf200; have alG:=Tryz.zeroValue200; have alH:=run_underlying Tryz.underlying200;have t27:=Tryz.underlying27; have a27:=Tryz.isAgg27; have z27:=Tryz.sizeOf27; have v27:=Tryz.zeroValue27; have u27:=run_underlying Tryz.underlying27;have t4:=Tryz.underlying4; have a4:=Tryz.isAgg4; have z4:=Tryz.sizeOf4; have v4:=Tryz.zeroValue4; have u4:=run_underlying Tryz.underlying4;have cW:(((((W.alloc (.cells #[.slice q.sa q.sn q.sc,.slice q.ka q.kn q.kc] 27)).alloc (.cells #[.map (some mb)] 202)).alloc (.cells #[.int .i64 pA.1,.int .i64 pA.2] 32)).alloc (.cells #[.int .i64 to.1,.int .i64 to.2] 32)).alloc (.cells #[.nilFunc] 200)).cell? ⟨W.heap.size+1+1+1+1,0,none⟩=some .nilFunc:=by rw [World.cell?_alloc_at _ _ _ _ (by simp)]; rfl
 have fW:(((((W.alloc (.cells #[.slice q.sa q.sn q.sc,.slice q.ka q.kn q.kc] 27)).alloc (.cells #[.map (some mb)] 202)).alloc (.cells #[.int .i64 pA.1,.int .i64 pA.2] 32)).alloc (.cells #[.int .i64 to.1,.int .i64 to.2] 32)).alloc (.cells #[.nilFunc] 200)).frozen? ⟨W.heap.size+1+1+1+1,0,none⟩=false:=by rw [World.frozen?_alloc_at _ _ _ _ (by simp)]
 go_enter Tryz.func124,Tryz.ntmps124
 go_wp2_with (go_at_call 175; refine qM.mono ?_; rintro e w' ⟨S',r,rfl,hr⟩)
 go_wp2
 go_ret
 exact ⟨S',r,rfl,hr⟩
end Go.Proofs.YtckbdndhmcoihaaGreat.nodes
end
section
namespace Go.Proofs.YtckbdndhmcoihaaGreat.b
open Go.K
theorem funcs:Tryz.prog.funcs.toList.all aA.gq=true:=by kernel_rfl
theorem mixed:Tryz.prog.follows .mixedOrders=true:=by kernel_rfl
noncomputable abbrev PG:Program:=Tryz.prog
noncomputable abbrev g0 (T:TypeId) (v:KV):KV:=gX PG (bX PG df) T v
theorem ir {R:Type} [Inhabited R] {k:R->KV} {r:List KV->Option R} {g:FuncId} {ps:List (Nat×(List KV->KR KV))} {ls:List Lp} {mt:TypeId->Bool} {fz eg:Bool} {a:(Nat->KV)->List KV} {q:(Nat->KV)->Option R} (e8:aw PG ps) (gH:bP PG ls)
  (hr:∀ w,zS PG (mS PG ps ls mt fz eg) 9 9 g (a w)=(q w).map k) (h:∀ w,pz PG (bK PG g) w 0=a w/\r (a w)=q w:=by exact fun w=>⟨by kernel_rfl,by kernel_rfl⟩) (hy:Nat.blt g aA.yB=true:=by rfl):cB PG g (cJ PG g (cU k r)):=
 Sj funcs mixed e8 gH (L:=9) (n:=9) (fun w=>by rw [(h w).1,(h w).2]; exact hr w) hy
theorem zZ {l:Lp} {X:Type} [Inhabited X] {ps:List (Nat×(List KV->KR KV))} {ls:List Lp} {mt:TypeId->Bool} {fz eg:Bool} {step:X->ba X} {ev:X->List KV} {er:X->List (List KV)} {es:List aA.aa} {pa:List KV->List (List KV)->X} (e8:aw PG ps) (gH:bP PG ls)
  (j5:∀ x,wU PG (mS PG ps ls mt fz eg) 9 9 l.f l.p (uI PG l.f l.p) l.S (ev x) (er x)=ba.enc ev er (step x)) (hF:l.F=fun vs rs=>eE ev er (goN step (pa vs rs)) es:=by rfl)
  (eZ:∀ wv wr,ev (pa (ib PG l.S.dh wv 0) (ie PG l.S.rows wr 0))=ib PG l.S.dh wv 0/\er (pa (ib PG l.S.dh wv 0) (ie PG l.S.rows wr 0))=ie PG l.S.rows wr 0:=by exact fun wv wr=>⟨by kernel_rfl,by kernel_rfl⟩) (hs:l.st=false:=by rfl):l.Ok PG:=
 acj funcs mixed e8 gH (L:=9) (n:=9) hF eZ j5 yp.nil hs
theorem qP {l:Lp} {ls:List Lp} (h:l.Ok PG) (r:bP PG ls) (t:Ci PG l.f l.p=true:=by kernel_rfl):bP PG (l::ls):=bP.cons h t r
noncomputable abbrev W8 (ps:List (Nat×(List KV->KR KV))) (ls:List Lp) (g:FuncId) (a:List KV):Option KV:=zS PG (mS PG ps ls) 9 9 g a
noncomputable abbrev rk9 (ps:List (Nat×(List KV->KR KV))) (ls:List Lp) (f p:Nat) (S:aB):=wU PG (mS PG ps ls) 9 9 f p (uI PG f p) S
noncomputable abbrev A9 (ps:List (Nat×(List KV->KR KV))) (ls:List Lp) (g:FuncId) (a:List KV):Option KV:=zS PG (mS PG ps ls (fun q=>Nat.beq q 3)) 9 9 g a
noncomputable abbrev GS (ps:List (Nat×(List KV->KR KV))) (ls:List Lp) (f p:Nat) (S:aB):=wU PG (mS PG ps ls (fun q=>Nat.beq q 3)) 9 9 f p (uI PG f p) S
abbrev v9 (vs:List KV) (i:Nat):KV:=vs.getD i .bx
abbrev r9 (rs:List (List KV)) (i k:Nat):KV:=(rs.getD i []).getD k .bx
abbrev i9:CD:=.k (.int .i64)
abbrev u9:CD:=.k (.int .u8)
abbrev b9:CD:=.k .bool
abbrev n9 (T:TypeId):CD:=.k (.slice T)
abbrev w9 (c:CD):VD:=⟨false,[c]⟩
end Go.Proofs.YtckbdndhmcoihaaGreat.b
end
section
namespace Go.Proofs.YtckbdndhmcoihaaGreat.b
open Go.K
noncomputable section
structure Slot where
 gen:Int
 live:Bool
instance:Inhabited Slot:=⟨⟨default,default⟩⟩
def ams (x:Slot):List KV:=[.int .i64 x.gen,.bool x.live]
def VH (x:Slot):KV:=.agg (ams x)
def amt (c:Nat->KV):Slot:=⟨av (c 0),j6 (c 1)⟩
def QZ (v:KV):Slot:=amt fun k=>v.cells.getD k .bx
def w5 (s:Slot):Option (Bool):=(cond (decide (s.gen < 1)) (some (true)) (some ((decide (s.gen > 1073741824)))))
theorem KM (s:Slot):W8 [] [] 172 [VH s] = (w5 s).map kB:=by
 unfold w5
 try simp only [cK]
 kernel_rfl
def w6:List KV->KR KV:=cJ PG 172 (cU kB fun vs=>w5 (QZ (v9 vs 0)))
theorem zu:cB PG 172 w6:=ir aw.nil bP.nil fun w=>KM (QZ (g0 111 (w 0)))
structure lX where
 cu:(Sl Slot)
instance:Inhabited lX:=⟨⟨default⟩⟩
def akH (x:lX):List KV:=[dD 111 VH x.cu]
def rN (x:lX):KV:=.agg (akH x)
def akI (c:Nat->KV):lX:=⟨eA QZ (c 0)⟩
def Kt (v:KV):lX:=akI fun k=>v.cells.getD k .bx
structure bQ where
 s:(Sl Slot)
 t4:Int
 t7:Int
 t8:Int
instance:Inhabited bQ:=⟨⟨default,default,default,default⟩⟩
def gw (x:bQ):List KV:=[dD 111 VH x.s,.fn (.func 172) [] [],.int .i64 x.t4,.int .i64 x.t7,.int .i64 x.t8]
def gx (x:bQ):List (List KV):=[]
def ke (vs:List KV) (rs:List (List KV)):bQ:=⟨eA QZ (v9 vs 0),av (v9 vs 2),av (v9 vs 3),av (v9 vs 4)⟩
def kz:aB:=⟨[(0,w9 (n9 111)),(1,⟨false,[.lit (.fn (.func 172) [] [])]⟩),(4,w9 i9),(7,w9 i9),(8,w9 i9)],[],[]⟩
def qw:=rk9 [(172,w6)] [] 210 26 kz
def db (x:bQ):ba bQ:=(cond (decide (x.t8 < x.t7)) (cond ((decide (0<=x.t8))&&(decide (x.t8 < (x.s.n:Int)))) (cond (decide ((x.s.get (Int.toNat x.t8)).gen < 1)) (.out aA.aa.ret ⟨x.s,x.t8,x.t7,x.t8⟩) (cond (decide ((x.s.get (Int.toNat x.t8)).gen > 1073741824)) (.out aA.aa.ret ⟨x.s,x.t8,x.t7,x.t8⟩) (.next ⟨x.s,x.t4,x.t7,(bR (x.t8+1))⟩))) .fail) (.out (aA.aa.exit 0) x))
theorem pB (x:bQ):qw (gw x) (gx x)=ba.enc gw gx (db x):=by
 unfold db
 try simp only [ba.dr]
 kernel_rfl
def kC:Lp:=⟨210,26,kz,fun vs rs=>eE gw gx (goN db (ke vs rs)) [aA.aa.exit 0,aA.aa.ret],false⟩
theorem qx:kC.Ok PG:=zZ (aw.cons zu aw.nil) bP.nil (pa:=ke) pB
def pC (a:lX):=goN db ⟨a.cu,0,(a.cu.n:Int),0⟩
def dz (a:lX):Option (Int):=(cond (decide ((a.cu.n:Int) > 128)) (some (8)) (cond ((pC a).by (aA.aa.exit 0)) (some (0)) (cond ((pC a).by aA.aa.ret) (cond (decide ((pC a).st.t4 >= 0)) (some (8)) (some (0))) none)))
theorem Q0 (a:lX):W8 [(172,w6)] [kC] 120 [rN a] = (dz a).map (kI .i64):=by
 unfold dz
 try simp only [cK]
 kernel_rfl
def Jf:List KV->KR KV:=cJ PG 120 (cU (kI .i64) fun vs=>dz (Kt (v9 vs 0)))
theorem Dn:cB PG 120 Jf:=ir (aw.cons zu aw.nil) (qP qx bP.nil) fun w=>Q0 (Kt (g0 24 (w 0)))
structure Handle where
 slot:Int
 gen:Int
instance:Inhabited Handle:=⟨⟨default,default⟩⟩
def VI (x:Handle):List KV:=[.int .i64 x.slot,.int .i64 x.gen]
def jL (x:Handle):KV:=.agg (VI x)
def VJ (c:Nat->KV):Handle:=⟨av (c 0),av (c 1)⟩
def jM (v:KV):Handle:=VJ fun k=>v.cells.getD k .bx
theorem M6 (x:Handle):jM (jL x)=x:=rfl
theorem VL:jM .bx=default:=rfl
theorem GU (s:Sl Handle) (v:Handle):s.push v=ni jM (s.n+1) (dU s.n (fun i=>jL (s.get i)) (qk [jL v])):=(Ks M6 VL s v).symm
theorem aco (l:List Handle):Sl.lit l=ni jM l.length (qk (l.map jL)):=(VF M6 VL l).symm
theorem acp (m n n' : Nat) (acc fg:Nat->KV):ni jM m (dU n (fun i=>jL ((ni jM n' acc).get i)) fg)=ni jM m (dU n acc fg):=VG M6 ..
def jX (a:lX) (h:Handle):Option (Bool):=(cond (decide (h.slot >= 0)) (cond (decide (h.slot < (a.cu.n:Int))) (cond ((decide (0<=h.slot))&&(decide (h.slot < (a.cu.n:Int)))) (some ((((a.cu.get (Int.toNat h.slot)).gen==h.gen)&&(((a.cu.get (Int.toNat h.slot)).live==true)&&true)))) none) (some (false))) (some (false)))
theorem SW (a:lX) (h:Handle):W8 [] [] 128 [rN a,jL h] = (jX a h).map kB:=by
 unfold jX
 try simp only [cK]
 kernel_rfl
def LJ:List KV->KR KV:=cJ PG 128 (cU kB fun vs=>jX (Kt (v9 vs 0)) (jM (v9 vs 1)))
theorem Q1:cB PG 128 LJ:=ir aw.nil bP.nil fun w=>SW (Kt (g0 24 (w 0))) (jM (g0 32 (w 1)))
def pD (a:lX) (h:Handle):=dz a
def pE (a:lX) (h:Handle):=jX a h
def de (a:lX) (h:Handle):Option (Bool):=(cond (pD a h).isSome (cond (((pD a h).getD default)==0) (cond (pE a h).isSome (some (((pE a h).getD default))) none) (some (false))) none)
theorem Q2 (a:lX) (h:Handle):W8 [(128,LJ),(120,Jf)] [] 77 [rN a,jL h] = (de a h).map kB:=by
 unfold de
 try simp only [cK]
 kernel_rfl
def sq:List KV->KR KV:=cJ PG 77 (cU kB fun vs=>de (Kt (v9 vs 0)) (jM (v9 vs 1)))
theorem ou:cB PG 77 sq:=ir (aw.cons Q1 (aw.cons Dn aw.nil)) bP.nil fun w=>Q2 (Kt (g0 24 (w 0))) (jM (g0 32 (w 1)))
end
end Go.Proofs.YtckbdndhmcoihaaGreat.b
end
