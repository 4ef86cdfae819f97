/- Part of the proof of WorldLevels: the machine, shown to be the model's, and plain models. No conditions. -/
import Derived.Test.YtckbdndhmcoihaaFp
import Derived.SizedLaws
import Derived.OpenShut
import Derived.ChangeArms
import Derived.WideShapes
import Derived.Below
import Derived.KernelRfl
import Derived.Test.YtckbdndhmcoihaaProg
import Derived.WalkKit
import Derived.Lib.Walk
import Derived.Lib.SliceRun
import Derived.Shelf.SlicesQ.Load
import Derived.Shelf.GgClosure.Gives
import Derived.MapKept
import Derived.Deep.RegionWith
set_option linter.unusedSimpArgs false
set_option linter.unusedVariables false
section
namespace Go.K
open Go Go.aG
variable {P:Program} {E:Env}
structure yu (P:Program) (S:aJ) (vs:List KV) (rs:List (List KV)):Prop where
 v:eO S.dC vs=true
 rL:rs.length=S.rows.length
 uT:∀ (k:Nat) p r,S.rows[k]? = some p->rs[k]? = some r->dh p.2.1 r=true
 vn:∃ t A,vs=od P t A S.dC
 rn:∀ (k:Nat) p,S.rows[k]? = some p->∃ A lY,rs[k]? = some (eN P A p.2.1 lY)/\lY.length=p.2.1.length
theorem dq.IG {S:aJ} {t:bd} {A:ae} {g:GR} (h:dq P S t A g):yu P S g.vs g.rs:=
 ⟨h.dC,h.rL,h.uT,⟨t,A,h.vs⟩,fun _ _ hp=>by obtain ⟨_,cs,_,_,h1,_,h2,_⟩:=h.row hp; exact ⟨A,cs,h2,h1⟩⟩
section
variable {cfg:dD} {L n:Nat} {f:FuncId} {S:aJ} {root body:Code} {p N:Nat}
theorem ah2 (hP:P.funcs.toList.all kx=true) (hm:P.follows .mixedOrders=true) (eW:rp P cfg.pc) (iB:vF P cfg) {fn:Func} (hf:P.funcs[f]? = some fn) (hb:fn.body=some root) (hs:Sub root p (.loop body)) (hc:codeOk N body=true)
  {vs b7:List KV} {rs iC:List (List KV)} {e:ah} (hr:E6 P cfg L n f p body S vs rs=some (e,b7,iC)) {B:St} {ρ:Ren} {base:Nat} {a:Act} {w:World} {Q:Exit->Act->World->Prop} (cL:yu P S vs rs)
  (ht:iR P E ρ (S.tm S.nr S.ids vs) N a) (hj:KJ P E (S.mem P vs rs) B ρ base w)
  (hq:∀ E' B' aF a' w',iR P E' aF (S.tm S.nr S.ids b7) N a'->a'.defers=a.defers->KJ P E' (S.mem P b7 iC) B' aF base w'->Co base E (S.mem P vs rs) B ρ w E' (S.mem P b7 iC) B' aF w'->(∀ k,k < S.rows.length->E'.κ k=E.κ k)->yu P S b7 iC->Q e.out a' w'):body.wp P Q a w:=by
 have tZ:=uC (R:=ah×List KV×List (List KV)) hP hm eW iB L n;refine il eW tZ hm (iB.2 f fn root hf hb) body (2 * p) hs.loop hc _ _ _ _ E B ρ base a w Q hr ht hj fun e' t' E1 A1 B1 kD a1 w1 h1 h2 h3 h4=>?_;cases hi:vH (S.dp P t' A1).bs S.ids with
 | false=>
  simp only [hi,aI] at h1;exact absurd h1 (by simp)
 | true=>
  simp only [hi,aj] at h1;cases ho:(S.dp P t' A1).ok with
  | false=>simp only [ho] at h1; exact absurd h1 (by simp)
  | true=>
   simp only [ho,bM,du] at h1;obtain ⟨rfl,rfl,rfl⟩:=h1;have hG:=Fx ho;have agb:=JZ hi;refine hq _ B1 kD a1 w1 (hG.tkr h2) h3 ⟨hG.fT h4.fT,h4.eH.fT⟩ (h4.co hG) (fun k hk=>?_) hG.IG;have hp:=cI hk;have hr':=cI (show k < rs.length by rw [cL.rL]; exact hk);obtain ⟨x,_,hx,_⟩:=hj.k.row k _ _ (mem_row cL.rL hp hr');have e1:(E1.sub A1 (S.dp P t' A1).bs (S.dp P t' A1).fs S.nr).κ k=E1.κ k:=by
    simp only [Env.sub];rw [agb,IA S k hk,dN]
   rw [e1,hx];exact h4.le.κ k x hx
theorem ac9 (hP:P.funcs.toList.all kx=true) (hm:P.follows .mixedOrders=true) (eW:rp P cfg.pc) (iB:vF P cfg) {fn:Func} (hf:P.funcs[f]? = some fn) (hb:fn.body=some root) (hs:Sub root p (.loop body)) (hc:codeOk N body=true)
  {e:ah} {b7:List KV} {iC:List (List KV)} : ∀ (m:Nat) {vs:List KV} {rs:List (List KV)},vI (E6 P cfg L n f p body S) m vs rs=some (e,b7,iC)->∀ {E:Env} {B:St} {ρ:Ren} {base:Nat} {a:Act} {w:World} {Q:Exit->Act->World->Prop},yu P S vs rs->
  iR P E ρ (S.tm S.nr S.ids vs) N a->KJ P E (S.mem P vs rs) B ρ base w->
  (∀ E' B' aF a' w',iR P E' aF (S.tm S.nr S.ids b7) N a'->a'.defers=a.defers->KJ P E' (S.mem P b7 iC) B' aF base w'->Co base E (S.mem P vs rs) B ρ w E' (S.mem P b7 iC) B' aF w'->(∀ k,k < S.rows.length->E'.κ k=E.κ k)->yu P S b7 iC->Q e.out a' w')->Code.rounds P body Q m a w
 | 0,vs,rs,h,E,B,ρ,base,a,w,Q,cL,ht,hj,hq=>by simp [vI] at h
 | m+1,vs,rs,h,E,B,ρ,base,a,w,Q,cL,ht,hj,hq=>by
  unfold vI at h;split at h
  ·rename_i e1 vs1 rs1 hr
   rw [rounds_succ];refine ah2 hP hm eW iB hf hb hs hc hr cL ht hj fun E' B' aF a' w' h1 h2 h3 h4 h5 h6=>?_;have fin:mB e1=false->some (e1,vs1,rs1)=some (e,b7,iC)->Q e1.out a' w':=by
    intro _ h;simp only [bM,du] at h;obtain ⟨rfl,rfl,rfl⟩:=h;exact hq E' B' aF a' w' h1 h2 h3 h4 h5 h6
   cases e1 with
   | normal=>
    have h:vI (E6 P cfg L n f p body S) m vs1 rs1=some (e,b7,iC):=h;exact ac9 hP hm eW iB hf hb hs hc m h h6 h1 h3 fun Hh Il vo SF G3 q1 q2 q3 q4 q5 q6=>hq Hh Il vo SF G3 q1 (q2.trans h2) q3 (h4.trans q4) (fun k hk=>(q5 k hk).trans (h5 k hk)) q6
   | exit id=>exact fin rfl h
   | goto l=>exact fin rfl h
   | ret=>exact fin rfl h
  ·simp at h
theorem QH {R:Type} {bs:List Nat} {fs:List (Option Nat)} {A:ae} {k:KE R} {r:R} : ∀ (x:wL),(x.tell P S bs fs A).run k=some r->∃ e b7 iC,x.ev=some (e,b7,iC)/\k e (S.tm A.next bs b7) (S.back P bs fs b7 iC A)=some r
 | .no,h=>absurd h (by simp [wL.tell,wq.run])
 | .out e vs rs,h=>⟨e,vs,rs,rfl,h⟩
 | .br c x y,h=>by
  have h:Bool.rec (motive:=fun _=>Option R) ((y.tell P S bs fs A).run k) ((x.tell P S bs fs A).run k) c=some r:=h;cases c with
  | true=>exact QH x h
  | false=>exact QH y h
theorem ah3 (hP:P.funcs.toList.all kx=true) (hm:P.follows .mixedOrders=true) (eW:rp P cfg.pc) (iB:vF P cfg) {fn:Func} (hf:P.funcs[f]? = some fn) (hb:fn.body=some root) (hs:Sub root p (.loop body)) (hc:codeOk N body=true) {F:LFn}
  (hF:∀ vs rs e b7 iC,yu P S vs rs->(F vs rs).ev=some (e,b7,iC)->vI (E6 P cfg L n f p body S) gK vs rs=some (e,b7,iC)):QA P N body (Uu P S F):=by
 intro R k r t A E B ρ base a w Q h ht hj hq;cases hpe:S.al7 t A with
 | true=>
  unfold Sq Uu at h;rw [hpe] at h;exact absurd h (by simp [wq.run])
 | false=>
 have h:Sq (Uu P S F) k t A=some r:=h;unfold Sq Uu at h;rw [hpe,aI] at h;have h:Bool.rec (motive:=fun _=>Option R) none (((F (S.dp P t A).vs (S.dp P t A).rs).tell P S (S.dp P t A).bs (S.dp P t A).fs A).run k) (S.dp P t A).ok=some r:=h;cases ho:(S.dp P t A).ok with
 | false=>rw [ho] at h; exact absurd h (by simp)
 | true=>
  rw [ho] at h;have hG:=Fx ho;obtain ⟨e,b7,iC,h9,pn⟩:=QH _ h;have OJ:=hF _ _ e b7 iC hG.IG h9;refine ac9 hP hm eW iB hf hb hs hc gK OJ hG.IG (hG.tkr ht) ⟨hG.fT hj.k,hj.s⟩ fun E' B' aF a' w' q1 q2 q3 q4 q5 q6=>?_;obtain ⟨E2,r1,r2⟩:=restore hG hj.k q1 q3.k q4 q5 q6.v q6.rL q6.uT;exact hq e _ E2 _ B' aF a' w' pn r1 q2 r2
end
end Go.K
end
section
namespace Go.K
open Go Go.aG
variable {P:Program} {E:Env}
def Env.re (E:Env) (f n:Nat):Env:={ κ:=E.κ,z:=E.z,φ:=E.φ,α:=fun b=>if b=f then E.α n else E.α b }
theorem Env.aml {f n:Nat} (h:∀ p,E.α f=some p->E.α n=some p):E.le (E.re f n):=⟨fun b p e=>by
 simp only [Env.re];split
 ·rename_i e1; subst e1; exact h p e
 ·exact e,fun _ _ e=>e,fun _ _ e=>e,fun _ _ e=>e⟩
theorem Env.ah4 {f n:Nat} : (E.re f n).α f=E.α n:=by simp [Env.re]
theorem Env.Es {f n b:Nat} (h:b≠f):(E.re f n).α b=E.α b:=by simp [Env.re,h]
theorem dr.swap {A:ae} {B:St} {f n:Nat} {v:KV} (h:dr P E A B) (hf:A.get f=some .dead) (hn:A.get n=some (.arr v)) (JA:E.κ f=none) (tV:∀ p,E.α f=some p->E.α n=some p) :
  dr P (E.re f n) ((A.put f (.arr v)).put n .dead) B/\(∀ x,AR ((A.put f (.arr v)).put n .dead) (E.re f n) x->AR A E x)/\∀ g,AF ((A.put f (.arr v)).put n .dead) (E.re f n) B g->AF A E B g:=by
 have cH:f≠n:=fun e=>by rw [e,hn] at hf; simp at hf
 have hle:=Env.aml tV;have fH:∀ b o,((A.put f (.arr v)).put n .dead).get b=some o->(b=n/\o = .dead)\/(b=f/\o = .arr v)\/(b≠f/\b≠n/\A.get b=some o):=fun b o hb=>by
  rw [ae.bA] at hb;split at hb
  ·rename_i e; simp at hb; exact .inl ⟨e,hb.symm⟩
  ·rename_i e
   rw [ae.bA] at hb;split at hb
   ·rename_i e2; simp at hb; exact .inr (.inl ⟨e2,hb.symm⟩)
   ·rename_i e2; exact .inr (.inr ⟨e2,e,hb⟩)
 have hA:∀ b u,((A.put f (.arr v)).put n .dead).get b=some (.arr u)->∃ c,A.get c=some (.arr u)/\(E.re f n).α b=E.α c/\((b=f/\c=n)\/(b≠f/\b≠n/\c=b)):=fun b u hb=>by
  rcases fH b _ hb with ⟨_,e⟩ | ⟨e,e2⟩ | ⟨e,e2,e3⟩
  ·simp at e
  ·simp at e2; subst e2 e; exact ⟨n,hn,Env.ah4,.inl ⟨rfl,rfl⟩⟩
  ·exact ⟨b,e3,Env.Es e,.inr ⟨e,e2,rfl⟩⟩
 have aaD:∀ {b c d:Nat},((b=f/\d=n)\/(b≠f/\b≠n/\d=b))->((c=f/\d=n)\/(c≠f/\c≠n/\d=c))->b=c:=fun h1 h2=>by
  rcases h1 with ⟨a1,a2⟩ | ⟨a1,a2,a3⟩ <;> rcases h2 with ⟨b1,b2⟩ | ⟨b1,b2,b3⟩ <;> omega
 have r6:∀ x,AR ((A.put f (.arr v)).put n .dead) (E.re f n) x->AR A E x:=fun x ⟨b,u,L,N,h1,h2⟩=>by
  obtain ⟨c,h3,h4,_⟩:=hA b u h1;exact ⟨c,u,L,N,h3,by rw [<- h4]; exact h2⟩
 have KO:∀ g,AF ((A.put f (.arr v)).put n .dead) (E.re f n) B g->AF A E B g:=fun g ⟨b,u,x,L,N,cs,e,own,k,h1,h2,h3⟩=>by
  obtain ⟨c,h4,h5,_⟩:=hA b u h1;exact ⟨c,u,x,L,N,cs,e,own,k,h4,by rw [<- h5]; exact h2,h3⟩
 have hold:∀ b o,((A.put f (.arr v)).put n .dead).get b=some o->b < A.next:=fun b o hb=>by
  rcases fH b _ hb with ⟨e,_⟩ | ⟨e,_⟩ | ⟨_,_,e⟩
  ·rw [e]; exact h.live n _ hn
  ·rw [e]; exact h.live f _ hf
  ·exact h.live b o e
 refine ⟨⟨fun b cs bp hb=>?_,fun b top sz hb=>?_,h.z,h.apart,h.inj,fun b c g tb sb tc sc hb hc=>?_,h.jI,h.kK,hold,h.eV,h.lB,h.ik,h.fresh,h.mem,?_⟩,r6,KO⟩
 ·rcases fH b _ hb with ⟨_,e⟩ | ⟨_,e⟩ | ⟨_,_,e⟩
  ·simp at e
  ·simp at e
  ·obtain ⟨x,bL,h1,h2,h3⟩:=h.row b cs bp e
   exact ⟨x,bL,h1,h2,h3.mono hle⟩
 ·rcases fH b _ hb with ⟨_,e⟩ | ⟨_,e⟩ | ⟨_,_,e⟩
  ·simp at e
  ·simp at e
  ·exact h.aP b top sz e
 ·rcases fH b _ hb with ⟨_,e⟩ | ⟨_,e⟩ | ⟨_,_,hb⟩
  ·simp at e
  ·simp at e
  rcases fH c _ hc with ⟨_,e⟩ | ⟨_,e⟩ | ⟨_,_,hc⟩
  ·simp at e
  ·simp at e
  exact h.gz b c g tb sb tc sc hb hc
 ·refine ⟨fun b u hb=>?_,fun b u hb=>?_,fun x q=>h.ar.z x (r6 x q),fun b c u u' x L N L' N' h1 h2 h3 h4=>?_,fun b c u u' x y L N L' N' cs e own g k bL e' rm k' h1 h2 h3 h4 h5 h6=>?_,fun b x e=>?_,fun b p e=>?_,fun b x L N e=>?_,fun b u x L N cs e own g k h1 h2 h3=>?_,fun b u hb=>?_⟩
  ·obtain ⟨c,h1,h2,_⟩:=hA b u hb
   obtain ⟨T,N,es,acc,q1,q2,q3,q4⟩:=h.ar.arr c u h1;refine ⟨T,N,es,acc,q1,q2,q3,?_⟩;rw [h2];exact q4.imp id fun ⟨x,cs,bK,bh,r1,r2,r3,r4⟩=>⟨x,cs,bK,bh,r1,r2,r3.mono hle,r4⟩
  ·rcases fH b _ hb with ⟨_,e⟩ | ⟨_,e⟩ | ⟨e1,_,e⟩
   ·simp at e
   ·simp at e
   ·exact (h.ar.iA b u e).mono hle (Env.Es e1)
  ·obtain ⟨b',k1,k2,k3⟩:=hA b u h1
   obtain ⟨c',l1,l2,l3⟩:=hA c u' h2;rw [k2] at h3; rw [l2] at h4;have:=h.ar.inj b' c' u u' x L N L' N' k1 l1 h3 h4;subst this;exact aaD k3 l3
  ·obtain ⟨b',k1,k2,k3⟩:=hA b u h1
   obtain ⟨c',l1,l2,l3⟩:=hA c u' h2;rw [k2] at h3; rw [l2] at h4;have:=h.ar.xh b' c' u u' x y L N L' N' cs e own g k bL e' rm k' k1 l1 h3 h4 h5 h6;subst this;exact aaD k3 l3
  ·have hb:b≠f:=fun e2=>by rw [e2] at e; rw [show (E.re f n).κ f=E.κ f from rfl,JA] at e; simp at e
   rw [Env.Es hb];exact h.ar.Z6 b x e
  ·by_cases hb:b=f
   ·rw [hb]; exact h.live f _ hf
   ·rw [Env.Es hb] at e; exact h.ar.jI b p e
  ·by_cases hb:b=f
   ·rw [hb,Env.ah4] at e; exact h.ar.eV n x L N e
   ·rw [Env.Es hb] at e; exact h.ar.eV b x L N e
  ·obtain ⟨c,k1,k2,_⟩:=hA b u h1
   rw [k2] at h2;obtain ⟨q1,q2,q3⟩:=h.ar.vy c u x L N cs e own g k k1 h2 h3;exact ⟨q1,q2,fun y hy hy2=>⟨(q3 y hy hy2).1,fun q=>(q3 y hy hy2).2.1 (r6 y q),(q3 y hy hy2).2.2⟩⟩
  ·refine ⟨hold b _ hb,?_⟩
   rcases fH b _ hb with ⟨_,e⟩ | ⟨e,_⟩ | ⟨_,_,e⟩
   ·simp at e
   ·rw [e]; exact JA
   ·exact (h.ar.nk b u e).2
structure Sw (E:Env) (A:ae) (B:St) (E' : Env) (A' : ae):Prop where
 le:E.le E'
 κ:E'.κ=E.κ
 z:E'.z=E.z
 φ:E'.φ=E.φ
 next:A'.next=A.next
 ar:∀ x,AR A' E' x->AR A E x
 af:∀ g,AF A' E' B g->AF A E B g
 CW:∀ b,A.get b=some wu->A'.get b=some wu
theorem Sw.refl {A:ae} {B:St} : Sw E A B E A:=⟨Env.le_refl _,rfl,rfl,rfl,rfl,fun _ h=>h,fun _ h=>h,fun _ h=>h⟩
theorem Sw.trans {E1 E2 E3:Env} {A1 A2 A3:ae} {B:St} (h:Sw E1 A1 B E2 A2) (k:Sw E2 A2 B E3 A3):Sw E1 A1 B E3 A3:=
 ⟨Env.le_trans h.le k.le,k.κ.trans h.κ,k.z.trans h.z,k.φ.trans h.φ,k.next.trans h.next,fun x q=>h.ar x (k.ar x q),fun g q=>h.af g (k.af g q),fun b q=>k.CW b (h.CW b q)⟩
theorem Ev.sw {base:Nat} {E1 E2 E3:Env} {A1 A2 A3:ae} {B1 B2:St} {kD xk:Ren} {w1 w2:World} (h:Ev P base E1 A1 B1 kD w1 E2 A2 B2 xk w2) (hk:dr P E3 A3 B2) (k:Sw E2 A2 B2 E3 A3):Ev P base E1 A1 B1 kD w1 E3 A3 B2 xk w2 where
 fT:=hk
 eH:=h.eH
 le:=Env.le_trans h.le k.le
 next:=by rw [k.next]; exact h.next
 dP:=h.dP
 new b x e:=h.new b x (by rw [<- k.κ]; exact e)
 tW b r e:=h.tW b r (by rw [<- k.z]; exact e)
 se b g e:=h.se b g (by rw [<- k.φ]; exact e)
 oU:=h.oU
 kq x q:=h.kq x (k.ar x q)
 kL g q:=h.kL g (k.af g q)
 vz:=h.vz
 lZ y q:=h.lZ y (q.imp (k.ar y) fun ⟨g,q1,q2⟩=>⟨g,k.af g q1,q2⟩)
 rows:=h.rows
 CW b q:=k.CW b (h.CW b q)
noncomputable section
def amm (A:ae) (f j:Nat) (o:gT):ae:=
 match o with
 | .arr v=>(A.put f (.arr v)).put j .dead
 | _=>A
def Hl (A:ae):List (Option Nat)->Nat->List gT->ae
 | some f::fs,j,o::os=>Hl (amm A f j o) fs (Nat.succ j) os
 | none::fs,j,_::os=>Hl A fs (Nat.succ j) os
 | _,_,_=>A
structure ada (E:Env) (A:ae) (fs:List (Option Nat)) (j:Nat) (os:List gT):Prop where
 one:∀ (i:Nat) f v,fs[i]? = some (some f)->os[i]? = some (.arr v)->A.get f=some .dead/\E.κ f=none/\A.get (j+i)=some (.arr v)/\∀ p,E.α f=some p->E.α (j+i)=some p
 lt:∀ (i f:Nat),fs[i]? = some (some f)->f < j
 nodup:∀ (i k f:Nat),fs[i]? = some (some f)->fs[k]? = some (some f)->i=k
theorem ada.tail {E1:Env} {A A1:ae} {x:Option Nat} {o:gT} {fs:List (Option Nat)} {os:List gT} {j:Nat} (h:ada E A (x::fs) j (o::os)) (tV:∀ b,x≠some b->E1.α b=E.α b) (JA:E1.κ=E.κ) (hg:∀ b,x≠some b->b≠j->A1.get b=A.get b):ada E1 A1 fs (Nat.succ j) os where
 one i f v e1 e2:=by
  obtain ⟨h1,h3,h4,h5⟩:=h.one (i+1) f v (by simpa using e1) (by simpa using e2);have bj:=h.lt (i+1) f (by simpa using e1);rw [show j+(i+1)=Nat.succ j+i by omega] at h4 h5;have hf:x≠some f:=fun e=>by have:=h.nodup (i+1) 0 f (by simpa using e1) (by simp [e]); omega
  have hn:x≠some (Nat.succ j+i):=fun e=>by have:=h.lt 0 (Nat.succ j+i) (by simp [e]); omega
  exact ⟨by rw [hg f hf (by omega)]; exact h1,by rw [JA]; exact h3,by rw [hg _ hn (by omega)]; exact h4,fun p e=>by rw [tV f hf] at e; rw [tV _ hn]; exact h5 p e⟩
 lt i f e:=by have:=h.lt (i+1) f (by simpa using e); omega
 nodup i k f e1 e2:=by have:=h.nodup (i+1) (k+1) f (by simpa using e1) (by simpa using e2); omega
theorem Wt {B:St} : ∀ {fs:List (Option Nat)} {os:List gT} {j:Nat} {E:Env} {A:ae},dr P E A B->ada E A fs j os->∃ E',dr P E' (Hl A fs j os) B/\Sw E A B E' (Hl A fs j os)/\
  (∀ (i:Nat) f v,fs[i]? = some (some f)->os[i]? = some (.arr v)->E'.α f=E.α (j+i))/\(∀ b,(∀ i:Nat,fs[i]?≠some (some b))->E'.α b=E.α b)
 | [],os,j,E,A,h,_=>⟨E,h,.refl,fun i f v e=>by simp at e,fun _ _=>rfl⟩
 | x::fs,[],j,E,A,h,_=>⟨E,by cases x <;> exact h,by cases x <;> exact .refl,fun i f v _ e=>by simp at e,fun _ _=>rfl⟩
 | none::fs,o::os,j,E,A,h,ho=>by
  obtain ⟨E',h1,h2,h3,h4⟩:=Wt h (ho.tail (fun _ _=>rfl) rfl fun _ _ _=>rfl);refine ⟨E',h1,h2,fun i f v e1 e2=>?_,fun b hb=>h4 b fun i=>by have:=hb (i+1); simpa using this⟩;cases i with
  | zero=>simp at e1
  | succ i=>
   rw [h3 i f v (by simpa using e1) (by simpa using e2)];congr 1;omega
 | some f0::fs,o::os,j,E,A,h,ho=>by
  have apV:∀ i:Nat,fs[i]?≠some (some f0):=fun i e=>by have:=ho.nodup (i+1) 0 f0 (by simpa using e) (by simp); omega
  have step:∀ {E1:Env} {A1:ae},dr P E1 A1 B->Sw E A B E1 A1->amm A f0 j o=A1->(∀ b,b≠f0->E1.α b=E.α b)->(∀ v,o = .arr v->E1.α f0=E.α j)->ada E1 A1 fs (Nat.succ j) os->
    ∃ E',dr P E' (Hl A (some f0::fs) j (o::os)) B/\Sw E A B E' (Hl A (some f0::fs) j (o::os))/\(∀ (i:Nat) f v,(some f0::fs)[i]? = some (some f)->(o::os)[i]? = some (.arr v)->E'.α f=E.α (j+i))/\(∀ b,(∀ i:Nat,(some f0::fs)[i]?≠some (some b))->E'.α b=E.α b):=by
   intro E1 A1 k1 k2 k3 k4 k5 k6;obtain ⟨E',h1,h2,h3,h4⟩:=Wt k1 k6;have e0:Hl A (some f0::fs) j (o::os)=Hl A1 fs (Nat.succ j) os:=by rw [<- k3]; rfl
   rw [e0];refine ⟨E',h1,k2.trans h2,fun i f v e1 e2=>?_,fun b hb=>?_⟩
   ·cases i with
    | zero=>
     simp at e1 e2;subst e1;rw [h4 f0 apV];exact k5 v e2
    | succ i=>
     rw [h3 i f v (by simpa using e1) (by simpa using e2),k4 _ fun e=>by have:=ho.lt 0 f0 (by simp); omega];congr 1;omega
   ·rw [h4 b fun i=>by have:=hb (i+1); simpa using this]
    exact k4 b fun e=>hb 0 (by simp [e])
  cases o with
  | arr v=>
   obtain ⟨h1,h2,h3,h4⟩:=ho.one 0 f0 v (by simp) (by simp);obtain ⟨q1,q2,q3⟩:=h.swap (n:=j) h1 h3 h2 h4;have nU:∀ b,some f0≠some b->b≠j->((A.put f0 (.arr v)).put j .dead).get b=A.get b:=fun b e1 e2=>by
    rw [ae.bA,aa e2,ae.bA,aa fun e=>e1 (by rw [e])]
   exact step q1 ⟨Env.aml h4,rfl,rfl,rfl,by rw [ae.sv,ae.sv],q2,q3,fun b hb=>oV (A:=A.put f0 (.arr v)) (o:=.arr v) (by rw [ae.bA,aa fun e=>by have h3:A.get j=some (.arr v):=h3; rw [<- e,h3] at h1; simp at h1]; exact h3) (by simp) b (oV h1 (by simp) b hb)⟩ rfl (fun b hb=>Env.Es hb) (fun _ _=>Env.ah4) (ho.tail (fun b hb=>Env.Es fun e=>hb (by rw [e])) rfl nU)
  | _=>exact step h .refl rfl (fun _ _=>rfl) (fun v e=>by simp at e) (ho.tail (fun _ _=>rfl) rfl fun _ _ _=>rfl)
def rnB (fs:List (Option Nat)) (nx b:Nat):Nat:=cond (Nat.ble nx b) (match acL (b - nx) fs with
 | some (some f)=>f
 | _=>b) b
def rn1 (fs:List (Option Nat)) (nx:Nat) (v:KV):KV:=
 match v with
 | .al t b o n=>.al t (rnB fs nx b) o n
 | v=>v
def ajE (fs:List (Option Nat)) (nx:Nat):List KV->List KV
 | []=>[]
 | v::vs=>rn1 fs nx v::ajE fs nx vs
def rnV (fs:List (Option Nat)) (nx:Nat) (v:KV):KV:=
 match v with
 | .agg cs=>.agg (ajE fs nx cs)
 | v=>rn1 fs nx v
def amn (fs:List (Option Nat)) (nx:Nat):List (Nat×KV)->List (Nat×KV)
 | []=>[]
 | q::qs=>(q.1,rnV fs nx q.2)::amn fs nx qs
def aaS (E1 E2:Env) (fs:List (Option Nat)) (nx:Nat):Prop:=E1.le E2/\∀ (i f:Nat),fs[i]? = some (some f)->∀ p,E1.α (nx+i)=some p->E2.α f=some p
theorem ant {E1 E2:Env} {fs:List (Option Nat)} {nx b:Nat} (h:aaS E1 E2 fs nx) {p:Nat×Nat×Nat} (e:E1.α b=some p):E2.α (rnB fs nx b)=some p:=by
 unfold rnB;cases hb:Nat.ble nx b with
 | false=>exact h.1.α b p e
 | true=>
  simp only [aj];have hb:=dX hb;rw [aaa];split
  ·rename_i f hf
   exact h.2 _ f hf p (by rw [show nx+(b - nx)=b by omega]; exact e)
  ·exact h.1.α b p e
theorem ajF {E1 E2:Env} {fs:List (Option Nat)} {nx:Nat} (h:aaS E1 E2 fs nx) {v:KV} {u:Value} (hv:VK P E1 v u):VK P E2 (rn1 fs nx v) u:=by
 unfold rn1;split
 ·rename_i t b o n
  refine .O2 ?_;rcases hv.yp with q | ⟨x,L,N,c,q1,q2⟩
  ·exact .inl q
  ·exact .inr ⟨x,L,N,c,ant h q1,q2⟩
 ·exact hv.mono h.1
theorem aaT {E1 E2:Env} {fs:List (Option Nat)} {nx:Nat} (h:aaS E1 E2 fs nx):∀ {vs:List KV} {us:List Value},aV P E1 vs us->aV P E2 (ajE fs nx vs) us
 | [],us,hv=>by rw [hv.b5]; exact .nil
 | v::vs,us,hv=>by
  obtain ⟨u,us',rfl,h1,h2⟩:=hv.cons_inv;exact .cons (ajF h h1) (aaT h h2)
theorem anu {E1 E2:Env} {fs:List (Option Nat)} {nx:Nat} (h:aaS E1 E2 fs nx) {v:KV} {u:Value} (hv:VK P E1 v u):VK P E2 (rnV fs nx v) u:=by
 unfold rnV;split
 ·obtain ⟨m,rfl,h1⟩:=hv.kJ
  exact .rI (aaT h h1)
 ·exact ajF h hv
theorem XY {E1 E2:Env} {fs:List (Option Nat)} {nx:Nat} (h:aaS E1 E2 fs nx):∀ (l:List (Nat×KV)),ud P E1 E2 l (amn fs nx l)
 | []=>trivial
 | _::qs=>⟨rfl,fun _ hv=>anu h hv,XY h qs⟩
end
end Go.K
end
section
namespace Go.K
open Go Go.aG
variable {P:Program} {E:Env}
noncomputable section
def C9:List CD->List Bool
 | []=>[]
 | .aP _::ds=>false::C9 ds
 | .arr _::ds=>true::C9 ds
 | _::ds=>C9 ds
def Zb:List (Tmp×VD)->List Bool
 | []=>[]
 | p::ps=>C9 p.2.ks++Zb ps
def Zc:List (Tmp×List CD×Nat)->List Bool
 | []=>[]
 | p::ps=>C9 p.2.1++Zc ps
def aJ.kinds (S:aJ):List Bool:=Zb S.dC++Zc S.rows
def J2:gT->Bool
 | .arr _=>true
 | _=>false
theorem wM:∀ {ds:List CD} {vs:List KV},vs.length=ds.length->(oX P ds vs).map J2=C9 ds
 | [],[],_=>rfl
 | [],_::_,e=>by simp at e
 | _::_,[],e=>by simp at e
 | .k c::ds,v::vs,e=>by simp only [oX,C9]; exact wM (by simpa using e)
 | .lit w::ds,v::vs,e=>by simp only [oX,C9]; exact wM (by simpa using e)
 | .ref w::ds,v::vs,e=>by simp only [oX,C9]; exact wM (by simpa using e)
 | .aP t::ds,v::vs,e=>by simp only [oX,C9,List.map_cons,J2]; rw [wM (by simpa using e)]
 | .arr t::ds,v::vs,e=>by simp only [oX,C9,List.map_cons,J2]; rw [wM (by simpa using e)]
theorem UC:∀ {ps:List (Tmp×VD)} {vs:List KV},eO ps vs=true->(C4 P ps vs).map J2=Zb ps
 | [],[],_=>rfl
 | [],_::_,h=>by simp [eO] at h
 | _::_,[],h=>by simp [eO] at h
 | p::ps,v::vs,h=>by
  simp only [eO,aq] at h;simp only [C4,Zb,EO];rw [wM (Px h.1),UC h.2]
theorem UD:∀ {ps:List (Tmp×List CD×Nat)} {rs:List (List KV)},rs.length=ps.length->(∀ (k:Nat) p r,ps[k]? = some p->rs[k]? = some r->dh p.2.1 r=true)->(Eo P ps rs).map J2=Zc ps
 | [],[],_,_=>rfl
 | [],_::_,e,_=>by simp at e
 | _::_,[],e,_=>by simp at e
 | p::ps,r::rs,e,h=>by
  simp only [Eo,Zc,EO];rw [wM (C6 (h 0 p r rfl rfl)),UD (by simpa using e) fun k p r h1 h2=>h (k+1) p r h1 h2]
theorem XZ {S:aJ} {vs:List KV} {rs:List (List KV)} (hv:eO S.dC vs=true) (hl:rs.length=S.rows.length) (hg:∀ (k:Nat) p r,S.rows[k]? = some p->rs[k]? = some r->dh p.2.1 r=true):(S.lens P vs rs).map J2=S.kinds:=by
 rw [aJ.lens,EO,UC hv,UD hl hg]; rfl
theorem SY {S:aJ} {os:List gT} (h:os.map J2=S.kinds) {i:Nat} (hi:S.kinds[i]? = some true):∃ v,os[i]? = some (.arr v):=by
 rw [<- h,o8,ck] at hi;obtain ⟨o,h1,h2⟩:=hi;cases o <;> simp [J2] at h2;exact ⟨_,h1⟩
def yP:List Bool->List (Option Nat)->List (Option Nat)
 | true::ks,f::fs=>f::yP ks fs
 | false::ks,_::fs=>none::yP ks fs
 | _,_=>[]
theorem SZ:∀ {ks:List Bool} {fs:List (Option Nat)} {i f:Nat},(yP ks fs)[i]? = some (some f)->ks[i]? = some true/\fs[i]? = some (some f)
 | [],_,_,_,h=>by simp [yP] at h
 | true::_,[],_,_,h=>by simp [yP] at h
 | false::_,[],_,_,h=>by simp [yP] at h
 | true::ks,f::fs,0,_,h=>by simp [yP] at h; simp [h]
 | false::ks,f::fs,0,_,h=>by simp [yP] at h
 | true::ks,f::fs,i+1,_,h=>by simpa using SZ (ks:=ks) (fs:=fs) (i:=i) (by simpa [yP] using h)
 | false::ks,f::fs,i+1,_,h=>by simpa using SZ (ks:=ks) (fs:=fs) (i:=i) (by simpa [yP] using h)
def yQ:List Bool->List (Option Nat)->Nat->Bool
 | true::ks,some f::fs,j=>Nat.beq f j&&yQ ks fs (Nat.succ j)
 | true::_,none::_,_=>false
 | false::ks,_::fs,j=>yQ ks fs (Nat.succ j)
 | _,_,_=>true
theorem Nn:∀ {ks:List Bool} {fs:List (Option Nat)} {j i:Nat} {x:Option Nat},yQ ks fs j=true->ks[i]? = some true->fs[i]? = some x->x=some (j+i)
 | [],_,_,_,_,_,h,_=>by simp at h
 | _::_,[],_,_,_,_,_,h=>by simp at h
 | true::_,none::_,_,_,_,h,_,_=>by simp [yQ] at h
 | true::ks,some f::fs,j,0,x,h,_,e=>by
  simp only [yQ,aq] at h;simp at e;rw [<- e,aK h.1];rfl
 | false::ks,_::fs,j,0,x,_,h,_=>by simp at h
 | true::ks,some f::fs,j,i+1,x,h,h2,e=>by
  simp only [yQ,aq] at h;rw [Nn (i:=i) (x:=x) h.2 (by simpa using h2) (by simpa using e)];congr 1;omega
 | false::ks,_::fs,j,i+1,x,h,h2,e=>by
  rw [Nn (ks:=ks) (fs:=fs) (j:=Nat.succ j) (i:=i) (x:=x) (by simpa [yQ] using h) (by simpa using h2) (by simpa using e)];congr 1;omega
theorem QI {S:aJ} {vs:List KV} {rs:List (List KV)} (hv:eO S.dC vs=true) (hl:rs.length=S.rows.length) (hg:∀ (k:Nat) p r,S.rows[k]? = some p->rs[k]? = some r->dh p.2.1 r=true):(S.lens P vs rs).length=oe S.dC+(S.rows.map fun p=>ub p.2.1).sum:=by
 rw [aJ.lens,kv,E9 hv,KX hl hg rfl]
def aJ.gQ (S:aJ) (nx:Nat) (bs:List Nat) (fs:List (Option Nat)) (vs:List KV):bd:=iD (amn (yP S.kinds fs) nx (S.prs nx bs vs))
def aeu (fs:List (Option Nat)) (nx:Nat) (A:ae) (b:Nat):ae:=
 match A.get b with
 | some (.row cs bp)=>A.put b (.row (ajE fs nx cs) bp)
 | _=>A
def Zd (fs:List (Option Nat)) (nx:Nat):List Nat->ae->ae
 | [],A=>A
 | b::bs,A=>Zd fs nx bs (aeu fs nx A b)
theorem dr.aoY {A:ae} {B:St} (h:dr P E A B) {b:Nat} {cs ki:List KV} {bp:Nat} (hb:A.get b=some (.row cs bp)) (hc:∀ us,aV P E cs us->aV P E ki us):dr P E (A.put b (.row ki bp)) B/\Sw E A B E (A.put b (.row ki bp)):=by
 have fH:∀ c o,(A.put b (.row ki bp)).get c=some o->(c=b/\o = .row ki bp)\/A.get c=some o:=fun c o hg=>by
  rw [ae.bA] at hg;split at hg
  ·rename_i e; simp at hg; exact .inl ⟨e,hg.symm⟩
  ·exact .inr hg
 have rJ:∀ c v,(A.put b (.row ki bp)).get c=some (.arr v)->A.get c=some (.arr v):=fun c v hg=>by
  rcases fH c _ hg with ⟨_,e⟩ | e
  ·simp at e
  ·exact e
 have vr:∀ c t s,(A.put b (.row ki bp)).get c=some (.aP t s)->A.get c=some (.aP t s):=fun c t s hg=>by
  rcases fH c _ hg with ⟨_,e⟩ | e
  ·simp at e
  ·exact e
 refine ⟨⟨fun c bL e' hg=>?_,fun c t s hg=>h.aP c t s (vr _ _ _ hg),h.z,h.apart,h.inj,fun c d g tb sb tc sc h1 h2=>h.gz c d g tb sb tc sc (vr _ _ _ h1) (vr _ _ _ h2),h.jI,h.kK,fun c o hg=>?_,h.eV,h.lB,h.ik,h.fresh,h.mem,
  h.ar.dP (Env.le_refl _) (fun _=>rfl) rJ (fun c v hg=>?_) (aB _) (aB _) (fun _ _=>rfl) (fun _ _ e=>.inl e) (fun _ _ e=>.inl e) (fun _ g e=>.inl ⟨_,e⟩) (fun _ _=>rfl) h.mem⟩,
  ⟨Env.le_refl _,rfl,rfl,rfl,rfl,fun x ⟨c,v,L,N,h1,h2⟩=>⟨c,v,L,N,rJ _ _ h1,h2⟩,fun g ⟨c,v,x,L,N,cs,e,own,k,h1,h2⟩=>⟨c,v,x,L,N,cs,e,own,k,rJ _ _ h1,h2⟩,oV hb (by simp)⟩⟩
 ·rcases fH c _ hg with ⟨rfl,e⟩ | e
  ·simp at e
   obtain ⟨rfl,rfl⟩:=e;obtain ⟨x,us,h1,h2,h3⟩:=h.row _ _ _ hb;exact ⟨x,us,h1,h2,hc us h3⟩
  ·exact h.row c bL e' e
 ·rcases fH c _ hg with ⟨rfl,_⟩ | e
  ·exact h.live _ _ hb
  ·exact h.live c o e
 ·rcases fH c _ hg with ⟨_,e⟩ | e
  ·simp at e
  ·exact e
theorem aaU {B:St} {fs:List (Option Nat)} {nx:Nat} (hr:aaS E E fs nx):∀ (bs:List Nat) {A:ae},dr P E A B->dr P E (Zd fs nx bs A) B/\Sw E A B E (Zd fs nx bs A)
 | [],A,h=>⟨h,.refl⟩
 | b::bs,A,h=>by
  have h1:dr P E (aeu fs nx A b) B/\Sw E A B E (aeu fs nx A b):=by
   unfold aeu;split
   ·rename_i cs bp hb
    exact h.aoY hb fun us hv=>aaT hr hv
   ·exact ⟨h,.refl⟩
  obtain ⟨h2,h3⟩:=aaU hr bs h1.1;exact ⟨h2,h1.2.trans h3⟩
def aJ.aaV (S:aJ) (P:Program) (bs:List Nat) (fs:List (Option Nat)) (vs:List KV) (rs:List (List KV)) (A:ae):ae:=Zd (yP S.kinds fs) A.next bs (Hl (S.back P bs fs vs rs A) (yP S.kinds fs) A.next (S.lens P vs rs))
def ajG (S:aJ) (E E' : Env):Prop:=∀ (i:Nat) p,S.kinds[i]? = some true->E.α (S.nr+i)=some p->E'.α (S.nr+i)=some p
theorem adb {S:aJ} {t:bd} {A:ae} {B B1:St} {g:GR} {ρ kD:Ren} {base N:Nat} {w w1:World} {a1:Act} {vs:List KV} {rs:List (List KV)} {E1:Env} (hG:dq P S t A g) (hk:dr P E A B)
  (ht:iR P E1 kD (S.tm S.nr S.ids vs) N a1) (hs:dr P E1 (S.mem P vs rs) B1) (Ad:Co base (E.sub A g.bs g.fs S.nr) (S.mem P g.vs g.rs) B ρ w E1 (S.mem P vs rs) B1 kD w1) (JA:∀ k,k < S.rows.length->E1.κ k=(E.sub A g.bs g.fs S.nr).κ k)
  (hpl:ajG S (E.sub A g.bs g.fs S.nr) E1)
  (hv:eO S.dC vs=true) (OO:rs.length=S.rows.length) (hrg:∀ (k:Nat) p r,S.rows[k]? = some p->rs[k]? = some r->dh p.2.1 r=true) :
  ∃ E',iR P E' kD (S.gQ A.next g.bs g.fs vs) N a1/\Ev P base E A B ρ w E' (S.aaV P g.bs g.fs vs rs A) B1 kD w1:=by
 obtain ⟨ht0,sm⟩:=ac8 hG hk ht hs Ad JA hv OO hrg;have fU:(BT (pd A g.bs S.rows (S.Iz A.next g.bs rs)) g.fs).next=A.next:=by rw [JX,SS]
 have hlen:(S.lens P vs rs).length=g.fs.length:=by
  rw [QI hv OO hrg,hG.fs,uD,<- hG.lens,QI hG.dC hG.rL hG.uT]
 have hki:=XZ (P:=P) hv OO hrg;have hold:∀ (i:Nat) f,(yP S.kinds g.fs)[i]? = some (some f)->g.fs[i]? = some (some f)/\S.kinds[i]? = some true/\∃ u,A.get f=some (.arr u):=by
  intro i f hi;obtain ⟨tS,hi⟩:=SZ hi;refine ⟨hi,tS,?_⟩;have bj:i < (S.lens P g.vs g.rs).length:=by rw [hG.lens,<- uD,<- hG.fs]; exact (cG.1 hi).1
  obtain ⟨fi,_,h2,h3⟩:=hG.fact (cI bj);rw [hi] at h2; simp at h2;obtain ⟨u0,hu0⟩:=SY (XZ (P:=P) hG.dC hG.rL hG.uT) tS;rw [cI bj] at hu0;simp at hu0;rcases h3 with ⟨n,sz,e,_⟩ | ⟨T,v,_,⟨h3,_⟩ | ⟨f',m,N,es,acc,h3,h4,_⟩⟩
  ·rw [hu0] at e; simp at e
  ·rw [h3] at h2; simp at h2
  ·rw [h3] at h2; simp at h2; subst h2; exact ⟨_,h4⟩
 have yn:∀ (i f:Nat),(yP S.kinds g.fs)[i]? = some (some f)->∀ p,(E.up E1 S.nr A.next).α f=some p->(E.up E1 S.nr A.next).α (A.next+i)=some p:=fun i f hi p e=>by
  obtain ⟨hi,tS,u,hu⟩:=hold i f hi;rw [Env.L3 (hk.live f _ hu)] at e;rw [Env.LY];exact hpl i p tS (by rw [Env.IB,hi]; exact e)
 have hsw:ada (E.up E1 S.nr A.next) (S.back P g.bs g.fs vs rs A) (yP S.kinds g.fs) A.next (S.lens P vs rs):=by
  refine ⟨fun i f v hi hv=>?_,fun i f hi=>?_,fun i k f h1 h2=>zp hG.Za i k f (hold i f h1).1 (hold k f h2).1⟩
  ·obtain ⟨Vz,_,u,hu⟩:=hold i f hi
   refine ⟨?_,(hk.ar.nk f u hu).2,?_,yn i f hi⟩
   ·rw [aJ.back,C5 (by rw [fU]; exact hk.live f _ hu),Ep,aE (yN.2 (gh Vz))]
   ·have:=Pw (A:=BT (pd A g.bs S.rows (S.Iz A.next g.bs rs)) g.fs) hv
    rw [fU] at this;exact this
  ·obtain ⟨_,_,u,hu⟩:=hold i f hi
   exact hk.live f _ hu
 obtain ⟨E',q1,q2,q3,q4⟩:=Wt sm.fT hsw;have aaW:aaS E' E' (yP S.kinds g.fs) A.next:=⟨Env.le_refl _,fun i f hi p e=>by
  obtain ⟨v,CO⟩:=SY hki (hold i f hi).2.1;rw [q3 i f v hi CO];rw [q4 (A.next+i) fun j hj=>by
   obtain ⟨_,_,u,hu⟩:=hold j _ hj;have:=hk.live _ _ hu;omega] at e
  exact e⟩
 obtain ⟨q5,q6⟩:=aaU aaW g.bs q1;refine ⟨E',?_,sm.sw q5 (q2.trans q6)⟩;refine iR.amd ht0 (XY ⟨q2.le,fun i f hi p e=>?_⟩ _);obtain ⟨v,CO⟩:=SY hki (hold i f hi).2.1;rw [q3 i f v hi CO];exact e
def aJ.ade (S:aJ) (P:Program) (t:bd) (A:ae):Bool:=cond (vH (S.dp P t A).bs S.ids) (cond (yQ S.kinds (S.dp P t A).fs S.nr) (S.dp P t A).ok false) false
theorem agc {S:aJ} {t:bd} {A:ae} (h:S.ade P t A=true):vH (S.dp P t A).bs S.ids=true/\yQ S.kinds (S.dp P t A).fs S.nr=true/\(S.dp P t A).ok=true:=by
 unfold aJ.ade at h;cases h1:vH (S.dp P t A).bs S.ids with
 | false=>rw [h1] at h; simp at h
 | true=>
  cases h2:yQ S.kinds (S.dp P t A).fs S.nr with
  | false=>rw [h1,h2] at h; simp at h
  | true=>rw [h1,h2] at h; exact ⟨rfl,rfl,h⟩
def Np (P:Program) (cfg:dD) (L n:Nat) (f:FuncId) (p:Nat) (body:Code) (S:aJ) (vs:List KV) (rs:List (List KV)):Option (ah×List KV×List (List KV)):=
 oS P cfg (Ha P cfg L n) L f body (2 * p) (fun e t A=>
  Bool.rec (motive:=fun _=>Option (ah×List KV×List (List KV))) none (some (e,(S.dp P t A).vs,(S.dp P t A).rs)) (S.ade P t A)) (S.tm S.nr S.ids vs) (S.mem P vs rs)
theorem agd {S:aJ} {t:bd} {A:ae} {B0:St} {E1:Env} {g:GR} {vs:List KV} {rs:List (List KV)} (hG:dq P S t A g) (hf:yQ S.kinds g.fs S.nr=true) (cL:yu P S vs rs) (hs:dr P E (S.mem P vs rs) B0) (hle:E.le E1):ajG S E (E1.sub A g.bs g.fs S.nr):=fun i p tS e=>by
 have hd:=hs.ar.jI _ p e;rw [aJ.mem,fJ,po cL.rL,QI cL.v cL.rL cL.uT] at hd;have bj:i < g.fs.length:=by
  rw [hG.fs,uD,<- hG.lens,QI hG.dC hG.rL hG.uT];omega
 have h1:=cI bj;rw [Env.IB,h1,Nn hf tS h1];exact hle.α _ p e
section
variable {cfg:dD} {L n:Nat} {f:FuncId} {S:aJ} {root body:Code} {p N:Nat}
theorem adf {t' : bd} {A1:ae} {B B1:St} {ρ kD:Ren} {base:Nat} {w w1:World} {E1:Env} {vs:List KV} {rs:List (List KV)} (cL:yu P S vs rs) (hj:KJ P E (S.mem P vs rs) B ρ base w) (h4:Ev P base E (S.mem P vs rs) B ρ w E1 A1 B1 kD w1) (_:dq P S t' A1 (S.dp P t' A1)) (hi:vH (S.dp P t' A1).bs S.ids=true) :
  ∀ k,k < S.rows.length->(E1.sub A1 (S.dp P t' A1).bs (S.dp P t' A1).fs S.nr).κ k=E.κ k:=fun k hk=>by
 have agb:=JZ hi;have hp:=cI hk;have hr':=cI (show k < rs.length by rw [cL.rL]; exact hk);obtain ⟨x,_,hx,_⟩:=hj.k.row k _ _ (mem_row cL.rL hp hr');have e1:(E1.sub A1 (S.dp P t' A1).bs (S.dp P t' A1).fs S.nr).κ k=E1.κ k:=by
  simp only [Env.sub];rw [agb,IA S k hk,dN]
 rw [e1,hx];exact h4.le.κ k x hx
theorem age (hP:P.funcs.toList.all kx=true) (hm:P.follows .mixedOrders=true) (eW:rp P cfg.pc) (iB:vF P cfg) {fn:Func} (hf:P.funcs[f]? = some fn) (hb:fn.body=some root) (hs:Sub root p (.loop body)) (hc:codeOk N body=true)
  {vs b7:List KV} {rs iC:List (List KV)} {e:ah} (hr:Np P cfg L n f p body S vs rs=some (e,b7,iC)) {B:St} {ρ:Ren} {base:Nat} {a:Act} {w:World} {Q:Exit->Act->World->Prop} (cL:yu P S vs rs)
  (ht:iR P E ρ (S.tm S.nr S.ids vs) N a) (hj:KJ P E (S.mem P vs rs) B ρ base w)
  (hq:∀ E' B' aF a' w',iR P E' aF (S.tm S.nr S.ids b7) N a'->a'.defers=a.defers->KJ P E' (S.mem P b7 iC) B' aF base w'->Co base E (S.mem P vs rs) B ρ w E' (S.mem P b7 iC) B' aF w'->(∀ k,k < S.rows.length->E'.κ k=E.κ k)->yu P S b7 iC->ajG S E E'->Q e.out a' w'):body.wp P Q a w:=by
 have tZ:=uC (R:=ah×List KV×List (List KV)) hP hm eW iB L n;refine il eW tZ hm (iB.2 f fn root hf hb) body (2 * p) hs.loop hc _ _ _ _ E B ρ base a w Q hr ht hj fun e' t' E1 A1 B1 kD a1 w1 h1 h2 h3 h4=>?_;cases hi:S.ade P t' A1 with
 | false=>simp only [hi] at h1; exact absurd h1 (by simp)
 | true=>
  simp only [hi,bM,du] at h1;obtain ⟨rfl,rfl,rfl⟩:=h1;obtain ⟨i1,i2,i3⟩:=agc hi;have hG:=Fx i3;exact hq _ B1 kD a1 w1 (hG.tkr h2) h3 ⟨hG.fT h4.fT,h4.eH.fT⟩ (h4.co hG) (adf cL hj h4 hG i1) hG.IG (agd hG i2 cL hj.k h4.le)
theorem aaX (hP:P.funcs.toList.all kx=true) (hm:P.follows .mixedOrders=true) (eW:rp P cfg.pc) (iB:vF P cfg) {fn:Func} (hf:P.funcs[f]? = some fn) (hb:fn.body=some root) (hs:Sub root p (.loop body)) (hc:codeOk N body=true)
  {e:ah} {b7:List KV} {iC:List (List KV)} : ∀ (m:Nat) {vs:List KV} {rs:List (List KV)},vI (Np P cfg L n f p body S) m vs rs=some (e,b7,iC)->∀ {E:Env} {B:St} {ρ:Ren} {base:Nat} {a:Act} {w:World} {Q:Exit->Act->World->Prop},yu P S vs rs->
  iR P E ρ (S.tm S.nr S.ids vs) N a->KJ P E (S.mem P vs rs) B ρ base w->
  (∀ E' B' aF a' w',iR P E' aF (S.tm S.nr S.ids b7) N a'->a'.defers=a.defers->KJ P E' (S.mem P b7 iC) B' aF base w'->Co base E (S.mem P vs rs) B ρ w E' (S.mem P b7 iC) B' aF w'->(∀ k,k < S.rows.length->E'.κ k=E.κ k)->yu P S b7 iC->ajG S E E'->Q e.out a' w')->Code.rounds P body Q m a w
 | 0,vs,rs,h,E,B,ρ,base,a,w,Q,cL,ht,hj,hq=>by simp [vI] at h
 | m+1,vs,rs,h,E,B,ρ,base,a,w,Q,cL,ht,hj,hq=>by
  unfold vI at h;split at h
  ·rename_i e1 vs1 rs1 hr
   rw [rounds_succ];refine age hP hm eW iB hf hb hs hc hr cL ht hj fun E' B' aF a' w' h1 h2 h3 h4 h5 h6 h7=>?_;have fin:mB e1=false->some (e1,vs1,rs1)=some (e,b7,iC)->Q e1.out a' w':=by
    intro _ h;simp only [bM,du] at h;obtain ⟨rfl,rfl,rfl⟩:=h;exact hq E' B' aF a' w' h1 h2 h3 h4 h5 h6 h7
   cases e1 with
   | normal=>
    have h:vI (Np P cfg L n f p body S) m vs1 rs1=some (e,b7,iC):=h;exact aaX hP hm eW iB hf hb hs hc m h h6 h1 h3 fun Hh Il vo SF G3 q1 q2 q3 q4 q5 q6 q7=>hq Hh Il vo SF G3 q1 (q2.trans h2) q3 (h4.trans q4) (fun k hk=>(q5 k hk).trans (h5 k hk)) q6 fun i p tS e=>q7 i p tS (h7 i p tS e)
   | exit id=>exact fin rfl h
   | goto l=>exact fin rfl h
   | ret=>exact fin rfl h
  ·simp at h
def wL.Pz (P:Program) (S:aJ) (bs:List Nat) (fs:List (Option Nat)) (A:ae):wL->wq
 | .no=>.no
 | .out e vs rs=>.out e (S.gQ A.next bs fs vs) (S.aaV P bs fs vs rs A)
 | .br c x y=>.br c (x.Pz P S bs fs A) (y.Pz P S bs fs A)
def ah5 (P:Program) (S:aJ) (F:LFn):bd->ae->wq:=fun t A=>
 .br (S.dp P t A).ok ((F (S.dp P t A).vs (S.dp P t A).rs).Pz P S (S.dp P t A).bs (S.dp P t A).fs A) .no
theorem S3 {R:Type} {bs:List Nat} {fs:List (Option Nat)} {A:ae} {k:KE R} {r:R} : ∀ (x:wL),(x.Pz P S bs fs A).run k=some r->∃ e b7 iC,x.ev=some (e,b7,iC)/\k e (S.gQ A.next bs fs b7) (S.aaV P bs fs b7 iC A)=some r
 | .no,h=>absurd h (by simp [wL.Pz,wq.run])
 | .out e vs rs,h=>⟨e,vs,rs,rfl,h⟩
 | .br c x y,h=>by
  have h:Bool.rec (motive:=fun _=>Option R) ((y.Pz P S bs fs A).run k) ((x.Pz P S bs fs A).run k) c=some r:=h;cases c with
  | true=>exact S3 x h
  | false=>exact S3 y h
theorem agf (hP:P.funcs.toList.all kx=true) (hm:P.follows .mixedOrders=true) (eW:rp P cfg.pc) (iB:vF P cfg) {fn:Func} (hf:P.funcs[f]? = some fn) (hb:fn.body=some root) (hs:Sub root p (.loop body)) (hc:codeOk N body=true) {F:LFn}
  (hF:∀ vs rs e b7 iC,yu P S vs rs->(F vs rs).ev=some (e,b7,iC)->vI (Np P cfg L n f p body S) gK vs rs=some (e,b7,iC)):QA P N body (ah5 P S F):=by
 intro R k r t A E B ρ base a w Q h ht hj hq;have h:Bool.rec (motive:=fun _=>Option R) none (((F (S.dp P t A).vs (S.dp P t A).rs).Pz P S (S.dp P t A).bs (S.dp P t A).fs A).run k) (S.dp P t A).ok=some r:=h
 ·cases ho:(S.dp P t A).ok with
  | false=>rw [ho] at h; exact absurd h (by simp)
  | true=>
   rw [ho] at h;have hG:=Fx ho;obtain ⟨e,b7,iC,h9,pn⟩:=S3 _ h;have OJ:=hF _ _ e b7 iC hG.IG h9;refine aaX hP hm eW iB hf hb hs hc gK OJ hG.IG (hG.tkr ht) ⟨hG.fT hj.k,hj.s⟩ fun E' B' aF a' w' q1 q2 q3 q4 q5 q6 q7=>?_;obtain ⟨E2,r1,r2⟩:=adb hG hj.k q1 q3.k q4 q5 q7 q6.v q6.rL q6.uT;exact hq e _ E2 _ B' aF a' w' pn r1 q2 r2
end
def aev:ah->Bool
 | .normal=>true
 | .ret=>true
 | _=>false
def ah6 (P:Program) (cfg:dD) (L n:Nat) (g:FuncId) (S:aJ) (vs:List KV) (rs:List (List KV)):Option (ah×List KV×List (List KV)):=
 match P.funcs.toList[g]? with
 | some fn=>match fn.body with
  | some c=>cond fn.results.toList.isEmpty (oS P cfg (Ha P cfg L n) L g c 1 (fun e t A=>
    Bool.rec (motive:=fun _=>Option (ah×List KV×List (List KV))) none (some (.ret,(S.dp P t A).vs,(S.dp P t A).rs)) (cond (aev e) (S.ade P t A) false)) (S.tm S.nr S.ids vs) (S.mem P vs rs)) none
  | none=>none
 | none=>none
def wL.PA (P:Program) (S:aJ) (bs:List Nat) (fs:List (Option Nat)) (A:ae):wL->x7
 | .no=>.no
 | .out _ vs rs=>.out (.ma []) (S.aaV P bs fs vs rs A)
 | .br c x y=>.br c (x.PA P S bs fs A) (y.PA P S bs fs A)
def aon (P:Program) (S:aJ) (F:LFn):List KV->ae->x7:=fun args A=>
 .br (S.dp P (oT args 0 .leaf) A).ok ((F (S.dp P (oT args 0 .leaf) A).vs (S.dp P (oT args 0 .leaf) A).rs).PA P S (S.dp P (oT args 0 .leaf) A).bs (S.dp P (oT args 0 .leaf) A).fs A) .no
theorem S4 {R:Type} {S:aJ} {bs:List Nat} {fs:List (Option Nat)} {A:ae} {k:KV->ae->Option R} {r:R} : ∀ (x:wL),x7.run k (x.PA P S bs fs A)=some r->∃ e b7 iC,x.ev=some (e,b7,iC)/\k (.ma []) (S.aaV P bs fs b7 iC A)=some r
 | .no,h=>absurd h (by simp [wL.PA,x7.run])
 | .out e vs rs,h=>⟨e,vs,rs,rfl,h⟩
 | .br c x y,h=>by
  have h:Bool.rec (motive:=fun _=>Option R) (x7.run k (y.PA P S bs fs A)) (x7.run k (x.PA P S bs fs A)) c=some r:=h;cases c with
  | true=>exact S4 x h
  | false=>exact S4 y h
theorem akF {ρ:Ren} {args:List KV} {dZ:List Value} (hv:rK P E ρ args dZ) (m:Nat):iR P E ρ (oT args 0 .leaf) (max m args.length) { tmps:=dZ.toArray++Array.replicate (m - dZ.toArray.size) undef,defers:=[] }:=by
 obtain ⟨ahW,QV,Sb⟩:=hv;have hlen:dZ.length=args.length:=by rw [Sb.length,QV.length]
 have dS:(dZ.toArray++Array.replicate (m - dZ.toArray.size) undef).size=max m args.length:=by
  simp [hlen];omega
 refine ⟨dS,fun i=>?_,fun i hi=>?_⟩
 ·rw [Iv]
  simp only [qK,true_and,ba,Nat.sub_zero,Trie.Ql];by_cases hi:i < args.length
  ·rw [aE hi]
   obtain ⟨u,hu⟩:∃ u,args[i]? = some u:=⟨_,cI hi⟩
   obtain ⟨m',h1,h2⟩:=QV.get hu;obtain ⟨u',h3,h4⟩:=Sb.get h1;rw [hu];have:(dZ.toArray++Array.replicate (m - dZ.toArray.size) undef).getD i undef=u':=by
    rw [kR,Array.getElem?_append_left (by simpa [hlen] using hi)];simp [h3]
   rw [this];exact ⟨m',h2,h4⟩
  ·rw [aa hi]
   exact VC.bf
 ·rw [Iv,aa,Trie.Ql]
  simp only [qK,true_and,ba];have:=Nat.le_max_right m args.length;omega
theorem ah7 {cfg:dD} {L n:Nat} {g:FuncId} {S:aJ} {F:LFn} (hP:P.funcs.toList.all kx=true) (hm:P.follows .mixedOrders=true) (eW:rp P cfg.pc) (iB:vF P cfg) (hy:Nat.blt g yB=true)
  (hF:∀ vs rs e b7 iC,yu P S vs rs->(F vs rs).ev=some (e,b7,iC)->ah6 P cfg L n g S vs rs=some (e,b7,iC)) {R:Type} {args:List KV} {A:ae} {k:KV->ae->Option R} {r:R} (h:x7.run k (aon P S F args A)=some r):xM P g/\
  ∀ (E:Env) (B:St) (ρ:Ren) (base:Nat) (w:World) (dZ:List Value),rK P E ρ args dZ->KJ P E A B ρ base w->
   Calls P g dZ.toArray w fun e w'=>∃ v v' E' A' B' aF,e = .returned v'/\VC P E' aF v v'/\Ev P base E A B ρ w E' A' B' aF w'/\k v A' = some r:=by
 have h:Bool.rec (motive:=fun _=>Option R) none (x7.run k ((F (S.dp P (oT args 0 .leaf) A).vs (S.dp P (oT args 0 .leaf) A).rs).PA P S (S.dp P (oT args 0 .leaf) A).bs (S.dp P (oT args 0 .leaf) A).fs A)) (S.dp P (oT args 0 .leaf) A).ok=some r:=h;cases ho:(S.dp P (oT args 0 .leaf) A).ok with
 | false=>rw [ho] at h; exact absurd h (by simp)
 | true=>
 rw [ho] at h;have hG:=Fx ho;obtain ⟨e0,b7,iC,h9,pn⟩:=S4 _ h;have lA:=hF _ _ e0 b7 iC hG.IG h9;unfold ah6 at lA;split at lA
 ·rename_i fn hf
  split at lA
  ·rename_i c hc
   cases hre:fn.results.toList.isEmpty with
   | false=>rw [hre] at lA; exact absurd lA (by simp)
   | true=>
   rw [hre,aj] at lA;have hf' : P.funcs[g]? = some fn:=by simpa using hf
   have cL:=fg.1 hP fn (gh hf);unfold kx at cL;rw [hc] at cL;simp only [aq,lU] at cL;refine ⟨⟨hy,fn,hf',by simp [hc],cL.2⟩,fun E B ρ base w dZ hv hj=>?_⟩;refine calls_of_wp hf' hc ?_;have ht:=akF hv fn.ntmps;have acV:codeOk (max fn.ntmps args.length) c=true:=mi (Nat.le_max_left _ _) c cL.1;have tZ:=uC (R:=ah×List KV×List (List KV)) hP hm eW iB L n;refine il (L:=L) (f:=g) (N:=max fn.ntmps args.length) eW tZ hm (iB.2 g fn c hf' hc) c 1 .root acV _ _ _ _ (E.sub A (S.dp P (oT args 0 .leaf) A).bs (S.dp P (oT args 0 .leaf) A).fs S.nr) B ρ base _ w _ lA (hG.tkr ht) ⟨hG.fT hj.k,hj.s⟩ fun e t' E1 A1 B1 kD a1 w1 h1 h2 h3 h4=>?_;cases he:aev e with
   | false=>simp only [he,aI] at h1; exact absurd h1 (by simp)
   | true=>
   simp only [he,aj] at h1;cases hi:S.ade P t' A1 with
   | false=>simp only [hi] at h1; exact absurd h1 (by simp)
   | true=>
   simp only [hi,bM,du] at h1;obtain ⟨_,rfl,rfl⟩:=h1;obtain ⟨i1,i2,i3⟩:=agc hi;have hG1:=Fx i3;have JD:KJ P (E.sub A (S.dp P (oT args 0 .leaf) A).bs (S.dp P (oT args 0 .leaf) A).fs S.nr) (S.mem P (S.dp P (oT args 0 .leaf) A).vs (S.dp P (oT args 0 .leaf) A).rs) B ρ base w:=⟨hG.fT hj.k,hj.s⟩
   obtain ⟨E2,_,r2⟩:=adb hG hj.k (hG1.tkr h2) (hG1.fT h4.fT) (h4.co hG1) (adf hG.IG JD h4 hG1 i1) (agd hG1 i2 hG.IG JD.k h4.le) hG1.IG.v hG1.IG.rL hG1.IG.uT;have Ly:fn.results.toList = []:=List.isEmpty_iff.1 hre;have afZ:(results fn a1.tmps).run P w1 = .ok (.tuple #[]) w1:=by
    rw [Xx,Sem.run_bind,Array.mapM_eq_mapM_toList,Sem.run_map,Ly];rfl
   have aaK:bodyPost P fn (fun e w'=>∃ v v' E' A' B' aF,e = .returned v'/\VC P E' aF v v'/\Ev P base E A B ρ w E' A' B' aF w'/\k v A' = some r) .ret a1 w1:=
    ⟨h3,_,afZ,_,_,E2,_,B1,kD,rfl,⟨_,.V9 .nil,VR.mkTuple .nil⟩,r2,pn⟩
   cases e with
   | normal=>exact aaK
   | ret=>exact aaK
   | exit id=>simp [aev] at he
   | goto l=>simp [aev] at he
  ·simp at lA
 ·simp at lA
end
end Go.K
end
section
namespace Go.K
open Go Go.aG
variable {P:Program} {E:Env}
def UE (l:Nat):Code->Nat->Option (Code×Nat)
 | .seq (.label l') b,p=>cond (Nat.beq l' l) (some (b,2 * p+1)) none
 | .seq a b,p=>match findLabel a l with
  | some _=>none
  | none=>UE l b (2 * p+1)
 | _,_=>none
theorem aaY {root:Code} {l N:Nat} : ∀ {c:Code} {p:Nat} {b:Code} {q:Nat},UE l c p=some (b,q)->Sub root p c->codeOk N c=true->findLabel c l=some (.seq .skip b)/\Sub root q b/\codeOk N b=true
 | c,p,b,q,h,hs,hc=>by
  unfold UE at h;split at h
  ·rename_i l' b'
   cases hb:Nat.beq l' l with
   | false=>rw [hb] at h; simp at h
   | true=>
    rw [hb] at h;simp only [aj,bM,du] at h;obtain ⟨rfl,rfl⟩:=h;obtain rfl:=aK hb;refine ⟨by simp [findLabel],hs.ajt,?_⟩;simp only [codeOk,aq] at hc;exact hc.2
  ·rename_i a b' _
   split at h
   ·simp at h
   ·rename_i hfa
    simp only [codeOk,aq] at hc;obtain ⟨h1,h2,h3⟩:=aaY h hs.ajt hc.2;refine ⟨?_,h2,h3⟩;simp only [findLabel,hfa];exact h1
  ·simp at h
noncomputable def exG (l:Nat) (e:ah):ah:=
 ah.rec (.exit O0) (fun i=>cond (Nat.beq i O0) (.goto l) (.exit i)) (fun l'=>cond (Nat.beq l' l) .normal (.goto l')) .ret e
noncomputable def QJ (P:Program) (cfg:dD) (L n:Nat) (f:FuncId) (q:Nat) (body:Code) (l:Nat) (S:aJ) (vs:List KV) (rs:List (List KV)):Option (ah×List KV×List (List KV)):=
 oS P cfg (Ha P cfg L n) L f body q (fun e t A=>
  Bool.rec (motive:=fun _=>Option (ah×List KV×List (List KV))) none (some (exG l e,(S.dp P t A).vs,(S.dp P t A).rs)) (cond (vH (S.dp P t A).bs S.ids) (S.dp P t A).ok false)) (S.tm S.nr S.ids vs) (S.mem P vs rs)
section
variable {cfg:dD} {L n:Nat} {f:FuncId} {S:aJ} {root body:Code} {q l N:Nat}
theorem agh (hP:P.funcs.toList.all kx=true) (hm:P.follows .mixedOrders=true) (eW:rp P cfg.pc) (iB:vF P cfg) {fn:Func} (hf:P.funcs[f]? = some fn) (hb:fn.body=some root) (hs:Sub root q body) (hc:codeOk N body=true)
  {vs b7:List KV} {rs iC:List (List KV)} {e:ah} (hr:QJ P cfg L n f q body l S vs rs=some (e,b7,iC)) {B:St} {ρ:Ren} {base:Nat} {a:Act} {w:World} {Q:Exit->Act->World->Prop} (cL:yu P S vs rs)
  (ht:iR P E ρ (S.tm S.nr S.ids vs) N a) (hj:KJ P E (S.mem P vs rs) B ρ base w)
  (hq:∀ e0 E' B' aF a' w',exG l e0=e->iR P E' aF (S.tm S.nr S.ids b7) N a'->a'.defers=a.defers->KJ P E' (S.mem P b7 iC) B' aF base w'->Co base E (S.mem P vs rs) B ρ w E' (S.mem P b7 iC) B' aF w'->(∀ k,k < S.rows.length->E'.κ k=E.κ k)->yu P S b7 iC->Q e0.out a' w'):body.wp P Q a w:=by
 have tZ:=uC (R:=ah×List KV×List (List KV)) hP hm eW iB L n;refine il eW tZ hm (iB.2 f fn root hf hb) body q hs hc _ _ _ _ E B ρ base a w Q hr ht hj fun e' t' E1 A1 B1 kD a1 w1 h1 h2 h3 h4=>?_;cases hi:vH (S.dp P t' A1).bs S.ids with
 | false=>
  simp only [hi,aI] at h1;exact absurd h1 (by simp)
 | true=>
  simp only [hi,aj] at h1;cases ho:(S.dp P t' A1).ok with
  | false=>simp only [ho] at h1; exact absurd h1 (by simp)
  | true=>
   simp only [ho,bM,du] at h1;obtain ⟨he,rfl,rfl⟩:=h1;have hG:=Fx ho;have agb:=JZ hi;refine hq e' _ B1 kD a1 w1 he (hG.tkr h2) h3 ⟨hG.fT h4.fT,h4.eH.fT⟩ (h4.co hG) (fun k hk=>?_) hG.IG;have hp:=cI hk;have hr':=cI (show k < rs.length by rw [cL.rL]; exact hk);obtain ⟨x,_,hx,_⟩:=hj.k.row k _ _ (mem_row cL.rL hp hr');have e1:(E1.sub A1 (S.dp P t' A1).bs (S.dp P t' A1).fs S.nr).κ k=E1.κ k:=by
    simp only [Env.sub];rw [agb,IA S k hk,dN]
   rw [e1,hx];exact h4.le.κ k x hx
theorem agi {e:ah} (h:exG l e = .normal):e = .goto l:=by
 cases e with
 | normal=>exact absurd (show ah.exit O0 = .normal from h) (by simp)
 | exit i=>
  have h:cond (Nat.beq i O0) (ah.goto l) (.exit i) = .normal:=h;cases hb:Nat.beq i O0 <;> rw [hb] at h <;> simp at h
 | goto l'=>
  have h:cond (Nat.beq l' l) ah.normal (.goto l') = .normal:=h;cases hb:Nat.beq l' l with
  | true=>rw [aK hb]
  | false=>rw [hb] at h; simp at h
 | ret=>exact absurd (show ah.ret = .normal from h) (by simp)
theorem agj {e e' : ah} (h:exG l e=e') (hn:mB e' = false) (hg:∀ l',e'≠.goto l'):(e = .normal/\e' = .exit O0)\/(∃ i,e = .exit i/\e' = .exit i/\Nat.beq i O0=false)\/(e = .ret/\e' = .ret):=by
 cases e with
 | normal=>exact .inl ⟨rfl,h.symm⟩
 | exit i=>
  have h:cond (Nat.beq i O0) (ah.goto l) (.exit i)=e':=h;cases hb:Nat.beq i O0 with
  | true=>rw [hb] at h; exact absurd h.symm (hg l)
  | false=>rw [hb] at h; exact .inr (.inl ⟨i,rfl,h.symm,hb⟩)
 | goto l'=>
  have h:cond (Nat.beq l' l) ah.normal (.goto l')=e':=h;cases hb:Nat.beq l' l with
  | true=>rw [hb] at h; rw [<- h] at hn; simp [mB] at hn
  | false=>rw [hb] at h; exact absurd h.symm (hg l')
 | ret=>exact .inr (.inr ⟨rfl,h.symm⟩)
theorem aaZ (hP:P.funcs.toList.all kx=true) (hm:P.follows .mixedOrders=true) (eW:rp P cfg.pc) (iB:vF P cfg) {fn:Func} (hf:P.funcs[f]? = some fn) (hb:fn.body=some root) (hs:Sub root q body) (hc:codeOk N body=true)
  {e:ah} {b7:List KV} {iC:List (List KV)} (hg:∀ l',e≠.goto l'):∀ (m:Nat) {vs:List KV} {rs:List (List KV)},vI (QJ P cfg L n f q body l S) m vs rs=some (e,b7,iC)->∀ {E:Env} {B:St} {ρ:Ren} {base:Nat} {a:Act} {w:World} {Q:Exit->Act->World->Prop},yu P S vs rs->
  iR P E ρ (S.tm S.nr S.ids vs) N a->KJ P E (S.mem P vs rs) B ρ base w->
  (∀ e0 E' B' aF a' w',exG l e0=e->mB e=false->iR P E' aF (S.tm S.nr S.ids b7) N a'->a'.defers=a.defers->KJ P E' (S.mem P b7 iC) B' aF base w'->Co base E (S.mem P vs rs) B ρ w E' (S.mem P b7 iC) B' aF w'->(∀ k,k < S.rows.length->E'.κ k=E.κ k)->yu P S b7 iC->Q e0.out a' w')->vE P l body Q m a w
 | 0,vs,rs,h,E,B,ρ,base,a,w,Q,cL,ht,hj,hq=>by simp [vI] at h
 | m+1,vs,rs,h,E,B,ρ,base,a,w,Q,cL,ht,hj,hq=>by
  unfold vI at h;split at h
  ·rename_i e1 vs1 rs1 hr
   unfold vE;refine agh hP hm eW iB hf hb hs hc hr cL ht hj fun e0 E' B' aF a' w' h0 h1 h2 h3 h4 h5 h6=>?_;cases hn:mB e1 with
   | true=>
    rw [hn,aj] at h;have he1:e1 = .normal:=by cases e1 <;> simp [mB] at hn ⊢
    rw [he1] at h0;obtain rfl:=agi h0;refine ⟨rfl,aaZ hP hm eW iB hf hb hs hc hg m h h6 h1 h3 fun e2 Hh Il vo SF G3 q0 qn q1 q2 q3 q4 q5 q6=>hq e2 Hh Il vo SF G3 q0 qn q1 (q2.trans h2) q3 (h4.trans q4) (fun k hk=>(q5 k hk).trans (h5 k hk)) q6⟩
   | false=>
    rw [hn,aI] at h;simp only [bM,du] at h;obtain ⟨rfl,rfl,rfl⟩:=h;have hQ:=hq e0 E' B' aF a' w' h0 hn h1 h2 h3 h4 h5 h6;rcases agj h0 hn hg with ⟨rfl,_⟩ | ⟨i,rfl,_⟩ | ⟨rfl,_⟩ <;> exact hQ
  ·simp at h
theorem UF {Q:Exit->Act->World->Prop} : ∀ {m:Nat} {a:Act} {w:World},vE P l body Q m a w->vE P l (.seq .skip body) Q m a w
 | 0,_,_,h=>h
 | m+1,a,w,h=>by
  unfold vE at h ⊢;refine wp_seq (wp_skip (Code.wp_mono (fun e a' w' k=>?_) h));cases e with
  | goto l'=>exact ⟨k.1,UF k.2⟩
  | normal=>exact k
  | exit id=>exact k
  | ret=>exact k
  | panic ch=>exact k
  | outgrown=>exact k
theorem agk (hP:P.funcs.toList.all kx=true) (hm:P.follows .mixedOrders=true) (eW:rp P cfg.pc) (iB:vF P cfg) {fn:Func} (hf:P.funcs[f]? = some fn) (hb:fn.body=some root) (hs:Sub root q body) (hc:codeOk N body=true) {F:LFn}
  (hF:∀ vs rs e b7 iC,yu P S vs rs->(F vs rs).ev=some (e,b7,iC)->vI (QJ P cfg L n f q body l S) gK vs rs=some (e,b7,iC)):aaJ P N l (.seq .skip body) (Uu P S F):=by
 intro R k r t A E B ρ base a w Q h ht hj hq;cases hpe:S.al7 t A with
 | true=>
  unfold Uu at h;rw [hpe] at h;exact absurd h (by simp [wq.run])
 | false=>
 unfold Uu at h;rw [hpe,aI] at h;have h:Bool.rec (motive:=fun _=>Option R) none (((F (S.dp P t A).vs (S.dp P t A).rs).tell P S (S.dp P t A).bs (S.dp P t A).fs A).run (V6 k)) (S.dp P t A).ok=some r:=h;cases ho:(S.dp P t A).ok with
 | false=>rw [ho] at h; exact absurd h (by simp)
 | true=>
  rw [ho] at h;have hG:=Fx ho;obtain ⟨e,b7,iC,h9,pn⟩:=QH _ h;have OJ:=hF _ _ e b7 iC hG.IG h9;have HZ:∀ l',e≠.goto l':=fun l' he=>by rw [he] at pn; exact absurd pn (by simp [V6])
  refine ⟨gK,UF (aaZ hP hm eW iB hf hb hs hc HZ gK OJ hG.IG (hG.tkr ht) ⟨hG.fT hj.k,hj.s⟩ fun e0 E' B' aF a' w' q0 qn q1 q2 q3 q4 q5 q6=>?_)⟩;obtain ⟨E2,r1,r2⟩:=restore hG hj.k q1 q3.k q4 q5 q6.v q6.rL q6.uT;refine hq e0 _ E2 _ B' aF a' w' ?_ r1 q2 r2;rcases agj q0 qn HZ with ⟨rfl,rfl⟩ | ⟨i,rfl,rfl,UB⟩ | ⟨rfl,rfl⟩
  ·exact pn
  ·have pn:Bool.rec (motive:=fun _=>Option R) (k (.exit i) (S.tm A.next (S.dp P t A).bs b7) (S.back P (S.dp P t A).bs (S.dp P t A).fs b7 iC A)) (k .normal (S.tm A.next (S.dp P t A).bs b7) (S.back P (S.dp P t A).bs (S.dp P t A).fs b7 iC A)) (Nat.beq i O0)=some r:=pn
   rw [UB] at pn;exact pn
  ·exact pn
end
end Go.K
end
section
namespace Go.K
open Go Go.aG
variable {P:Program} {E:Env}
def aew:Code->Bool->Option Code
 | .seq a _,false=>some a
 | .seq _ b,true=>some b
 | .cond _ a _,false=>some a
 | .cond _ _ b,true=>some b
 | .block _ a,false=>some a
 | .loop a,false=>some a
 | .scope a,false=>some a
 | _,_=>none
def pf:Nat->Code->Nat->Option Code
 | 0,_,_=>none
 | n+1,root,p=>cond (Nat.ble p 1) (cond (Nat.beq p 1) (some root) none) ((pf n root (p / 2)).bind fun c=>aew c (Nat.beq (p % 2) 1))
theorem UG:∀ {n:Nat} {root c:Code} {p:Nat},pf n root p=some c->pf (n+1) root p=some c
 | 0,_,_,_,h=>by simp [pf] at h
 | n+1,root,c,p,h=>by
  unfold pf at h ⊢;cases hp:Nat.ble p 1 with
  | true=>rw [hp] at h; exact h
  | false=>
   rw [hp] at h;simp only [aI] at h ⊢;obtain ⟨d,h1,h2⟩:=cC.1 h;exact cC.2 ⟨d,UG h1,h2⟩
theorem S5 {root c:Code} {p n:Nat} (h:pf n root p=some c):∀ k,pf (n+k) root p=some c
 | 0=>h
 | k+1=>UG (S5 h k)
theorem Sub.pos {root c:Code} {p:Nat} (h:Sub root p c):1<=p:=by induction h <;> omega
theorem Sub.at {root c:Code} {p:Nat} (h:Sub root p c):∃ n,pf n root p=some c:=by
 have left:∀ {q n:Nat} {d:Code},1<=q->pf n root q=some d->pf (n+1) root (2 * q)=aew d false:=by
  intro q n d hq hd;unfold pf;have:Nat.ble (2 * q) 1=false:=by
   cases hb:Nat.ble (2 * q) 1 with
   | false=>rfl
   | true=>have:=dX hb; omega
  rw [this,aI,show 2 * q / 2=q by omega,hd,show 2 * q % 2=0 by omega];rfl
 have right:∀ {q n:Nat} {d:Code},1<=q->pf n root q=some d->pf (n+1) root (2 * q+1)=aew d true:=by
  intro q n d hq hd;unfold pf;have:Nat.ble (2 * q+1) 1=false:=by
   cases hb:Nat.ble (2 * q+1) 1 with
   | false=>rfl
   | true=>have:=dX hb; omega
  rw [this,aI,show (2 * q+1) / 2=q by omega,hd,show (2 * q+1) % 2=1 by omega];rfl
 induction h with
 | root=>exact ⟨1,rfl⟩
 | aof hs ih=>obtain ⟨n,hn⟩:=ih; exact ⟨n+1,left hs.pos hn⟩
 | ajt hs ih=>obtain ⟨n,hn⟩:=ih; exact ⟨n+1,right hs.pos hn⟩
 | al1 hs ih=>obtain ⟨n,hn⟩:=ih; exact ⟨n+1,left hs.pos hn⟩
 | al2 hs ih=>obtain ⟨n,hn⟩:=ih; exact ⟨n+1,right hs.pos hn⟩
 | block hs ih=>obtain ⟨n,hn⟩:=ih; exact ⟨n+1,left hs.pos hn⟩
 | loop hs ih=>obtain ⟨n,hn⟩:=ih; exact ⟨n+1,left hs.pos hn⟩
 | scope hs ih=>obtain ⟨n,hn⟩:=ih; exact ⟨n+1,left hs.pos hn⟩
theorem Sub.uniq {root c d:Code} {p n:Nat} (h:Sub root p c) (k:pf n root p=some d):c=d:=by
 obtain ⟨m,hm⟩:=h.at;have h1:=S5 hm n;have h2:=S5 k m;rw [Nat.add_comm] at h1;rw [h1] at h2;simpa using h2
def Da (P:Program) (f p:Nat):Code:=
 match P.funcs.toList[f]? with
 | some fn=>match fn.body with
  | some c=>match pf 200 c p with
   | some (.loop b)=>b
   | _=>.skip
  | none=>.skip
 | none=>.skip
structure Lp where
 f:Nat
 p:Nat
 S:aJ
 F:LFn
 st:Bool
noncomputable def ajH (st:Bool) (P:Program) (cfg:dD) (L n:Nat) (f:FuncId) (p:Nat) (body:Code) (S:aJ) (vs:List KV) (rs:List (List KV)):Option (ah×List KV×List (List KV)):=
 cond st (Np P cfg L n f p body S vs rs) (E6 P cfg L n f p body S vs rs)
noncomputable def UH (P:Program):List Lp->FuncId->Nat->Option (bd->ae->wq)
 | [],_,_=>none
 | l::ls,f,p=>cond (Nat.beq l.f f&&Nat.beq l.p p) (some (cond l.st (ah5 P l.S l.F) (Uu P l.S l.F))) (UH P ls f p)
def Lp.Ok (P:Program) (l:Lp):Prop:=∃ cfg L n,rp P cfg.pc/\vF P cfg/\
 ∀ vs rs e b7 iC,yu P l.S vs rs->(l.F vs rs).ev=some (e,b7,iC)->vI (ajH l.st P cfg L n l.f l.p (Da P l.f l.p) l.S) gK vs rs=some (e,b7,iC)
def II (P:Program) (f p:Nat):Bool:=
 match P.funcs.toList[f]? with
 | some fn=>match fn.body with
  | some c=>match pf 200 c p with
   | some (.loop _)=>true
   | _=>false
  | none=>false
 | none=>false
def L5 (P:Program) (f p:Nat):Option (Nat×Code×Nat):=
 match P.funcs.toList[f]? with
 | some fn=>match fn.body with
  | some c=>match pf 200 c p with
   | some (.scope b)=>match JP b with
    | some l=>(UE l b (2 * p)).map fun x=>(l,x.1,x.2)
    | none=>none
   | _=>none
  | none=>none
 | none=>none
def Lp.OkG (P:Program) (l:Lp):Prop:=l.st=false/\∃ Wu b q cfg L n,L5 P l.f l.p=some (Wu,b,q)/\rp P cfg.pc/\vF P cfg/\
 ∀ vs rs e b7 iC,yu P l.S vs rs->(l.F vs rs).ev=some (e,b7,iC)->vI (QJ P cfg L n l.f q b Wu l.S) gK vs rs=some (e,b7,iC)
def Lp.ah8 (P:Program) (l:Lp):Prop:=(Lp.Ok P l/\II P l.f l.p=true)\/Lp.OkG P l
theorem X0 {f p:Nat} {fn:Func} {c:Code} (hf:P.funcs[f]? = some fn) (hb:fn.body=some c) (h:II P f p=true):∃ b,pf 200 c p=some (.loop b)/\Da P f p=b:=by
 have hf' : P.funcs.toList[f]? = some fn:=by simpa using hf
 unfold II at h;unfold Da;simp only [hf',hb] at h ⊢;split at h
 ·rename_i b uZ
  exact ⟨b,uZ,rfl⟩
 ·simp at h
theorem UI {f p Wu q:Nat} {b:Code} {fn:Func} {c:Code} (hf:P.funcs[f]? = some fn) (hb:fn.body=some c) (h:L5 P f p=some (Wu,b,q)):∃ x,pf 200 c p=some (.scope x)/\JP x=some Wu/\UE Wu x (2 * p)=some (b,q):=by
 have hf' : P.funcs.toList[f]? = some fn:=by simpa using hf
 unfold L5 at h;simp only [hf',hb] at h;split at h
 ·rename_i x uZ
  split at h
  ·rename_i l hl
   obtain ⟨y,h1,h2⟩:=ck.1 h;simp only [du] at h2;obtain ⟨rfl,rfl,rfl⟩:=h2;exact ⟨x,uZ,hl,h1⟩
  ·simp at h
 ·simp at h
theorem ajI (hP:P.funcs.toList.all kx=true) (hm:P.follows .mixedOrders=true) {pc:FuncId->Option (List KV->KR KV)} {x:afi} : ∀ {ls:List Lp},(∀ l∈ls,Lp.ah8 P l)->∀ f fn c,P.funcs[f]? = some fn->fn.body=some c->aju P ⟨pc,UH P ls,x⟩ f c
 | [],_=>fun f fn c hf hb=>⟨fun p F body h=>by simp [UH] at h,fun p F body h=>by simp [UH] at h⟩
 | l::ls,hl=>fun f fn c hf hb=>by
  have ih:=ajI hP hm (pc:=pc) (x:=x) (fun l' uY=>hl l' (rU _ uY)) f fn c hf hb;have ajJ:∀ {p F},UH P (l::ls) f p=some F->UH P ls f p=some F\/(l.f=f/\l.p=p/\F=cond l.st (ah5 P l.S l.F) (Uu P l.S l.F)):=by
   intro p F h;unfold UH at h;cases hk:(Nat.beq l.f f&&Nat.beq l.p p) with
   | false=>rw [hk] at h; exact .inl h
   | true=>
    rw [hk] at h;simp only [aj,bM] at h;simp only [aq] at hk;exact .inr ⟨aK hk.1,aK hk.2,h.symm⟩
  constructor
  ·intro p F body h hs N hc
   rcases ajJ h with h | ⟨e1,e2,rfl⟩
   ·exact ih.1 p F body h hs N hc
   ·rcases hl l (by simp) with ⟨⟨cfg,L,n,eW,iB,hF⟩,hth⟩ | ⟨_,Wu,b,q,cfg,L,n,JC,_⟩
    ·rw [e1,e2] at hF hth
     obtain ⟨b,uZ,aoZ⟩:=X0 hf hb hth;have:=hs.uniq uZ;simp only [Code.loop.injEq] at this;rw [aoZ,<- this] at hF;cases gY:l.st with
     | true=>
      rw [gY] at hF;exact agf hP hm eW iB hf hb hs hc hF
     | false=>
      rw [gY] at hF;exact ah3 hP hm eW iB hf hb hs hc hF
    ·rw [e1,e2] at JC
     obtain ⟨x,uZ,_⟩:=UI hf hb JC;have:=hs.uniq uZ;simp at this
  ·intro p F body h hs N hc lb hlb
   rcases ajJ h with h | ⟨e1,e2,rfl⟩
   ·exact ih.2 p F body h hs N hc lb hlb
   ·rcases hl l (by simp) with ⟨_,hth⟩ | ⟨gY,Wu,b,q,cfg,L,n,JC,eW,iB,hF⟩
    ·rw [e1,e2] at hth
     obtain ⟨b,uZ,_⟩:=X0 hf hb hth;have:=hs.uniq uZ;simp at this
    ·rw [e1,e2] at JC
     rw [e1] at hF;obtain ⟨x,uZ,DY,hx2⟩:=UI hf hb JC;have:=hs.uniq uZ;simp only [Code.scope.injEq] at this;subst this;rw [hlb] at DY;obtain rfl:=GX DY;obtain ⟨k1,k2,k3⟩:=aaY hx2 hs.scope hc;rw [gY];exact ⟨_,k1,agk hP hm eW iB hf hb k2 k3 hF⟩
theorem QK (hP:P.funcs.toList.all kx=true) (hm:P.follows .mixedOrders=true) {pc:FuncId->Option (List KV->KR KV)} {x:afi} (hx:ac0 P x.ac) {ls:List Lp} (hl:∀ l∈ls,Lp.ah8 P l):vF P ⟨pc,UH P ls,x⟩:=
 ⟨hx,ajI hP hm hl⟩
structure Fc where
 g:Nat
 S:aJ
 F:LFn
noncomputable def adg (P:Program):List Fc->FuncId->Option (List KV->ae->x7)
 | [],_=>none
 | c::cs,g=>cond (Nat.beq c.g g) (some (aon P c.S c.F)) (adg P cs g)
def Fc.Ok (P:Program) (c:Fc):Prop:=Nat.blt c.g yB=true/\∃ cfg L n,rp P cfg.pc/\vF P cfg/\
 ∀ vs rs e b7 iC,yu P c.S vs rs->(c.F vs rs).ev=some (e,b7,iC)->ah6 P cfg L n c.g c.S vs rs=some (e,b7,iC)
theorem QL (hP:P.funcs.toList.all kx=true) (hm:P.follows .mixedOrders=true):∀ {cs:List Fc},(∀ c∈cs,Fc.Ok P c)->ac0 P (adg P cs)
 | [],_=>fun g F h=>by simp [adg] at h
 | c::cs,hc=>fun g F h=>by
  have h:adg P (c::cs) g=some F:=h;unfold adg at h;cases hk:Nat.beq c.g g with
  | false=>
   rw [hk] at h;intro R args A k r hr;exact QL hP hm (fun c' hc'=>hc c' (rU _ hc')) g F h args A k r hr
  | true=>
   rw [hk] at h;simp only [aj,bM] at h;subst h;have e1:=aK hk;subst e1;obtain ⟨hy,cfg,L,n,eW,iB,hF⟩:=hc c (by simp);intro R args A k r hr;exact ah7 hP hm eW iB hy hF hr
end Go.K
end
section
namespace Go.K
open Go Go.aG
mutual
def Q0 (P:Program):KV->Prop
 | .int k n=>(Lit.int k n).wf=true
 | .str s=>s.size<=maxLen
 | .ts T _ n es acc=>n<=maxLen/\D0 P es/\acc=cZ es/\n * P.bytesOf T<=reachBytes
 | .agg cs=>D0 P cs
 | _=>True
def D0 (P:Program):List KV->Prop
 | []=>True
 | v::vs=>Q0 P v/\D0 P vs
end
theorem Hm {P:Program} : ∀ {a b:List KV},D0 P a->D0 P b->D0 P (a++b)
 | [],_,_,h=>h
 | x::a,b,h,k=>by
  simp only [D0] at h;exact ⟨h.1,Hm h.2 k⟩
theorem Wv {P:Program} : ∀ {l:List KV},D0 P l->∀ v∈l,Q0 P v
 | [],_,v,h=>by simp at h
 | x::l,h,v,hv=>by
  simp only [D0] at h;rcases de.1 hv with rfl | hv
  ·exact h.1
  ·exact Wv h.2 v hv
structure Q1 (P:Program) (W:World) (E:Env) (B:St) (ρ:Ren):Prop where
 fT:vm ρ B W.heap.size W
 k:dr P E .empty B
 κ:∀ b,E.κ b=none
 xi:∀ b o,B.get b=some o->o.eF=false/\o.lF=none
 α:∀ b,E.α b=none
def Env.none:Env:=⟨fun _=>.none,fun _=>.none,fun _=>.none,fun _=>.none⟩
theorem MT.empty {P:Program} {E:Env} {B:St} (tV:∀ b,E.α b=none):MT P E .empty B:=by
 have hn:∀ b o,¬ ae.empty.get b=some o:=fun b o hb=>by simp [ae.empty,ae.get] at hb
 exact ⟨fun b v hb=>(hn b _ hb).elim,fun b v hb=>(hn b _ hb).elim,fun x ⟨b,v,_,_,hb,_⟩=>(hn b _ hb).elim,fun b c v u x L N L' N' hb=>(hn b _ hb).elim,fun b c v u x y L N L' N' cs e own g k bL e' rm k' hb=>(hn b _ hb).elim,fun b x _=>tV b,fun b p e=>by rw [tV b] at e; simp at e,fun b x L N e=>by rw [tV b] at e; simp at e,fun b v x L N cs e own g k hb=>(hn b _ hb).elim,fun b v hb=>(hn b _ hb).elim⟩
theorem Q1.start (P:Program) (W:World):Q1 P W .none .empty (H4 []):=by
 refine ⟨vm.empty W,⟨?_,?_,?_,?_,?_,?_,?_,?_,?_,?_,?_,?_,?_,?_,.empty fun _=>rfl⟩,fun _=>rfl,fun b o h=>by simp [St.get,St.empty] at h,fun _=>rfl⟩
 ·intro b cs bp h; simp [ae.empty,ae.get] at h
 ·intro b cs bp h; simp [ae.empty,ae.get] at h
 ·intro b r h; simp [Env.none] at h
 ·intro b r h; simp [Env.none] at h
 ·intro b c r h; simp [Env.none] at h
 ·intro b c r _ _ _ _ _ _ h; simp [Env.none] at h
 ·intro b r h; simp [Env.none] at h
 ·intro b r h; simp [Env.none] at h
 ·intro b o h; simp [ae.empty,ae.get] at h
 ·intro b r h; simp [Env.none] at h
 ·intro b r h; simp [Env.none] at h
 ·intro b r h; simp [Env.none] at h
 ·intro g _; simp [St.members,St.empty]
 ·intro g x h; simp [St.members,St.empty] at h
theorem Q1.add {P:Program} {W:World} {E:Env} {B:St} {ρ:Ren} (h:Q1 P W E B ρ) {cs:List Value} {l:aG.Loc}
  (hc:∀ (i:Nat) (v:Value),cs[i]? = some v->∃ v',W.cell? ⟨l.cb,l.dv+i,.none⟩=some v'/\VR ρ v v'/\scalar v=true) (hl:l.cb < W.heap.size) (hf:l.dv+cs.length<=l.CM) :
  Q1 P W (E.eL B.next ⟨cs,l.bp,false,.none⟩) (B.new (.row cs l.bp false .none)) (ρ.set B.next l)/\E.le (E.eL B.next ⟨cs,l.bp,false,.none⟩)/\ρ.le (ρ.set B.next l):=by
 have hle:E.le (E.eL B.next ⟨cs,l.bp,false,.none⟩):=⟨fun _ _ e=>e,fun _ _ e=>e,fun b r e=>by
  have:=h.k.lB b r e;simp only [Env.eL]; rw [aa (by omega)]; exact e,fun _ _ e=>e⟩
 have kC:=h.fT.EV l;have nU:∀ b o,(B.new (.row cs l.bp false .none)).get b=some o->(b=B.next/\o = .row cs l.bp false .none)\/(b≠B.next/\B.get b=some o):=by
  intro b o hb;rw [St.cq] at hb;split at hb
  ·rename_i e; simp at hb; exact .inl ⟨e,hb.symm⟩
  ·rename_i e; exact .inr ⟨e,hb⟩
 have adh:∀ b o,(B.new (.row cs l.bp false .none)).get b=some o->o.eF=false/\o.lF = .none:=by
  intro b o hb;rcases nU b o hb with ⟨_,rfl⟩ | ⟨_,hb⟩
  ·exact ⟨rfl,rfl⟩
  ·exact h.xi b o hb
 refine ⟨⟨⟨⟨?_,?_,?_,?_,?_,?_⟩,?_,h.fT.size,h.fT.HX.mono kC⟩,?_,h.κ,adh,h.α⟩,hle,kC⟩
 ·intro b lY bp own bK hb
  rcases nU b _ hb with ⟨rfl,e⟩ | ⟨cH,hb⟩
  ·simp only [ct.row.injEq] at e
   obtain ⟨rfl,rfl,rfl,rfl⟩:=e;refine ⟨l,by simp [Ren.set],⟨fun i v hi=>?_,fun _=>hl,fun e=>by simp at e,fun e=>by simp at e,hf,fun e=>by simp at e,rfl,hl,fun e=>by simp at e⟩⟩;obtain ⟨v',h1,h2,h3⟩:=hc i v hi;exact ⟨v',h1,h2.mono kC,h3⟩
  ·obtain ⟨l',h1,h2⟩:=h.fT.rel.row b lY bp own bK hb
   exact ⟨l',kC _ _ h1,⟨fun i v hi=>by obtain ⟨v',q1,q2,q3⟩:=h2.cells i v hi; exact ⟨v',q1,q2.mono kC,q3⟩,h2.xi,h2.eF,h2.there,h2.fits,h2.ends,h2.bp,h2.lG,h2.mark⟩⟩
 ·intro b es hb
  have:=(adh b _ hb).1;simp [ct.eF] at this
 ·intro b s pos hb
  have:=(adh b _ hb).1;simp [ct.eF] at this
 ·intro b st e t ps a c hb
  have:=(adh b _ hb).1;simp [ct.eF] at this
 ·intro b1 b2 o1 o2 l1 l2 _ h1 _ h3
  have:=(adh b1 _ h1).1;rw [h3] at this; simp at this
 ·intro b o aP f hb hk
  have:=(adh b _ hb).2;rw [hk] at this; simp at this
 ·intro b l' hb
  rw [St.bS];simp only [Ren.set] at hb;split at hb
  ·omega
  ·have:=h.fT.jI b l' hb; omega
 ·refine ⟨?_,?_,?_,?_,?_,?_,?_,?_,?_,?_,?_,?_,?_,?_,.empty h.α⟩
  ·intro b cs bp h; simp [ae.empty,ae.get] at h
  ·intro b cs bp h; simp [ae.empty,ae.get] at h
  ·intro b r hb
   simp only [Env.eL] at hb;split at hb
   ·rename_i e
    simp at hb;subst hb e;simp
   ·have:=h.k.lB b r hb
    rw [St.cq,aa (by omega)];exact h.k.z b r hb
  ·intro b x hb; have hb:E.κ b=some x:=hb; rw [h.κ b] at hb; simp at hb
  ·exact h.k.inj
  ·exact h.k.gz
  ·exact h.k.jI
  ·exact h.k.kK
  ·exact h.k.live
  ·intro b x hb; have:=h.k.eV b x hb; rw [St.bS]; omega
  ·intro b r hb
   simp only [Env.eL] at hb;rw [St.bS];split at hb
   ·omega
   ·have:=h.k.lB b r hb; omega
  ·intro b g hb; have:=h.k.ik b g hb; rw [St.bS]; omega
  ·intro g hg; rw [St.bS] at hg; rw [St.jh]; exact h.k.fresh g (by omega)
  ·intro g x hx; rw [St.jh] at hx; rw [St.bS]; have:=h.k.mem g x hx; omega
def aa0 (P:Program):Nat->List Field->Option Nat
 | off,[]=>some off
 | off,f::fs=>cond (Nat.beq f.offset off) (aa0 P (off+P.cellsOf f.type) fs) .none
def Db (P:Program):Nat->TypeId->Bool
 | 0,_=>false
 | n+1,t=>match P.underlying t with
  | some (.int _) | some .bool | some .string=>true
  | some (.slice e)=>Nat.ble 1 (P.cellsOf e)&&Db P n e&&(match lay P 12 e with
   | some l=>Nat.beq l.ks.length (P.cellsOf e)&&(l.agg||Nat.beq l.ks.length 1)
   | .none=>false)
  | some (.struct fs)=>fs.toList.all (fun f=>Db P n f.type)&&(match aa0 P 0 fs.toList with
   | some k=>Nat.beq k (P.cellsOf t)
   | .none=>false)
  | some (.array len e)=>Db P n e&&Nat.beq (P.cellsOf t) (len * P.cellsOf e)
  | _=>false
def aa1 (W:World) (cs:List Value):Prop:=∀ a n c,Value.slice (some a) n c∈cs->0 < W.heap.size
def Got (P:Program) (W:World) (E:Env) (_:St) (ρ:Ren) (cs:List Value) (K:List KV->Prop):Prop:=
 ∃ E' B' aF ks,Q1 P W E' B' aF/\E.le E'/\ρ.le aF/\rK P E' aF ks cs/\D0 P ks/\K ks
def Ze {H:Type} (enc:TypeId×Value->H) (P:Program) (W:World) (n:Nat):Prop:=
 ∀ t,Db P n t=true->∀ (fuel:Nat) (cs:List Value) (x:DataW H×List MemPlace) (E:Env) (B:St) (ρ:Ren),DataW.trod enc P W 0 (fun _=>true) true fuel t cs=some x->(∀ w∈DataW.weights P t x.1,w<=reachBytes)->aa1 W cs->Q1 P W E B ρ->
  Got P W E B ρ cs fun ks=>∀ m l,lay P m t=some l->aD l.ks ks=true
section
variable {H:Type} {enc:TypeId×Value->H} {P:Program} {W:World} {E:Env} {B:St} {ρ:Ren}
theorem rK.append {E:Env} {ρ:Ren} {a b:List KV} {a' b' : List Value} (h:rK P E ρ a a') (k:rK P E ρ b b'):rK P E ρ (a++b) (a'++b'):=by
 obtain ⟨m,h1,h2⟩:=h;obtain ⟨l,h3,h4⟩:=k;exact ⟨m++l,h1.append h3,h2.append h4⟩
theorem rK.mono {E E' : Env} {ρ aF:Ren} {a:List KV} {a' : List Value} (h:rK P E ρ a a') (hE:E.le E') (kC:ρ.le aF):rK P E' aF a a':=by
 obtain ⟨m,h1,h2⟩:=h;exact ⟨m,h1.mono hE,h2.mono kC⟩
theorem rK.len {E:Env} {ρ:Ren} {a:List KV} {a' : List Value} (h:rK P E ρ a a'):a'.length=a.length:=by
 obtain ⟨m,h1,h2⟩:=h;rw [h2.length,h1.length]
theorem K0:∀ {ks:List CK} {vs:List KV},aD ks vs=true->vs.length=ks.length
 | [],[],_=>rfl
 | [],_::_,h=>by simp [aD] at h
 | _::_,[],h=>by simp [aD] at h
 | k::ks,v::vs,h=>by
  simp only [aD,aq] at h;simp [K0 h.2]
theorem K1:∀ {ks ls:List CK} {vs us:List KV},aD ks vs=true->aD ls us=true->aD (ks++ls) (vs++us)=true
 | [],_,[],_,_,h=>h
 | [],_,_::_,_,h,_=>by simp [aD] at h
 | _::_,_,[],_,h,_=>by simp [aD] at h
 | k::ks,ls,v::vs,us,h,h'=>by
  simp only [aD,aq] at h;simp only [List.cons_append,aD,aq];exact ⟨h.1,K1 h.2 h'⟩
theorem aa1.sub {W:World} {cs ds:List Value} (h:aa1 W cs) (k:∀ v∈ds,v∈cs):aa1 W ds:=fun a n c hm=>h a n c (k _ hm)
theorem aa2 {cs:List Value} {i n:Nat} : ∀ v∈(cs.drop i).take n,v∈cs:=fun _ h=>List.mem_of_mem_drop (List.mem_of_mem_take h)
theorem X1 (cs:List Value) (i m n:Nat):(cs.drop i).take m++(cs.drop (i+m)).take n=(cs.drop i).take (m+n):=by
 rw [List.take_add,List.drop_drop]
theorem UJ {n:Nat} (IH:Ze enc P W n) {fuel:Nat} {cs:List Value} (hp:aa1 W cs):∀ (fs:List Field) (off k:Nat) (E:Env) (B:St) (ρ:Ren),Q1 P W E B ρ->aa0 P off fs=some k->k<=cs.length->(∀ f∈fs,Db P n f.type=true)->
  (∀ f∈fs,∃ x,DataW.trod enc P W 0 (fun _=>true) true fuel f.type ((cs.drop f.offset).take (P.cellsOf f.type))=some x/\∀ w∈DataW.weights P f.type x.1,w<=reachBytes)->
  off<=k/\Got P W E B ρ ((cs.drop off).take (k - off)) fun ks=>∀ m l,OT (lay P m) fs off=some l->aD l ks=true
 | [],off,k,E,B,ρ,hi,ht,hk,_,_=>by
  simp [aa0] at ht; subst ht;refine ⟨aB _,E,B,ρ,[],hi,Env.le_refl _,Ren.le_refl _,?_,trivial,?_⟩
  ·rw [Nat.sub_self,List.take_zero]; exact ⟨[],.nil,.nil⟩
  ·intro m l h; simp [OT] at h; subst h; rfl
 | f::fs,off,k,E,B,ρ,hi,ht,hk,he,hx=>by
  unfold aa0 at ht;cases hb:Nat.beq f.offset off with
  | false=>rw [hb] at ht; simp at ht
  | true=>
   rw [hb,aj] at ht;have NQ:=aK hb;obtain ⟨x,DY,Ky⟩:=hx f (by simp);obtain ⟨E1,B1,kD,ks1,h1,h2,h3,h4,h5,h6⟩:=IH f.type (he f (by simp)) fuel _ x E B ρ DY Ky (hp.sub aa2) hi;obtain ⟨hle,E2,B2,xk,ks2,q1,q2,q3,q4,q5,q6⟩:=UJ IH hp fs (off+P.cellsOf f.type) k E1 B1 kD h1 ht hk (fun g hg=>he g (by simp [hg])) (fun g hg=>hx g (by simp [hg]));have hlen:ks1.length=P.cellsOf f.type:=by
    rw [<- h4.len,kS,List.length_drop,NQ];omega
   refine ⟨by omega,E2,B2,xk,ks1++ks2,q1,Env.le_trans h2 q2,Ren.le_trans h3 q3,?_,Hm h5 q5,?_⟩
   ·have:=(h4.mono q2 q3).append q4
    rw [NQ,X1] at this;rw [show k - off=P.cellsOf f.type+(k - (off+P.cellsOf f.type)) by omega];exact this
   ·intro m l hl
    unfold OT at hl;rw [hb,aj] at hl;obtain ⟨l1,ZM,hl⟩:=cC.1 hl;obtain ⟨l2,kT,rfl⟩:=ck.1 hl;have tS:=h6 m l1 ZM;have apW:=K0 tS;rw [<- apW,hlen] at kT;exact K1 tS (q6 m l2 kT)
theorem X2 {n:Nat} (IH:Ze enc P W n) {fuel len c:Nat} {e:TypeId} {cs:List Value} (hp:aa1 W cs) (he:Db P n e=true) (hc:P.cellsOf e=c) (hk:len * c<=cs.length) (hx:∀ i,i < len->∃ x,DataW.trod enc P W 0 (fun _=>true) true fuel e ((cs.drop (i * c)).take c)=some x/\∀ w∈DataW.weights P e x.1,w<=reachBytes) (hi:Q1 P W E B ρ):∀ j,j<=len->
  Got P W E B ρ (cs.take (j * c)) fun ks=>∀ m l,lay P m e=some l->aD (dj l.ks j) ks=true
 | 0,_=>by
  refine ⟨E,B,ρ,[],hi,Env.le_refl _,Ren.le_refl _,?_,trivial,fun m l _=>rfl⟩;rw [Nat.zero_mul,List.take_zero]; exact ⟨[],.nil,.nil⟩
 | j+1,hj=>by
  obtain ⟨E1,B1,kD,ks1,h1,h2,h3,h4,h5,h6⟩:=X2 IH hp he hc hk hx hi j (by omega);obtain ⟨x,DY,Ky⟩:=hx j (by omega);obtain ⟨E2,B2,xk,ks2,q1,q2,q3,q4,q5,q6⟩:=IH e he fuel _ x E1 B1 kD DY Ky (hp.sub aa2) h1;refine ⟨E2,B2,xk,ks1++ks2,q1,Env.le_trans h2 q2,Ren.le_trans h3 q3,?_,Hm h5 q5,?_⟩
  ·have:=(h4.mono q2 q3).append q4
   have e:=X1 cs 0 (j * c) c;simp only [List.drop_zero,ba] at e;rw [e] at this;rw [show (j+1) * c=j * c+c by rw [Nat.succ_mul]];exact this
  ·intro m l hl
   have:dj l.ks (j+1)=dj l.ks j++l.ks:=by
    have comm:∀ n,l.ks++dj l.ks n=dj l.ks n++l.ks:=by
     intro n
     induction n with
     | zero=>simp [dj]
     | succ n ih=>simp only [dj,List.append_assoc]; rw [ih]
    rw [<- comm]; rfl
   rw [this];exact K1 (h6 m l hl) (q6 m l hl)
theorem UK {a:Addr} {i k:Nat} {v:Value} (h:W.cell? ((a.add i).add k)=some v):W.cell? ⟨a.block,a.off+i+k,.none⟩=some v/\a.block < W.heap.size/\(i+k=0->a.spot = .none):=by
 have hb:((a.add i).add k).block=a.block:=by unfold Addr.add; split <;> split <;> rfl
 have ho:((a.add i).add k).off=a.off+i+k:=by
  unfold Addr.add;split <;> split <;> simp_all
 have hs:((a.add i).add k).spot = .none:=by
  unfold World.cell? at h;split at h
  ·split at h
   ·simp at h
   ·rename_i hs; simpa using hs
  ·simp at h
 have he:(a.add i).add k=⟨a.block,a.off+i+k,.none⟩:=by
  generalize (a.add i).add k=p at hb ho hs;obtain ⟨b,o,s⟩:=p;simp at hb ho hs;simp [hb,ho,hs]
 refine ⟨he ▸ h,?_,fun e=>?_⟩
 ·rw [he] at h
  unfold World.cell? at h;split at h
  ·rename_i heq
   exact (rV.1 heq).1
  ·simp at h
 ·have h1:i=0:=by omega
  have h2:k=0:=by omega
  subst h1 h2;simpa [Addr.add] using hs
theorem aa3 {a:Addr} {n:Nat} {cs:List Value} (h:W.cells? 0 a n=some cs):cs.length=n/\∀ (k:Nat) (v:Value),cs[k]? = some v->W.cell? (a.add k)=some v:=by
 unfold World.cells? at h;rw [aE (qK _)] at h;have hl:=mapM_some_length h;simp at hl;refine ⟨hl,fun k v hv=>?_⟩;have hk:k < n:=by rw [<- hl]; exact (cG.1 hv).1
 rw [mapM_some_get h k k (by simp [hk])];exact hv
theorem ajK {ks:List KV} {agg:Bool} (h:D0 P ks):Q0 P (Om agg ks):=by
 cases agg with
 | true=>exact h
 | false=>
  match ks,h with
  | [],_=>exact trivial
  | v::vs,h=>exact h.1
theorem RF {E:Env} {ρ:Ren} : ∀ {ks:List CK} {vs:List KV} {m:List Value},aD ks vs=true->aV P E vs m->∀ v∈m,scalar v=true
 | [],[],m,_,h,v,hv=>by rw [h.b5] at hv; simp at hv
 | [],_::_,_,h,_,_,_=>by simp [aD] at h
 | _::_,[],_,h,_,_,_=>by simp [aD] at h
 | k::ks,u::vs,m,h,hm,v,hv=>by
  simp only [aD,aq] at h;obtain ⟨y,ys,rfl,h1,h2⟩:=hm.cons_inv;rcases de.1 hv with rfl | hv
  ·refine h1.scalar ?_
   have:=h.1;cases u <;> first | rfl | (cases k <;> simp [kindOk] at this)
  ·exact RF (ρ:=ρ) h.2 h2 v hv
theorem X3 {n:Nat} (IH:Ze enc P W n) {fuel len c:Nat} {e:TypeId} {l:Lay} {a:Addr} (he:Db P n e=true) (hl:lay P 12 e=some l) (G4:l.ks.length=c) (ha:l.agg=true\/l.ks.length=1) (hc:P.cellsOf e=c) (hc1:1<=c)
  (hx:∀ i,i < len->∃ x,(W.cells? 0 (a.add (i * c)) c).bind (DataW.trod enc P W 0 (fun _=>true) true fuel e)=some x/\∀ w∈DataW.weights P e x.1,w<=reachBytes) (hi:Q1 P W E B ρ):∀ j,j<=len->
  ∃ E' B' aF es us fl,Q1 P W E' B' aF/\E.le E'/\ρ.le aF/\es.length=j/\aV P E' es us/\dH l es=true/\D0 P es/\fl.length=j * c/\qI c 0 fl us/\
   (∀ (i:Nat) (v:Value),fl[i]? = some v->∃ v',W.cell? ⟨a.block,a.off+i,.none⟩=some v'/\VR aF v v'/\scalar v=true)/\(0 < j->a.block < W.heap.size/\a.spot = .none)
 | 0,_=>⟨E,B,ρ,[],[],[],hi,Env.le_refl _,Ren.le_refl _,rfl,.nil,rfl,trivial,by simp,fun i x h=>by simp at h,fun i v h=>by simp at h,fun h=>by omega⟩
 | j+1,hj=>by
  obtain ⟨E1,B1,kD,es,us,fl,h1,h2,h3,h4,h5,h6,h7,h8,h9,pn,F5⟩:=X3 IH he hl G4 ha hc hc1 hx hi j (by omega);obtain ⟨x,DY,Ky⟩:=hx j (by omega);obtain ⟨cs,Kz,hx2⟩:=cC.1 DY;obtain ⟨hlen,nU⟩:=aa3 Kz;have GD:a.block < W.heap.size:=by
   have h0:0 < cs.length:=by rw [hlen]; omega
   exact (UK (nU 0 _ (cI h0))).2.1
  obtain ⟨E2,B2,xk,ks,q1,q2,q3,⟨m,q4,q4'⟩,q5,q6⟩:=IH e he fuel cs x E1 B1 kD hx2 Ky (fun _ _ _ _=>by omega) h1;have hk:=q6 12 l hl;have VN:m.length=c:=by rw [q4.length,K0 hk,G4]
  have BN:l.agg=true\/m.length=1:=by rw [VN,<- G4]; exact ha
  have JC:=RF (ρ:=ρ) hk q4;have qO:=aan JC BN;have hul:us.length=j:=by rw [h5.length,h4]
  refine ⟨E2,B2,xk,es++[Om l.agg ks],us++[mkE l.agg m],fl++m,q1,Env.le_trans h2 q2,Ren.le_trans h3 q3,by simp [h4],(h5.mono q2).append (.cons (aao q4 BN) .nil),?_,Hm h7 ⟨ajK q5,trivial⟩,?_,?_,?_,fun _=>⟨GD,?_⟩⟩
  ·have:∀ {es:List KV},dH l es=true->dH l (es++[Om l.agg ks])=true:=by
    intro es
    induction es with
    | nil=>intro _; simp [dH,Wi hk ha]
    | cons e es ih=>
     intro h;simp only [dH,aq] at h;simp only [List.cons_append,dH,aq];exact ⟨h.1,ih h.2⟩
   exact this h6
  ·rw [kv,h8,VN,Nat.succ_mul]
  ·intro i y hy
   by_cases hi:i < j
   ·rw [qM (by omega)] at hy
    obtain ⟨r1,r2⟩:=h9 i y hy;refine ⟨r1,fun k z hz=>?_⟩;have:=r2 k z hz;rw [qM (cG.1 this).1];exact this
   ·rw [tL (by omega),hul] at hy
    have hij:i=j:=by
     have:=(cG.1 hy).1;simp at this;omega
    subst hij;simp at hy;subst hy;have dS:(mkE l.agg m).cells.size=c:=by rw [<- Array.length_toList,qO,VN]
    refine ⟨dS,fun k z hz=>?_⟩;rw [<- Array.getElem?_toList,qO] at hz;rw [tL (by rw [h8]; omega),h8,show 0+i * c+k - i * c=k by omega];exact hz
  ·intro i v hv
   by_cases hi:i < fl.length
   ·rw [qM hi] at hv
    obtain ⟨v',r1,r2,r3⟩:=pn i v hv;exact ⟨v',r1,r2.mono q3,r3⟩
   ·rw [tL (by omega)] at hv
    obtain ⟨v',r1,r2⟩:=q4'.get hv;refine ⟨v',?_,r2,JC v (gh hv)⟩;have:=(UK (nU _ _ r1)).1;rw [h8] at this;rw [h8] at hi;rw [show a.off+i=a.off+j * c+(i - j * c) by omega];exact this
  ·by_cases h0:j=0
   ·subst h0
    have h0:0 < cs.length:=by rw [hlen]; omega
    exact (UK (nU 0 _ (cI h0))).2.2 (by omega)
   ·exact (F5 (by omega)).2
theorem Gb {e:TypeId} : ∀ {l:List (DataW H)} {d:DataW H},d∈l->∀ w∈DataW.weights P e d,w∈DataW.weightsAll P e l
 | [],_,h,_,_=>by simp at h
 | x::l,d,h,w,hw=>by
  simp only [DataW.weightsAll,jF];rcases de.1 h with rfl | h
  ·exact .inl hw
  ·exact .inr (Gb h w hw)
theorem agl:∀ n,Ze enc P W n
 | 0=>fun t ht=>by simp [Db] at ht
 | n+1=>by
  have IH:=agl n;intro t ht fuel cs x E B ρ hx hz hp hi;have hn:∀ {m l},lay P m t=some l->∃ m',m=m' + 1:=by
   intro m l h;cases m with
   | zero=>simp [lay] at h
   | succ m=>exact ⟨m,rfl⟩
  unfold Db at ht;split at ht
  ·rename_i k hu
   obtain ⟨i,rfl,_,hw⟩:=DataW.trod_int hu hx;refine ⟨E,B,ρ,[.int k i],hi,Env.le_refl _,Ren.le_refl _,⟨_,.cons .mkInt .nil,.cons (by simp [VR]) .nil⟩,⟨hw,trivial⟩,fun m l h=>?_⟩;obtain ⟨m',rfl⟩:=hn h;simp only [lay,hu,bM] at h;subst h;simp [aD,kindOk]
  ·rename_i hu
   obtain ⟨b,rfl,_⟩:=DataW.trod_bool hu hx;refine ⟨E,B,ρ,[.bool b],hi,Env.le_refl _,Ren.le_refl _,⟨_,.cons .tU .nil,.cons (by simp [VR]) .nil⟩,⟨trivial,trivial⟩,fun m l h=>?_⟩;obtain ⟨m',rfl⟩:=hn h;simp only [lay,hu,bM] at h;subst h;simp [aD,kindOk]
  ·rename_i hu
   obtain ⟨s,rfl,_,hw⟩:=DataW.trod_string hu hx;refine ⟨E,B,ρ,[.str s],hi,Env.le_refl _,Ren.le_refl _,⟨_,.cons .mkStr .nil,.cons (by simp [VR]) .nil⟩,⟨hw,trivial⟩,fun m l h=>?_⟩;obtain ⟨m',rfl⟩:=hn h;simp only [lay,hu,bM] at h;subst h;simp [aD,kindOk]
  ·rename_i e hu
   simp only [aq] at ht;obtain ⟨⟨vB,Pe⟩,ht3⟩:=ht;have hc1:=dX vB;split at ht3
   ·rename_i l hl
    simp only [aq,u7] at ht3;have G4:=aK ht3.1;have BN:l.agg=true\/l.ks.length=1:=ht3.2.imp id aK;have hlF:aQ P e=l:=by simp [aQ,hl]
    have dS:aU P e=P.cellsOf e:=by rw [aU,hlF,G4]
    have fin:∀ {ks:List KV} {m:Nat} {l' : Lay} {mk:Mk} {nn:Nat} {es:List KV} {acc:Nat->KV},mk = .any->lay P m t=some l'->ks = [.ts e mk nn es acc]->aD l'.ks ks=true:=by
     intro ks m l' mk nn es acc SA h qE;obtain ⟨m',rfl⟩:=hn h;simp only [lay,hu,bM] at h;subst h qE SA;simp [aD,kindOk]
    rcases DataW.trod_slice hu hx with ⟨rfl,_⟩ | ⟨a,len,cap,elems,rest,fu,_,rfl,hxe,_,hle,aiY,CZ,hE,hR,_⟩
    ·refine ⟨E,B,ρ,[.ts e .any 0 [] qG],hi,Env.le_refl _,Ren.le_refl _,⟨[.slice .none 0 0],.cons ?_ .nil,.cons (by simp [VR]) .nil⟩,⟨⟨qK _,trivial,rfl,by rw [Nat.zero_mul]; exact qK _⟩,trivial⟩,fun m l h=>fin rfl h rfl⟩
     simp only [VK];exact ⟨⟨rfl,fun i h=>by omega,rfl⟩,[],.nil,.none,0,rfl,aB _,.inl ⟨rfl,rfl⟩,trivial⟩
    ·have anv:len * P.bytesOf e<=reachBytes:=by
      refine gR (Nat.mul_le_mul_right _ ?_) (hz ((elems.length+rest.length) * P.bytesOf e) ?_)
      ·omega
      ·rw [hxe]; simp [DataW.weights,hu]
     have hxs:∀ i,i < len->∃ x,(W.cells? 0 (a.add (i * P.cellsOf e)) (P.cellsOf e)).bind (DataW.trod enc P W 0 (fun _=>true) true fu e)=some x/\∀ w∈DataW.weights P e x.1,w<=reachBytes:=by
      intro i h;rw [hE i h];have hi:i < elems.length:=by rw [CZ]; exact h
      refine ⟨_,cI hi,fun w hw=>hz w ?_⟩;rw [hxe];have:=Gb (l:=elems.map (·.1)) (GY.2 ⟨_,Qk hi,rfl⟩) w hw;simp only [DataW.weights,hu,de,jF];exact .inr (.inl this)
     obtain ⟨E1,B1,kD,es,us,fl,h1,h2,h3,h4,h5,h6,h7,h8,h9,pn,F5⟩:=X3 IH Pe hl G4 BN rfl hc1 hxs hi len (aB _);have FW:0 < cap->a.block < W.heap.size/\a.spot = .none:=by
      intro h0;by_cases Lw:0 < len
      ·exact F5 Lw
      ·have Lw:len=0:=by omega
       subst Lw;obtain ⟨hr1,yy⟩:=hR rfl;have hr3:=yy 0 (by omega);rw [cI (by rw [hr1]; omega)] at hr3;obtain ⟨bL,alx,_⟩:=cC.1 hr3;obtain ⟨hlen,nU⟩:=aa3 alx;have h0:0 < bL.length:=by rw [hlen]; omega
       have:=UK (nU 0 _ (cI h0));exact ⟨this.2.1,this.2.2 (by omega)⟩
     have hh:0 < W.heap.size:=hp a len cap (by simp);have hlenes:us.length=len:=by rw [h5.length,h4]
     have apX:∃ lc:aG.Loc,lc.bp=P.cellsOf e/\lc.cb < W.heap.size/\lc.dv+fl.length<=lc.CM/\(cap≠0->a=⟨lc.cb,lc.dv,.none⟩)/\lc.dv+cap * lc.bp<=lc.CM/\
       (∀ (i:Nat) (v:Value),fl[i]? = some v->∃ v',W.cell? ⟨lc.cb,lc.dv+i,.none⟩=some v'/\VR kD v v'/\scalar v=true):=by
      by_cases h0:cap=0
      ·subst h0
       have Lw:len=0:=by omega
       subst Lw;refine ⟨⟨0,0,0,P.cellsOf e⟩,rfl,hh,by simp [h8],fun h=>absurd rfl h,by simp,fun i v hv=>?_⟩;have:fl = []:=by apply List.eq_nil_of_length_eq_zero; simp [h8]
       rw [this] at hv; simp at hv
      ·obtain ⟨p1,p2⟩:=FW (by omega)
       refine ⟨⟨a.block,a.off,a.off+cap * P.cellsOf e,P.cellsOf e⟩,rfl,p1,?_,fun _=>?_,aB _,pn⟩
       ·rw [h8]; exact Nat.add_le_add_left (Nat.mul_le_mul_right _ hle) _
       ·obtain ⟨b,o,s⟩:=a
        simp at p2;simp [p2]
     obtain ⟨lc,l1,l2,l3,l4,l5,l6⟩:=apX;obtain ⟨i1,i2,i3⟩:=h1.add l6 l2 l3;refine ⟨_,_,_,[.ts e .any len es (cZ es)],i1,Env.le_trans h2 i2,Ren.le_trans h3 i3,⟨[.slice (some ⟨B1.next,0,.none⟩) len len],.cons ?_ .nil,.cons ?_ .nil⟩,⟨⟨by omega,h7,rfl,anv⟩,trivial⟩,fun m l h=>fin rfl h rfl⟩
     ·simp only [VK]
      refine ⟨⟨h4.symm,fun i _=>rfl,by rw [hlF]; exact h6⟩,us,h5.mono i2,some ⟨B1.next,0,.none⟩,len,rfl,aB _,.inr ⟨B1.next,0,⟨fl,lc.bp,false,.none⟩,rfl,by simp [Env.eL],by rw [l1,dS],?_⟩,trivial⟩;rw [dS];exact h9
     ·simp only [VR]
      exact ⟨trivial,aB _,lc,a,cap,by simp [Ren.set],hle,fun h=>by simpa using l4 h,by simpa using l5,rfl⟩
   ·simp at ht3
  ·rename_i fs hu
   simp only [aq,fg] at ht;split at ht
   ·rename_i k hk
    have hkc:=aK ht.2;obtain ⟨xs,fu,_,hxe,hlen,hxs,hf⟩:=DataW.trod_struct hu hx;have hff:∀ f∈fs.toList,∃ x,DataW.trod enc P W 0 (fun _=>true) true fu f.type ((cs.drop f.offset).take (P.cellsOf f.type))=some x/\∀ w∈DataW.weights P f.type x.1,w<=reachBytes:=by
     intro f hm;obtain ⟨i,Vz⟩:=List.getElem?_of_mem hm;have hi2:fs[i]? = some f:=by simpa using Vz
     have bj:i < xs.length:=by rw [hxs]; exact (rV.1 hi2).1
     refine ⟨xs[i],by rw [hf i f hi2]; exact cI bj,fun w hw=>hz w ?_⟩;rw [hxe];simp only [DataW.weights,hu];exact DataW.weights_mem_each (j:=i) (t:=f.type) (d:=xs[i].1) (by rw [o8,Vz]; rfl) (by rw [o8,cI bj]; rfl) w hw
    obtain ⟨_,E1,B1,kD,ks,h1,h2,h3,h4,h5,h6⟩:=UJ IH hp fs.toList 0 k E B ρ hi hk (by rw [hkc,hlen]; exact aB _) ht.1 hff;refine ⟨E1,B1,kD,ks,h1,h2,h3,?_,h5,fun m l h=>?_⟩
    ·have e:(cs.drop 0).take (k - 0)=cs:=by rw [List.drop_zero,Nat.sub_zero,hkc,<- hlen,List.take_length]
     rw [e] at h4;exact h4
    ·obtain ⟨m',rfl⟩:=hn h
     simp only [lay,hu,ck] at h;obtain ⟨l',uY,rfl⟩:=h;exact h6 m' l' uY
   ·simp at ht
  ·rename_i len e hu
   simp only [aq] at ht;have hkc:=aK ht.2;obtain ⟨xs,fu,_,hxe,hlen,hxs,hf⟩:=DataW.trod_array hu hx;have hff:∀ i,i < len->∃ x,DataW.trod enc P W 0 (fun _=>true) true fu e ((cs.drop (i * P.cellsOf e)).take (P.cellsOf e))=some x/\∀ w∈DataW.weights P e x.1,w<=reachBytes:=by
    intro i h;have hi:i < xs.length:=by rw [hxs]; exact h
    refine ⟨xs[i],by rw [hf i h]; exact cI hi,fun w hw=>hz w ?_⟩;rw [hxe];simp only [DataW.weights,hu];exact Gb (l:=xs.map (·.1)) (GY.2 ⟨_,Qk hi,rfl⟩) w hw
   obtain ⟨E1,B1,kD,ks,h1,h2,h3,h4,h5,h6⟩:=X2 IH hp ht.1 rfl (by rw [hlen,hkc]; exact aB _) hff hi len (aB _);refine ⟨E1,B1,kD,ks,h1,h2,h3,?_,h5,fun m l h=>?_⟩
   ·rw [<- hkc,<- hlen,List.take_length] at h4
    exact h4
   ·obtain ⟨m',rfl⟩:=hn h
    simp only [lay,hu,ck] at h;obtain ⟨l',uY,rfl⟩:=h;exact h6 m' l' uY
  ·simp at ht
end
end Go.K
end
section
namespace Go.K
open Go Go.aG Go.WideShapes
mutual
def Gc (P:Program):KV->Prop
 | .ts T _ n es acc=>gU P T n es acc/\Bm P es
 | .agg cs=>Bm P cs
 | _=>True
def Bm (P:Program):List KV->Prop
 | []=>True
 | v::vs=>Gc P v/\Bm P vs
end
mutual
theorem VK.deep {P:Program} {E:Env} : ∀ {v:KV} {u:Value},VK P E v u->Gc P v
 | .ts T m n es acc,u,h=>by
  obtain ⟨h1,us,h2,_⟩:=h.kW;exact ⟨h1,aV.deep h2⟩
 | .agg cs,u,h=>by
  obtain ⟨l,_,h1⟩:=h.kJ;exact aV.deep (vs:=cs) h1
 | .int _ _,_,_ | .bool _,_,_ | .str _,_,_ | .ma _,_,_ | .tp ..,_,_ | .ptr ..,_,_ | .al ..,_,_ | .ap ..,_,_ | .sl ..,_,_ | .GF,_,_ | .kl,_,_ | .CR,_,_ | .map _,_,_ | .fn ..,_,_ | .H5,_,_ | .iface ..,_,_ | .H6,_,_ | .bf,_,_=>trivial
theorem aV.deep {P:Program} {E:Env} : ∀ {vs:List KV} {us:List Value},aV P E vs us->Bm P vs
 | [],_,_=>trivial
 | v::vs,us,h=>by
  simp only [aV] at h;obtain ⟨y,ys,_,h1,h2⟩:=h;exact ⟨VK.deep h1,aV.deep h2⟩
end
def lV (P:Program):List TypeId->List KV->Bool
 | [],[]=>true
 | t::ts,v::vs=>cw (aQ P t) v&&lV P ts vs
 | _,_=>false
theorem X4 {P:Program} : ∀ {ts:List TypeId} {aqL:List KV},lV P ts aqL=true->aqL.length=ts.length
 | [],[],_=>rfl
 | [],_::_,h=>by simp [lV] at h
 | _::_,[],h=>by simp [lV] at h
 | t::ts,v::vs,h=>by
  simp only [lV,aq] at h;simp [X4 h.2]
def UL (P:Program) (t:TypeId):Bool:=Db P 30 t&&(match lay P 12 t with
 | some l=>Nat.beq l.ks.length (P.cellsOf t)
 | .none=>false)
section
variable {H:Type} {enc:TypeId×Value->H} {P:Program} {W:World}
theorem aex {r:Reach} {base:Nat} {t:TypeId} {v:Value} (h:Value.okWide P W r base t v):aa1 W v.cells.toList:=by
 intro a n c hm;have cell:∀ u,Cell.okWide P W r base u (.slice (some a) n c)->0 < W.heap.size:=by
  intro u hu;unfold Cell.okWide at hu;split at hu <;> try (rename_i heq; simp at heq; done)
  unfold Cell.ok at hu;split at hu <;> try (rename_i heq; simp at heq; done)
  ·rename_i e heq
   simp at heq;obtain ⟨rfl,rfl,rfl⟩:=heq;obtain ⟨_,_,_,_,row,cells,hs,_⟩:=hu;unfold World.shape? at hs;split at hs
   ·rename_i hh
    have:=(rV.1 hh).1;omega
   ·simp at hs
  ·exact hu.elim
 unfold Value.okWide at h;split at h
 ·obtain ⟨cs,rfl,_,ts,_,_,hc⟩:=h
  obtain ⟨i,hi⟩:=List.getElem?_of_mem hm;obtain ⟨u,_,hu⟩:=hc i _ (by simpa [Value.cells] using hi);exact cell u hu
 ·obtain ⟨cs,rfl,_,ts,_,_,hc⟩:=h
  obtain ⟨i,hi⟩:=List.getElem?_of_mem hm;obtain ⟨u,_,hu⟩:=hc i _ (by simpa [Value.cells] using hi);exact cell u hu
 ·have hv:v.cells.toList = [v]\/∃ cs,v = .agg cs:=by cases v <;> first | exact .inl rfl | exact .inr ⟨_,rfl⟩
  rcases hv with hv | ⟨cs,rfl⟩
  ·rw [hv] at hm
   simp at hm;subst hm;exact cell t h
  ·exfalso
   unfold Cell.okWide at h;split at h <;> try (rename_i heq; simp at heq; done)
   unfold Cell.ok at h;split at h <;> first | (rename_i heq; simp at heq; done) | exact h.elim
theorem akG {E:Env} {B:St} {ρ:Ren} {t:TypeId} {v:Value} {d:DataW H} {ps:List MemPlace} {r:Reach} {base:Nat} (ht:UL P t=true) (hd:DataW.Trod enc P W 0 (fun _=>true) true t v d ps) (hz:∀ w∈DataW.weights P t d,w<=reachBytes) (hw:Value.okWide P W r base t v) (hi:Q1 P W E B ρ) :
  ∃ E' B' aF a,Q1 P W E' B' aF/\E.le E'/\ρ.le aF/\VC P E' aF a v/\cw (aQ P t) a=true/\Q0 P a:=by
 unfold UL at ht;simp only [aq] at ht;obtain ⟨vB,Pe⟩:=ht;split at Pe
 ·rename_i l hl
  obtain ⟨fuel,hf⟩:=hd;obtain ⟨E1,B1,kD,ks,h1,h2,h3,⟨m,h4,h4'⟩,h5,h6⟩:=agl 30 t vB fuel _ _ E B ρ hf hz (aex hw) hi;have hk:=h6 12 l hl;have hlF:aQ P t=l:=by simp [aQ,hl]
  have ajL:(l.agg=true/\∃ cs:Array Value,v = .agg cs)\/(l.agg=false/\l.ks.length=1/\v.cells.toList = [v]):=by
   unfold Db at vB;split at vB
   ·rename_i k hu
    obtain ⟨n,rfl⟩:=okWide_int hu hw;simp only [lay,hu,bM] at hl;subst hl; exact .inr ⟨rfl,rfl,rfl⟩
   ·rename_i hu
    obtain ⟨n,rfl⟩:=okWide_bool hu hw;simp only [lay,hu,bM] at hl;subst hl; exact .inr ⟨rfl,rfl,rfl⟩
   ·rename_i hu
    obtain ⟨n,rfl⟩:=okWide_string hu hw;simp only [lay,hu,bM] at hl;subst hl; exact .inr ⟨rfl,rfl,rfl⟩
   ·rename_i e hu
    obtain ⟨a,n,c,rfl⟩:=okWide_slice hu hw;simp only [lay,hu,bM] at hl;subst hl; exact .inr ⟨rfl,rfl,rfl⟩
   ·rename_i fs hu
    simp only [lay,hu,ck] at hl;obtain ⟨_,_,rfl⟩:=hl;unfold Value.okWide at hw;rw [hu] at hw;obtain ⟨cs,rfl,_⟩:=hw;exact .inl ⟨rfl,cs,rfl⟩
   ·rename_i len e hu
    simp only [lay,hu,ck] at hl;obtain ⟨_,_,rfl⟩:=hl;unfold Value.okWide at hw;rw [hu] at hw;obtain ⟨cs,rfl,_⟩:=hw;exact .inl ⟨rfl,cs,rfl⟩
   ·simp at vB
  refine ⟨E1,B1,kD,Om l.agg ks,h1,h2,h3,?_,?_,ajK h5⟩
  ·rcases ajL with ⟨ha,cs,rfl⟩ | ⟨ha,hlen,hv⟩
   ·rw [ha]
    exact ⟨.agg ⟨m⟩,.rI h4,VR.rI (l':=cs.toList) h4'⟩
   ·rw [ha]
    rw [hv] at h4';have VN:m.length=1:=by have:=h4'.length; simpa using this.symm
    have:=aao (agg:=false) h4 (.inr VN)
    match m,VN,h4',this with
    | [y],_,h4',this=>
     obtain ⟨z,zs,e,q1,_⟩:=h4'.cons_inv;simp at e;refine ⟨y,this,?_⟩;rw [e.1]; exact q1
  ·rw [hlF]
   exact Wi hk (ajL.imp (·.1) (·.2.1))
 ·simp at Pe
theorem aa4 {r:Reach} {base:Nat} : ∀ {ts:List TypeId} {vs:List Value} {ds:List (DataW H)} {ps:List MemPlace} {E:Env} {B:St} {ρ:Ren},(∀ t∈ts,UL P t=true)->DataW.TrodAll enc P W 0 (fun _=>true) true ts vs ds ps->(∀ w∈DataW.weightsEach P ts ds,w<=reachBytes)->
  (∀ (j:Nat) t v,ts[j]? = some t->vs[j]? = some v->Value.okWide P W r base t v)->Q1 P W E B ρ->∃ E' B' aF aqL,Q1 P W E' B' aF/\E.le E'/\ρ.le aF/\rK P E' aF aqL vs/\lV P ts aqL=true/\D0 P aqL
 | [],vs,ds,ps,E,B,ρ,_,h,_,_,hi=>by
  obtain ⟨rfl,_,_⟩:=Go.ChangeShapes.trodAll_nil h;exact ⟨E,B,ρ,[],hi,Env.le_refl _,Ren.le_refl _,⟨[],.nil,.nil⟩,rfl,trivial⟩
 | t::ts,vs,ds,ps,E,B,ρ,ht,h,hz,hw,hi=>by
  obtain ⟨v,vs1,d,ds1,a,b,rfl,rfl,rfl,h1,h2⟩:=Go.ChangeShapes.trodAll_cons h;obtain ⟨E1,B1,kD,x,q1,q2,q3,⟨u,q4,q4'⟩,q5,q6⟩:=akG (ht t (by simp)) h1 (fun w hw=>hz w (by simp only [DataW.weightsEach,jF]; exact .inl hw)) (hw 0 t v rfl rfl) hi;obtain ⟨E2,B2,xk,xs,p1,p2,p3,⟨m,p4,p4'⟩,p5,p6⟩:=aa4 (fun t' h'=>ht t' (by simp [h'])) h2 (fun w hw=>hz w (by simp only [DataW.weightsEach,jF]; exact .inr hw)) (fun j t' v' h3 h4=>hw (j+1) t' v' (by simpa using h3) (by simpa using h4)) q1;exact ⟨E2,B2,xk,x::xs,p1,Env.le_trans q2 p2,Ren.le_trans q3 p3,⟨u::m,.cons (q4.mono p2) p4,.cons (q4'.mono p3) p4'⟩,by simp [lV,q5,p5],⟨q6,p6⟩⟩
theorem RG:∀ {ts us:List TypeId} {ds gs:List (DataW H)},∀ w∈DataW.weightsEach P ts ds,w∈DataW.weightsEach P (ts++us) (ds++gs)
 | [],_,_,_,w,h=>by simp [DataW.weightsEach] at h
 | _::_,_,[],_,w,h=>by simp [DataW.weightsEach] at h
 | t::ts,us,d::ds,gs,w,h=>by
  simp only [List.cons_append,DataW.weightsEach,jF] at h ⊢;exact h.imp id (RG w)
theorem agm {ts us:List TypeId} {ds gs:List (DataW H)} (h:(DataW.weightsEach P (ts++us) (ds++gs)).all (·<=reachBytes)=true):∀ w∈DataW.weightsEach P ts ds,w<=reachBytes:=fun w hw=>by
 have:=fg.1 h w (RG w hw);simpa using this
theorem anw (hP:P.funcs.toList.all kx=true) (hm:P.follows .mixedOrders=true) {cfg:dD} (eW:rp P cfg.pc) (iB:vF P cfg) {L n:Nat} {f:FuncId} {ts:List TypeId} (hts:ts.all (UL P)=true)
  (qF:∀ aqL,lV P ts aqL=true->D0 P aqL->Bm P aqL->CV P cfg L n f (normArgs P ts aqL)=some (.bool true)) {args:Array Value} {ds:List (DataW H)} {ps:List MemPlace} {r:Reach} {base:Nat}
  (hd:DataW.TrodAll enc P W 0 (fun _=>true) true ts args.toList ds ps) (hz:∀ w∈DataW.weightsEach P ts ds,w<=reachBytes) (hw:∀ (j:Nat) t v,ts[j]? = some t->args.toList[j]? = some v->Value.okWide P W r base t v) :
  Calls P f args W fun e w'=>e = .returned (.bool true)/\RowKit.Below W.heap.size W w':=by
 obtain ⟨E,B,ρ,aqL,h1,_,_,h4,h5,h6⟩:=aa4 (fg.1 hts) hd hz hw (Q1.start P W);have Ww:Bm P aqL:=by obtain ⟨m,q,_⟩:=h4; exact q.deep
 have lA:=qF aqL h5 h6 Ww;have h4:rK P E ρ (normArgs P ts aqL) args.toList:=by
  obtain ⟨m,q,q'⟩:=h4;exact ⟨m,aV.Nf (.of rfl) q (X4 h5),q'⟩
 have tZ:=uC (R:=KV) hP hm eW iB L n;obtain ⟨fn,c,hf,hc,cL,hnm,lA⟩:=Pt hP lA;have:=Nd eW tZ hm L hf hc cL (iB.2 f fn c hf hc) lA h4 (base:=W.heap.size) (w:=W) ⟨h1.k,h1.fT⟩;refine this.mono ?_;rintro e w' ⟨vs,b7,E1,A1,B1,kD,rfl,⟨m,q1,q1'⟩,q2,q3⟩;have q3:Bool.rec (motive:=fun _=>Option KV) .none (some (H9 (zi P (vv P f) (zX A1 vs).1))) (Nat.beq vs.length (vv P f).length)=some (.bool true):=q3;obtain ⟨E2,_,q1⟩:=JS q2.fT q1;cases hb:Nat.beq vs.length (vv P f).length with
 | false=>rw [hb] at q3; exact absurd q3 (by simp)
 | true=>
  rw [hb] at q3;have q3:some (H9 (zi P (vv P f) (zX A1 vs).1))=some (.bool true):=q3;simp only [bM] at q3;have hv:VC P E2 kD (H9 (zi P (vv P f) (zX A1 vs).1)) (aeo b7):=Ps ⟨m,by rw [Iw]; exact aV.Nf (.of rfl) q1 ((M6 A1 vs).trans (aK hb)),q1'⟩;rw [q3] at hv;have hg:=q2.eH;refine ⟨by rw [hv.eK],hg.kept.os,hg.kept.tape,hg.kept.output,hg.kept.size,fun k hk=>hg.kept.block k hk ?_⟩;rintro ⟨b,o,l,ho,KG,_⟩;rw [(h1.xi b o ho).1] at KG;simp at KG
end
noncomputable def adi:List (Nat×(List KV->KR KV))->FuncId->Option (List KV->KR KV)
 | [],_=>.none
 | p::ps,g=>cond (Nat.beq p.1 g) (some p.2) (adi ps g)
theorem ajM {P:Program} : ∀ {ps:List (Nat×(List KV->KR KV))},(∀ p∈ps,bQ P p.1 p.2)->rp P (adi ps)
 | [],_=>fun g F h=>by simp [adi] at h
 | p::ps,h=>fun g F hF=>by
  unfold adi at hF;cases hb:Nat.beq p.1 g with
  | true=>
   rw [hb] at hF;simp only [aj,bM] at hF;have:=aK hb;subst this hF;exact h p (by simp)
  | false=>
   rw [hb] at hF;exact ajM (fun q hq=>h q (rU _ hq)) g F hF
theorem agn (l:Lay):cw l .bf=false:=by
 show (!l.agg&&aD l.ks [.bf])=false;cases l.ks with
 | nil=>simp [aD]
 | cons c cs=>cases c <;> simp [aD,kindOk]
theorem ah9 {P:Program} {t:TypeId} {v:KV} (h:cw (aQ P t) (TT P t v)=true):∃ w,TT P t v=ij P (cg P dB) t w:=by
 unfold TT at h ⊢;cases hb:cw (aQ P t) (dM (aQ P t) v) with
 | false=>rw [hb,aI,agn] at h; simp at h
 | true=>exact ⟨dM (aQ P t) v,rfl⟩
theorem Nq:∀ {ks:List CK} {cs:List KV},aD ks cs=true->CS ks cs=cs
 | [],[],_=>rfl
 | [],_::_,h=>by simp [aD] at h
 | _::_,[],h=>by simp [aD] at h
 | k::ks,v::vs,h=>by
  simp only [aD,aq] at h;have e:nN k v=v:=by
   unfold nN;split
   ·simp [kindOk] at h
   ·rename_i t t' m n es acc
    cases m <;> simp [kindOk] at h;obtain ⟨rfl,_⟩:=h;rw [tM,aj]
   ·rw [h.1]; rfl
  rw [CS,e,Nq h.2]
theorem ago {l:Lay} {v:KV} (h:cw l v=true):dM l v=v:=by
 by_cases ha:∃ cs,v = .agg cs
 ·obtain ⟨cs,rfl⟩:=ha
  simp only [cw,aq] at h;show cond (l.agg&&Nat.beq cs.length l.ks.length) (KV.agg (CS l.ks cs)) .bf=_;rw [h.1,tX h.2,Nq h.2];simp
 ·have h1:(!l.agg&&aD l.ks [v])=true:=by
   cases v <;> first | exact h | exact absurd ⟨_,rfl⟩ ha | simp [cw] at h
  simp only [aq,lU] at h1;have e:dM l v=cond l.agg .bf (match l.ks with | [c]=>nN c v | _=>.bf):=by
   cases v <;> first | rfl | exact absurd ⟨_,rfl⟩ ha
  rw [e,h1.1,aI]
  match hk:l.ks,h1.2 with
  | [c],h2=>
   have:=Nq h2;simpa [CS] using this
  | [],h2=>simp [aD] at h2
  | _::_::_,h2=>simp [aD] at h2
theorem aia {P:Program} {t:TypeId} {v:KV} (h:cw (aQ P t) v=true):TT P t v=ij P (cg P dB) t v:=by
 unfold TT;rw [ago h,h,aj]
noncomputable def vJ (P:Program):List TypeId->(Nat->KV)->Nat->List KV
 | [],_,_=>[]
 | t::ts,w,k=>ij P (cg P dB) t (w k)::vJ P ts w (Nat.succ k)
theorem UM {P:Program} : ∀ {ts:List TypeId} {w w' : Nat->KV} {k:Nat},(∀ i,k<=i->w i=w' i)->vJ P ts w k=vJ P ts w' k
 | [],_,_,_,_=>rfl
 | t::ts,w,w',k,h=>by
  rw [vJ,vJ,h k (aB _),UM fun i hi=>h i (by omega)]
theorem IJ {P:Program} : ∀ {ts:List TypeId} {aqL:List KV} (k:Nat),lV P ts (normArgs P ts aqL)=true->∃ w,normArgs P ts aqL=vJ P ts w k
 | [],aqL,k,_=>⟨fun _=>.bf,by cases aqL <;> rfl⟩
 | t::ts,[],k,h=>by simp [normArgs,lV] at h
 | t::ts,v::vs,k,h=>by
  simp only [normArgs,lV,aq] at h;obtain ⟨w,hw⟩:=ah9 h.1;obtain ⟨w',hw'⟩:=IJ (k+1) h.2;refine ⟨fun i=>if i=k then w else w' i,?_⟩;rw [normArgs,vJ,hw,hw',aE rfl];rw [UM (w:=w') (w':=fun i=>if i=k then w else w' i) fun i hi=>by rw [aa (by omega)]]
theorem aa5 {P:Program} : ∀ {ts:List TypeId} {aqL:List KV} (k:Nat) {w:Nat->KV},lV P ts aqL=true->(∀ i,i < aqL.length->w (k+i)=aqL.getD i .bf)->normArgs P ts aqL=vJ P ts w k
 | [],[],k,_,_,_=>rfl
 | [],_::_,_,_,h,_=>by simp [lV] at h
 | _::_,[],_,_,h,_=>by simp [lV] at h
 | t::ts,v::vs,k,w,h,hw=>by
  simp only [lV,aq] at h;rw [normArgs,vJ,aia h.1,aa5 (k+1) (w:=w) h.2 fun i hi=>by have:=hw (i+1) (by simp; omega); rw [show k+1+i=k+(i+1) by omega,this]; rfl];have:=hw 0 (by simp);rw [ym] at this;rw [this]; rfl
noncomputable def bR (P:Program) (g:FuncId) (F:List KV->KR KV):List KV->KR KV:=fun aqL=>cond (lV P (bT P g) aqL) (F aqL) .no
theorem amo {P:Program} {g:FuncId} {F:List KV->KR KV} (hP:P.funcs.toList.all kx=true) (hm:P.follows .mixedOrders=true) {cfg:dD} (eW:rp P cfg.pc) (iB:vF P cfg) {L n:Nat}
  (h:∀ w v,aH (F (vJ P (bT P g) w 0)) v->CV P cfg L n g (vJ P (bT P g) w 0)=some v) (hy:Nat.blt g yB=true:=by rfl):bQ P g (bR P g F):=
 al5 hy hP hm fun aqL v _ hF=>by
  unfold bR at hF;obtain ⟨hb,hF⟩:=aH.cond hF;obtain ⟨w,hw⟩:=IJ 0 hb;rw [hw] at hF ⊢;exact ⟨cfg,L,n,eW,iB,h w v hF⟩
noncomputable def amp (P:Program) (d:CD) (w:KV):KV:=
 match d with
 | .k c=>cg P dB (leaf c w)
 | .lit v=>v
 | .aP t=>cg P dB (leaf (.slice t) w)
 | .arr t=>cg P dB (leaf (.slice t) w)
 | .ref v=>v
noncomputable def K3 (P:Program):List CD->(Nat->KV)->Nat->List KV
 | [],_,_=>[]
 | d::ds,w,k=>amp P d (w k)::K3 P ds w (Nat.succ k)
noncomputable def aey (P:Program) (d:VD) (w:Nat->KV):KV:=Bool.rec (motive:=fun _=>KV) ((K3 P d.ks w 0).headD .bf) (.agg (K3 P d.ks w 0)) d.agg
noncomputable def jl (P:Program):List (Tmp×VD)->(Nat->Nat->KV)->Nat->List KV
 | [],_,_=>[]
 | p::ps,w,k=>aey P p.2 (w k)::jl P ps w (Nat.succ k)
noncomputable def jm (P:Program):List (Tmp×List CD×Nat)->(Nat->Nat->KV)->Nat->List (List KV)
 | [],_,_=>[]
 | p::ps,w,k=>K3 P p.2.1 (w k) 0::jm P ps w (Nat.succ k)
theorem adj {P:Program} {A:ae} {d:CD} {v:KV} (h:jk d (eM P A d v)=true):∃ w,eM P A d v=amp P d w:=by
 cases d with
 | ref u=>exact ⟨.bf,rfl⟩
 | k c=>
  have e:eM P A (.k c) v=cond (kindOk c (nN c v)) (cg P dB (leaf c (nN c v))) .bf:=rfl;cases hb:kindOk c (nN c v) with
  | true=>exact ⟨nN c v,by rw [e,hb]; rfl⟩
  | false=>
   rw [e,hb] at h;cases c <;> simp [jk,kindOk] at h
 | lit u=>
  have e:eM P A (.lit u) v=cond (yM u v) u .bf:=rfl;cases hb:yM u v with
  | true=>exact ⟨.bf,by rw [e,hb]; rfl⟩
  | false=>
   rw [e,hb,aI] at h;have h:yM u .bf=true:=h;cases u <;> first | (simp [yM] at h; done) | (rename_i f a b; cases f <;> cases a <;> cases b <;> simp [yM] at h)
 | aP t=>
  cases v with
  | kl=>exact ⟨.ts t .any 0 [] qG,rfl⟩
  | ts t' m n es acc=>
   cases m with
   | aP f=>
    have e:eM P A (.aP t) (.ts t' (.aP f) n es acc)=cond (Nat.beq t t') (cg P dB (.ts t .any n es acc)) .bf:=rfl;cases hb:Nat.beq t t' with
    | true=>exact ⟨.ts t .any n es acc,by rw [e,hb]; rfl⟩
    | false=>rw [e,hb] at h; simp [jk,kindOk] at h
   | _=>simp [eM,jk,kindOk] at h
  | _=>simp [eM,jk,kindOk] at h
 | arr t=>
  rcases Ws h with rfl | ⟨b,n,m,N,es,acc,rfl,_,he⟩
  ·exact ⟨.ts t .any 0 [] qG,rfl⟩
  ·exact ⟨.ts t .any N es acc,he⟩
theorem UN {P:Program} : ∀ {ds:List CD} {w w' : Nat->KV} {k:Nat},(∀ i,k<=i->w i=w' i)->K3 P ds w k=K3 P ds w' k
 | [],_,_,_,_=>rfl
 | t::ts,w,w',k,h=>by
  rw [K3,K3,h k (aB _),UN fun i hi=>h i (by omega)]
theorem Wx {P:Program} {A:ae} : ∀ {ds:List CD} {vs:List KV} (k:Nat),dh ds (eN P A ds vs)=true->∃ w,eN P A ds vs=K3 P ds w k
 | [],vs,k,_=>⟨fun _=>.bf,by cases vs <;> rfl⟩
 | d::ds,[],k,h=>by simp [eN,dh] at h
 | d::ds,v::vs,k,h=>by
  simp only [eN,dh,aq] at h;obtain ⟨w,hw⟩:=adj h.1;obtain ⟨w',hw'⟩:=Wx (k+1) h.2;refine ⟨fun i=>if i=k then w else w' i,?_⟩;rw [eN,K3,hw,hw',aE rfl];rw [UN (w:=w') (w':=fun i=>if i=k then w else w' i) fun i hi=>by rw [aa (by omega)]]
theorem akH {P:Program} {A:ae} {d:VD} {v:KV} (h:zl d (yr P A d v)=true):∃ w,yr P A d v=aey P d w:=by
 have BN:=AO h;rcases AP h with ⟨cs,rfl,h1,h2,h3⟩ | ⟨h0,c,h1,h2,h3,h4,h5⟩
 ·obtain ⟨w,hw⟩:=Wx 0 h3
  refine ⟨w,?_⟩;have:d.agg=true:=by
   rcases BN with ⟨_,_,q,_⟩ | ⟨q,_⟩
   ·exact q
   ·exact absurd h2 (q _)
  rw [h2,hw,aey,this]
 ·obtain ⟨w,hw⟩:=adj h3
  refine ⟨fun _=>w,?_⟩;have:d.agg=false:=by
   rcases BN with ⟨cs,q,_⟩ | ⟨_,q,_⟩
   ·rw [h2] at q; exact absurd q (h5 _)
   ·exact q
  rw [h2,hw,aey,this,h1]; rfl
theorem RH {P:Program} : ∀ {ps:List (Tmp×VD)} {w w' : Nat->Nat->KV} {k:Nat},(∀ i,k<=i->w i=w' i)->jl P ps w k=jl P ps w' k
 | [],_,_,_,_=>rfl
 | t::ts,w,w',k,h=>by
  rw [jl,jl,h k (aB _),RH fun i hi=>h i (by omega)]
theorem aa6 {P:Program} {t:bd} {A:ae} : ∀ {ps:List (Tmp×VD)} (k:Nat),eO ps (od P t A ps)=true->∃ w,od P t A ps=jl P ps w k
 | [],k,_=>⟨fun _ _=>.bf,rfl⟩
 | p::ps,k,h=>by
  simp only [od,eO,aq] at h;obtain ⟨w,hw⟩:=akH h.1;obtain ⟨w',hw'⟩:=aa6 (k+1) h.2;refine ⟨fun i=>if i=k then w else w' i,?_⟩;rw [od,jl,hw,hw',aE rfl];rw [RH (w:=w') (w':=fun i=>if i=k then w else w' i) fun i hi=>by rw [aa (by omega)]]
theorem RI {P:Program} : ∀ {ps:List (Tmp×List CD×Nat)} {w w' : Nat->Nat->KV} {k:Nat},(∀ i,k<=i->w i=w' i)->jm P ps w k=jm P ps w' k
 | [],_,_,_,_=>rfl
 | t::ts,w,w',k,h=>by
  rw [jm,jm,h k (aB _),RI fun i hi=>h i (by omega)]
theorem aa7 {P:Program} : ∀ {ps:List (Tmp×List CD×Nat)} {rs:List (List KV)} (k:Nat),rs.length=ps.length->(∀ (i:Nat) p r,ps[i]? = some p->rs[i]? = some r->dh p.2.1 r=true)->
  (∀ (i:Nat) p,ps[i]? = some p->∃ A lY,rs[i]? = some (eN P A p.2.1 lY)/\lY.length=p.2.1.length)->∃ w,rs=jm P ps w k
 | [],[],k,_,_,_=>⟨fun _ _=>.bf,rfl⟩
 | [],_::_,_,h,_,_=>by simp at h
 | _::_,[],_,h,_,_=>by simp at h
 | p::ps,r::rs,k,hl,hg,hn=>by
  obtain ⟨A,lY,h1,_⟩:=hn 0 p rfl;simp only [List.getElem?_cons_zero,bM] at h1;have h2:=hg 0 p r rfl rfl;rw [h1] at h2;obtain ⟨w,hw⟩:=Wx 0 h2;obtain ⟨w',hw'⟩:=aa7 (ps:=ps) (rs:=rs) (k+1) (by simpa using hl) (fun i p r a b=>hg (i+1) p r (by simpa using a) (by simpa using b)) fun i p a=>by simpa using hn (i+1) p (by simpa using a)
  refine ⟨fun i=>if i=k then w else w' i,?_⟩;rw [jm,h1,hw,aE rfl];congr 1;rw [hw'];exact RI fun i hi=>by rw [aa (by omega)]
theorem yu.form {P:Program} {S:aJ} {vs:List KV} {rs:List (List KV)} (h:yu P S vs rs):∃ wv wr,vs=jl P S.dC wv 0/\rs=jm P S.rows wr 0:=by
 obtain ⟨t,A,ht⟩:=h.vn;have hv:=h.v;rw [ht] at hv;obtain ⟨wv,hwv⟩:=aa6 0 hv;obtain ⟨wr,hwr⟩:=aa7 0 h.rL h.uT h.rn;exact ⟨wv,wr,by rw [ht,hwv],hwr⟩
inductive aX (X:Type) where
 | fail
 | next (x:X)
 | out (e:ah) (x:X)
def aX.enc {X:Type} (ev:X->List KV) (er:X->List (List KV)):aX X->Option (ah×List KV×List (List KV))
 | .fail=>.none
 | .next x=>some (.normal,ev x,er x)
 | .out e x=>some (e,ev x,er x)
theorem aX.cD {X:Type} (ev:X->List KV) (er:X->List (List KV)) (c:Bool) (a b:aX X):aX.enc ev er (cond c a b)=cond c (aX.enc ev er a) (aX.enc ev er b):=by cases c <;> rfl
def aX.go {X:Type} (step:X->aX X):Nat->X->aX X
 | 0,_=>.fail
 | n+1,x=>match step x with
  | .fail=>.fail
  | .next x=>aX.go step n x
  | .out e x=>cond (mB e) .fail (.out e x)
def zq:ah->ah->Bool
 | .normal,.normal=>true
 | .exit i,.exit j=>Nat.beq i j
 | .goto i,.goto j=>Nat.beq i j
 | .ret,.ret=>true
 | _,_=>false
theorem aez {a b:ah} (h:zq a b=true):a=b:=by
 cases a <;> cases b <;> simp [zq] at h <;> first | rfl | (subst h; rfl)
def aX.by {X:Type} (s:aX X) (e:ah):Bool:=
 match s with
 | .out e' _=>zq e' e
 | _=>false
def aX.st {X:Type} [Inhabited X] (s:aX X):X:=
 match s with
 | .out _ x=>x
 | _=>default
theorem go_iter {X:Type} {step:X->aX X} {ev:X->List KV} {er:X->List (List KV)} {rd:List KV->List (List KV)->Option (ah×List KV×List (List KV))} (h:∀ x,step x = .fail\/rd (ev x) (er x)=aX.enc ev er (step x)) :
  ∀ (n:Nat) (x:X) (e:ah) (y:X),aX.go step n x = .out e y->vI rd n (ev x) (er x)=some (e,ev y,er y)
 | 0,x,e,y,hg=>by simp [aX.go] at hg
 | n+1,x,e,y,hg=>by
  simp only [aX.go] at hg;have hx:=h x;cases hs:step x with
  | fail=>rw [hs] at hg; simp at hg
  | next x'=>
   have hx:=hx.resolve_left (by rw [hs]; simp);rw [hs] at hg hx;simp only [vI,hx,aX.enc,mB,aj];exact go_iter h n x' e y hg
  | out e' x'=>
   have hx:=hx.resolve_left (by rw [hs]; simp);rw [hs] at hg hx;simp only at hg;cases hn:mB e' with
   | true=>rw [hn] at hg; simp at hg
   | false=>
    rw [hn,aI] at hg;simp only [aX.out.injEq] at hg;obtain ⟨rfl,rfl⟩:=hg;simp only [vI,hx,aX.enc,hn,aI]
def dR {X:Type} [Inhabited X] (ev:X->List KV) (er:X->List (List KV)) (s:aX X):List ah->wL
 | []=>.no
 | e::es=>.br (s.by e) (.out e (ev s.st) (er s.st)) (dR ev er s es)
theorem S6 {X:Type} [Inhabited X] {ev:X->List KV} {er:X->List (List KV)} {s:aX X} : ∀ {es:List ah} {e:ah} {vs:List KV} {rs:List (List KV)},(dR ev er s es).ev=some (e,vs,rs)->∃ x,s = .out e x/\vs=ev x/\rs=er x
 | [],e,vs,rs,h=>by simp [dR,wL.ev] at h
 | e'::es,e,vs,rs,h=>by
  simp only [dR,wL.ev] at h;cases hb:s.by e' with
  | false=>rw [hb] at h; exact S6 h
  | true=>
   rw [hb,aj] at h;simp only [bM,du] at h;obtain ⟨rfl,rfl,rfl⟩:=h;cases s with
   | out e0 x=>
    have:=aez (show zq e0 e' = true from hb);subst this;exact ⟨x,rfl,rfl,rfl⟩
   | fail=>simp [aX.by] at hb
   | next x=>simp [aX.by] at hb
def goN {X:Type} (step:X->aX X) (x:X):aX X:=aX.go step gK x
theorem aa8 {P:Program} {l:Lp} {X:Type} [Inhabited X] {cfg:dD} {L n:Nat} (eW:rp P cfg.pc) (iB:vF P cfg) {step:X->aX X} {ev:X->List KV} {er:X->List (List KV)} {es:List ah} {pa:List KV->List (List KV)->X}
  (hF:∀ vs rs,l.F vs rs=dR ev er (goN step (pa vs rs)) es) (gY:∀ wv wr,ev (pa (jl P l.S.dC wv 0) (jm P l.S.rows wr 0))=jl P l.S.dC wv 0/\er (pa (jl P l.S.dC wv 0) (jm P l.S.rows wr 0))=jm P l.S.rows wr 0)
  (u6:∀ x,step x = .fail\/ajH l.st P cfg L n l.f l.p (Da P l.f l.p) l.S (ev x) (er x)=aX.enc ev er (step x)):l.Ok P:=
 ⟨cfg,L,n,eW,iB,fun vs rs e b7 iC cL sm=>by
  obtain ⟨wv,wr,rfl,rfl⟩:=cL.form;obtain ⟨h1,h2⟩:=gY wv wr;rw [hF] at sm;obtain ⟨y,hy,rfl,rfl⟩:=S6 sm;have:=go_iter u6 gK _ e y hy;rw [h1,h2] at this;exact this⟩
theorem akI {P:Program} {l:Lp} {X:Type} [Inhabited X] {cfg:dD} {L n:Nat} {Wu q:Nat} {b:Code} (eW:rp P cfg.pc) (iB:vF P cfg) {step:X->aX X} {ev:X->List KV} {er:X->List (List KV)} {es:List ah} {pa:List KV->List (List KV)->X}
  (JC:L5 P l.f l.p=some (Wu,b,q)) (hs:l.st=false) (hF:∀ vs rs,l.F vs rs=dR ev er (goN step (pa vs rs)) es) (gY:∀ wv wr,ev (pa (jl P l.S.dC wv 0) (jm P l.S.rows wr 0))=jl P l.S.dC wv 0/\er (pa (jl P l.S.dC wv 0) (jm P l.S.rows wr 0))=jm P l.S.rows wr 0)
  (u6:∀ x,step x = .fail\/QJ P cfg L n l.f q b Wu l.S (ev x) (er x)=aX.enc ev er (step x)):l.OkG P:=
 ⟨hs,Wu,b,q,cfg,L,n,JC,eW,iB,fun vs rs e b7 iC cL sm=>by
  obtain ⟨wv,wr,rfl,rfl⟩:=cL.form;obtain ⟨h1,h2⟩:=gY wv wr;rw [hF] at sm;obtain ⟨y,hy,rfl,rfl⟩:=S6 sm;have:=go_iter u6 gK _ e y hy;rw [h1,h2] at this;exact this⟩
theorem aX.lit {X:Type} {ev:X->List KV} {er:X->List (List KV)} {R:Option (ah×List KV×List (List KV))} {k n:Int} {a b:aX X} (h:k=n->R=aX.enc ev er a) (h' : b = .fail\/R=aX.enc ev er b):cond (k==n) a b = .fail\/R=aX.enc ev er (cond (k==n) a b):=by
 cases e:k==n with
 | true=>exact .inr (h (by simpa using e))
 | false=>exact h'
theorem aep {P:Program} {aqL:List KV} (h:lV P [] aqL=true):aqL = []:=by
 cases aqL with
 | nil=>rfl
 | cons a aqL=>simp [lV] at h
theorem akJ {ks:List CK} {v:KV} (h:cw ⟨true,ks⟩ v=true):∃ cs,v = .agg cs/\aD ks cs=true:=by
 cases v with
 | agg cs=>exact ⟨cs,rfl,by simpa [cw] using h⟩
 | ma cs=>simp [cw] at h
 | _=>simp [cw] at h
end Go.K
end
section
namespace Go.K
open Go Go.aG
variable {P:Program} {E:Env}
theorem iU.below {base:Nat} {ρ:Ren} {B:St} {w w' : World} (hs:vm ρ B base w) (h:RowKit.Below w.heap.size w w'):iU base ρ B w ρ B w':=by
 refine ⟨⟨.EW (fun b o hg hd=>?_) hs.rel.apart hs.rel.cY,hs.jI,gR hs.size h.size,hs.HX⟩,fun _ _=>rfl,⟨h.os,h.tape,h.output,h.size,fun k hk _=>h.block k hk⟩,aB _,aB _,fun _ _ _=>rfl,fun _ _ hk=>hk⟩;obtain ⟨l,e,ok⟩:=hs.rel.obj hg hd;exact ⟨l,e,ok.dP (Ren.le_refl _) (h.block _ (ok.lt hd)) h.size⟩
theorem agp {g:FuncId} {F:List KV->KR KV} (hc:xM P g)
  (h:∀ args v (E:Env) (A:ae) (B:St) (ρ:Ren) (base:Nat) (w:World) (dZ:List Value),aH (F (normArgs P (bT P g) args)) v->args.length=(bT P g).length->rK P E ρ args dZ->KJ P E A B ρ base w->
   Calls P g dZ.toArray w fun e w'=>∃ v',e = .returned v'/\VC P E ρ v v'/\RowKit.Below w.heap.size w w'):bQ P g F:=
 fun args v hF hlen=>⟨hc,fun E A B ρ base w dZ hv hj=>(h args v E A B ρ base w dZ hF hlen hv hj).mono fun _ _ ⟨v',h1,h2,h3⟩=>
  ⟨v',E,B,ρ,h1,h2,hj.k,iU.below hj.s h3,Env.le_refl _,aB _,fun _ _ _ _=>rfl,fun _ _ h=>.inl h,fun _ _ h=>.inl h,fun _ _ h=>.inl ⟨_,h⟩,fun _ _ _ _=>rfl,fun _ h=>.inl h,fun _ h=>.inl h,fun _ _ h=>.inl h,fun _ h=>.inl h,fun _ _ cs _ _ _ h=>⟨cs,h,rfl⟩,fun _ h=>h⟩⟩
end Go.K
end
section
namespace Go.K
open Go Go.aG
structure Sl (α:Type) where
 n:Nat
 get:Nat->α
instance {α:Type} [Inhabited α] : Inhabited (Sl α):=⟨⟨0,fun _=>default⟩⟩
def dL {α:Type} (T:TypeId) (k:α->KV) (s:Sl α):KV:=.ts T .any s.n ((List.range s.n).map fun i=>k (s.get i)) (fun i=>k (s.get i))
def au {α:Type} (p:KV->α) (n:Nat) (acc:Nat->KV):Sl α:=⟨n,fun i=>p (acc i)⟩
def eX {α:Type} (p:KV->α) (v:KV):Sl α:=au p (lenOf v) (z8 v)
def kI (k:IntKind) (n:Int):KV:=.int k n
def kB (b:Bool):KV:=.bool b
abbrev aO (n:Int):Int:=IntKind.wrap .i64 n
abbrev w8 (n:Int):Int:=IntKind.wrap .u8 n
abbrev w16 (n:Int):Int:=IntKind.wrap .u16 n
abbrev uU (n:Int):Int:=IntKind.wrap .u64 n
def Sl.push {α:Type} [Inhabited α] (s:Sl α) (v:α):Sl α:=⟨s.n+1,fun i=>cond (Nat.blt i s.n) (s.get i) (cond (Nat.beq i s.n) v default)⟩
def Sl.join {α:Type} (s t:Sl α):Sl α:=⟨s.n+t.n,fun i=>cond (Nat.blt i s.n) (s.get i) (t.get (i - s.n))⟩
def Sl.lit {α:Type} [Inhabited α] (l:List α):Sl α:=⟨l.length,fun i=>l.getD i default⟩
theorem jK {α:Type} [Inhabited α] {p:KV->α} {k:α->KV} (h:∀ x,p (k x)=x) (hd:p .bf=default) (l:List α):au p l.length (cZ (l.map k))=Sl.lit l:=by
 unfold au Sl.lit cZ;congr 1;funext i;rw [fC,fC,o8];cases l[i]? with
 | none=>exact hd
 | some x=>exact h x
theorem fP {α:Type} [Inhabited α] {p:KV->α} {k:α->KV} (h:∀ x,p (k x)=x) (hd:p .bf=default) (s:Sl α) (v:α):au p (s.n+1) (aw s.n (fun i=>k (s.get i)) (cZ [k v]))=s.push v:=by
 unfold au Sl.push;congr 1;funext i;unfold aw;cases hb:Nat.blt i s.n with
 | true=>exact h _
 | false=>
  have hi:s.n<=i:=by
   cases Nat.lt_or_ge i s.n with
   | inl h=>rw [<- bF,hb] at h; simp at h
   | inr h=>exact h
  rw [aI,aI];cases hq:Nat.beq i s.n with
  | true=>
   have:=aK hq;subst this;rw [Nat.sub_self,aj];exact h v
  | false=>
   have cH:i≠s.n:=fun e=>by rw [e,tM] at hq; simp at hq
   rw [aI];obtain ⟨j,hj⟩:∃ j,i - s.n=j+1:=⟨i - s.n - 1,by omega⟩
   rw [hj];exact hd
theorem gL {α:Type} {p:KV->α} {k:α->KV} (h:∀ x,p (k x)=x) (s t:Sl α):au p (s.n+t.n) (aw s.n (fun i=>k (s.get i)) (fun i=>k (t.get i)))=s.join t:=by
 unfold au Sl.join;congr 1;funext i;unfold aw;cases Nat.blt i s.n <;> exact h _
def Sl.set {α:Type} (s:Sl α) (i:Nat) (v:α):Sl α:=⟨s.n,fun j=>cond (Nat.beq j i) v (s.get j)⟩
def Sl.qS {α:Type} (s:Sl α) (o k:Nat) (t:Sl α):Sl α:=⟨s.n,fun j=>cond (Nat.blt j o) (s.get j) (cond (Nat.blt j (o+k)) (t.get (j - o)) (s.get j))⟩
theorem jL {α:Type} {p:KV->α} {k:α->KV} (h:∀ x,p (k x)=x) (s:Sl α) (i:Nat) (v:α):au p s.n (bN (fun j=>k (s.get j)) i (k v))=s.set i v:=by
 unfold au Sl.set;congr 1;funext j;unfold bN;cases Nat.beq j i <;> exact h _
theorem fM {α:Type} {p:KV->α} {k:α->KV} (h:∀ x,p (k x)=x) (s t:Sl α) (o m:Nat):au p s.n (az o m (fun j=>k (s.get j)) (fun j=>k (t.get j)))=s.qS o m t:=by
 unfold au Sl.qS;congr 1;funext j;unfold az;cases Nat.blt j o with
 | true=>exact h _
 | false=>cases Nat.blt j (o+m) <;> exact h _
theorem j8 {α:Type} {p:KV->α} {k:α->KV} (h:∀ x,p (k x)=x) (m n n' : Nat) (acc ax:Nat->KV):au p m (aw n (fun i=>k ((au p n' acc).get i)) ax)=au p m (aw n acc ax):=by
 unfold au;congr 1;funext i;unfold aw;cases Nat.blt i n with
 | true=>exact h _
 | false=>rfl
theorem j9 {α:Type} {p:KV->α} {k:α->KV} (h:∀ x,p (k x)=x) (m n n' : Nat) (acc ax:Nat->KV):au p m (aw n acc (fun i=>k ((au p n' ax).get i)))=au p m (aw n acc ax):=by
 unfold au;congr 1;funext i;unfold aw;cases Nat.blt i n with
 | true=>rfl
 | false=>exact h _
theorem kb {α:Type} {p:KV->α} {k:α->KV} (h:∀ x,p (k x)=x) (m n' i:Nat) (acc:Nat->KV) (v:KV):au p m (bN (fun j=>k ((au p n' acc).get j)) i v)=au p m (bN acc i v):=by
 unfold au;congr 1;funext j;unfold bN;cases Nat.beq j i with
 | true=>rfl
 | false=>exact h _
theorem kN {α:Type} {p:KV->α} {k:α->KV} (h:∀ x,p (k x)=x) (n n' o m:Nat) (acc ax:Nat->KV):au p n (az o m (fun j=>k ((au p n' acc).get j)) ax)=au p n (az o m acc ax):=by
 unfold au;congr 1;funext j;unfold az;cases Nat.blt j o with
 | true=>exact h _
 | false=>
  cases Nat.blt j (o+m) with
  | true=>rfl
  | false=>exact h _
theorem kO {α:Type} {p:KV->α} {k:α->KV} (h:∀ x,p (k x)=x) (n n' o m:Nat) (acc ax:Nat->KV):au p n (az o m acc (fun j=>k ((au p n' ax).get j)))=au p n (az o m acc ax):=by
 unfold au;congr 1;funext j;unfold az;cases Nat.blt j o with
 | true=>rfl
 | false=>
  cases Nat.blt j (o+m) with
  | true=>exact h _
  | false=>rfl
theorem xn (m n n' : Nat) (acc ax:Nat->KV):au (fun v=>av (v.cells.getD 0 .bf)) m (aw n (fun i=>kI .i64 ((au (fun v=>av (v.cells.getD 0 .bf)) n' acc).get i)) ax)=au (fun v=>av (v.cells.getD 0 .bf)) m (aw n acc ax):=j8 (k:=kI .i64) (fun _=>rfl) ..
theorem xo (m n n' : Nat) (acc ax:Nat->KV):au (fun v=>av (v.cells.getD 0 .bf)) m (aw n acc (fun i=>kI .i64 ((au (fun v=>av (v.cells.getD 0 .bf)) n' ax).get i)))=au (fun v=>av (v.cells.getD 0 .bf)) m (aw n acc ax):=j9 (k:=kI .i64) (fun _=>rfl) ..
theorem xp (m n' i:Nat) (acc:Nat->KV) (v:KV):au (fun v=>av (v.cells.getD 0 .bf)) m (bN (fun j=>kI .i64 ((au (fun v=>av (v.cells.getD 0 .bf)) n' acc).get j)) i v)=au (fun v=>av (v.cells.getD 0 .bf)) m (bN acc i v):=kb (k:=kI .i64) (fun _=>rfl) ..
theorem xq (n n' o m:Nat) (acc ax:Nat->KV):au (fun v=>av (v.cells.getD 0 .bf)) n (az o m (fun j=>kI .i64 ((au (fun v=>av (v.cells.getD 0 .bf)) n' acc).get j)) ax)=au (fun v=>av (v.cells.getD 0 .bf)) n (az o m acc ax):=kN (k:=kI .i64) (fun _=>rfl) ..
theorem xr (n n' o m:Nat) (acc ax:Nat->KV):au (fun v=>av (v.cells.getD 0 .bf)) n (az o m acc (fun j=>kI .i64 ((au (fun v=>av (v.cells.getD 0 .bf)) n' ax).get j)))=au (fun v=>av (v.cells.getD 0 .bf)) n (az o m acc ax):=kO (k:=kI .i64) (fun _=>rfl) ..
theorem ue (s:Sl Int) (i:Nat) (v:Int):s.set i v=au (fun v=>av (v.cells.getD 0 .bf)) s.n (bN (fun j=>kI .i64 (s.get j)) i (kI .i64 v)):=(jL (k:=kI .i64) (fun _=>rfl) s i v).symm
theorem sC (s:Sl Bool) (i:Nat) (v:Bool):s.set i v=au (fun v=>fh (v.cells.getD 0 .bf)) s.n (bN (fun j=>kB (s.get j)) i (kB v)):=(jL (k:=kB) (fun _=>rfl) s i v).symm
theorem pq (s t:Sl Int) (o m:Nat):s.qS o m t=au (fun v=>av (v.cells.getD 0 .bf)) s.n (az o m (fun j=>kI .i64 (s.get j)) (fun j=>kI .i64 (t.get j))):=(fM (k:=kI .i64) (fun _=>rfl) s t o m).symm
theorem mK (s t:Sl Bool) (o m:Nat):s.qS o m t=au (fun v=>fh (v.cells.getD 0 .bf)) s.n (az o m (fun j=>kB (s.get j)) (fun j=>kB (t.get j))):=(fM (k:=kB) (fun _=>rfl) s t o m).symm
theorem rD (s:Sl Int) (v:Int):s.push v=au (fun v=>av (v.cells.getD 0 .bf)) (s.n+1) (aw s.n (fun i=>kI .i64 (s.get i)) (cZ [kI .i64 v])):=(fP (fun _=>rfl) rfl s v).symm
theorem sD (s t:Sl Int):s.join t=au (fun v=>av (v.cells.getD 0 .bf)) (s.n+t.n) (aw s.n (fun i=>kI .i64 (s.get i)) (fun i=>kI .i64 (t.get i))):=(gL (fun _=>rfl) s t).symm
theorem vK (l:List Int):Sl.lit l=au (fun v=>av (v.cells.getD 0 .bf)) l.length (cZ (l.map (kI .i64))):=(jK (fun _=>rfl) rfl l).symm
theorem sE (l:List Bool):Sl.lit l=au (fun v=>fh (v.cells.getD 0 .bf)) l.length (cZ (l.map kB)):=(jK (fun _=>rfl) rfl l).symm
theorem pr (s:Sl Bool) (v:Bool):s.push v=au (fun v=>fh (v.cells.getD 0 .bf)) (s.n+1) (aw s.n (fun i=>kB (s.get i)) (cZ [kB v])):=(fP (fun _=>rfl) rfl s v).symm
theorem pt (s t:Sl Bool):s.join t=au (fun v=>fh (v.cells.getD 0 .bf)) (s.n+t.n) (aw s.n (fun i=>kB (s.get i)) (fun i=>kB (t.get i))):=(gL (fun _=>rfl) s t).symm
theorem b6 {α β:Type} (f:α->β) (c:Bool) (a b:Option α):Option.map f (cond c a b)=cond c (Option.map f a) (Option.map f b):=by cases c <;> rfl
def ak (P:Program) (ps:List (Nat×(List KV->KR KV))):Prop:=∀ p∈ps,bQ P p.1 p.2
theorem ak.nil {P:Program} : ak P []:=fun p hp=>by simp at hp
theorem ak.cons {P:Program} {g:Nat} {F:List KV->KR KV} {ps:List (Nat×(List KV->KR KV))} (h:bQ P g F) (t:ak P ps):ak P ((g,F)::ps):=fun p hp=>by
 rcases de.1 hp with rfl | hp
 ·exact h
 ·exact t p hp
theorem ak.pc {P:Program} {ps:List (Nat×(List KV->KR KV))} (h:ak P ps):rp P (adi ps):=ajM h
def bm (P:Program) (ls:List Lp):Prop:=∀ l∈ls,l.ah8 P
theorem bm.nil {P:Program} : bm P []:=fun p hp=>by simp at hp
theorem bm.cons {P:Program} {l:Lp} {ls:List Lp} (h:l.Ok P) (h' : II P l.f l.p=true) (t:bm P ls):bm P (l::ls):=fun p hp=>by
 rcases de.1 hp with rfl | hp
 ·exact .inl ⟨h,h'⟩
 ·exact t p hp
theorem bm.ao0 {P:Program} {l:Lp} {ls:List Lp} (h:l.OkG P) (t:bm P ls):bm P (l::ls):=fun p hp=>by
 rcases de.1 hp with rfl | hp
 ·exact .inr h
 ·exact t p hp
def Et (P:Program) (fs:List Fc):Prop:=∀ c∈fs,c.Ok P
theorem Et.nil {P:Program} : Et P []:=fun p hp=>by simp at hp
noncomputable def pw (P:Program) (ps:List (Nat×(List KV->KR KV))) (ls:List Lp) (mt:TypeId->Bool:=fun _=>false) (fz:Bool:=false) (eg:Bool:=false) (fs:List Fc:=[]):dD:=⟨adi ps,UH P ls,⟨adg P fs,mt,fz,eg⟩⟩
noncomputable def b8 {R:Type} [Inhabited R] (k:R->KV) (r:List KV->Option R):List KV->KR KV:=fun aqL=>.jJ (r aqL).isSome (k ((r aqL).getD default))
theorem X5 {P:Program} {R:Type} [Inhabited R] {k:R->KV} {r:List KV->Option R} {g:FuncId} (hP:P.funcs.toList.all kx=true) (hm:P.follows .mixedOrders=true) {ps:List (Nat×(List KV->KR KV))} {ls:List Lp} (eW:ak P ps) (iB:bm P ls) {L n:Nat} {mt:TypeId->Bool} {fz eg:Bool} {fs:List Fc}
  (h:∀ w,CV P (pw P ps ls mt fz eg fs) L n g (vJ P (bT P g) w 0)=(r (vJ P (bT P g) w 0)).map k) (hy:Nat.blt g yB=true:=by rfl) (Yy:Et P fs:=by exact Et.nil):bQ P g (bR P g (b8 k r)):=
 amo (cfg:=pw P ps ls mt fz eg fs) hP hm eW.pc (QK hP hm (QL hP hm Yy) iB) (hy:=hy) fun w v hv=>by
  obtain ⟨h1,h2⟩:=aH.jJ hv;rw [h w];cases hr:r (vJ P (bT P g) w 0) with
  | none=>rw [hr] at h1; simp at h1
  | some x=>rw [hr] at h2; rw [<- h2]; rfl
theorem agq {P:Program} {l:Lp} {X:Type} [Inhabited X] (hP:P.funcs.toList.all kx=true) (hm:P.follows .mixedOrders=true) {ps:List (Nat×(List KV->KR KV))} {ls:List Lp} (eW:ak P ps) (iB:bm P ls) {L n:Nat} {mt:TypeId->Bool} {fz eg:Bool} {fs:List Fc} {step:X->aX X} {ev:X->List KV} {er:X->List (List KV)} {es:List ah} {pa:List KV->List (List KV)->X}
  (hF:l.F=fun vs rs=>dR ev er (goN step (pa vs rs)) es) (gY:∀ wv wr,ev (pa (jl P l.S.dC wv 0) (jm P l.S.rows wr 0))=jl P l.S.dC wv 0/\er (pa (jl P l.S.dC wv 0) (jm P l.S.rows wr 0))=jm P l.S.rows wr 0)
  (u6:∀ x,E6 P (pw P ps ls mt fz eg fs) L n l.f l.p (Da P l.f l.p) l.S (ev x) (er x)=aX.enc ev er (step x)) (Yy:Et P fs:=by exact Et.nil) (hs:l.st=false:=by rfl):l.Ok P:=
 aa8 (cfg:=pw P ps ls mt fz eg fs) eW.pc (QK hP hm (QL hP hm Yy) iB) (fun _ _=>by rw [hF]) gY (fun x=>.inr (by rw [hs]; exact u6 x))
theorem UO {P:Program} {l:Lp} {X:Type} [Inhabited X] (hP:P.funcs.toList.all kx=true) (hm:P.follows .mixedOrders=true) {ps:List (Nat×(List KV->KR KV))} {ls:List Lp} (eW:ak P ps) (iB:bm P ls) {L n:Nat} {mt:TypeId->Bool} {fz eg:Bool} {fs:List Fc} {step:X->aX X} {ev:X->List KV} {er:X->List (List KV)} {es:List ah} {pa:List KV->List (List KV)->X}
  (hF:l.F=fun vs rs=>dR ev er (goN step (pa vs rs)) es) (gY:∀ wv wr,ev (pa (jl P l.S.dC wv 0) (jm P l.S.rows wr 0))=jl P l.S.dC wv 0/\er (pa (jl P l.S.dC wv 0) (jm P l.S.rows wr 0))=jm P l.S.rows wr 0)
  (u6:∀ x,step x = .fail\/E6 P (pw P ps ls mt fz eg fs) L n l.f l.p (Da P l.f l.p) l.S (ev x) (er x)=aX.enc ev er (step x)) (Yy:Et P fs:=by exact Et.nil) (hs:l.st=false:=by rfl):l.Ok P:=
 aa8 (cfg:=pw P ps ls mt fz eg fs) eW.pc (QK hP hm (QL hP hm Yy) iB) (fun _ _=>by rw [hF]) gY (fun x=>by rw [hs]; exact u6 x)
noncomputable def UQ (P:Program) (f p:Nat):Nat×Code×Nat:=(L5 P f p).getD (0,.skip,0)
noncomputable def aeA (P:Program) (cfg:dD) (L n:Nat) (f p:Nat) (S:aJ) (vs:List KV) (rs:List (List KV)):Option (ah×List KV×List (List KV)):=
 QJ P cfg L n f (UQ P f p).2.2 (UQ P f p).2.1 (UQ P f p).1 S vs rs
theorem aeB {P:Program} {l:Lp} {X:Type} [Inhabited X] (hP:P.funcs.toList.all kx=true) (hm:P.follows .mixedOrders=true) {ps:List (Nat×(List KV->KR KV))} {ls:List Lp} (eW:ak P ps) (iB:bm P ls) {L n:Nat} {mt:TypeId->Bool} {fz eg:Bool} {fs:List Fc} {step:X->aX X} {ev:X->List KV} {er:X->List (List KV)} {es:List ah} {pa:List KV->List (List KV)->X}
  (hF:l.F=fun vs rs=>dR ev er (goN step (pa vs rs)) es) (gY:∀ wv wr,ev (pa (jl P l.S.dC wv 0) (jm P l.S.rows wr 0))=jl P l.S.dC wv 0/\er (pa (jl P l.S.dC wv 0) (jm P l.S.rows wr 0))=jm P l.S.rows wr 0)
  (u6:∀ x,aeA P (pw P ps ls mt fz eg fs) L n l.f l.p l.S (ev x) (er x)=aX.enc ev er (step x)) (JC:(L5 P l.f l.p).isSome=true:=by kernel_rfl) (Yy:Et P fs:=by exact Et.nil) (hs:l.st=false:=by rfl):l.OkG P:=by
 obtain ⟨⟨Wu,b,q⟩,hx⟩:=Qi.1 JC;refine akI (cfg:=pw P ps ls mt fz eg fs) (L:=L) (n:=n) eW.pc (QK hP hm (QL hP hm Yy) iB) hx hs (fun _ _=>by rw [hF]) gY (fun x=>.inr ?_);have:=u6 x;unfold aeA UQ at this;rw [hx] at this;exact this
theorem aeC {P:Program} {l:Lp} {X:Type} [Inhabited X] (hP:P.funcs.toList.all kx=true) (hm:P.follows .mixedOrders=true) {ps:List (Nat×(List KV->KR KV))} {ls:List Lp} (eW:ak P ps) (iB:bm P ls) {L n:Nat} {mt:TypeId->Bool} {fz eg:Bool} {fs:List Fc} {step:X->aX X} {ev:X->List KV} {er:X->List (List KV)} {es:List ah} {pa:List KV->List (List KV)->X}
  (hF:l.F=fun vs rs=>dR ev er (goN step (pa vs rs)) es) (gY:∀ wv wr,ev (pa (jl P l.S.dC wv 0) (jm P l.S.rows wr 0))=jl P l.S.dC wv 0/\er (pa (jl P l.S.dC wv 0) (jm P l.S.rows wr 0))=jm P l.S.rows wr 0)
  (u6:∀ x,Np P (pw P ps ls mt fz eg fs) L n l.f l.p (Da P l.f l.p) l.S (ev x) (er x)=aX.enc ev er (step x)) (Yy:Et P fs:=by exact Et.nil) (hs:l.st=true:=by rfl):l.Ok P:=
 aa8 (cfg:=pw P ps ls mt fz eg fs) eW.pc (QK hP hm (QL hP hm Yy) iB) (fun _ _=>by rw [hF]) gY (fun x=>.inr (by rw [hs]; exact u6 x))
end Go.K
end
section
set_option maxRecDepth 20000
namespace Go.Proofs.Ytckbdndhmcoihaa.nodes
open Go Go.RowKit Go.Lib
abbrev hv (x:Int×Int):Value:=.agg #[.int .i64 x.1,.int .i64 x.2]
theorem Bn:Try.prog.follows .mixedOrders=true:=by kernel_rfl
theorem ao1 (x y:Int×Int) (w:World):(Op.equal 32 (hv x) (hv y)).run Try.prog w = .ok (decide (x=y)) w:=by
 obtain ⟨s,g⟩:=x;obtain ⟨s',g'⟩:=y;have e:decide ((s,g)=(s',g'))=(s==s'&&g==g'):=by
  rw [Bool.eq_iff_iff];simp
 rw [e];have h:=K.O5 (P:=Try.prog) (E:=⟨fun _=>none,fun _=>none,fun _=>none,fun _=>none⟩) 12 10000 32 ⟨true,[.int .i64,.int .i64]⟩ [.int .i64 s,.int .i64 g] [.int .i64 s',.int .i64 g'] [.int .i64 s,.int .i64 g] [.int .i64 s',.int .i64 g'] ((s==s')&&((g==g')&&true))
  (by kernel_rfl) (by kernel_rfl) (by omega) (.cons .mkInt (.cons .mkInt .nil)) (.cons .mkInt (.cons .mkInt .nil)) rfl rfl rfl
 rw [EP] at h;exact aG.fD h w
def UR (es:Array MapEntry) (S:List (Int×Int)):Prop:=es.toList.map (·.key)=S.map hv/\∀ e∈es.toList,e.val = .bool true
theorem agr (k:Int×Int) (w:World):∀ (l:List MapEntry) (S:List (Int×Int)) (i:Nat),l.map (·.key)=S.map hv->(∀ e∈l,e.val = .bool true)->
  ∃ r,(Instr.findAsking 32 (hv k) l i).run Try.prog w = .ok r w/\(k∈S->∃ j,r=some (i+j,.bool true)/\j < l.length/\l[j]?.map (·.key)=some (hv k))/\(k ∉ S->r=none)
 | [],[],i,_,_=>⟨none,rfl,fun h=>by simp at h,fun _=>rfl⟩
 | [],_::_,_,h,_=>by simp at h
 | _::_,[],_,h,_=>by simp at h
 | e::l,x::S,i,h,hb=>by
  simp only [List.map_cons,List.cons.injEq] at h;obtain ⟨r,h1,h2,h3⟩:=agr k w l S (i+1) h.2 (fun e' he=>hb e' (rU _ he));have he:=ao1 k x w;rw [<- h.1] at he;by_cases hx:k=x
  ·rw [ay hx] at he
   refine ⟨some (i,.bool true),?_,fun _=>⟨0,rfl,by simp,by simp [h.1,hx]⟩,fun hn=>absurd (by rw [hx]; exact Qj ..) hn⟩;have QV:=hb e (Qj ..);simp [Instr.findAsking,he,QV]
  ·rw [bo hx] at he
   refine ⟨r,?_,fun hm=>?_,fun hn=>h3 fun q=>hn (rU _ q)⟩
   ·simp only [Instr.findAsking,Sem.run_bind,he,ie]
    exact h1
   ·obtain ⟨j,q1,q2,q3⟩:=h2 ((de.1 hm).resolve_left hx)
    exact ⟨j+1,by rw [q1]; congr 2; omega,by simp; omega,by simpa using q3⟩
theorem adk (b:Bool) (k:Int×Int) (w:World):(Instr.checkKey b 10000 32 (hv k)).run Try.prog w = .ok () w:=by
 have h:aG.cP Try.prog (Instr.checkKey b 10000 32 (hv k))=some ():=by cases b <;> kernel_rfl
 exact aG.fD h w
theorem X6 (k:Int×Int) (w:World) {es:Array MapEntry} {S:List (Int×Int)} (h:UR es S) :
  ∃ r,(Instr.findKey 32 (hv k) es.toList).run Try.prog w = .ok r w/\(k∈S->∃ j,r=some (j,.bool true))/\(k ∉ S->r=none):=by
 obtain ⟨r,h1,h2,h3⟩:=agr k w es.toList S 0 h.1 h.2;have u32:=run_underlying Try.underlying32;unfold Instr.findKey;cases hl:es.toList with
 | nil=>
  rw [hl] at h1;refine ⟨none,?_,fun hk=>?_,fun _=>rfl⟩
  ·simp only [Sem.run_bind,u32,ie,Instr.findNow]
   rfl
  ·have:=h.1
   rw [hl] at this;have:S = []:=by simpa using this.symm
   rw [this] at hk;simp at hk
 | cons e l=>
  rw [hl] at h1;refine ⟨r,?_,fun hk=>?_,h3⟩
  ·have hn:∀ fs i,Instr.findNow (.struct fs) (hv k) (e::l) i=none:=fun fs i=>by
    unfold Instr.findNow;have:∀ v,Instr.sameNow (.struct fs) (hv k) v=none:=fun v=>by cases v <;> rfl
    rw [this]
   simp only [Sem.run_bind,u32,ie,hn];exact h1
  ·obtain ⟨j,q,_⟩:=h2 hk
   exact ⟨0+j,q⟩
theorem akK {W:World} {mb:Nat} {es:Array MapEntry} {clock:Nat} {S:List (Int×Int)} (hm:W.heap[mb]? = some (.map es clock)) (h:UR es S) (k:Int×Int) :
  (Instr.lookup 172 (.map (some mb)) (hv k) false).run Try.prog W = .ok (.bool (decide (k∈S))) W:=by
 obtain ⟨r,h1,h2,h3⟩:=X6 k W h;have RJ:=run_underlying Try.underlying172;have v4:=Try.zeroValue4;unfold Instr.lookup;simp only [Sem.run_bind,RJ,ie,MapKept.run_getObj_map hm,Sem.run_pure,adk,h1];by_cases hk:k∈S
 ·obtain ⟨j,rfl⟩:=h2 hk
  rw [ay hk];rfl
 ·rw [h3 hk,bo hk]
  simp only [Sem.run_bind,v4,ie,Sem.run_pure];rfl
def put (W:World) (mb:Nat) (o:Obj):World:={ W with heap:=W.heap.setIfInBounds mb o }
theorem amr {W:World} {mb:Nat} {es:Array MapEntry} {clock:Nat} {S:List (Int×Int)} (hm:W.heap[mb]? = some (.map es clock)) (h:UR es S) (k:Int×Int) (hk:k ∉ S) :
  (Instr.mapUpdate 172 (.map (some mb)) (hv k) (.bool true)).run Try.prog W = .ok () (put W mb (.map (es.push ⟨hv k,.bool true,clock⟩) (clock+1))):=by
 obtain ⟨r,h1,h2,h3⟩:=X6 k W h;have RJ:=run_underlying Try.underlying172;unfold Instr.mapUpdate;simp only [Sem.run_bind,RJ,ie,MapKept.run_getObj_map hm,Sem.run_pure,adk,h1,h3 hk];exact MapKept.run_setObj_map _ hm
theorem aib {es:Array MapEntry} {S:List (Int×Int)} (h:UR es S) (k:Int×Int) (c:Nat):UR (es.push ⟨hv k,.bool true,c⟩) (S++[k]):=by
 refine ⟨?_,fun e he=>?_⟩
 ·rw [Array.toList_push,EO,EO,h.1]; rfl
 ·rw [Array.toList_push] at he
  rcases jF.1 he with he | he
  ·exact h.2 e he
  ·rw [List.mem_singleton.1 he]
theorem adl:UR #[] []:=⟨rfl,fun e he=>by simp at he⟩
theorem Y7 {W:World} {mb:Nat} {o o' : Obj} (h:W.heap[mb]? = some o'):(put W mb o).heap[mb]? = some o:=by
 have bj:mb < W.heap.size:=(rV.1 h).1;unfold put;simp [Array.getElem?_setIfInBounds,bj]
theorem Y8 {W:World} {mb k:Nat} {o:Obj} (h:k≠mb):(put W mb o).heap[k]? = W.heap[k]?:=by
 unfold put;simp [Array.getElem?_setIfInBounds,Ne.symm h]
theorem Wy {W:World} {mb:Nat} {o:Obj} : (put W mb o).heap.size=W.heap.size:=by
 unfold put;simp
end Go.Proofs.Ytckbdndhmcoihaa.nodes
end
section
set_option maxRecDepth 20000
namespace Go.Proofs.Ytckbdndhmcoihaa.nodes
open Go Go.RowKit Go.Lib Go.Shelf
set_option maxHeartbeats 4000000 in
theorem anx (g:Nat) (lb:Array Value) (eg:∀ args w,(callFunc g args).run Try.prog w = .ok (.enter g args) w) (a:Option Addr) (n c:Nat) (x:Nat->Int×Int) (I:Nat->World->Prop) (T:World->Prop) (aop:n<=1000000)
  (fp:∀ W kk,kk < n->I kk W->∃ b off,a=some ⟨b,off,none⟩/\W.cell? ⟨b,off+kk * 2,none⟩=some (.int .i64 (x kk).1)/\W.cell? ⟨b,off+kk * 2+1,none⟩=some (.int .i64 (x kk).2))
  (yK:∀ kk W,kk < n->I kk W->Calls Try.prog g (#[hv (x kk)]++lb) W fun e W'=>e = .returned (.bool true)/\T W'\/e = .returned (.bool false)/\I (kk+1) W')
  (w:World) (h0:I 0 w):Calls Try.prog 91 #[.slice a n c,.func (.func g) #[] lb] w fun e W'=>(∃ kk:Nat,kk < n/\e = .returned (.int .i64 kk)/\T W')\/e = .returned (.int .i64 (-1))/\I n W':=by
 have mixed:=Bn;have t32:=Try.underlying32; have a32:=Try.isAgg32; have z32:=Try.sizeOf32; have v32:=Try.zeroValue32; have u32:=run_underlying Try.underlying32;have t35:=Try.underlying47; have a35:=Try.isAgg47; have z35:=Try.sizeOf47; have v35:=Try.zeroValue47; have u35:=run_underlying Try.underlying47;have t3:=Try.underlying3; have a3:=Try.isAgg3; have z3:=Try.sizeOf3; have v3:=Try.zeroValue3; have u3:=run_underlying Try.underlying3
 go_enter Try.func91,Try.ntmps91
 go_wp2
 go_loopg [5,8] n (fun gg _ s8 wr=>∃ kk:Nat,kk<=n/\n - kk<=gg/\s8 = .int .i64 kk/\Aside (I kk wr))
 case atStart=>exact ⟨0,qK _,by omega,rfl,h0⟩
 case round=>
  obtain ⟨kk,hkk,hg,rfl,BW⟩:=hrel;by_cases bj:kk < n
  ·have ags:(kk:Int) < (n:Int):=by omega
   obtain ⟨b,off,ea,l1,l2⟩:=fp wr kk bj BW.out;subst ea;have hc:=yK kk wr bj BW.out;clear fp yK;generalize hy:x kk=y at l1 l2 hc;clear hy
   go_wp2_with (go_at_fn g; refine hc.mono ?_; rintro e w' (⟨rfl,UB⟩ | ⟨rfl,UB⟩))
   ·go_wp2
    go_ret
    exact .inl ⟨kk,bj,rfl,UB⟩
   ·go_wp2
    go_roundg (n - (kk+1))
    case measure=>omega
    case rel=>exact ⟨kk+1,by omega,by omega,by go_num,UB⟩
  ·have ags : ¬ (kk:Int) < (n:Int):=by omega
   have:kk=n:=by omega
   subst this
   go_wp2
   go_ret
   exact .inr ⟨rfl,BW.out⟩
set_option maxHeartbeats 4000000 in
theorem S7 (g:Nat) (lb:Array Value) (eg:∀ args w,(callFunc g args).run Try.prog w = .ok (.enter g args) w) (a:Option Addr) (n c:Nat) (x:Nat->Int×Int) (I:Nat->World->Prop) (T:World->Prop) (aop:n<=1000000)
  (fp:∀ W kk,kk < n->I kk W->∃ b off,a=some ⟨b,off,none⟩/\W.cell? ⟨b,off+kk * 2,none⟩=some (.int .i64 (x kk).1)/\W.cell? ⟨b,off+kk * 2+1,none⟩=some (.int .i64 (x kk).2))
  (yK:∀ kk W,kk < n->I kk W->Calls Try.prog g (#[hv (x kk)]++lb) W fun e W'=>e = .returned (.bool true)/\T W'\/e = .returned (.bool false)/\I (kk+1) W')
  (w:World) (h0:I 0 w):Calls Try.prog 72 #[.slice a n c,.func (.func g) #[] lb] w fun e W'=>∃ r,e = .returned (.bool r)/\(r=true/\T W'\/r=false/\I n W'):=by
 have mixed:=Bn;have t35:=Try.underlying47; have a35:=Try.isAgg47; have z35:=Try.sizeOf47; have v35:=Try.zeroValue47; have u35:=run_underlying Try.underlying47;have t3:=Try.underlying3; have a3:=Try.isAgg3; have z3:=Try.sizeOf3; have v3:=Try.zeroValue3; have u3:=run_underlying Try.underlying3;have hI:=anx g lb eg a n c x I T aop fp yK w h0
 go_enter Try.func72,Try.ntmps72
 go_wp2_with (go_at_call 91; refine hI.mono ?_; rintro e w' (⟨kk,hk,rfl,UB⟩ | ⟨rfl,UB⟩))
 ·go_wp2
  go_ret
  exact ⟨true,by congr 2,.inl ⟨rfl,UB⟩⟩
 ·go_wp2
  go_ret
  exact ⟨false,by congr 2,.inr ⟨rfl,UB⟩⟩
structure G where
 sa:Option Addr
 sn:Nat
 sc:Nat
 ka:Option Addr
 kn:Nat
 kc:Nat
 ia:Nat->Option Addr
 im:Nat->Nat
 ic:Nat->Nat
 dW:Nat->Nat->Int×Int
structure GAt (q:G) (B:Nat) (W:World):Prop where
 kids:∀ i,i < q.kn->∃ b off,q.ka=some ⟨b,off,none⟩/\b < B/\W.cell? ⟨b,off+i,none⟩=some (.slice (q.ia i) (q.im i) (q.ic i))
 small:∀ i,i < q.kn->q.im i<=1000000
 row:∀ i,i < q.kn->∀ k,k < q.im i->∃ b off,q.ia i=some ⟨b,off,none⟩/\b < B/\W.cell? ⟨b,off+k * 2,none⟩=some (.int .i64 (q.dW i k).1)/\W.cell? ⟨b,off+k * 2+1,none⟩=some (.int .i64 (q.dW i k).2)
structure Kp (mb:Nat) (W W' : World):Prop where
 os:W'.os=W.os
 tape:W'.tape=W.tape
 output:W'.output=W.output
 size:W.heap.size<=W'.heap.size
 block:∀ k,k < W.heap.size->k≠mb->W'.heap[k]? = W.heap[k]?
theorem Kp.refl (mb:Nat) (W:World):Kp mb W W:=⟨rfl,rfl,rfl,aB _,fun _ _ _=>rfl⟩
theorem Kp.trans {mb:Nat} {W W' W2:World} (h:Kp mb W W') (k:Kp mb W' W2):Kp mb W W2:=
 ⟨k.os.trans h.os,k.tape.trans h.tape,k.output.trans h.output,gR h.size k.size,fun j hj hn=>(k.block j (fa hj h.size) hn).trans (h.block j hj hn)⟩
theorem Kp.below {mb B:Nat} {W W' : World} (h:Kp mb W W') (hB:B<=W.heap.size) (hm:B<=mb):Below B W W':=
 ⟨h.os,h.tape,h.output,h.size,fun k hk=>h.block k (by omega) (by omega)⟩
theorem Kp.cell {mb:Nat} {W W' : World} (h:Kp mb W W') {b j:Nat} (hb:b < W.heap.size) (hm:b≠mb):W'.cell? ⟨b,j,none⟩=W.cell? ⟨b,j,none⟩:=by
 have:=h.block b hb hm;unfold World.cell?;simp only [this]
theorem Kp.alloc {mb:Nat} (W:World) (o:Obj):Kp mb W (W.alloc o):=⟨rfl,rfl,rfl,by simp,fun k hk _=>Below.heap_alloc W o k hk⟩
theorem Kp.drew (mb:Nat) (W:World):Kp mb W W.drew:=⟨rfl,rfl,rfl,aB _,fun _ _ _=>rfl⟩
theorem Kp.put {mb:Nat} (W:World) (o:Obj):Kp mb W (put W mb o):=⟨rfl,rfl,rfl,by rw [Wy]; exact aB _,fun k _ hn=>Y8 hn⟩
theorem GAt.dP {q:G} {B mb:Nat} {W W' : World} (h:GAt q B W) (k:Kp mb W W') (hB:B<=W.heap.size) (hm:B<=mb):GAt q B W':=by
 refine ⟨fun i hi=>?_,h.small,fun i hi j hj=>?_⟩
 ·obtain ⟨b,off,h1,h2,h3⟩:=h.kids i hi
  exact ⟨b,off,h1,h2,by rw [k.cell (by omega) (by omega)]; exact h3⟩
 ·obtain ⟨b,off,h1,h2,h3,h4⟩:=h.row i hi j hj
  exact ⟨b,off,h1,h2,by rw [k.cell (by omega) (by omega)]; exact h3,by rw [k.cell (by omega) (by omega)]; exact h4⟩
structure Bo (q:G) (B b1 b2 b3 b4 mb:Nat) (to:Int×Int) (W:World) (S:List (Int×Int)):Prop where
 g:GAt q B W
 eV:B<=W.heap.size
 l1:b1 < W.heap.size/\b1≠mb
 l2:b2 < W.heap.size/\b2≠mb
 l3:b3 < W.heap.size/\b3≠mb
 l4:b4 < W.heap.size/\b4≠mb
 m:B<=mb
 c1:W.cell? ⟨b1,0,none⟩=some (.int .i64 to.1)
 d1:W.cell? ⟨b1,1,none⟩=some (.int .i64 to.2)
 c2:W.cell? ⟨b2,0,none⟩=some (.map (some mb))
 c3:W.cell? ⟨b3,0,none⟩=some (.slice q.sa q.sn q.sc)
 d3:W.cell? ⟨b3,1,none⟩=some (.slice q.ka q.kn q.kc)
 c4:W.cell? ⟨b4,0,none⟩=some (.func (.func 92) #[] #[.pointer (some ⟨b1,0,none⟩),.pointer (some ⟨b2,0,none⟩),.pointer (some ⟨b3,0,none⟩),.pointer (some ⟨b4,0,none⟩)])
 map:∃ es clock,W.heap[mb]? = some (.map es clock)/\UR es S
 to:to ∉ S
theorem Bo.dP {q:G} {B b1 b2 b3 b4 mb:Nat} {to:Int×Int} {W W' : World} {S S' : List (Int×Int)} (h:Bo q B b1 b2 b3 b4 mb to W S) (k:Kp mb W W') (hm:∃ es clock,W'.heap[mb]? = some (.map es clock)/\UR es S') (ht:to ∉ S') :
  Bo q B b1 b2 b3 b4 mb to W' S' where
 g:=h.g.dP k h.eV h.m
 eV:=gR h.eV k.size
 l1:=⟨fa h.l1.1 k.size,h.l1.2⟩
 l2:=⟨fa h.l2.1 k.size,h.l2.2⟩
 l3:=⟨fa h.l3.1 k.size,h.l3.2⟩
 l4:=⟨fa h.l4.1 k.size,h.l4.2⟩
 m:=h.m
 c1:=(k.cell h.l1.1 h.l1.2).trans h.c1
 d1:=(k.cell h.l1.1 h.l1.2).trans h.d1
 c2:=(k.cell h.l2.1 h.l2.2).trans h.c2
 c3:=(k.cell h.l3.1 h.l3.2).trans h.c3
 d3:=(k.cell h.l3.1 h.l3.2).trans h.d3
 c4:=(k.cell h.l4.1 h.l4.2).trans h.c4
 map:=hm
 to:=ht
inductive Reach (q:G) (to:Int×Int):Int×Int->Prop where
 | here:Reach q to to
 | dW (h:Int×Int) (k:Nat) (hk:k < q.im h.1.toNat) (r:Reach q to (q.dW h.1.toNat k)):Reach q to h
structure Grow (q:G) (S:List (Int×Int)) (h:Int×Int) (S' : List (Int×Int)):Prop where
 sub:∀ x∈S,x∈S'
 is:h∈S'
 new:∀ x∈S',x∈S\/∀ k,k < q.im x.1.toNat->q.dW x.1.toNat k∈S'
theorem filter_le {S S1:List (Int×Int)} (h:∀ x∈S,x∈S1):∀ U:List (Int×Int),(U.filter fun u=>!decide (u∈S1)).length<=(U.filter fun u=>!decide (u∈S)).length
 | []=>aB _
 | u::U=>by
  have ih:=filter_le h U;by_cases h1:u∈S
  ·rw [List.filter_cons_of_neg (by simp [h u h1]),List.filter_cons_of_neg (by simp [h1])]; exact ih
  ·rw [List.filter_cons_of_pos (p:=fun u=>!decide (u∈S)) (by simp [h1])]
   by_cases h2:u∈S1
   ·rw [List.filter_cons_of_neg (by simp [h2])]; exact Nat.le_succ_of_le ih
   ·rw [List.filter_cons_of_pos (by simp [h2])]; exact Nat.succ_le_succ ih
theorem filter_lt {S S1:List (Int×Int)} (h:∀ x∈S,x∈S1) {k:Int×Int} (hk:k ∉ S) (tS:k∈S1):∀ U:List (Int×Int),k∈U->(U.filter fun u=>!decide (u∈S1)).length < (U.filter fun u=>!decide (u∈S)).length
 | [],hm=>by simp at hm
 | u::U,hm=>by
  by_cases e:k=u
  ·subst e
   rw [List.filter_cons_of_neg (by simp [tS]),List.filter_cons_of_pos (p:=fun u=>!decide (u∈S)) (by simp [hk])];exact Nat.lt_succ_of_le (filter_le h U)
  ·have ih:=filter_lt h hk tS U ((de.1 hm).resolve_left e)
   by_cases h1:u∈S
   ·rw [List.filter_cons_of_neg (by simp [h u h1]),List.filter_cons_of_neg (by simp [h1])]; exact ih
   ·rw [List.filter_cons_of_pos (p:=fun u=>!decide (u∈S)) (by simp [h1])]
    by_cases h2:u∈S1
    ·rw [List.filter_cons_of_neg (by simp [h2])]; exact Nat.lt_succ_of_lt ih
    ·rw [List.filter_cons_of_pos (by simp [h2])]; exact Nat.succ_lt_succ ih
set_option maxHeartbeats 4000000 in
theorem look (q:G) (B b1 b2 b3 b4 mb:Nat) (to:Int×Int) (U:List (Int×Int)) (hU:∀ u∈U,(0<=u.1/\u.1 < (q.kn:Int))/\∀ k,k < q.im u.1.toNat->q.dW u.1.toNat k∈U) :
  ∀ (fuel:Nat) (S:List (Int×Int)) (W:World) (h:Int×Int),h∈U->(U.filter fun u=>!decide (u∈S)).length < fuel->Bo q B b1 b2 b3 b4 mb to W S->
   Calls Try.prog 92 #[hv h,.pointer (some ⟨b1,0,none⟩),.pointer (some ⟨b2,0,none⟩),.pointer (some ⟨b3,0,none⟩),.pointer (some ⟨b4,0,none⟩)] W fun e W'=>
    ∃ S',Bo q B b1 b2 b3 b4 mb to W' S'/\Kp mb W W'/\(e = .returned (.bool true)/\Reach q to h\/e = .returned (.bool false)/\Grow q S h S'):=by
 intro fuel
 induction fuel with
 | zero=>exact fun S W h _ hf=>absurd hf (oD _)
 | succ fuel ih=>
  intro S W h hhU hf L;have mixed:=Bn;have t32:=Try.underlying32; have a32:=Try.isAgg32; have z32:=Try.sizeOf32; have v32:=Try.zeroValue32; have u32:=run_underlying Try.underlying32;have t202:=Try.underlying172; have ams:=Try.isAgg172; have amt:=Try.sizeOf172; have amu:=Try.zeroValue172; have RJ:=run_underlying Try.underlying172;have t200:=Try.underlying170; have aoq:=Try.isAgg170; have aor:=Try.sizeOf170; have aos:=Try.zeroValue170; have aot:=run_underlying Try.underlying170;have t25:=Try.underlying25; have a25:=Try.isAgg25; have z25:=Try.sizeOf25; have v25:=Try.zeroValue25; have u25:=run_underlying Try.underlying25;have t27:=Try.underlying27; have a27:=Try.isAgg27; have z27:=Try.sizeOf27; have v27:=Try.zeroValue27; have u27:=run_underlying Try.underlying27;have t35:=Try.underlying47; have a35:=Try.isAgg47; have z35:=Try.sizeOf47; have v35:=Try.zeroValue47; have u35:=run_underlying Try.underlying47;have t3:=Try.underlying3; have a3:=Try.isAgg3; have z3:=Try.sizeOf3; have v3:=Try.zeroValue3; have u3:=run_underlying Try.underlying3;have t4:=Try.underlying4; have a4:=Try.isAgg4; have z4:=Try.sizeOf4; have v4:=Try.zeroValue4; have u4:=run_underlying Try.underlying4;obtain ⟨es,clock,amv,agt⟩:=L.map;have aou:mb < W.heap.size:=(rV.1 amv).1;by_cases Oj:h=to
  ·subst Oj
   have KA:=Kp.alloc (mb:=mb) W (.cells #[.int .i64 h.1,.int .i64 h.2] 32);have c1:(W.alloc (.cells #[.int .i64 h.1,.int .i64 h.2] 32)).cell? ⟨b1,0,none⟩=some (.int .i64 h.1):=(KA.cell L.l1.1 L.l1.2).trans L.c1;have d1:(W.alloc (.cells #[.int .i64 h.1,.int .i64 h.2] 32)).cell? ⟨b1,1,none⟩=some (.int .i64 h.2):=(KA.cell L.l1.1 L.l1.2).trans L.d1
   go_enter Try.func92,Try.ntmps92
   go_wp2
   go_ret
   exact ⟨S,L.dP KA ⟨es,clock,by rw [Below.heap_alloc W _ mb aou]; exact amv,agt⟩ L.to,KA,.inl ⟨rfl,.here⟩⟩
  ·have KA:=Kp.alloc (mb:=mb) W (.cells #[.int .i64 h.1,.int .i64 h.2] 32)
   obtain ⟨t1,c1,d1,aov⟩:∃ t1,(W.alloc (.cells #[.int .i64 h.1,.int .i64 h.2] 32)).cell? ⟨b1,0,none⟩=some (.int .i64 t1)/\(W.alloc (.cells #[.int .i64 h.1,.int .i64 h.2] 32)).cell? ⟨b1,1,none⟩=some (.int .i64 to.2)/\(t1=h.1/\¬ h.2=to.2\/¬ h.1=t1):=by
    refine ⟨to.1,(KA.cell L.l1.1 L.l1.2).trans L.c1,(KA.cell L.l1.1 L.l1.2).trans L.d1,?_⟩;by_cases e1:h.1=to.1
    ·exact .inl ⟨e1.symm,fun e2=>Oj (Prod.ext e1 e2)⟩
    ·exact .inr e1
   have c2:(W.alloc (.cells #[.int .i64 h.1,.int .i64 h.2] 32)).cell? ⟨b2,0,none⟩=some (.map (some mb)):=(KA.cell L.l2.1 L.l2.2).trans L.c2;have aeE:(W.alloc (.cells #[.int .i64 h.1,.int .i64 h.2] 32)).heap[mb]? = some (.map es clock):=by rw [Below.heap_alloc W _ mb aou]; exact amv
   have hlk:=akK aeE agt h;by_cases hS:h∈S
   ·rw [ay hS] at hlk
    have fin:∃ S',Bo q B b1 b2 b3 b4 mb to (W.alloc (.cells #[.int .i64 h.1,.int .i64 h.2] 32)) S'/\Kp mb W (W.alloc (.cells #[.int .i64 h.1,.int .i64 h.2] 32))/\Grow q S h S':=
     ⟨S,L.dP KA ⟨es,clock,aeE,agt⟩ L.to,KA,⟨fun x hx=>hx,hS,fun x hx=>.inl hx⟩⟩
    obtain ⟨S',f1,f2,f3⟩:=fin;rcases aov with ⟨rfl,e2⟩ | e1
    ·go_enter Try.func92,Try.ntmps92
     go_wp2
     go_ret
     exact ⟨S',f1,f2,.inr ⟨rfl,f3⟩⟩
    ·go_enter Try.func92,Try.ntmps92
     go_wp2
     go_ret
     exact ⟨S',f1,f2,.inr ⟨rfl,f3⟩⟩
   ·rw [bo hS] at hlk
    have Ub:=amr aeE agt h hS;have ao2:=Y7 (o:=.map (es.push ⟨hv h,.bool true,clock⟩) (clock+1)) aeE;have KP:=Kp.put (mb:=mb) (W.alloc (.cells #[.int .i64 h.1,.int .i64 h.2] 32)) (.map (es.push ⟨hv h,.bool true,clock⟩) (clock+1));have LP:=L.dP (KA.trans KP) ⟨_,_,ao2,aib agt h clock⟩ (by
     rw [jF];rintro (hm | hm)
     ·exact L.to hm
     ·exact Oj (List.mem_singleton.1 hm).symm)
    have cb:(put (W.alloc (.cells #[.int .i64 h.1,.int .i64 h.2] 32)) mb (.map (es.push ⟨hv h,.bool true,clock⟩) (clock+1))).cell? ⟨W.heap.size,0,none⟩=some (.int .i64 h.1):=by
     rw [KP.cell (by simp) (by omega)];simp
    have HZ:=LP.g;obtain ⟨hU1,hU2⟩:=hU h hhU;obtain ⟨bk,ok,hka,hbk,fp⟩:=HZ.kids h.1.toNat (by omega);have d3:=LP.d3;rw [hka] at d3;have c4:=LP.c4;have SM:W.heap.size < (put (W.alloc (.cells #[.int .i64 h.1,.int .i64 h.2] 32)) mb (.map (es.push ⟨hv h,.bool true,clock⟩) (clock+1))).heap.size:=by rw [Wy]; simp
    have K2:=KA.trans KP;generalize put (W.alloc (.cells #[.int .i64 h.1,.int .i64 h.2] 32)) mb (.map (es.push ⟨hv h,.bool true,clock⟩) (clock+1))=W2 at *;have eg:∀ args w,(callFunc 92 args).run Try.prog w = .ok (.enter 92 args) w:=enters_of Try.func92 (by kernel_rfl) rfl;have PB:=S7 92 #[.pointer (some ⟨b1,0,none⟩),.pointer (some ⟨b2,0,none⟩),.pointer (some ⟨b3,0,none⟩),.pointer (some ⟨b4,0,none⟩)] eg (q.ia h.1.toNat) (q.im h.1.toNat) (q.ic h.1.toNat) (q.dW h.1.toNat)
     (fun kk W'=>∃ S1,Bo q B b1 b2 b3 b4 mb to W' S1/\Kp mb W2 W'/\(∀ x∈S,x∈S1)/\h∈S1/\(∀ j,j < kk->q.dW h.1.toNat j∈S1)/\∀ x∈S1,x∈S\/x=h\/∀ k,k < q.im x.1.toNat->q.dW x.1.toNat k∈S1)
     (fun W'=>∃ S1,Bo q B b1 b2 b3 b4 mb to W' S1/\Kp mb W2 W'/\Reach q to h)
     (LP.g.small _ (by omega))
     (fun W' kk hk ⟨S1,L1,_⟩=>by
      obtain ⟨b,off,r1,_,r2,r3⟩:=L1.g.row h.1.toNat (by omega) kk hk;exact ⟨b,off,r1,r2,r3⟩)
     (fun kk W' hk ⟨S1,L1,k1,s1,s2,s3,s4⟩=>by
      refine (ih S1 W' (q.dW h.1.toNat kk) (hU2 kk hk) (fa (filter_lt s1 hS s2 U hhU) (Nat.le_of_lt_succ hf)) L1).mono ?_;rintro e W3 ⟨S2,L2,k2,⟨rfl,hr⟩ | ⟨rfl,Hg⟩⟩
      ·exact .inl ⟨rfl,S2,L2,k1.trans k2,.dW h kk hk hr⟩
      ·refine .inr ⟨rfl,S2,L2,k1.trans k2,fun x hx=>Hg.sub x (s1 x hx),Hg.sub h s2,fun j hj=>?_,fun x hx=>?_⟩
       ·by_cases ej:j=kk
        ·subst ej; exact Hg.is
        ·exact Hg.sub _ (s3 j (by omega))
       ·rcases Hg.new x hx with h1 | h1
        ·rcases s4 x h1 with h2 | h2 | h2
         ·exact .inl h2
         ·exact .inr (.inl h2)
         ·exact .inr (.inr fun k hk=>Hg.sub _ (h2 k hk))
        ·exact .inr (.inr h1))
     W2.drew ⟨S++[h],LP.dP (Kp.drew mb W2) (by obtain ⟨pj,cl2,q1,q2⟩:=LP.map; exact ⟨pj,cl2,q1,q2⟩) LP.to,Kp.drew mb W2,fun x hx=>List.mem_append_left _ hx,List.mem_append_right _ (List.mem_singleton.2 rfl),fun j hj=>absurd hj (oD _),fun x hx=>(jF.1 hx).imp id fun q=>.inl (List.mem_singleton.1 q)⟩
    have GD:0<=h.1:=hU1.1;have bj:h.1 < (q.kn:Int):=hU1.2;have fin:∀ W' r,(r=true/\(∃ S1,Bo q B b1 b2 b3 b4 mb to W' S1/\Kp mb W2 W'/\Reach q to h)\/r=false/\∃ S1,Bo q B b1 b2 b3 b4 mb to W' S1/\Kp mb W2 W'/\(∀ x∈S,x∈S1)/\h∈S1/\(∀ j,j < q.im h.1.toNat->q.dW h.1.toNat j∈S1)/\∀ x∈S1,x∈S\/x=h\/∀ k,k < q.im x.1.toNat->q.dW x.1.toNat k∈S1)->
      ∃ S',Bo q B b1 b2 b3 b4 mb to W' S'/\Kp mb W W'/\((Ending.returned (.bool r) = .returned (.bool true))/\Reach q to h\/(Ending.returned (.bool r) = .returned (.bool false))/\Grow q S h S'):=by
     rintro W' r (⟨rfl,S1,L1,k1,hr⟩ | ⟨rfl,S1,L1,k1,s1,s2,s3,s4⟩)
     ·exact ⟨S1,L1,K2.trans k1,.inl ⟨rfl,hr⟩⟩
     ·refine ⟨S1,L1,K2.trans k1,.inr ⟨rfl,s1,s2,fun x hx=>?_⟩⟩
      rcases s4 x hx with h1 | h1 | h1
      ·exact .inl h1
      ·subst h1; exact .inr s3
      ·exact .inr h1
    clear ih hU2 LP L HZ hf;rcases aov with ⟨rfl,e2⟩ | e1
    ·go_enter Try.func92,Try.ntmps92
     go_wp2
     go_region_with (go_at_call 72; refine PB.mono ?_; rintro e w' ⟨r,rfl,hr⟩)
     all_goals (go_wp2; go_ret; exact fin _ _ (by assumption))
    ·go_enter Try.func92,Try.ntmps92
     go_wp2
     go_region_with (go_at_call 72; refine PB.mono ?_; rintro e w' ⟨r,rfl,hr⟩)
     all_goals (go_wp2; go_ret; exact fin _ _ (by assumption))
end Go.Proofs.Ytckbdndhmcoihaa.nodes
end
