/- Part of the proof of WorldIn: the machine, shown to be the model's, and plain models. No conditions. -/
import Derived.Test.YtckbdndhmcoihaaFq
import Derived.SizedLaws
import Derived.OpenShut
import Derived.ChangeArms
import Derived.WideShapes
import Derived.Below
import Derived.KernelRfl
import Derived.Test.YtckbdndhmcoihaaProg
import Derived.WalkKit
import Derived.Lib.Walk
import Derived.Lib.SliceRun
import Derived.Shelf.SlicesQ.Load
import Derived.Shelf.GgClosure.Gives
import Derived.MapKept
import Derived.Deep.RegionWith
set_option linter.unusedSimpArgs false
set_option linter.unusedVariables false
section
namespace Go.K
open Go Go.aG
variable {P:Program} {E:Env}
structure yO (P:Program) (S:aJ) (vs:List KV) (rs:List (List KV)):Prop where
 v:eP S.dD vs=true
 rV:rs.length=S.rows.length
 ua:∀ (k:Nat) p r,S.rows[k]? = some p->rs[k]? = some r->df p.2.1 r=true
 vn:∃ t A,vs=oq P t A S.dD
 rn:∀ (k:Nat) p,S.rows[k]? = some p->∃ A mg,rs[k]? = some (eO P A p.2.1 mg)/\mg.length=p.2.1.length
theorem dp.Js {S:aJ} {t:bf} {A:ae} {g:GR} (h:dp P S t A g):yO P S g.vs g.rs:=
 ⟨h.dD,h.rV,h.ua,⟨t,A,h.vs⟩,fun _ _ hp=>by obtain ⟨_,cs,_,_,h1,_,h2,_⟩:=h.row hp; exact ⟨A,cs,h2,h1⟩⟩
section
variable {cfg:dF} {L n:Nat} {f:FuncId} {S:aJ} {root body:Code} {p N:Nat}
theorem aiQ (hP:P.funcs.toList.all kG=true) (hm:P.follows .mixedOrders=true) (eW:rD P cfg.pc) (iH:vK P cfg) {fn:Func} (hf:P.funcs[f]? = some fn) (hb:fn.body=some root) (hs:Sub root p (.loop body)) (hc:codeOk N body=true)
  {vs b7:List KV} {rs iI:List (List KV)} {e:ah} (hr:FJ P cfg L n f p body S vs rs=some (e,b7,iI)) {B:St} {ρ:Ren} {base:Nat} {a:Act} {w:World} {Q:Exit->Act->World->Prop} (cI:yO P S vs rs)
  (ht:iZ P E ρ (S.tm S.nr S.ids vs) N a) (hj:KJ P E (S.mem P vs rs) B ρ base w)
  (hq:∀ E' B' aF a' w',iZ P E' aF (S.tm S.nr S.ids b7) N a'->a'.defers=a.defers->KJ P E' (S.mem P b7 iI) B' aF base w'->Co base E (S.mem P vs rs) B ρ w E' (S.mem P b7 iI) B' aF w'->(∀ k,k < S.rows.length->E'.κ k=E.κ k)->yO P S b7 iI->Q e.out a' w'):body.wp P Q a w:=by
 have ug:=uK (R:=ah×List KV×List (List KV)) hP hm eW iH L n;refine iw eW ug hm (iH.2 f fn root hf hb) body (2 * p) hs.loop hc _ _ _ _ E B ρ base a w Q hr ht hj fun e' t' E1 A1 B1 kM a1 w1 h1 h2 h3 h4=>?_;cases hi:vM (S.dn P t' A1).bs S.ids with
 | false=>
  simp only [hi,aH] at h1;exact absurd h1 (by simp)
 | true=>
  simp only [hi,aj] at h1;cases ho:(S.dn P t' A1).ok with
  | false=>simp only [ho] at h1; exact absurd h1 (by simp)
  | true=>
   simp only [ho,bQ,dt] at h1;obtain ⟨rfl,rfl,rfl⟩:=h1;have hG:=F8 ho;have ag2:=KM hi;refine hq _ B1 kM a1 w1 (hG.tkr h2) h3 ⟨hG.fY h4.fY,h4.eJ.fY⟩ (h4.co hG) (fun k hk=>?_) hG.Js;have hp:=cJ hk;have hr':=cJ (show k < rs.length by rw [cI.rV]; exact hk);obtain ⟨x,_,hx,_⟩:=hj.k.row k _ _ (mem_row cI.rV hp hr');have e1:(E1.sub A1 (S.dn P t' A1).bs (S.dn P t' A1).fs S.nr).κ k=E1.κ k:=by
    simp only [Env.sub];rw [ag2,Jn S k hk,dQ]
   rw [e1,hx];exact h4.le.κ k x hx
theorem ad1 (hP:P.funcs.toList.all kG=true) (hm:P.follows .mixedOrders=true) (eW:rD P cfg.pc) (iH:vK P cfg) {fn:Func} (hf:P.funcs[f]? = some fn) (hb:fn.body=some root) (hs:Sub root p (.loop body)) (hc:codeOk N body=true)
  {e:ah} {b7:List KV} {iI:List (List KV)} : ∀ (m:Nat) {vs:List KV} {rs:List (List KV)},vN (FJ P cfg L n f p body S) m vs rs=some (e,b7,iI)->∀ {E:Env} {B:St} {ρ:Ren} {base:Nat} {a:Act} {w:World} {Q:Exit->Act->World->Prop},yO P S vs rs->
  iZ P E ρ (S.tm S.nr S.ids vs) N a->KJ P E (S.mem P vs rs) B ρ base w->
  (∀ E' B' aF a' w',iZ P E' aF (S.tm S.nr S.ids b7) N a'->a'.defers=a.defers->KJ P E' (S.mem P b7 iI) B' aF base w'->Co base E (S.mem P vs rs) B ρ w E' (S.mem P b7 iI) B' aF w'->(∀ k,k < S.rows.length->E'.κ k=E.κ k)->yO P S b7 iI->Q e.out a' w')->Code.rounds P body Q m a w
 | 0,vs,rs,h,E,B,ρ,base,a,w,Q,cI,ht,hj,hq=>by simp [vN] at h
 | m+1,vs,rs,h,E,B,ρ,base,a,w,Q,cI,ht,hj,hq=>by
  unfold vN at h;split at h
  ·rename_i e1 vs1 rs1 hr
   rw [rounds_succ];refine aiQ hP hm eW iH hf hb hs hc hr cI ht hj fun E' B' aF a' w' h1 h2 h3 h4 h5 h6=>?_;have fin:mK e1=false->some (e1,vs1,rs1)=some (e,b7,iI)->Q e1.out a' w':=by
    intro _ h;simp only [bQ,dt] at h;obtain ⟨rfl,rfl,rfl⟩:=h;exact hq E' B' aF a' w' h1 h2 h3 h4 h5 h6
   cases e1 with
   | normal=>
    have h:vN (FJ P cfg L n f p body S) m vs1 rs1=some (e,b7,iI):=h;exact ad1 hP hm eW iH hf hb hs hc m h h6 h1 h3 fun H6 Jc vv TK HQ q1 q2 q3 q4 q5 q6=>hq H6 Jc vv TK HQ q1 (q2.trans h2) q3 (h4.trans q4) (fun k hk=>(q5 k hk).trans (h5 k hk)) q6
   | exit id=>exact fin rfl h
   | goto l=>exact fin rfl h
   | ret=>exact fin rfl h
  ·simp at h
theorem Rz {R:Type} {bs:List Nat} {fs:List (Option Nat)} {A:ae} {k:KE R} {r:R} : ∀ (x:wV),(x.tell P S bs fs A).run k=some r->∃ e b7 iI,x.ev=some (e,b7,iI)/\k e (S.tm A.next bs b7) (S.back P bs fs b7 iI A)=some r
 | .no,h=>absurd h (by simp [wV.tell,wG.run])
 | .out e vs rs,h=>⟨e,vs,rs,rfl,h⟩
 | .br c x y,h=>by
  have h:Bool.rec (motive:=fun _=>Option R) ((y.tell P S bs fs A).run k) ((x.tell P S bs fs A).run k) c=some r:=h;cases c with
  | true=>exact Rz x h
  | false=>exact Rz y h
theorem aiR (hP:P.funcs.toList.all kG=true) (hm:P.follows .mixedOrders=true) (eW:rD P cfg.pc) (iH:vK P cfg) {fn:Func} (hf:P.funcs[f]? = some fn) (hb:fn.body=some root) (hs:Sub root p (.loop body)) (hc:codeOk N body=true) {F:LFn}
  (hF:∀ vs rs e b7 iI,yO P S vs rs->(F vs rs).ev=some (e,b7,iI)->vN (FJ P cfg L n f p body S) gx vs rs=some (e,b7,iI)):Rs P N body (Vy P S F):=by
 intro R k r t A E B ρ base a w Q h ht hj hq;cases hpe:S.amV t A with
 | true=>
  unfold Tx Vy at h;rw [hpe] at h;exact absurd h (by simp [wG.run])
 | false=>
 have h:Tx (Vy P S F) k t A=some r:=h;unfold Tx Vy at h;rw [hpe,aH] at h;have h:Bool.rec (motive:=fun _=>Option R) none (((F (S.dn P t A).vs (S.dn P t A).rs).tell P S (S.dn P t A).bs (S.dn P t A).fs A).run k) (S.dn P t A).ok=some r:=h;cases ho:(S.dn P t A).ok with
 | false=>rw [ho] at h; exact absurd h (by simp)
 | true=>
  rw [ho] at h;have hG:=F8 ho;obtain ⟨e,b7,iI,h9,px⟩:=Rz _ h;have Pv:=hF _ _ e b7 iI hG.Js h9;refine ad1 hP hm eW iH hf hb hs hc gx Pv hG.Js (hG.tkr ht) ⟨hG.fY hj.k,hj.s⟩ fun E' B' aF a' w' q1 q2 q3 q4 q5 q6=>?_;obtain ⟨E2,r1,r2⟩:=restore hG hj.k q1 q3.k q4 q5 q6.v q6.rV q6.ua;exact hq e _ E2 _ B' aF a' w' px r1 q2 r2
end
end Go.K
end
section
namespace Go.K
open Go Go.aG
variable {P:Program} {E:Env}
def Env.re (E:Env) (f n:Nat):Env:={ κ:=E.κ,z:=E.z,φ:=E.φ,α:=fun b=>if b=f then E.α n else E.α b }
theorem Env.am9 {f n:Nat} (h:∀ p,E.α f=some p->E.α n=some p):E.le (E.re f n):=⟨fun b p e=>by
 simp only [Env.re];split
 ·rename_i e1; subst e1; exact h p e
 ·exact e,fun _ _ e=>e,fun _ _ e=>e,fun _ _ e=>e⟩
theorem Env.aiS {f n:Nat} : (E.re f n).α f=E.α n:=by simp [Env.re]
theorem Env.E6 {f n b:Nat} (h:b≠f):(E.re f n).α b=E.α b:=by simp [Env.re,h]
theorem dr.swap {A:ae} {B:St} {f n:Nat} {v:KV} (h:dr P E A B) (hf:A.get f=some .dead) (hn:A.get n=some (.arr v)) (Kj:E.κ f=none) (uc:∀ p,E.α f=some p->E.α n=some p) :
  dr P (E.re f n) ((A.put f (.arr v)).put n .dead) B/\(∀ x,AR ((A.put f (.arr v)).put n .dead) (E.re f n) x->AR A E x)/\∀ g,AF ((A.put f (.arr v)).put n .dead) (E.re f n) B g->AF A E B g:=by
 have cD:f≠n:=fun e=>by rw [e,hn] at hf; simp at hf
 have hle:=Env.am9 uc;have fM:∀ b o,((A.put f (.arr v)).put n .dead).get b=some o->(b=n/\o = .dead)\/(b=f/\o = .arr v)\/(b≠f/\b≠n/\A.get b=some o):=fun b o hb=>by
  rw [ae.bA] at hb;split at hb
  ·rename_i e; simp at hb; exact .inl ⟨e,hb.symm⟩
  ·rename_i e
   rw [ae.bA] at hb;split at hb
   ·rename_i e2; simp at hb; exact .inr (.inl ⟨e2,hb.symm⟩)
   ·rename_i e2; exact .inr (.inr ⟨e2,e,hb⟩)
 have hA:∀ b u,((A.put f (.arr v)).put n .dead).get b=some (.arr u)->∃ c,A.get c=some (.arr u)/\(E.re f n).α b=E.α c/\((b=f/\c=n)\/(b≠f/\b≠n/\c=b)):=fun b u hb=>by
  rcases fM b _ hb with ⟨_,e⟩ | ⟨e,e2⟩ | ⟨e,e2,e3⟩
  ·simp at e
  ·simp at e2; subst e2 e; exact ⟨n,hn,Env.aiS,.inl ⟨rfl,rfl⟩⟩
  ·exact ⟨b,e3,Env.E6 e,.inr ⟨e,e2,rfl⟩⟩
 have aby:∀ {b c d:Nat},((b=f/\d=n)\/(b≠f/\b≠n/\d=b))->((c=f/\d=n)\/(c≠f/\c≠n/\d=c))->b=c:=fun h1 h2=>by
  rcases h1 with ⟨a1,a2⟩ | ⟨a1,a2,a3⟩ <;> rcases h2 with ⟨b1,b2⟩ | ⟨b1,b2,b3⟩ <;> omega
 have sq:∀ x,AR ((A.put f (.arr v)).put n .dead) (E.re f n) x->AR A E x:=fun x ⟨b,u,L,N,h1,h2⟩=>by
  obtain ⟨c,h3,h4,_⟩:=hA b u h1;exact ⟨c,u,L,N,h3,by rw [<- h4]; exact h2⟩
 have LG:∀ g,AF ((A.put f (.arr v)).put n .dead) (E.re f n) B g->AF A E B g:=fun g ⟨b,u,x,L,N,cs,e,own,k,h1,h2,h3⟩=>by
  obtain ⟨c,h4,h5,_⟩:=hA b u h1;exact ⟨c,u,x,L,N,cs,e,own,k,h4,by rw [<- h5]; exact h2,h3⟩
 have hold:∀ b o,((A.put f (.arr v)).put n .dead).get b=some o->b < A.next:=fun b o hb=>by
  rcases fM b _ hb with ⟨e,_⟩ | ⟨e,_⟩ | ⟨_,_,e⟩
  ·rw [e]; exact h.live n _ hn
  ·rw [e]; exact h.live f _ hf
  ·exact h.live b o e
 refine ⟨⟨fun b cs bp hb=>?_,fun b top sz hb=>?_,h.z,h.apart,h.inj,fun b c g tb sb tc sc hb hc=>?_,h.jP,h.kR,hold,h.eV,h.lJ,h.iv,h.fresh,h.mem,?_⟩,sq,LG⟩
 ·rcases fM b _ hb with ⟨_,e⟩ | ⟨_,e⟩ | ⟨_,_,e⟩
  ·simp at e
  ·simp at e
  ·obtain ⟨x,bP,h1,h2,h3⟩:=h.row b cs bp e
   exact ⟨x,bP,h1,h2,h3.mono hle⟩
 ·rcases fM b _ hb with ⟨_,e⟩ | ⟨_,e⟩ | ⟨_,_,e⟩
  ·simp at e
  ·simp at e
  ·exact h.aP b top sz e
 ·rcases fM b _ hb with ⟨_,e⟩ | ⟨_,e⟩ | ⟨_,_,hb⟩
  ·simp at e
  ·simp at e
  rcases fM c _ hc with ⟨_,e⟩ | ⟨_,e⟩ | ⟨_,_,hc⟩
  ·simp at e
  ·simp at e
  exact h.gK b c g tb sb tc sc hb hc
 ·refine ⟨fun b u hb=>?_,fun b u hb=>?_,fun x q=>h.ar.z x (sq x q),fun b c u u' x L N L' N' h1 h2 h3 h4=>?_,fun b c u u' x y L N L' N' cs e own g k bP e' rC k' h1 h2 h3 h4 h5 h6=>?_,fun b x e=>?_,fun b p e=>?_,fun b x L N e=>?_,fun b u x L N cs e own g k h1 h2 h3=>?_,fun b u hb=>?_⟩
  ·obtain ⟨c,h1,h2,_⟩:=hA b u hb
   obtain ⟨T,N,es,acc,q1,q2,q3,q4⟩:=h.ar.arr c u h1;refine ⟨T,N,es,acc,q1,q2,q3,?_⟩;rw [h2];exact q4.imp id fun ⟨x,cs,bN,bo,r1,r2,r3,r4⟩=>⟨x,cs,bN,bo,r1,r2,r3.mono hle,r4⟩
  ·rcases fM b _ hb with ⟨_,e⟩ | ⟨_,e⟩ | ⟨e1,_,e⟩
   ·simp at e
   ·simp at e
   ·exact (h.ar.iG b u e).mono hle (Env.E6 e1)
  ·obtain ⟨b',k1,k2,k3⟩:=hA b u h1
   obtain ⟨c',l1,l2,l3⟩:=hA c u' h2;rw [k2] at h3; rw [l2] at h4;have:=h.ar.inj b' c' u u' x L N L' N' k1 l1 h3 h4;subst this;exact aby k3 l3
  ·obtain ⟨b',k1,k2,k3⟩:=hA b u h1
   obtain ⟨c',l1,l2,l3⟩:=hA c u' h2;rw [k2] at h3; rw [l2] at h4;have:=h.ar.xz b' c' u u' x y L N L' N' cs e own g k bP e' rC k' k1 l1 h3 h4 h5 h6;subst this;exact aby k3 l3
  ·have hb:b≠f:=fun e2=>by rw [e2] at e; rw [show (E.re f n).κ f=E.κ f from rfl,Kj] at e; simp at e
   rw [Env.E6 hb];exact h.ar.dis b x e
  ·by_cases hb:b=f
   ·rw [hb]; exact h.live f _ hf
   ·rw [Env.E6 hb] at e; exact h.ar.jP b p e
  ·by_cases hb:b=f
   ·rw [hb,Env.aiS] at e; exact h.ar.eV n x L N e
   ·rw [Env.E6 hb] at e; exact h.ar.eV b x L N e
  ·obtain ⟨c,k1,k2,_⟩:=hA b u h1
   rw [k2] at h2;obtain ⟨q1,q2,q3⟩:=h.ar.vD c u x L N cs e own g k k1 h2 h3;exact ⟨q1,q2,fun y hy hy2=>⟨(q3 y hy hy2).1,fun q=>(q3 y hy hy2).2.1 (sq y q),(q3 y hy hy2).2.2⟩⟩
  ·refine ⟨hold b _ hb,?_⟩
   rcases fM b _ hb with ⟨_,e⟩ | ⟨e,_⟩ | ⟨_,_,e⟩
   ·simp at e
   ·rw [e]; exact Kj
   ·exact (h.ar.nk b u e).2
structure Sw (E:Env) (A:ae) (B:St) (E' : Env) (A' : ae):Prop where
 le:E.le E'
 κ:E'.κ=E.κ
 z:E'.z=E.z
 φ:E'.φ=E.φ
 next:A'.next=A.next
 ar:∀ x,AR A' E' x->AR A E x
 af:∀ g,AF A' E' B g->AF A E B g
 Dq:∀ b,A.get b=some wH->A'.get b=some wH
theorem Sw.refl {A:ae} {B:St} : Sw E A B E A:=⟨Env.le_refl _,rfl,rfl,rfl,rfl,fun _ h=>h,fun _ h=>h,fun _ h=>h⟩
theorem Sw.trans {E1 E2 E3:Env} {A1 A2 A3:ae} {B:St} (h:Sw E1 A1 B E2 A2) (k:Sw E2 A2 B E3 A3):Sw E1 A1 B E3 A3:=
 ⟨Env.le_trans h.le k.le,k.κ.trans h.κ,k.z.trans h.z,k.φ.trans h.φ,k.next.trans h.next,fun x q=>h.ar x (k.ar x q),fun g q=>h.af g (k.af g q),fun b q=>k.Dq b (h.Dq b q)⟩
theorem Ev.sw {base:Nat} {E1 E2 E3:Env} {A1 A2 A3:ae} {B1 B2:St} {kM xC:Ren} {w1 w2:World} (h:Ev P base E1 A1 B1 kM w1 E2 A2 B2 xC w2) (hk:dr P E3 A3 B2) (k:Sw E2 A2 B2 E3 A3):Ev P base E1 A1 B1 kM w1 E3 A3 B2 xC w2 where
 fY:=hk
 eJ:=h.eJ
 le:=Env.le_trans h.le k.le
 next:=by rw [k.next]; exact h.next
 dR:=h.dR
 new b x e:=h.new b x (by rw [<- k.κ]; exact e)
 ud b r e:=h.ud b r (by rw [<- k.z]; exact e)
 su b g e:=h.su b g (by rw [<- k.φ]; exact e)
 o5:=h.o5
 kA x q:=h.kA x (k.ar x q)
 kS g q:=h.kS g (k.af g q)
 vE:=h.vE
 mh y q:=h.mh y (q.imp (k.ar y) fun ⟨g,q1,q2⟩=>⟨g,k.af g q1,q2⟩)
 rows:=h.rows
 Dq b q:=k.Dq b (h.Dq b q)
noncomputable section
def ana (A:ae) (f j:Nat) (o:hO):ae:=
 match o with
 | .arr v=>(A.put f (.arr v)).put j .dead
 | _=>A
def Ia (A:ae):List (Option Nat)->Nat->List hO->ae
 | some f::fs,j,o::os=>Ia (ana A f j o) fs (Nat.succ j) os
 | none::fs,j,_::os=>Ia A fs (Nat.succ j) os
 | _,_,_=>A
structure ad2 (E:Env) (A:ae) (fs:List (Option Nat)) (j:Nat) (os:List hO):Prop where
 one:∀ (i:Nat) f v,fs[i]? = some (some f)->os[i]? = some (.arr v)->A.get f=some .dead/\E.κ f=none/\A.get (j+i)=some (.arr v)/\∀ p,E.α f=some p->E.α (j+i)=some p
 lt:∀ (i f:Nat),fs[i]? = some (some f)->f < j
 nodup:∀ (i k f:Nat),fs[i]? = some (some f)->fs[k]? = some (some f)->i=k
theorem ad2.tail {E1:Env} {A A1:ae} {x:Option Nat} {o:hO} {fs:List (Option Nat)} {os:List hO} {j:Nat} (h:ad2 E A (x::fs) j (o::os)) (uc:∀ b,x≠some b->E1.α b=E.α b) (Kj:E1.κ=E.κ) (hg:∀ b,x≠some b->b≠j->A1.get b=A.get b):ad2 E1 A1 fs (Nat.succ j) os where
 one i f v e1 e2:=by
  obtain ⟨h1,h3,h4,h5⟩:=h.one (i+1) f v (by simpa using e1) (by simpa using e2);have bm:=h.lt (i+1) f (by simpa using e1);rw [show j+(i+1)=Nat.succ j+i by omega] at h4 h5;have hf:x≠some f:=fun e=>by have:=h.nodup (i+1) 0 f (by simpa using e1) (by simp [e]); omega
  have hn:x≠some (Nat.succ j+i):=fun e=>by have:=h.lt 0 (Nat.succ j+i) (by simp [e]); omega
  exact ⟨by rw [hg f hf (by omega)]; exact h1,by rw [Kj]; exact h3,by rw [hg _ hn (by omega)]; exact h4,fun p e=>by rw [uc f hf] at e; rw [uc _ hn]; exact h5 p e⟩
 lt i f e:=by have:=h.lt (i+1) f (by simpa using e); omega
 nodup i k f e1 e2:=by have:=h.nodup (i+1) (k+1) f (by simpa using e1) (by simpa using e2); omega
theorem XK {B:St} : ∀ {fs:List (Option Nat)} {os:List hO} {j:Nat} {E:Env} {A:ae},dr P E A B->ad2 E A fs j os->∃ E',dr P E' (Ia A fs j os) B/\Sw E A B E' (Ia A fs j os)/\
  (∀ (i:Nat) f v,fs[i]? = some (some f)->os[i]? = some (.arr v)->E'.α f=E.α (j+i))/\(∀ b,(∀ i:Nat,fs[i]?≠some (some b))->E'.α b=E.α b)
 | [],os,j,E,A,h,_=>⟨E,h,.refl,fun i f v e=>by simp at e,fun _ _=>rfl⟩
 | x::fs,[],j,E,A,h,_=>⟨E,by cases x <;> exact h,by cases x <;> exact .refl,fun i f v _ e=>by simp at e,fun _ _=>rfl⟩
 | none::fs,o::os,j,E,A,h,ho=>by
  obtain ⟨E',h1,h2,h3,h4⟩:=XK h (ho.tail (fun _ _=>rfl) rfl fun _ _ _=>rfl);refine ⟨E',h1,h2,fun i f v e1 e2=>?_,fun b hb=>h4 b fun i=>by have:=hb (i+1); simpa using this⟩;cases i with
  | zero=>simp at e1
  | succ i=>
   rw [h3 i f v (by simpa using e1) (by simpa using e2)];congr 1;omega
 | some f0::fs,o::os,j,E,A,h,ho=>by
  have aqJ:∀ i:Nat,fs[i]?≠some (some f0):=fun i e=>by have:=ho.nodup (i+1) 0 f0 (by simpa using e) (by simp); omega
  have step:∀ {E1:Env} {A1:ae},dr P E1 A1 B->Sw E A B E1 A1->ana A f0 j o=A1->(∀ b,b≠f0->E1.α b=E.α b)->(∀ v,o = .arr v->E1.α f0=E.α j)->ad2 E1 A1 fs (Nat.succ j) os->
    ∃ E',dr P E' (Ia A (some f0::fs) j (o::os)) B/\Sw E A B E' (Ia A (some f0::fs) j (o::os))/\(∀ (i:Nat) f v,(some f0::fs)[i]? = some (some f)->(o::os)[i]? = some (.arr v)->E'.α f=E.α (j+i))/\(∀ b,(∀ i:Nat,(some f0::fs)[i]?≠some (some b))->E'.α b=E.α b):=by
   intro E1 A1 k1 k2 k3 k4 k5 k6;obtain ⟨E',h1,h2,h3,h4⟩:=XK k1 k6;have e0:Ia A (some f0::fs) j (o::os)=Ia A1 fs (Nat.succ j) os:=by rw [<- k3]; rfl
   rw [e0];refine ⟨E',h1,k2.trans h2,fun i f v e1 e2=>?_,fun b hb=>?_⟩
   ·cases i with
    | zero=>
     simp at e1 e2;subst e1;rw [h4 f0 aqJ];exact k5 v e2
    | succ i=>
     rw [h3 i f v (by simpa using e1) (by simpa using e2),k4 _ fun e=>by have:=ho.lt 0 f0 (by simp); omega];congr 1;omega
   ·rw [h4 b fun i=>by have:=hb (i+1); simpa using this]
    exact k4 b fun e=>hb 0 (by simp [e])
  cases o with
  | arr v=>
   obtain ⟨h1,h2,h3,h4⟩:=ho.one 0 f0 v (by simp) (by simp);obtain ⟨q1,q2,q3⟩:=h.swap (n:=j) h1 h3 h2 h4;have n5:∀ b,some f0≠some b->b≠j->((A.put f0 (.arr v)).put j .dead).get b=A.get b:=fun b e1 e2=>by
    rw [ae.bA,aa e2,ae.bA,aa fun e=>e1 (by rw [e])]
   exact step q1 ⟨Env.am9 h4,rfl,rfl,rfl,by rw [ae.sF,ae.sF],q2,q3,fun b hb=>o6 (A:=A.put f0 (.arr v)) (o:=.arr v) (by rw [ae.bA,aa fun e=>by have h3:A.get j=some (.arr v):=h3; rw [<- e,h3] at h1; simp at h1]; exact h3) (by simp) b (o6 h1 (by simp) b hb)⟩ rfl (fun b hb=>Env.E6 hb) (fun _ _=>Env.aiS) (ho.tail (fun b hb=>Env.E6 fun e=>hb (by rw [e])) rfl n5)
  | _=>exact step h .refl rfl (fun _ _=>rfl) (fun v e=>by simp at e) (ho.tail (fun _ _=>rfl) rfl fun _ _ _=>rfl)
def rnB (fs:List (Option Nat)) (nx b:Nat):Nat:=cond (Nat.ble nx b) (match adD (b - nx) fs with
 | some (some f)=>f
 | _=>b) b
def rn1 (fs:List (Option Nat)) (nx:Nat) (v:KV):KV:=
 match v with
 | .al t b o n=>.al t (rnB fs nx b) o n
 | v=>v
def aks (fs:List (Option Nat)) (nx:Nat):List KV->List KV
 | []=>[]
 | v::vs=>rn1 fs nx v::aks fs nx vs
def rnV (fs:List (Option Nat)) (nx:Nat) (v:KV):KV:=
 match v with
 | .agg cs=>.agg (aks fs nx cs)
 | v=>rn1 fs nx v
def anb (fs:List (Option Nat)) (nx:Nat):List (Nat×KV)->List (Nat×KV)
 | []=>[]
 | q::qs=>(q.1,rnV fs nx q.2)::anb fs nx qs
def abN (E1 E2:Env) (fs:List (Option Nat)) (nx:Nat):Prop:=E1.le E2/\∀ (i f:Nat),fs[i]? = some (some f)->∀ p,E1.α (nx+i)=some p->E2.α f=some p
theorem aoh {E1 E2:Env} {fs:List (Option Nat)} {nx b:Nat} (h:abN E1 E2 fs nx) {p:Nat×Nat×Nat} (e:E1.α b=some p):E2.α (rnB fs nx b)=some p:=by
 unfold rnB;cases hb:Nat.ble nx b with
 | false=>exact h.1.α b p e
 | true=>
  simp only [aj];have hb:=dX hb;rw [aa4];split
  ·rename_i f hf
   exact h.2 _ f hf p (by rw [show nx+(b - nx)=b by omega]; exact e)
  ·exact h.1.α b p e
theorem akt {E1 E2:Env} {fs:List (Option Nat)} {nx:Nat} (h:abN E1 E2 fs nx) {v:KV} {u:Value} (hv:VK P E1 v u):VK P E2 (rn1 fs nx v) u:=by
 unfold rn1;split
 ·rename_i t b o n
  refine .PN ?_;rcases hv.yL with q | ⟨x,L,N,c,q1,q2⟩
  ·exact .inl q
  ·exact .inr ⟨x,L,N,c,aoh h q1,q2⟩
 ·exact hv.mono h.1
theorem abO {E1 E2:Env} {fs:List (Option Nat)} {nx:Nat} (h:abN E1 E2 fs nx):∀ {vs:List KV} {us:List Value},aV P E1 vs us->aV P E2 (aks fs nx vs) us
 | [],us,hv=>by rw [hv.b6]; exact .nil
 | v::vs,us,hv=>by
  obtain ⟨u,us',rfl,h1,h2⟩:=hv.cons_inv;exact .cons (akt h h1) (abO h h2)
theorem aoi {E1 E2:Env} {fs:List (Option Nat)} {nx:Nat} (h:abN E1 E2 fs nx) {v:KV} {u:Value} (hv:VK P E1 v u):VK P E2 (rnV fs nx v) u:=by
 unfold rnV;split
 ·obtain ⟨m,rfl,h1⟩:=hv.kQ
  exact .rR (abO h h1)
 ·exact akt h hv
theorem Y9 {E1 E2:Env} {fs:List (Option Nat)} {nx:Nat} (h:abN E1 E2 fs nx):∀ (l:List (Nat×KV)),uk P E1 E2 l (anb fs nx l)
 | []=>trivial
 | _::qs=>⟨rfl,fun _ hv=>aoi h hv,Y9 h qs⟩
end
end Go.K
end
section
namespace Go.K
open Go Go.aG
variable {P:Program} {E:Env}
noncomputable section
def DD:List CD->List Bool
 | []=>[]
 | .aP _::ds=>false::DD ds
 | .arr _::ds=>true::DD ds
 | _::ds=>DD ds
def aah:List (Tmp×VD)->List Bool
 | []=>[]
 | p::ps=>DD p.2.ks++aah ps
def aai:List (Tmp×List CD×Nat)->List Bool
 | []=>[]
 | p::ps=>DD p.2.1++aai ps
def aJ.kinds (S:aJ):List Bool:=aah S.dD++aai S.rows
def KQ:hO->Bool
 | .arr _=>true
 | _=>false
theorem wW:∀ {ds:List CD} {vs:List KV},vs.length=ds.length->(o8 P ds vs).map KQ=DD ds
 | [],[],_=>rfl
 | [],_::_,e=>by simp at e
 | _::_,[],e=>by simp at e
 | .k c::ds,v::vs,e=>by simp only [o8,DD]; exact wW (by simpa using e)
 | .lit w::ds,v::vs,e=>by simp only [o8,DD]; exact wW (by simpa using e)
 | .ref w::ds,v::vs,e=>by simp only [o8,DD]; exact wW (by simpa using e)
 | .aP t::ds,v::vs,e=>by simp only [o8,DD,List.map_cons,KQ]; rw [wW (by simpa using e)]
 | .arr t::ds,v::vs,e=>by simp only [o8,DD,List.map_cons,KQ]; rw [wW (by simpa using e)]
theorem VI:∀ {ps:List (Tmp×VD)} {vs:List KV},eP ps vs=true->(Dy P ps vs).map KQ=aah ps
 | [],[],_=>rfl
 | [],_::_,h=>by simp [eP] at h
 | _::_,[],h=>by simp [eP] at h
 | p::ps,v::vs,h=>by
  simp only [eP,ao] at h;simp only [Dy,aah,Fu];rw [wW (Qi h.1),VI h.2]
theorem VJ:∀ {ps:List (Tmp×List CD×Nat)} {rs:List (List KV)},rs.length=ps.length->(∀ (k:Nat) p r,ps[k]? = some p->rs[k]? = some r->df p.2.1 r=true)->(EZ P ps rs).map KQ=aai ps
 | [],[],_,_=>rfl
 | [],_::_,e,_=>by simp at e
 | _::_,[],e,_=>by simp at e
 | p::ps,r::rs,e,h=>by
  simp only [EZ,aai,Fu];rw [wW (DA (h 0 p r rfl rfl)),VJ (by simpa using e) fun k p r h1 h2=>h (k+1) p r h1 h2]
theorem Za {S:aJ} {vs:List KV} {rs:List (List KV)} (hv:eP S.dD vs=true) (hl:rs.length=S.rows.length) (hg:∀ (k:Nat) p r,S.rows[k]? = some p->rs[k]? = some r->df p.2.1 r=true):(S.lens P vs rs).map KQ=S.kinds:=by
 rw [aJ.lens,Fu,VI hv,VJ hl hg]; rfl
theorem T5 {S:aJ} {os:List hO} (h:os.map KQ=S.kinds) {i:Nat} (hi:S.kinds[i]? = some true):∃ v,os[i]? = some (.arr v):=by
 rw [<- h,pg,cj] at hi;obtain ⟨o,h1,h2⟩:=hi;cases o <;> simp [KQ] at h2;exact ⟨_,h1⟩
def ze:List Bool->List (Option Nat)->List (Option Nat)
 | true::ks,f::fs=>f::ze ks fs
 | false::ks,_::fs=>none::ze ks fs
 | _,_=>[]
theorem T6:∀ {ks:List Bool} {fs:List (Option Nat)} {i f:Nat},(ze ks fs)[i]? = some (some f)->ks[i]? = some true/\fs[i]? = some (some f)
 | [],_,_,_,h=>by simp [ze] at h
 | true::_,[],_,_,h=>by simp [ze] at h
 | false::_,[],_,_,h=>by simp [ze] at h
 | true::ks,f::fs,0,_,h=>by simp [ze] at h; simp [h]
 | false::ks,f::fs,0,_,h=>by simp [ze] at h
 | true::ks,f::fs,i+1,_,h=>by simpa using T6 (ks:=ks) (fs:=fs) (i:=i) (by simpa [ze] using h)
 | false::ks,f::fs,i+1,_,h=>by simpa using T6 (ks:=ks) (fs:=fs) (i:=i) (by simpa [ze] using h)
def zf:List Bool->List (Option Nat)->Nat->Bool
 | true::ks,some f::fs,j=>Nat.beq f j&&zf ks fs (Nat.succ j)
 | true::_,none::_,_=>false
 | false::ks,_::fs,j=>zf ks fs (Nat.succ j)
 | _,_,_=>true
theorem N5:∀ {ks:List Bool} {fs:List (Option Nat)} {j i:Nat} {x:Option Nat},zf ks fs j=true->ks[i]? = some true->fs[i]? = some x->x=some (j+i)
 | [],_,_,_,_,_,h,_=>by simp at h
 | _::_,[],_,_,_,_,_,h=>by simp at h
 | true::_,none::_,_,_,_,h,_,_=>by simp [zf] at h
 | true::ks,some f::fs,j,0,x,h,_,e=>by
  simp only [zf,ao] at h;simp at e;rw [<- e,aL h.1];rfl
 | false::ks,_::fs,j,0,x,_,h,_=>by simp at h
 | true::ks,some f::fs,j,i+1,x,h,h2,e=>by
  simp only [zf,ao] at h;rw [N5 (i:=i) (x:=x) h.2 (by simpa using h2) (by simpa using e)];congr 1;omega
 | false::ks,_::fs,j,i+1,x,h,h2,e=>by
  rw [N5 (ks:=ks) (fs:=fs) (j:=Nat.succ j) (i:=i) (x:=x) (by simpa [zf] using h) (by simpa using h2) (by simpa using e)];congr 1;omega
theorem RA {S:aJ} {vs:List KV} {rs:List (List KV)} (hv:eP S.dD vs=true) (hl:rs.length=S.rows.length) (hg:∀ (k:Nat) p r,S.rows[k]? = some p->rs[k]? = some r->df p.2.1 r=true):(S.lens P vs rs).length=ot S.dD+(S.rows.map fun p=>ui p.2.1).sum:=by
 rw [aJ.lens,kF,FM hv,LM hl hg rfl]
def aJ.gZ (S:aJ) (nx:Nat) (bs:List Nat) (fs:List (Option Nat)) (vs:List KV):bf:=iJ (anb (ze S.kinds fs) nx (S.prs nx bs vs))
def afk (fs:List (Option Nat)) (nx:Nat) (A:ae) (b:Nat):ae:=
 match A.get b with
 | some (.row cs bp)=>A.put b (.row (aks fs nx cs) bp)
 | _=>A
def aaj (fs:List (Option Nat)) (nx:Nat):List Nat->ae->ae
 | [],A=>A
 | b::bs,A=>aaj fs nx bs (afk fs nx A b)
theorem dr.apK {A:ae} {B:St} (h:dr P E A B) {b:Nat} {cs kx:List KV} {bp:Nat} (hb:A.get b=some (.row cs bp)) (hc:∀ us,aV P E cs us->aV P E kx us):dr P E (A.put b (.row kx bp)) B/\Sw E A B E (A.put b (.row kx bp)):=by
 have fM:∀ c o,(A.put b (.row kx bp)).get c=some o->(c=b/\o = .row kx bp)\/A.get c=some o:=fun c o hg=>by
  rw [ae.bA] at hg;split at hg
  ·rename_i e; simp at hg; exact .inl ⟨e,hg.symm⟩
  ·exact .inr hg
 have rT:∀ c v,(A.put b (.row kx bp)).get c=some (.arr v)->A.get c=some (.arr v):=fun c v hg=>by
  rcases fM c _ hg with ⟨_,e⟩ | e
  ·simp at e
  ·exact e
 have vx:∀ c t s,(A.put b (.row kx bp)).get c=some (.aP t s)->A.get c=some (.aP t s):=fun c t s hg=>by
  rcases fM c _ hg with ⟨_,e⟩ | e
  ·simp at e
  ·exact e
 refine ⟨⟨fun c bP e' hg=>?_,fun c t s hg=>h.aP c t s (vx _ _ _ hg),h.z,h.apart,h.inj,fun c d g tb sb tc sc h1 h2=>h.gK c d g tb sb tc sc (vx _ _ _ h1) (vx _ _ _ h2),h.jP,h.kR,fun c o hg=>?_,h.eV,h.lJ,h.iv,h.fresh,h.mem,
  h.ar.dR (Env.le_refl _) (fun _=>rfl) rT (fun c v hg=>?_) (aC _) (aC _) (fun _ _=>rfl) (fun _ _ e=>.inl e) (fun _ _ e=>.inl e) (fun _ g e=>.inl ⟨_,e⟩) (fun _ _=>rfl) h.mem⟩,
  ⟨Env.le_refl _,rfl,rfl,rfl,rfl,fun x ⟨c,v,L,N,h1,h2⟩=>⟨c,v,L,N,rT _ _ h1,h2⟩,fun g ⟨c,v,x,L,N,cs,e,own,k,h1,h2⟩=>⟨c,v,x,L,N,cs,e,own,k,rT _ _ h1,h2⟩,o6 hb (by simp)⟩⟩
 ·rcases fM c _ hg with ⟨rfl,e⟩ | e
  ·simp at e
   obtain ⟨rfl,rfl⟩:=e;obtain ⟨x,us,h1,h2,h3⟩:=h.row _ _ _ hb;exact ⟨x,us,h1,h2,hc us h3⟩
  ·exact h.row c bP e' e
 ·rcases fM c _ hg with ⟨rfl,_⟩ | e
  ·exact h.live _ _ hb
  ·exact h.live c o e
 ·rcases fM c _ hg with ⟨_,e⟩ | e
  ·simp at e
  ·exact e
theorem abP {B:St} {fs:List (Option Nat)} {nx:Nat} (hr:abN E E fs nx):∀ (bs:List Nat) {A:ae},dr P E A B->dr P E (aaj fs nx bs A) B/\Sw E A B E (aaj fs nx bs A)
 | [],A,h=>⟨h,.refl⟩
 | b::bs,A,h=>by
  have h1:dr P E (afk fs nx A b) B/\Sw E A B E (afk fs nx A b):=by
   unfold afk;split
   ·rename_i cs bp hb
    exact h.apK hb fun us hv=>abO hr hv
   ·exact ⟨h,.refl⟩
  obtain ⟨h2,h3⟩:=abP hr bs h1.1;exact ⟨h2,h1.2.trans h3⟩
def aJ.abQ (S:aJ) (P:Program) (bs:List Nat) (fs:List (Option Nat)) (vs:List KV) (rs:List (List KV)) (A:ae):ae:=aaj (ze S.kinds fs) A.next bs (Ia (S.back P bs fs vs rs A) (ze S.kinds fs) A.next (S.lens P vs rs))
def aku (S:aJ) (E E' : Env):Prop:=∀ (i:Nat) p,S.kinds[i]? = some true->E.α (S.nr+i)=some p->E'.α (S.nr+i)=some p
theorem ad3 {S:aJ} {t:bf} {A:ae} {B B1:St} {g:GR} {ρ kM:Ren} {base N:Nat} {w w1:World} {a1:Act} {vs:List KV} {rs:List (List KV)} {E1:Env} (hG:dp P S t A g) (hk:dr P E A B)
  (ht:iZ P E1 kM (S.tm S.nr S.ids vs) N a1) (hs:dr P E1 (S.mem P vs rs) B1) (AO:Co base (E.sub A g.bs g.fs S.nr) (S.mem P g.vs g.rs) B ρ w E1 (S.mem P vs rs) B1 kM w1) (Kj:∀ k,k < S.rows.length->E1.κ k=(E.sub A g.bs g.fs S.nr).κ k)
  (hpl:aku S (E.sub A g.bs g.fs S.nr) E1)
  (hv:eP S.dD vs=true) (Pz:rs.length=S.rows.length) (hrg:∀ (k:Nat) p r,S.rows[k]? = some p->rs[k]? = some r->df p.2.1 r=true) :
  ∃ E',iZ P E' kM (S.gZ A.next g.bs g.fs vs) N a1/\Ev P base E A B ρ w E' (S.abQ P g.bs g.fs vs rs A) B1 kM w1:=by
 obtain ⟨ht0,sD⟩:=ad0 hG hk ht hs AO Kj hv Pz hrg;have fZ:(Cn (pn A g.bs S.rows (S.Jm A.next g.bs rs)) g.fs).next=A.next:=by rw [KK,TX]
 have hlen:(S.lens P vs rs).length=g.fs.length:=by
  rw [RA hv Pz hrg,hG.fs,uL,<- hG.lens,RA hG.dD hG.rV hG.ua]
 have hki:=Za (P:=P) hv Pz hrg;have hold:∀ (i:Nat) f,(ze S.kinds g.fs)[i]? = some (some f)->g.fs[i]? = some (some f)/\S.kinds[i]? = some true/\∃ u,A.get f=some (.arr u):=by
  intro i f hi;obtain ⟨tY,hi⟩:=T6 hi;refine ⟨hi,tY,?_⟩;have bm:i < (S.lens P g.vs g.rs).length:=by rw [hG.lens,<- uL,<- hG.fs]; exact (cH.1 hi).1
  obtain ⟨fi,_,h2,h3⟩:=hG.fact (cJ bm);rw [hi] at h2; simp at h2;obtain ⟨u0,hu0⟩:=T5 (Za (P:=P) hG.dD hG.rV hG.ua) tY;rw [cJ bm] at hu0;simp at hu0;rcases h3 with ⟨n,sz,e,_⟩ | ⟨T,v,_,⟨h3,_⟩ | ⟨f',m,N,es,acc,h3,h4,_⟩⟩
  ·rw [hu0] at e; simp at e
  ·rw [h3] at h2; simp at h2
  ·rw [h3] at h2; simp at h2; subst h2; exact ⟨_,h4⟩
 have yJ:∀ (i f:Nat),(ze S.kinds g.fs)[i]? = some (some f)->∀ p,(E.up E1 S.nr A.next).α f=some p->(E.up E1 S.nr A.next).α (A.next+i)=some p:=fun i f hi p e=>by
  obtain ⟨hi,tY,u,hu⟩:=hold i f hi;rw [Env.MJ (hk.live f _ hu)] at e;rw [Env.MI];exact hpl i p tY (by rw [Env.Jo,hi]; exact e)
 have hsw:ad2 (E.up E1 S.nr A.next) (S.back P g.bs g.fs vs rs A) (ze S.kinds g.fs) A.next (S.lens P vs rs):=by
  refine ⟨fun i f v hi hv=>?_,fun i f hi=>?_,fun i k f h1 h2=>zR hG.aag i k f (hold i f h1).1 (hold k f h2).1⟩
  ·obtain ⟨WQ,_,u,hu⟩:=hold i f hi
   refine ⟨?_,(hk.ar.nk f u hu).2,?_,yJ i f hi⟩
   ·rw [aJ.back,Dz (by rw [fZ]; exact hk.live f _ hu),E4,aD (zb.2 (gu WQ))]
   ·have:=Qh (A:=Cn (pn A g.bs S.rows (S.Jm A.next g.bs rs)) g.fs) hv
    rw [fZ] at this;exact this
  ·obtain ⟨_,_,u,hu⟩:=hold i f hi
   exact hk.live f _ hu
 obtain ⟨E',q1,q2,q3,q4⟩:=XK sD.fY hsw;have abR:abN E' E' (ze S.kinds g.fs) A.next:=⟨Env.le_refl _,fun i f hi p e=>by
  obtain ⟨v,Dh⟩:=T5 hki (hold i f hi).2.1;rw [q3 i f v hi Dh];rw [q4 (A.next+i) fun j hj=>by
   obtain ⟨_,_,u,hu⟩:=hold j _ hj;have:=hk.live _ _ hu;omega] at e
  exact e⟩
 obtain ⟨q5,q6⟩:=abP abR g.bs q1;refine ⟨E',?_,sD.sw q5 (q2.trans q6)⟩;refine iZ.am1 ht0 (Y9 ⟨q2.le,fun i f hi p e=>?_⟩ _);obtain ⟨v,Dh⟩:=T5 hki (hold i f hi).2.1;rw [q3 i f v hi Dh];exact e
def aJ.ad4 (S:aJ) (P:Program) (t:bf) (A:ae):Bool:=cond (vM (S.dn P t A).bs S.ids) (cond (zf S.kinds (S.dn P t A).fs S.nr) (S.dn P t A).ok false) false
theorem ag3 {S:aJ} {t:bf} {A:ae} (h:S.ad4 P t A=true):vM (S.dn P t A).bs S.ids=true/\zf S.kinds (S.dn P t A).fs S.nr=true/\(S.dn P t A).ok=true:=by
 unfold aJ.ad4 at h;cases h1:vM (S.dn P t A).bs S.ids with
 | false=>rw [h1] at h; simp at h
 | true=>
  cases h2:zf S.kinds (S.dn P t A).fs S.nr with
  | false=>rw [h1,h2] at h; simp at h
  | true=>rw [h1,h2] at h; exact ⟨rfl,rfl,h⟩
def N6 (P:Program) (cfg:dF) (L n:Nat) (f:FuncId) (p:Nat) (body:Code) (S:aJ) (vs:List KV) (rs:List (List KV)):Option (ah×List KV×List (List KV)):=
 o3 P cfg (HX P cfg L n) L f body (2 * p) (fun e t A=>
  Bool.rec (motive:=fun _=>Option (ah×List KV×List (List KV))) none (some (e,(S.dn P t A).vs,(S.dn P t A).rs)) (S.ad4 P t A)) (S.tm S.nr S.ids vs) (S.mem P vs rs)
theorem ag4 {S:aJ} {t:bf} {A:ae} {B0:St} {E1:Env} {g:GR} {vs:List KV} {rs:List (List KV)} (hG:dp P S t A g) (hf:zf S.kinds g.fs S.nr=true) (cI:yO P S vs rs) (hs:dr P E (S.mem P vs rs) B0) (hle:E.le E1):aku S E (E1.sub A g.bs g.fs S.nr):=fun i p tY e=>by
 have hd:=hs.ar.jP _ p e;rw [aJ.mem,fN,py cI.rV,RA cI.v cI.rV cI.ua] at hd;have bm:i < g.fs.length:=by
  rw [hG.fs,uL,<- hG.lens,RA hG.dD hG.rV hG.ua];omega
 have h1:=cJ bm;rw [Env.Jo,h1,N5 hf tY h1];exact hle.α _ p e
section
variable {cfg:dF} {L n:Nat} {f:FuncId} {S:aJ} {root body:Code} {p N:Nat}
theorem ad5 {t' : bf} {A1:ae} {B B1:St} {ρ kM:Ren} {base:Nat} {w w1:World} {E1:Env} {vs:List KV} {rs:List (List KV)} (cI:yO P S vs rs) (hj:KJ P E (S.mem P vs rs) B ρ base w) (h4:Ev P base E (S.mem P vs rs) B ρ w E1 A1 B1 kM w1) (_:dp P S t' A1 (S.dn P t' A1)) (hi:vM (S.dn P t' A1).bs S.ids=true) :
  ∀ k,k < S.rows.length->(E1.sub A1 (S.dn P t' A1).bs (S.dn P t' A1).fs S.nr).κ k=E.κ k:=fun k hk=>by
 have ag2:=KM hi;have hp:=cJ hk;have hr':=cJ (show k < rs.length by rw [cI.rV]; exact hk);obtain ⟨x,_,hx,_⟩:=hj.k.row k _ _ (mem_row cI.rV hp hr');have e1:(E1.sub A1 (S.dn P t' A1).bs (S.dn P t' A1).fs S.nr).κ k=E1.κ k:=by
  simp only [Env.sub];rw [ag2,Jn S k hk,dQ]
 rw [e1,hx];exact h4.le.κ k x hx
theorem ag5 (hP:P.funcs.toList.all kG=true) (hm:P.follows .mixedOrders=true) (eW:rD P cfg.pc) (iH:vK P cfg) {fn:Func} (hf:P.funcs[f]? = some fn) (hb:fn.body=some root) (hs:Sub root p (.loop body)) (hc:codeOk N body=true)
  {vs b7:List KV} {rs iI:List (List KV)} {e:ah} (hr:N6 P cfg L n f p body S vs rs=some (e,b7,iI)) {B:St} {ρ:Ren} {base:Nat} {a:Act} {w:World} {Q:Exit->Act->World->Prop} (cI:yO P S vs rs)
  (ht:iZ P E ρ (S.tm S.nr S.ids vs) N a) (hj:KJ P E (S.mem P vs rs) B ρ base w)
  (hq:∀ E' B' aF a' w',iZ P E' aF (S.tm S.nr S.ids b7) N a'->a'.defers=a.defers->KJ P E' (S.mem P b7 iI) B' aF base w'->Co base E (S.mem P vs rs) B ρ w E' (S.mem P b7 iI) B' aF w'->(∀ k,k < S.rows.length->E'.κ k=E.κ k)->yO P S b7 iI->aku S E E'->Q e.out a' w'):body.wp P Q a w:=by
 have ug:=uK (R:=ah×List KV×List (List KV)) hP hm eW iH L n;refine iw eW ug hm (iH.2 f fn root hf hb) body (2 * p) hs.loop hc _ _ _ _ E B ρ base a w Q hr ht hj fun e' t' E1 A1 B1 kM a1 w1 h1 h2 h3 h4=>?_;cases hi:S.ad4 P t' A1 with
 | false=>simp only [hi] at h1; exact absurd h1 (by simp)
 | true=>
  simp only [hi,bQ,dt] at h1;obtain ⟨rfl,rfl,rfl⟩:=h1;obtain ⟨i1,i2,i3⟩:=ag3 hi;have hG:=F8 i3;exact hq _ B1 kM a1 w1 (hG.tkr h2) h3 ⟨hG.fY h4.fY,h4.eJ.fY⟩ (h4.co hG) (ad5 cI hj h4 hG i1) hG.Js (ag4 hG i2 cI hj.k h4.le)
theorem abS (hP:P.funcs.toList.all kG=true) (hm:P.follows .mixedOrders=true) (eW:rD P cfg.pc) (iH:vK P cfg) {fn:Func} (hf:P.funcs[f]? = some fn) (hb:fn.body=some root) (hs:Sub root p (.loop body)) (hc:codeOk N body=true)
  {e:ah} {b7:List KV} {iI:List (List KV)} : ∀ (m:Nat) {vs:List KV} {rs:List (List KV)},vN (N6 P cfg L n f p body S) m vs rs=some (e,b7,iI)->∀ {E:Env} {B:St} {ρ:Ren} {base:Nat} {a:Act} {w:World} {Q:Exit->Act->World->Prop},yO P S vs rs->
  iZ P E ρ (S.tm S.nr S.ids vs) N a->KJ P E (S.mem P vs rs) B ρ base w->
  (∀ E' B' aF a' w',iZ P E' aF (S.tm S.nr S.ids b7) N a'->a'.defers=a.defers->KJ P E' (S.mem P b7 iI) B' aF base w'->Co base E (S.mem P vs rs) B ρ w E' (S.mem P b7 iI) B' aF w'->(∀ k,k < S.rows.length->E'.κ k=E.κ k)->yO P S b7 iI->aku S E E'->Q e.out a' w')->Code.rounds P body Q m a w
 | 0,vs,rs,h,E,B,ρ,base,a,w,Q,cI,ht,hj,hq=>by simp [vN] at h
 | m+1,vs,rs,h,E,B,ρ,base,a,w,Q,cI,ht,hj,hq=>by
  unfold vN at h;split at h
  ·rename_i e1 vs1 rs1 hr
   rw [rounds_succ];refine ag5 hP hm eW iH hf hb hs hc hr cI ht hj fun E' B' aF a' w' h1 h2 h3 h4 h5 h6 h7=>?_;have fin:mK e1=false->some (e1,vs1,rs1)=some (e,b7,iI)->Q e1.out a' w':=by
    intro _ h;simp only [bQ,dt] at h;obtain ⟨rfl,rfl,rfl⟩:=h;exact hq E' B' aF a' w' h1 h2 h3 h4 h5 h6 h7
   cases e1 with
   | normal=>
    have h:vN (N6 P cfg L n f p body S) m vs1 rs1=some (e,b7,iI):=h;exact abS hP hm eW iH hf hb hs hc m h h6 h1 h3 fun H6 Jc vv TK HQ q1 q2 q3 q4 q5 q6 q7=>hq H6 Jc vv TK HQ q1 (q2.trans h2) q3 (h4.trans q4) (fun k hk=>(q5 k hk).trans (h5 k hk)) q6 fun i p tY e=>q7 i p tY (h7 i p tY e)
   | exit id=>exact fin rfl h
   | goto l=>exact fin rfl h
   | ret=>exact fin rfl h
  ·simp at h
def wV.Qk (P:Program) (S:aJ) (bs:List Nat) (fs:List (Option Nat)) (A:ae):wV->wG
 | .no=>.no
 | .out e vs rs=>.out e (S.gZ A.next bs fs vs) (S.abQ P bs fs vs rs A)
 | .br c x y=>.br c (x.Qk P S bs fs A) (y.Qk P S bs fs A)
def aiT (P:Program) (S:aJ) (F:LFn):bf->ae->wG:=fun t A=>
 .br (S.dn P t A).ok ((F (S.dn P t A).vs (S.dn P t A).rs).Qk P S (S.dn P t A).bs (S.dn P t A).fs A) .no
theorem T7 {R:Type} {bs:List Nat} {fs:List (Option Nat)} {A:ae} {k:KE R} {r:R} : ∀ (x:wV),(x.Qk P S bs fs A).run k=some r->∃ e b7 iI,x.ev=some (e,b7,iI)/\k e (S.gZ A.next bs fs b7) (S.abQ P bs fs b7 iI A)=some r
 | .no,h=>absurd h (by simp [wV.Qk,wG.run])
 | .out e vs rs,h=>⟨e,vs,rs,rfl,h⟩
 | .br c x y,h=>by
  have h:Bool.rec (motive:=fun _=>Option R) ((y.Qk P S bs fs A).run k) ((x.Qk P S bs fs A).run k) c=some r:=h;cases c with
  | true=>exact T7 x h
  | false=>exact T7 y h
theorem ag6 (hP:P.funcs.toList.all kG=true) (hm:P.follows .mixedOrders=true) (eW:rD P cfg.pc) (iH:vK P cfg) {fn:Func} (hf:P.funcs[f]? = some fn) (hb:fn.body=some root) (hs:Sub root p (.loop body)) (hc:codeOk N body=true) {F:LFn}
  (hF:∀ vs rs e b7 iI,yO P S vs rs->(F vs rs).ev=some (e,b7,iI)->vN (N6 P cfg L n f p body S) gx vs rs=some (e,b7,iI)):Rs P N body (aiT P S F):=by
 intro R k r t A E B ρ base a w Q h ht hj hq;have h:Bool.rec (motive:=fun _=>Option R) none (((F (S.dn P t A).vs (S.dn P t A).rs).Qk P S (S.dn P t A).bs (S.dn P t A).fs A).run k) (S.dn P t A).ok=some r:=h
 ·cases ho:(S.dn P t A).ok with
  | false=>rw [ho] at h; exact absurd h (by simp)
  | true=>
   rw [ho] at h;have hG:=F8 ho;obtain ⟨e,b7,iI,h9,px⟩:=T7 _ h;have Pv:=hF _ _ e b7 iI hG.Js h9;refine abS hP hm eW iH hf hb hs hc gx Pv hG.Js (hG.tkr ht) ⟨hG.fY hj.k,hj.s⟩ fun E' B' aF a' w' q1 q2 q3 q4 q5 q6 q7=>?_;obtain ⟨E2,r1,r2⟩:=ad3 hG hj.k q1 q3.k q4 q5 q7 q6.v q6.rV q6.ua;exact hq e _ E2 _ B' aF a' w' px r1 q2 r2
end
def afl:ah->Bool
 | .normal=>true
 | .ret=>true
 | _=>false
def aiU (P:Program) (cfg:dF) (L n:Nat) (g:FuncId) (S:aJ) (vs:List KV) (rs:List (List KV)):Option (ah×List KV×List (List KV)):=
 match P.funcs.toList[g]? with
 | some fn=>match fn.body with
  | some c=>cond fn.results.toList.isEmpty (o3 P cfg (HX P cfg L n) L g c 1 (fun e t A=>
    Bool.rec (motive:=fun _=>Option (ah×List KV×List (List KV))) none (some (.ret,(S.dn P t A).vs,(S.dn P t A).rs)) (cond (afl e) (S.ad4 P t A) false)) (S.tm S.nr S.ids vs) (S.mem P vs rs)) none
  | none=>none
 | none=>none
def wV.Ql (P:Program) (S:aJ) (bs:List Nat) (fs:List (Option Nat)) (A:ae):wV->yq
 | .no=>.no
 | .out _ vs rs=>.out (.kL []) (S.abQ P bs fs vs rs A)
 | .br c x y=>.br c (x.Ql P S bs fs A) (y.Ql P S bs fs A)
def ao8 (P:Program) (S:aJ) (F:LFn):List KV->ae->yq:=fun args A=>
 .br (S.dn P (o4 args 0 .leaf) A).ok ((F (S.dn P (o4 args 0 .leaf) A).vs (S.dn P (o4 args 0 .leaf) A).rs).Ql P S (S.dn P (o4 args 0 .leaf) A).bs (S.dn P (o4 args 0 .leaf) A).fs A) .no
theorem T8 {R:Type} {S:aJ} {bs:List Nat} {fs:List (Option Nat)} {A:ae} {k:KV->ae->Option R} {r:R} : ∀ (x:wV),yq.run k (x.Ql P S bs fs A)=some r->∃ e b7 iI,x.ev=some (e,b7,iI)/\k (.kL []) (S.abQ P bs fs b7 iI A)=some r
 | .no,h=>absurd h (by simp [wV.Ql,yq.run])
 | .out e vs rs,h=>⟨e,vs,rs,rfl,h⟩
 | .br c x y,h=>by
  have h:Bool.rec (motive:=fun _=>Option R) (yq.run k (y.Ql P S bs fs A)) (yq.run k (x.Ql P S bs fs A)) c=some r:=h;cases c with
  | true=>exact T8 x h
  | false=>exact T8 y h
theorem als {ρ:Ren} {args:List KV} {dY:List Value} (hv:rU P E ρ args dY) (m:Nat):iZ P E ρ (o4 args 0 .leaf) (max m args.length) { tmps:=dY.toArray++Array.replicate (m - dY.toArray.size) undef,defers:=[] }:=by
 obtain ⟨aiK,RP,Ti⟩:=hv;have hlen:dY.length=args.length:=by rw [Ti.length,RP.length]
 have dT:(dY.toArray++Array.replicate (m - dY.toArray.size) undef).size=max m args.length:=by
  simp [hlen];omega
 refine ⟨dT,fun i=>?_,fun i hi=>?_⟩
 ·rw [Ji]
  simp only [r6,true_and,bd,Nat.sub_zero,Trie.Rc];by_cases hi:i < args.length
  ·rw [aD hi]
   obtain ⟨u,hu⟩:∃ u,args[i]? = some u:=⟨_,cJ hi⟩
   obtain ⟨m',h1,h2⟩:=RP.get hu;obtain ⟨u',h3,h4⟩:=Ti.get h1;rw [hu];have:(dY.toArray++Array.replicate (m - dY.toArray.size) undef).getD i undef=u':=by
    rw [kY,Array.getElem?_append_left (by simpa [hlen] using hi)];simp [h3]
   rw [this];exact ⟨m',h2,h4⟩
  ·rw [aa hi]
   exact VC.bh
 ·rw [Ji,aa,Trie.Rc]
  simp only [r6,true_and,bd];have:=Nat.le_max_right m args.length;omega
theorem aiV {cfg:dF} {L n:Nat} {g:FuncId} {S:aJ} {F:LFn} (hP:P.funcs.toList.all kG=true) (hm:P.follows .mixedOrders=true) (eW:rD P cfg.pc) (iH:vK P cfg) (hy:Nat.blt g yB=true)
  (hF:∀ vs rs e b7 iI,yO P S vs rs->(F vs rs).ev=some (e,b7,iI)->aiU P cfg L n g S vs rs=some (e,b7,iI)) {R:Type} {args:List KV} {A:ae} {k:KV->ae->Option R} {r:R} (h:yq.run k (ao8 P S F args A)=some r):x9 P g/\
  ∀ (E:Env) (B:St) (ρ:Ren) (base:Nat) (w:World) (dY:List Value),rU P E ρ args dY->KJ P E A B ρ base w->
   Calls P g dY.toArray w fun e w'=>∃ v v' E' A' B' aF,e = .returned v'/\VC P E' aF v v'/\Ev P base E A B ρ w E' A' B' aF w'/\k v A' = some r:=by
 have h:Bool.rec (motive:=fun _=>Option R) none (yq.run k ((F (S.dn P (o4 args 0 .leaf) A).vs (S.dn P (o4 args 0 .leaf) A).rs).Ql P S (S.dn P (o4 args 0 .leaf) A).bs (S.dn P (o4 args 0 .leaf) A).fs A)) (S.dn P (o4 args 0 .leaf) A).ok=some r:=h;cases ho:(S.dn P (o4 args 0 .leaf) A).ok with
 | false=>rw [ho] at h; exact absurd h (by simp)
 | true=>
 rw [ho] at h;have hG:=F8 ho;obtain ⟨e0,b7,iI,h9,px⟩:=T8 _ h;have lI:=hF _ _ e0 b7 iI hG.Js h9;unfold aiU at lI;split at lI
 ·rename_i fn hf
  split at lI
  ·rename_i c hc
   cases hre:fn.results.toList.isEmpty with
   | false=>rw [hre] at lI; exact absurd lI (by simp)
   | true=>
   rw [hre,aj] at lI;have hf' : P.funcs[g]? = some fn:=by simpa using hf
   have cI:=fk.1 hP fn (gu hf);unfold kG at cI;rw [hc] at cI;simp only [ao,ma] at cI;refine ⟨⟨hy,fn,hf',by simp [hc],cI.2⟩,fun E B ρ base w dY hv hj=>?_⟩;refine calls_of_wp hf' hc ?_;have ht:=als hv fn.ntmps;have adN:codeOk (max fn.ntmps args.length) c=true:=mq (Nat.le_max_left _ _) c cI.1;have ug:=uK (R:=ah×List KV×List (List KV)) hP hm eW iH L n;refine iw (L:=L) (f:=g) (N:=max fn.ntmps args.length) eW ug hm (iH.2 g fn c hf' hc) c 1 .root adN _ _ _ _ (E.sub A (S.dn P (o4 args 0 .leaf) A).bs (S.dn P (o4 args 0 .leaf) A).fs S.nr) B ρ base _ w _ lI (hG.tkr ht) ⟨hG.fY hj.k,hj.s⟩ fun e t' E1 A1 B1 kM a1 w1 h1 h2 h3 h4=>?_;cases he:afl e with
   | false=>simp only [he,aH] at h1; exact absurd h1 (by simp)
   | true=>
   simp only [he,aj] at h1;cases hi:S.ad4 P t' A1 with
   | false=>simp only [hi] at h1; exact absurd h1 (by simp)
   | true=>
   simp only [hi,bQ,dt] at h1;obtain ⟨_,rfl,rfl⟩:=h1;obtain ⟨i1,i2,i3⟩:=ag3 hi;have hG1:=F8 i3;have Km:KJ P (E.sub A (S.dn P (o4 args 0 .leaf) A).bs (S.dn P (o4 args 0 .leaf) A).fs S.nr) (S.mem P (S.dn P (o4 args 0 .leaf) A).vs (S.dn P (o4 args 0 .leaf) A).rs) B ρ base w:=⟨hG.fY hj.k,hj.s⟩
   obtain ⟨E2,_,r2⟩:=ad3 hG hj.k (hG1.tkr h2) (hG1.fY h4.fY) (h4.co hG1) (ad5 hG.Js Km h4 hG1 i1) (ag4 hG1 i2 hG.Js Km.k h4.le) hG1.Js.v hG1.Js.rV hG1.Js.ua;have Ml:fn.results.toList = []:=List.isEmpty_iff.1 hre;have agQ:(results fn a1.tmps).run P w1 = .ok (.tuple #[]) w1:=by
    rw [YI,Sem.run_bind,Array.mapM_eq_mapM_toList,Sem.run_map,Ml];rfl
   have abF:bodyPost P fn (fun e w'=>∃ v v' E' A' B' aF,e = .returned v'/\VC P E' aF v v'/\Ev P base E A B ρ w E' A' B' aF w'/\k v A' = some r) .ret a1 w1:=
    ⟨h3,_,agQ,_,_,E2,_,B1,kM,rfl,⟨_,.Xq .nil,VR.mkTuple .nil⟩,r2,px⟩
   cases e with
   | normal=>exact abF
   | ret=>exact abF
   | exit id=>simp [afl] at he
   | goto l=>simp [afl] at he
  ·simp at lI
 ·simp at lI
end
end Go.K
end
section
namespace Go.K
open Go Go.aG
variable {P:Program} {E:Env}
def VL (l:Nat):Code->Nat->Option (Code×Nat)
 | .seq (.label l') b,p=>cond (Nat.beq l' l) (some (b,2 * p+1)) none
 | .seq a b,p=>match findLabel a l with
  | some _=>none
  | none=>VL l b (2 * p+1)
 | _,_=>none
theorem abT {root:Code} {l N:Nat} : ∀ {c:Code} {p:Nat} {b:Code} {q:Nat},VL l c p=some (b,q)->Sub root p c->codeOk N c=true->findLabel c l=some (.seq .skip b)/\Sub root q b/\codeOk N b=true
 | c,p,b,q,h,hs,hc=>by
  unfold VL at h;split at h
  ·rename_i l' b'
   cases hb:Nat.beq l' l with
   | false=>rw [hb] at h; simp at h
   | true=>
    rw [hb] at h;simp only [aj,bQ,dt] at h;obtain ⟨rfl,rfl⟩:=h;obtain rfl:=aL hb;refine ⟨by simp [findLabel],hs.akh,?_⟩;simp only [codeOk,ao] at hc;exact hc.2
  ·rename_i a b' _
   split at h
   ·simp at h
   ·rename_i hfa
    simp only [codeOk,ao] at hc;obtain ⟨h1,h2,h3⟩:=abT h hs.akh hc.2;refine ⟨?_,h2,h3⟩;simp only [findLabel,hfa];exact h1
  ·simp at h
noncomputable def exG (l:Nat) (e:ah):ah:=
 ah.rec (.exit PL) (fun i=>cond (Nat.beq i PL) (.goto l) (.exit i)) (fun l'=>cond (Nat.beq l' l) .normal (.goto l')) .ret e
noncomputable def RB (P:Program) (cfg:dF) (L n:Nat) (f:FuncId) (q:Nat) (body:Code) (l:Nat) (S:aJ) (vs:List KV) (rs:List (List KV)):Option (ah×List KV×List (List KV)):=
 o3 P cfg (HX P cfg L n) L f body q (fun e t A=>
  Bool.rec (motive:=fun _=>Option (ah×List KV×List (List KV))) none (some (exG l e,(S.dn P t A).vs,(S.dn P t A).rs)) (cond (vM (S.dn P t A).bs S.ids) (S.dn P t A).ok false)) (S.tm S.nr S.ids vs) (S.mem P vs rs)
section
variable {cfg:dF} {L n:Nat} {f:FuncId} {S:aJ} {root body:Code} {q l N:Nat}
theorem ag7 (hP:P.funcs.toList.all kG=true) (hm:P.follows .mixedOrders=true) (eW:rD P cfg.pc) (iH:vK P cfg) {fn:Func} (hf:P.funcs[f]? = some fn) (hb:fn.body=some root) (hs:Sub root q body) (hc:codeOk N body=true)
  {vs b7:List KV} {rs iI:List (List KV)} {e:ah} (hr:RB P cfg L n f q body l S vs rs=some (e,b7,iI)) {B:St} {ρ:Ren} {base:Nat} {a:Act} {w:World} {Q:Exit->Act->World->Prop} (cI:yO P S vs rs)
  (ht:iZ P E ρ (S.tm S.nr S.ids vs) N a) (hj:KJ P E (S.mem P vs rs) B ρ base w)
  (hq:∀ e0 E' B' aF a' w',exG l e0=e->iZ P E' aF (S.tm S.nr S.ids b7) N a'->a'.defers=a.defers->KJ P E' (S.mem P b7 iI) B' aF base w'->Co base E (S.mem P vs rs) B ρ w E' (S.mem P b7 iI) B' aF w'->(∀ k,k < S.rows.length->E'.κ k=E.κ k)->yO P S b7 iI->Q e0.out a' w'):body.wp P Q a w:=by
 have ug:=uK (R:=ah×List KV×List (List KV)) hP hm eW iH L n;refine iw eW ug hm (iH.2 f fn root hf hb) body q hs hc _ _ _ _ E B ρ base a w Q hr ht hj fun e' t' E1 A1 B1 kM a1 w1 h1 h2 h3 h4=>?_;cases hi:vM (S.dn P t' A1).bs S.ids with
 | false=>
  simp only [hi,aH] at h1;exact absurd h1 (by simp)
 | true=>
  simp only [hi,aj] at h1;cases ho:(S.dn P t' A1).ok with
  | false=>simp only [ho] at h1; exact absurd h1 (by simp)
  | true=>
   simp only [ho,bQ,dt] at h1;obtain ⟨he,rfl,rfl⟩:=h1;have hG:=F8 ho;have ag2:=KM hi;refine hq e' _ B1 kM a1 w1 he (hG.tkr h2) h3 ⟨hG.fY h4.fY,h4.eJ.fY⟩ (h4.co hG) (fun k hk=>?_) hG.Js;have hp:=cJ hk;have hr':=cJ (show k < rs.length by rw [cI.rV]; exact hk);obtain ⟨x,_,hx,_⟩:=hj.k.row k _ _ (mem_row cI.rV hp hr');have e1:(E1.sub A1 (S.dn P t' A1).bs (S.dn P t' A1).fs S.nr).κ k=E1.κ k:=by
    simp only [Env.sub];rw [ag2,Jn S k hk,dQ]
   rw [e1,hx];exact h4.le.κ k x hx
theorem ag8 {e:ah} (h:exG l e = .normal):e = .goto l:=by
 cases e with
 | normal=>exact absurd (show ah.exit PL = .normal from h) (by simp)
 | exit i=>
  have h:cond (Nat.beq i PL) (ah.goto l) (.exit i) = .normal:=h;cases hb:Nat.beq i PL <;> rw [hb] at h <;> simp at h
 | goto l'=>
  have h:cond (Nat.beq l' l) ah.normal (.goto l') = .normal:=h;cases hb:Nat.beq l' l with
  | true=>rw [aL hb]
  | false=>rw [hb] at h; simp at h
 | ret=>exact absurd (show ah.ret = .normal from h) (by simp)
theorem ag9 {e e' : ah} (h:exG l e=e') (hn:mK e' = false) (hg:∀ l',e'≠.goto l'):(e = .normal/\e' = .exit PL)\/(∃ i,e = .exit i/\e' = .exit i/\Nat.beq i PL=false)\/(e = .ret/\e' = .ret):=by
 cases e with
 | normal=>exact .inl ⟨rfl,h.symm⟩
 | exit i=>
  have h:cond (Nat.beq i PL) (ah.goto l) (.exit i)=e':=h;cases hb:Nat.beq i PL with
  | true=>rw [hb] at h; exact absurd h.symm (hg l)
  | false=>rw [hb] at h; exact .inr (.inl ⟨i,rfl,h.symm,hb⟩)
 | goto l'=>
  have h:cond (Nat.beq l' l) ah.normal (.goto l')=e':=h;cases hb:Nat.beq l' l with
  | true=>rw [hb] at h; rw [<- h] at hn; simp [mK] at hn
  | false=>rw [hb] at h; exact absurd h.symm (hg l')
 | ret=>exact .inr (.inr ⟨rfl,h.symm⟩)
theorem abU (hP:P.funcs.toList.all kG=true) (hm:P.follows .mixedOrders=true) (eW:rD P cfg.pc) (iH:vK P cfg) {fn:Func} (hf:P.funcs[f]? = some fn) (hb:fn.body=some root) (hs:Sub root q body) (hc:codeOk N body=true)
  {e:ah} {b7:List KV} {iI:List (List KV)} (hg:∀ l',e≠.goto l'):∀ (m:Nat) {vs:List KV} {rs:List (List KV)},vN (RB P cfg L n f q body l S) m vs rs=some (e,b7,iI)->∀ {E:Env} {B:St} {ρ:Ren} {base:Nat} {a:Act} {w:World} {Q:Exit->Act->World->Prop},yO P S vs rs->
  iZ P E ρ (S.tm S.nr S.ids vs) N a->KJ P E (S.mem P vs rs) B ρ base w->
  (∀ e0 E' B' aF a' w',exG l e0=e->mK e=false->iZ P E' aF (S.tm S.nr S.ids b7) N a'->a'.defers=a.defers->KJ P E' (S.mem P b7 iI) B' aF base w'->Co base E (S.mem P vs rs) B ρ w E' (S.mem P b7 iI) B' aF w'->(∀ k,k < S.rows.length->E'.κ k=E.κ k)->yO P S b7 iI->Q e0.out a' w')->vJ P l body Q m a w
 | 0,vs,rs,h,E,B,ρ,base,a,w,Q,cI,ht,hj,hq=>by simp [vN] at h
 | m+1,vs,rs,h,E,B,ρ,base,a,w,Q,cI,ht,hj,hq=>by
  unfold vN at h;split at h
  ·rename_i e1 vs1 rs1 hr
   unfold vJ;refine ag7 hP hm eW iH hf hb hs hc hr cI ht hj fun e0 E' B' aF a' w' h0 h1 h2 h3 h4 h5 h6=>?_;cases hn:mK e1 with
   | true=>
    rw [hn,aj] at h;have he1:e1 = .normal:=by cases e1 <;> simp [mK] at hn ⊢
    rw [he1] at h0;obtain rfl:=ag8 h0;refine ⟨rfl,abU hP hm eW iH hf hb hs hc hg m h h6 h1 h3 fun e2 H6 Jc vv TK HQ q0 qn q1 q2 q3 q4 q5 q6=>hq e2 H6 Jc vv TK HQ q0 qn q1 (q2.trans h2) q3 (h4.trans q4) (fun k hk=>(q5 k hk).trans (h5 k hk)) q6⟩
   | false=>
    rw [hn,aH] at h;simp only [bQ,dt] at h;obtain ⟨rfl,rfl,rfl⟩:=h;have hQ:=hq e0 E' B' aF a' w' h0 hn h1 h2 h3 h4 h5 h6;rcases ag9 h0 hn hg with ⟨rfl,_⟩ | ⟨i,rfl,_⟩ | ⟨rfl,_⟩ <;> exact hQ
  ·simp at h
theorem VM {Q:Exit->Act->World->Prop} : ∀ {m:Nat} {a:Act} {w:World},vJ P l body Q m a w->vJ P l (.seq .skip body) Q m a w
 | 0,_,_,h=>h
 | m+1,a,w,h=>by
  unfold vJ at h ⊢;refine wp_seq (wp_skip (Code.wp_mono (fun e a' w' k=>?_) h));cases e with
  | goto l'=>exact ⟨k.1,VM k.2⟩
  | normal=>exact k
  | exit id=>exact k
  | ret=>exact k
  | panic ch=>exact k
  | outgrown=>exact k
theorem aha (hP:P.funcs.toList.all kG=true) (hm:P.follows .mixedOrders=true) (eW:rD P cfg.pc) (iH:vK P cfg) {fn:Func} (hf:P.funcs[f]? = some fn) (hb:fn.body=some root) (hs:Sub root q body) (hc:codeOk N body=true) {F:LFn}
  (hF:∀ vs rs e b7 iI,yO P S vs rs->(F vs rs).ev=some (e,b7,iI)->vN (RB P cfg L n f q body l S) gx vs rs=some (e,b7,iI)):abE P N l (.seq .skip body) (Vy P S F):=by
 intro R k r t A E B ρ base a w Q h ht hj hq;cases hpe:S.amV t A with
 | true=>
  unfold Vy at h;rw [hpe] at h;exact absurd h (by simp [wG.run])
 | false=>
 unfold Vy at h;rw [hpe,aH] at h;have h:Bool.rec (motive:=fun _=>Option R) none (((F (S.dn P t A).vs (S.dn P t A).rs).tell P S (S.dn P t A).bs (S.dn P t A).fs A).run (Xn k)) (S.dn P t A).ok=some r:=h;cases ho:(S.dn P t A).ok with
 | false=>rw [ho] at h; exact absurd h (by simp)
 | true=>
  rw [ho] at h;have hG:=F8 ho;obtain ⟨e,b7,iI,h9,px⟩:=Rz _ h;have Pv:=hF _ _ e b7 iI hG.Js h9;have IW:∀ l',e≠.goto l':=fun l' he=>by rw [he] at px; exact absurd px (by simp [Xn])
  refine ⟨gx,VM (abU hP hm eW iH hf hb hs hc IW gx Pv hG.Js (hG.tkr ht) ⟨hG.fY hj.k,hj.s⟩ fun e0 E' B' aF a' w' q0 qn q1 q2 q3 q4 q5 q6=>?_)⟩;obtain ⟨E2,r1,r2⟩:=restore hG hj.k q1 q3.k q4 q5 q6.v q6.rV q6.ua;refine hq e0 _ E2 _ B' aF a' w' ?_ r1 q2 r2;rcases ag9 q0 qn IW with ⟨rfl,rfl⟩ | ⟨i,rfl,rfl,VH⟩ | ⟨rfl,rfl⟩
  ·exact px
  ·have px:Bool.rec (motive:=fun _=>Option R) (k (.exit i) (S.tm A.next (S.dn P t A).bs b7) (S.back P (S.dn P t A).bs (S.dn P t A).fs b7 iI A)) (k .normal (S.tm A.next (S.dn P t A).bs b7) (S.back P (S.dn P t A).bs (S.dn P t A).fs b7 iI A)) (Nat.beq i PL)=some r:=px
   rw [VH] at px;exact px
  ·exact px
end
end Go.K
end
section
namespace Go.K
open Go Go.aG
variable {P:Program} {E:Env}
def afm:Code->Bool->Option Code
 | .seq a _,false=>some a
 | .seq _ b,true=>some b
 | .cond _ a _,false=>some a
 | .cond _ _ b,true=>some b
 | .block _ a,false=>some a
 | .loop a,false=>some a
 | .scope a,false=>some a
 | _,_=>none
def pq:Nat->Code->Nat->Option Code
 | 0,_,_=>none
 | n+1,root,p=>cond (Nat.ble p 1) (cond (Nat.beq p 1) (some root) none) ((pq n root (p / 2)).bind fun c=>afm c (Nat.beq (p % 2) 1))
theorem VN:∀ {n:Nat} {root c:Code} {p:Nat},pq n root p=some c->pq (n+1) root p=some c
 | 0,_,_,_,h=>by simp [pq] at h
 | n+1,root,c,p,h=>by
  unfold pq at h ⊢;cases hp:Nat.ble p 1 with
  | true=>rw [hp] at h; exact h
  | false=>
   rw [hp] at h;simp only [aH] at h ⊢;obtain ⟨d,h1,h2⟩:=cE.1 h;exact cE.2 ⟨d,VN h1,h2⟩
theorem T9 {root c:Code} {p n:Nat} (h:pq n root p=some c):∀ k,pq (n+k) root p=some c
 | 0=>h
 | k+1=>VN (T9 h k)
theorem Sub.pos {root c:Code} {p:Nat} (h:Sub root p c):1<=p:=by induction h <;> omega
theorem Sub.at {root c:Code} {p:Nat} (h:Sub root p c):∃ n,pq n root p=some c:=by
 have left:∀ {q n:Nat} {d:Code},1<=q->pq n root q=some d->pq (n+1) root (2 * q)=afm d false:=by
  intro q n d hq hd;unfold pq;have:Nat.ble (2 * q) 1=false:=by
   cases hb:Nat.ble (2 * q) 1 with
   | false=>rfl
   | true=>have:=dX hb; omega
  rw [this,aH,show 2 * q / 2=q by omega,hd,show 2 * q % 2=0 by omega];rfl
 have right:∀ {q n:Nat} {d:Code},1<=q->pq n root q=some d->pq (n+1) root (2 * q+1)=afm d true:=by
  intro q n d hq hd;unfold pq;have:Nat.ble (2 * q+1) 1=false:=by
   cases hb:Nat.ble (2 * q+1) 1 with
   | false=>rfl
   | true=>have:=dX hb; omega
  rw [this,aH,show (2 * q+1) / 2=q by omega,hd,show (2 * q+1) % 2=1 by omega];rfl
 induction h with
 | root=>exact ⟨1,rfl⟩
 | ao0 hs ih=>obtain ⟨n,hn⟩:=ih; exact ⟨n+1,left hs.pos hn⟩
 | akh hs ih=>obtain ⟨n,hn⟩:=ih; exact ⟨n+1,right hs.pos hn⟩
 | amP hs ih=>obtain ⟨n,hn⟩:=ih; exact ⟨n+1,left hs.pos hn⟩
 | amQ hs ih=>obtain ⟨n,hn⟩:=ih; exact ⟨n+1,right hs.pos hn⟩
 | block hs ih=>obtain ⟨n,hn⟩:=ih; exact ⟨n+1,left hs.pos hn⟩
 | loop hs ih=>obtain ⟨n,hn⟩:=ih; exact ⟨n+1,left hs.pos hn⟩
 | scope hs ih=>obtain ⟨n,hn⟩:=ih; exact ⟨n+1,left hs.pos hn⟩
theorem Sub.uniq {root c d:Code} {p n:Nat} (h:Sub root p c) (k:pq n root p=some d):c=d:=by
 obtain ⟨m,hm⟩:=h.at;have h1:=T9 hm n;have h2:=T9 k m;rw [Nat.add_comm] at h1;rw [h1] at h2;simpa using h2
def DE (P:Program) (f p:Nat):Code:=
 match P.funcs.toList[f]? with
 | some fn=>match fn.body with
  | some c=>match pq 200 c p with
   | some (.loop b)=>b
   | _=>.skip
  | none=>.skip
 | none=>.skip
structure Lp where
 f:Nat
 p:Nat
 S:aJ
 F:LFn
 st:Bool
noncomputable def akv (st:Bool) (P:Program) (cfg:dF) (L n:Nat) (f:FuncId) (p:Nat) (body:Code) (S:aJ) (vs:List KV) (rs:List (List KV)):Option (ah×List KV×List (List KV)):=
 cond st (N6 P cfg L n f p body S vs rs) (FJ P cfg L n f p body S vs rs)
noncomputable def VO (P:Program):List Lp->FuncId->Nat->Option (bf->ae->wG)
 | [],_,_=>none
 | l::ls,f,p=>cond (Nat.beq l.f f&&Nat.beq l.p p) (some (cond l.st (aiT P l.S l.F) (Vy P l.S l.F))) (VO P ls f p)
def Lp.Ok (P:Program) (l:Lp):Prop:=∃ cfg L n,rD P cfg.pc/\vK P cfg/\
 ∀ vs rs e b7 iI,yO P l.S vs rs->(l.F vs rs).ev=some (e,b7,iI)->vN (akv l.st P cfg L n l.f l.p (DE P l.f l.p) l.S) gx vs rs=some (e,b7,iI)
def Jt (P:Program) (f p:Nat):Bool:=
 match P.funcs.toList[f]? with
 | some fn=>match fn.body with
  | some c=>match pq 200 c p with
   | some (.loop _)=>true
   | _=>false
  | none=>false
 | none=>false
def ML (P:Program) (f p:Nat):Option (Nat×Code×Nat):=
 match P.funcs.toList[f]? with
 | some fn=>match fn.body with
  | some c=>match pq 200 c p with
   | some (.scope b)=>match Kz b with
    | some l=>(VL l b (2 * p)).map fun x=>(l,x.1,x.2)
    | none=>none
   | _=>none
  | none=>none
 | none=>none
def Lp.OkG (P:Program) (l:Lp):Prop:=l.st=false/\∃ XL b q cfg L n,ML P l.f l.p=some (XL,b,q)/\rD P cfg.pc/\vK P cfg/\
 ∀ vs rs e b7 iI,yO P l.S vs rs->(l.F vs rs).ev=some (e,b7,iI)->vN (RB P cfg L n l.f q b XL l.S) gx vs rs=some (e,b7,iI)
def Lp.aiW (P:Program) (l:Lp):Prop:=(Lp.Ok P l/\Jt P l.f l.p=true)\/Lp.OkG P l
theorem Zb {f p:Nat} {fn:Func} {c:Code} (hf:P.funcs[f]? = some fn) (hb:fn.body=some c) (h:Jt P f p=true):∃ b,pq 200 c p=some (.loop b)/\DE P f p=b:=by
 have hf' : P.funcs.toList[f]? = some fn:=by simpa using hf
 unfold Jt at h;unfold DE;simp only [hf',hb] at h ⊢;split at h
 ·rename_i b vc
  exact ⟨b,vc,rfl⟩
 ·simp at h
theorem VP {f p XL q:Nat} {b:Code} {fn:Func} {c:Code} (hf:P.funcs[f]? = some fn) (hb:fn.body=some c) (h:ML P f p=some (XL,b,q)):∃ x,pq 200 c p=some (.scope x)/\Kz x=some XL/\VL XL x (2 * p)=some (b,q):=by
 have hf' : P.funcs.toList[f]? = some fn:=by simpa using hf
 unfold ML at h;simp only [hf',hb] at h;split at h
 ·rename_i x vc
  split at h
  ·rename_i l hl
   obtain ⟨y,h1,h2⟩:=cj.1 h;simp only [dt] at h2;obtain ⟨rfl,rfl,rfl⟩:=h2;exact ⟨x,vc,hl,h1⟩
  ·simp at h
 ·simp at h
theorem akw (hP:P.funcs.toList.all kG=true) (hm:P.follows .mixedOrders=true) {pc:FuncId->Option (List KV->KR KV)} {x:af8} : ∀ {ls:List Lp},(∀ l∈ls,Lp.aiW P l)->∀ f fn c,P.funcs[f]? = some fn->fn.body=some c->aki P ⟨pc,VO P ls,x⟩ f c
 | [],_=>fun f fn c hf hb=>⟨fun p F body h=>by simp [VO] at h,fun p F body h=>by simp [VO] at h⟩
 | l::ls,hl=>fun f fn c hf hb=>by
  have ih:=akw hP hm (pc:=pc) (x:=x) (fun l' vb=>hl l' (r7 _ vb)) f fn c hf hb;have akx:∀ {p F},VO P (l::ls) f p=some F->VO P ls f p=some F\/(l.f=f/\l.p=p/\F=cond l.st (aiT P l.S l.F) (Vy P l.S l.F)):=by
   intro p F h;unfold VO at h;cases hk:(Nat.beq l.f f&&Nat.beq l.p p) with
   | false=>rw [hk] at h; exact .inl h
   | true=>
    rw [hk] at h;simp only [aj,bQ] at h;simp only [ao] at hk;exact .inr ⟨aL hk.1,aL hk.2,h.symm⟩
  constructor
  ·intro p F body h hs N hc
   rcases akx h with h | ⟨e1,e2,rfl⟩
   ·exact ih.1 p F body h hs N hc
   ·rcases hl l (by simp) with ⟨⟨cfg,L,n,eW,iH,hF⟩,hth⟩ | ⟨_,XL,b,q,cfg,L,n,Kl,_⟩
    ·rw [e1,e2] at hF hth
     obtain ⟨b,vc,apL⟩:=Zb hf hb hth;have:=hs.uniq vc;simp only [Code.loop.injEq] at this;rw [apL,<- this] at hF;cases gz:l.st with
     | true=>
      rw [gz] at hF;exact ag6 hP hm eW iH hf hb hs hc hF
     | false=>
      rw [gz] at hF;exact aiR hP hm eW iH hf hb hs hc hF
    ·rw [e1,e2] at Kl
     obtain ⟨x,vc,_⟩:=VP hf hb Kl;have:=hs.uniq vc;simp at this
  ·intro p F body h hs N hc lb hlb
   rcases akx h with h | ⟨e1,e2,rfl⟩
   ·exact ih.2 p F body h hs N hc lb hlb
   ·rcases hl l (by simp) with ⟨_,hth⟩ | ⟨gz,XL,b,q,cfg,L,n,Kl,eW,iH,hF⟩
    ·rw [e1,e2] at hth
     obtain ⟨b,vc,_⟩:=Zb hf hb hth;have:=hs.uniq vc;simp at this
    ·rw [e1,e2] at Kl
     rw [e1] at hF;obtain ⟨x,vc,Es,hx2⟩:=VP hf hb Kl;have:=hs.uniq vc;simp only [Code.scope.injEq] at this;subst this;rw [hlb] at Es;obtain rfl:=HI Es;obtain ⟨k1,k2,k3⟩:=abT hx2 hs.scope hc;rw [gz];exact ⟨_,k1,aha hP hm eW iH hf hb k2 k3 hF⟩
theorem RC (hP:P.funcs.toList.all kG=true) (hm:P.follows .mixedOrders=true) {pc:FuncId->Option (List KV->KR KV)} {x:af8} (hx:adS P x.ac) {ls:List Lp} (hl:∀ l∈ls,Lp.aiW P l):vK P ⟨pc,VO P ls,x⟩:=
 ⟨hx,akw hP hm hl⟩
structure Fc where
 g:Nat
 S:aJ
 F:LFn
noncomputable def ad6 (P:Program):List Fc->FuncId->Option (List KV->ae->yq)
 | [],_=>none
 | c::cs,g=>cond (Nat.beq c.g g) (some (ao8 P c.S c.F)) (ad6 P cs g)
def Fc.Ok (P:Program) (c:Fc):Prop:=Nat.blt c.g yB=true/\∃ cfg L n,rD P cfg.pc/\vK P cfg/\
 ∀ vs rs e b7 iI,yO P c.S vs rs->(c.F vs rs).ev=some (e,b7,iI)->aiU P cfg L n c.g c.S vs rs=some (e,b7,iI)
theorem RD (hP:P.funcs.toList.all kG=true) (hm:P.follows .mixedOrders=true):∀ {cs:List Fc},(∀ c∈cs,Fc.Ok P c)->adS P (ad6 P cs)
 | [],_=>fun g F h=>by simp [ad6] at h
 | c::cs,hc=>fun g F h=>by
  have h:ad6 P (c::cs) g=some F:=h;unfold ad6 at h;cases hk:Nat.beq c.g g with
  | false=>
   rw [hk] at h;intro R args A k r hr;exact RD hP hm (fun c' hc'=>hc c' (r7 _ hc')) g F h args A k r hr
  | true=>
   rw [hk] at h;simp only [aj,bQ] at h;subst h;have e1:=aL hk;subst e1;obtain ⟨hy,cfg,L,n,eW,iH,hF⟩:=hc c (by simp);intro R args A k r hr;exact aiV hP hm eW iH hy hF hr
end Go.K
end
section
namespace Go.K
open Go Go.aG
mutual
def RU (P:Program):KV->Prop
 | .int k n=>(Lit.int k n).wf=true
 | .str s=>s.size<=maxLen
 | .ts T _ n es acc=>n<=maxLen/\Ew P es/\acc=cY es/\n * P.bytesOf T<=reachBytes
 | .agg cs=>Ew P cs
 | _=>True
def Ew (P:Program):List KV->Prop
 | []=>True
 | v::vs=>RU P v/\Ew P vs
end
theorem Ib {P:Program} : ∀ {a b:List KV},Ew P a->Ew P b->Ew P (a++b)
 | [],_,_,h=>h
 | x::a,b,h,k=>by
  simp only [Ew] at h;exact ⟨h.1,Ib h.2 k⟩
theorem XM {P:Program} : ∀ {l:List KV},Ew P l->∀ v∈l,RU P v
 | [],_,v,h=>by simp at h
 | x::l,h,v,hv=>by
  simp only [Ew] at h;rcases de.1 hv with rfl | hv
  ·exact h.1
  ·exact XM h.2 v hv
structure RV (P:Program) (W:World) (E:Env) (B:St) (ρ:Ren):Prop where
 fY:vu ρ B W.heap.size W
 k:dr P E .empty B
 κ:∀ b,E.κ b=none
 xA:∀ b o,B.get b=some o->o.eH=false/\o.lM=none
 α:∀ b,E.α b=none
def Env.none:Env:=⟨fun _=>.none,fun _=>.none,fun _=>.none,fun _=>.none⟩
theorem NB.empty {P:Program} {E:Env} {B:St} (uc:∀ b,E.α b=none):NB P E .empty B:=by
 have hn:∀ b o,¬ ae.empty.get b=some o:=fun b o hb=>by simp [ae.empty,ae.get] at hb
 exact ⟨fun b v hb=>(hn b _ hb).elim,fun b v hb=>(hn b _ hb).elim,fun x ⟨b,v,_,_,hb,_⟩=>(hn b _ hb).elim,fun b c v u x L N L' N' hb=>(hn b _ hb).elim,fun b c v u x y L N L' N' cs e own g k bP e' rC k' hb=>(hn b _ hb).elim,fun b x _=>uc b,fun b p e=>by rw [uc b] at e; simp at e,fun b x L N e=>by rw [uc b] at e; simp at e,fun b v x L N cs e own g k hb=>(hn b _ hb).elim,fun b v hb=>(hn b _ hb).elim⟩
theorem RV.start (P:Program) (W:World):RV P W .none .empty (IY []):=by
 refine ⟨vu.empty W,⟨?_,?_,?_,?_,?_,?_,?_,?_,?_,?_,?_,?_,?_,?_,.empty fun _=>rfl⟩,fun _=>rfl,fun b o h=>by simp [St.get,St.empty] at h,fun _=>rfl⟩
 ·intro b cs bp h; simp [ae.empty,ae.get] at h
 ·intro b cs bp h; simp [ae.empty,ae.get] at h
 ·intro b r h; simp [Env.none] at h
 ·intro b r h; simp [Env.none] at h
 ·intro b c r h; simp [Env.none] at h
 ·intro b c r _ _ _ _ _ _ h; simp [Env.none] at h
 ·intro b r h; simp [Env.none] at h
 ·intro b r h; simp [Env.none] at h
 ·intro b o h; simp [ae.empty,ae.get] at h
 ·intro b r h; simp [Env.none] at h
 ·intro b r h; simp [Env.none] at h
 ·intro b r h; simp [Env.none] at h
 ·intro g _; simp [St.members,St.empty]
 ·intro g x h; simp [St.members,St.empty] at h
theorem RV.add {P:Program} {W:World} {E:Env} {B:St} {ρ:Ren} (h:RV P W E B ρ) {cs:List Value} {l:aG.Loc}
  (hc:∀ (i:Nat) (v:Value),cs[i]? = some v->∃ v',W.cell? ⟨l.cb,l.dw+i,.none⟩=some v'/\VR ρ v v'/\scalar v=true) (hl:l.cb < W.heap.size) (hf:l.dw+cs.length<=l.Df) :
  RV P W (E.eM B.next ⟨cs,l.bp,false,.none⟩) (B.new (.row cs l.bp false .none)) (ρ.set B.next l)/\E.le (E.eM B.next ⟨cs,l.bp,false,.none⟩)/\ρ.le (ρ.set B.next l):=by
 have hle:E.le (E.eM B.next ⟨cs,l.bp,false,.none⟩):=⟨fun _ _ e=>e,fun _ _ e=>e,fun b r e=>by
  have:=h.k.lJ b r e;simp only [Env.eM]; rw [aa (by omega)]; exact e,fun _ _ e=>e⟩
 have kK:=h.fY.FB l;have n5:∀ b o,(B.new (.row cs l.bp false .none)).get b=some o->(b=B.next/\o = .row cs l.bp false .none)\/(b≠B.next/\B.get b=some o):=by
  intro b o hb;rw [St.cp] at hb;split at hb
  ·rename_i e; simp at hb; exact .inl ⟨e,hb.symm⟩
  ·rename_i e; exact .inr ⟨e,hb⟩
 have ad7:∀ b o,(B.new (.row cs l.bp false .none)).get b=some o->o.eH=false/\o.lM = .none:=by
  intro b o hb;rcases n5 b o hb with ⟨_,rfl⟩ | ⟨_,hb⟩
  ·exact ⟨rfl,rfl⟩
  ·exact h.xA b o hb
 refine ⟨⟨⟨⟨?_,?_,?_,?_,?_,?_⟩,?_,h.fY.size,h.fY.IU.mono kK⟩,?_,h.κ,ad7,h.α⟩,hle,kK⟩
 ·intro b mg bp own bN hb
  rcases n5 b _ hb with ⟨rfl,e⟩ | ⟨cD,hb⟩
  ·simp only [ct.row.injEq] at e
   obtain ⟨rfl,rfl,rfl,rfl⟩:=e;refine ⟨l,by simp [Ren.set],⟨fun i v hi=>?_,fun _=>hl,fun e=>by simp at e,fun e=>by simp at e,hf,fun e=>by simp at e,rfl,hl,fun e=>by simp at e⟩⟩;obtain ⟨v',h1,h2,h3⟩:=hc i v hi;exact ⟨v',h1,h2.mono kK,h3⟩
  ·obtain ⟨l',h1,h2⟩:=h.fY.rel.row b mg bp own bN hb
   exact ⟨l',kK _ _ h1,⟨fun i v hi=>by obtain ⟨v',q1,q2,q3⟩:=h2.cells i v hi; exact ⟨v',q1,q2.mono kK,q3⟩,h2.xA,h2.eH,h2.there,h2.fits,h2.ends,h2.bp,h2.lN,h2.mark⟩⟩
 ·intro b es hb
  have:=(ad7 b _ hb).1;simp [ct.eH] at this
 ·intro b s pos hb
  have:=(ad7 b _ hb).1;simp [ct.eH] at this
 ·intro b st e t ps a c hb
  have:=(ad7 b _ hb).1;simp [ct.eH] at this
 ·intro b1 b2 o1 o2 l1 l2 _ h1 _ h3
  have:=(ad7 b1 _ h1).1;rw [h3] at this; simp at this
 ·intro b o aP f hb hk
  have:=(ad7 b _ hb).2;rw [hk] at this; simp at this
 ·intro b l' hb
  rw [St.bX];simp only [Ren.set] at hb;split at hb
  ·omega
  ·have:=h.fY.jP b l' hb; omega
 ·refine ⟨?_,?_,?_,?_,?_,?_,?_,?_,?_,?_,?_,?_,?_,?_,.empty h.α⟩
  ·intro b cs bp h; simp [ae.empty,ae.get] at h
  ·intro b cs bp h; simp [ae.empty,ae.get] at h
  ·intro b r hb
   simp only [Env.eM] at hb;split at hb
   ·rename_i e
    simp at hb;subst hb e;simp
   ·have:=h.k.lJ b r hb
    rw [St.cp,aa (by omega)];exact h.k.z b r hb
  ·intro b x hb; have hb:E.κ b=some x:=hb; rw [h.κ b] at hb; simp at hb
  ·exact h.k.inj
  ·exact h.k.gK
  ·exact h.k.jP
  ·exact h.k.kR
  ·exact h.k.live
  ·intro b x hb; have:=h.k.eV b x hb; rw [St.bX]; omega
  ·intro b r hb
   simp only [Env.eM] at hb;rw [St.bX];split at hb
   ·omega
   ·have:=h.k.lJ b r hb; omega
  ·intro b g hb; have:=h.k.iv b g hb; rw [St.bX]; omega
  ·intro g hg; rw [St.bX] at hg; rw [St.jq]; exact h.k.fresh g (by omega)
  ·intro g x hx; rw [St.jq] at hx; rw [St.bX]; have:=h.k.mem g x hx; omega
def abV (P:Program):Nat->List Field->Option Nat
 | off,[]=>some off
 | off,f::fs=>cond (Nat.beq f.offset off) (abV P (off+P.cellsOf f.type) fs) .none
def DF (P:Program):Nat->TypeId->Bool
 | 0,_=>false
 | n+1,t=>match P.underlying t with
  | some (.int _) | some .bool | some .string=>true
  | some (.slice e)=>Nat.ble 1 (P.cellsOf e)&&DF P n e&&(match lay P 12 e with
   | some l=>Nat.beq l.ks.length (P.cellsOf e)&&(l.agg||Nat.beq l.ks.length 1)
   | .none=>false)
  | some (.struct fs)=>fs.toList.all (fun f=>DF P n f.type)&&(match abV P 0 fs.toList with
   | some k=>Nat.beq k (P.cellsOf t)
   | .none=>false)
  | some (.array len e)=>DF P n e&&Nat.beq (P.cellsOf t) (len * P.cellsOf e)
  | _=>false
def abW (W:World) (cs:List Value):Prop:=∀ a n c,Value.slice (some a) n c∈cs->0 < W.heap.size
def Got (P:Program) (W:World) (E:Env) (_:St) (ρ:Ren) (cs:List Value) (K:List KV->Prop):Prop:=
 ∃ E' B' aF ks,RV P W E' B' aF/\E.le E'/\ρ.le aF/\rU P E' aF ks cs/\Ew P ks/\K ks
def aak {H:Type} (enc:TypeId×Value->H) (P:Program) (W:World) (n:Nat):Prop:=
 ∀ t,DF P n t=true->∀ (fuel:Nat) (cs:List Value) (x:DataW H×List MemPlace) (E:Env) (B:St) (ρ:Ren),DataW.trod enc P W 0 (fun _=>true) true fuel t cs=some x->(∀ w∈DataW.weights P t x.1,w<=reachBytes)->abW W cs->RV P W E B ρ->
  Got P W E B ρ cs fun ks=>∀ m l,lay P m t=some l->aE l.ks ks=true
section
variable {H:Type} {enc:TypeId×Value->H} {P:Program} {W:World} {E:Env} {B:St} {ρ:Ren}
theorem rU.append {E:Env} {ρ:Ren} {a b:List KV} {a' b' : List Value} (h:rU P E ρ a a') (k:rU P E ρ b b'):rU P E ρ (a++b) (a'++b'):=by
 obtain ⟨m,h1,h2⟩:=h;obtain ⟨l,h3,h4⟩:=k;exact ⟨m++l,h1.append h3,h2.append h4⟩
theorem rU.mono {E E' : Env} {ρ aF:Ren} {a:List KV} {a' : List Value} (h:rU P E ρ a a') (hE:E.le E') (kK:ρ.le aF):rU P E' aF a a':=by
 obtain ⟨m,h1,h2⟩:=h;exact ⟨m,h1.mono hE,h2.mono kK⟩
theorem rU.len {E:Env} {ρ:Ren} {a:List KV} {a' : List Value} (h:rU P E ρ a a'):a'.length=a.length:=by
 obtain ⟨m,h1,h2⟩:=h;rw [h2.length,h1.length]
theorem LO:∀ {ks:List CK} {vs:List KV},aE ks vs=true->vs.length=ks.length
 | [],[],_=>rfl
 | [],_::_,h=>by simp [aE] at h
 | _::_,[],h=>by simp [aE] at h
 | k::ks,v::vs,h=>by
  simp only [aE,ao] at h;simp [LO h.2]
theorem LQ:∀ {ks ls:List CK} {vs us:List KV},aE ks vs=true->aE ls us=true->aE (ks++ls) (vs++us)=true
 | [],_,[],_,_,h=>h
 | [],_,_::_,_,h,_=>by simp [aE] at h
 | _::_,_,[],_,h,_=>by simp [aE] at h
 | k::ks,ls,v::vs,us,h,h'=>by
  simp only [aE,ao] at h;simp only [List.cons_append,aE,ao];exact ⟨h.1,LQ h.2 h'⟩
theorem abW.sub {W:World} {cs ds:List Value} (h:abW W cs) (k:∀ v∈ds,v∈cs):abW W ds:=fun a n c hm=>h a n c (k _ hm)
theorem abX {cs:List Value} {i n:Nat} : ∀ v∈(cs.drop i).take n,v∈cs:=fun _ h=>List.mem_of_mem_drop (List.mem_of_mem_take h)
theorem Zc (cs:List Value) (i m n:Nat):(cs.drop i).take m++(cs.drop (i+m)).take n=(cs.drop i).take (m+n):=by
 rw [List.take_add,List.drop_drop]
theorem VQ {n:Nat} (IH:aak enc P W n) {fuel:Nat} {cs:List Value} (hp:abW W cs):∀ (fs:List Field) (off k:Nat) (E:Env) (B:St) (ρ:Ren),RV P W E B ρ->abV P off fs=some k->k<=cs.length->(∀ f∈fs,DF P n f.type=true)->
  (∀ f∈fs,∃ x,DataW.trod enc P W 0 (fun _=>true) true fuel f.type ((cs.drop f.offset).take (P.cellsOf f.type))=some x/\∀ w∈DataW.weights P f.type x.1,w<=reachBytes)->
  off<=k/\Got P W E B ρ ((cs.drop off).take (k - off)) fun ks=>∀ m l,PD (lay P m) fs off=some l->aE l ks=true
 | [],off,k,E,B,ρ,hi,ht,hk,_,_=>by
  simp [abV] at ht; subst ht;refine ⟨aC _,E,B,ρ,[],hi,Env.le_refl _,Ren.le_refl _,?_,trivial,?_⟩
  ·rw [Nat.sub_self,List.take_zero]; exact ⟨[],.nil,.nil⟩
  ·intro m l h; simp [PD] at h; subst h; rfl
 | f::fs,off,k,E,B,ρ,hi,ht,hk,he,hx=>by
  unfold abV at ht;cases hb:Nat.beq f.offset off with
  | false=>rw [hb] at ht; simp at ht
  | true=>
   rw [hb,aj] at ht;have OH:=aL hb;obtain ⟨x,Es,Lr⟩:=hx f (by simp);obtain ⟨E1,B1,kM,ks1,h1,h2,h3,h4,h5,h6⟩:=IH f.type (he f (by simp)) fuel _ x E B ρ Es Lr (hp.sub abX) hi;obtain ⟨hle,E2,B2,xC,ks2,q1,q2,q3,q4,q5,q6⟩:=VQ IH hp fs (off+P.cellsOf f.type) k E1 B1 kM h1 ht hk (fun g hg=>he g (by simp [hg])) (fun g hg=>hx g (by simp [hg]));have hlen:ks1.length=P.cellsOf f.type:=by
    rw [<- h4.len,kZ,List.length_drop,OH];omega
   refine ⟨by omega,E2,B2,xC,ks1++ks2,q1,Env.le_trans h2 q2,Ren.le_trans h3 q3,?_,Ib h5 q5,?_⟩
   ·have:=(h4.mono q2 q3).append q4
    rw [OH,Zc] at this;rw [show k - off=P.cellsOf f.type+(k - (off+P.cellsOf f.type)) by omega];exact this
   ·intro m l hl
    unfold PD at hl;rw [hb,aj] at hl;obtain ⟨l1,hl1,hl⟩:=cE.1 hl;obtain ⟨l2,k7,rfl⟩:=cj.1 hl;have tY:=h6 m l1 hl1;have aqK:=LO tY;rw [<- aqK,hlen] at k7;exact LQ tY (q6 m l2 k7)
theorem Zd {n:Nat} (IH:aak enc P W n) {fuel len c:Nat} {e:TypeId} {cs:List Value} (hp:abW W cs) (he:DF P n e=true) (hc:P.cellsOf e=c) (hk:len * c<=cs.length) (hx:∀ i,i < len->∃ x,DataW.trod enc P W 0 (fun _=>true) true fuel e ((cs.drop (i * c)).take c)=some x/\∀ w∈DataW.weights P e x.1,w<=reachBytes) (hi:RV P W E B ρ):∀ j,j<=len->
  Got P W E B ρ (cs.take (j * c)) fun ks=>∀ m l,lay P m e=some l->aE (di l.ks j) ks=true
 | 0,_=>by
  refine ⟨E,B,ρ,[],hi,Env.le_refl _,Ren.le_refl _,?_,trivial,fun m l _=>rfl⟩;rw [Nat.zero_mul,List.take_zero]; exact ⟨[],.nil,.nil⟩
 | j+1,hj=>by
  obtain ⟨E1,B1,kM,ks1,h1,h2,h3,h4,h5,h6⟩:=Zd IH hp he hc hk hx hi j (by omega);obtain ⟨x,Es,Lr⟩:=hx j (by omega);obtain ⟨E2,B2,xC,ks2,q1,q2,q3,q4,q5,q6⟩:=IH e he fuel _ x E1 B1 kM Es Lr (hp.sub abX) h1;refine ⟨E2,B2,xC,ks1++ks2,q1,Env.le_trans h2 q2,Ren.le_trans h3 q3,?_,Ib h5 q5,?_⟩
  ·have:=(h4.mono q2 q3).append q4
   have e:=Zc cs 0 (j * c) c;simp only [List.drop_zero,bd] at e;rw [e] at this;rw [show (j+1) * c=j * c+c by rw [Nat.succ_mul]];exact this
  ·intro m l hl
   have:di l.ks (j+1)=di l.ks j++l.ks:=by
    have comm:∀ n,l.ks++di l.ks n=di l.ks n++l.ks:=by
     intro n
     induction n with
     | zero=>simp [di]
     | succ n ih=>simp only [di,List.append_assoc]; rw [ih]
    rw [<- comm]; rfl
   rw [this];exact LQ (h6 m l hl) (q6 m l hl)
theorem VS {a:Addr} {i k:Nat} {v:Value} (h:W.cell? ((a.add i).add k)=some v):W.cell? ⟨a.block,a.off+i+k,.none⟩=some v/\a.block < W.heap.size/\(i+k=0->a.spot = .none):=by
 have hb:((a.add i).add k).block=a.block:=by unfold Addr.add; split <;> split <;> rfl
 have ho:((a.add i).add k).off=a.off+i+k:=by
  unfold Addr.add;split <;> split <;> simp_all
 have hs:((a.add i).add k).spot = .none:=by
  unfold World.cell? at h;split at h
  ·split at h
   ·simp at h
   ·rename_i hs; simpa using hs
  ·simp at h
 have he:(a.add i).add k=⟨a.block,a.off+i+k,.none⟩:=by
  generalize (a.add i).add k=p at hb ho hs;obtain ⟨b,o,s⟩:=p;simp at hb ho hs;simp [hb,ho,hs]
 refine ⟨he ▸ h,?_,fun e=>?_⟩
 ·rw [he] at h
  unfold World.cell? at h;split at h
  ·rename_i heq
   exact (r8.1 heq).1
  ·simp at h
 ·have h1:i=0:=by omega
  have h2:k=0:=by omega
  subst h1 h2;simpa [Addr.add] using hs
theorem abY {a:Addr} {n:Nat} {cs:List Value} (h:W.cells? 0 a n=some cs):cs.length=n/\∀ (k:Nat) (v:Value),cs[k]? = some v->W.cell? (a.add k)=some v:=by
 unfold World.cells? at h;rw [aD (r6 _)] at h;have hl:=mapM_some_length h;simp at hl;refine ⟨hl,fun k v hv=>?_⟩;have hk:k < n:=by rw [<- hl]; exact (cH.1 hv).1
 rw [mapM_some_get h k k (by simp [hk])];exact hv
theorem aky {ks:List KV} {agg:Bool} (h:Ew P ks):RU P (Pe agg ks):=by
 cases agg with
 | true=>exact h
 | false=>
  match ks,h with
  | [],_=>exact trivial
  | v::vs,h=>exact h.1
theorem SG {E:Env} {ρ:Ren} : ∀ {ks:List CK} {vs:List KV} {m:List Value},aE ks vs=true->aV P E vs m->∀ v∈m,scalar v=true
 | [],[],m,_,h,v,hv=>by rw [h.b6] at hv; simp at hv
 | [],_::_,_,h,_,_,_=>by simp [aE] at h
 | _::_,[],_,h,_,_,_=>by simp [aE] at h
 | k::ks,u::vs,m,h,hm,v,hv=>by
  simp only [aE,ao] at h;obtain ⟨y,ys,rfl,h1,h2⟩:=hm.cons_inv;rcases de.1 hv with rfl | hv
  ·refine h1.scalar ?_
   have:=h.1;cases u <;> first | rfl | (cases k <;> simp [kindOk] at this)
  ·exact SG (ρ:=ρ) h.2 h2 v hv
theorem Ze {n:Nat} (IH:aak enc P W n) {fuel len c:Nat} {e:TypeId} {l:Lay} {a:Addr} (he:DF P n e=true) (hl:lay P 12 e=some l) (HR:l.ks.length=c) (ha:l.agg=true\/l.ks.length=1) (hc:P.cellsOf e=c) (hc1:1<=c)
  (hx:∀ i,i < len->∃ x,(W.cells? 0 (a.add (i * c)) c).bind (DataW.trod enc P W 0 (fun _=>true) true fuel e)=some x/\∀ w∈DataW.weights P e x.1,w<=reachBytes) (hi:RV P W E B ρ):∀ j,j<=len->
  ∃ E' B' aF es us fl,RV P W E' B' aF/\E.le E'/\ρ.le aF/\es.length=j/\aV P E' es us/\dJ l es=true/\Ew P es/\fl.length=j * c/\qP c 0 fl us/\
   (∀ (i:Nat) (v:Value),fl[i]? = some v->∃ v',W.cell? ⟨a.block,a.off+i,.none⟩=some v'/\VR aF v v'/\scalar v=true)/\(0 < j->a.block < W.heap.size/\a.spot = .none)
 | 0,_=>⟨E,B,ρ,[],[],[],hi,Env.le_refl _,Ren.le_refl _,rfl,.nil,rfl,trivial,by simp,fun i x h=>by simp at h,fun i v h=>by simp at h,fun h=>by omega⟩
 | j+1,hj=>by
  obtain ⟨E1,B1,kM,es,us,fl,h1,h2,h3,h4,h5,h6,h7,h8,h9,px,GD⟩:=Ze IH he hl HR ha hc hc1 hx hi j (by omega);obtain ⟨x,Es,Lr⟩:=hx j (by omega);obtain ⟨cs,Ls,hx2⟩:=cE.1 Es;obtain ⟨hlen,n5⟩:=abY Ls;have Hk:a.block < W.heap.size:=by
   have h0:0 < cs.length:=by rw [hlen]; omega
   exact (VS (n5 0 _ (cJ h0))).2.1
  obtain ⟨E2,B2,xC,ks,q1,q2,q3,⟨m,q4,q4'⟩,q5,q6⟩:=IH e he fuel cs x E1 B1 kM hx2 Lr (fun _ _ _ _=>by omega) h1;have hk:=q6 12 l hl;have W6:m.length=c:=by rw [q4.length,LO hk,HR]
  have Ch:l.agg=true\/m.length=1:=by rw [W6,<- HR]; exact ha
  have Kl:=SG (ρ:=ρ) hk q4;have qU:=abh Kl Ch;have hul:us.length=j:=by rw [h5.length,h4]
  refine ⟨E2,B2,xC,es++[Pe l.agg ks],us++[mkE l.agg m],fl++m,q1,Env.le_trans h2 q2,Ren.le_trans h3 q3,by simp [h4],(h5.mono q2).append (.cons (abi q4 Ch) .nil),?_,Ib h7 ⟨aky q5,trivial⟩,?_,?_,?_,fun _=>⟨Hk,?_⟩⟩
  ·have:∀ {es:List KV},dJ l es=true->dJ l (es++[Pe l.agg ks])=true:=by
    intro es
    induction es with
    | nil=>intro _; simp [dJ,Xy hk ha]
    | cons e es ih=>
     intro h;simp only [dJ,ao] at h;simp only [List.cons_append,dJ,ao];exact ⟨h.1,ih h.2⟩
   exact this h6
  ·rw [kF,h8,W6,Nat.succ_mul]
  ·intro i y hy
   by_cases hi:i < j
   ·rw [qS (by omega)] at hy
    obtain ⟨r1,r2⟩:=h9 i y hy;refine ⟨r1,fun k z hz=>?_⟩;have:=r2 k z hz;rw [qS (cH.1 this).1];exact this
   ·rw [tS (by omega),hul] at hy
    have hij:i=j:=by
     have:=(cH.1 hy).1;simp at this;omega
    subst hij;simp at hy;subst hy;have dT:(mkE l.agg m).cells.size=c:=by rw [<- Array.length_toList,qU,W6]
    refine ⟨dT,fun k z hz=>?_⟩;rw [<- Array.getElem?_toList,qU] at hz;rw [tS (by rw [h8]; omega),h8,show 0+i * c+k - i * c=k by omega];exact hz
  ·intro i v hv
   by_cases hi:i < fl.length
   ·rw [qS hi] at hv
    obtain ⟨v',r1,r2,r3⟩:=px i v hv;exact ⟨v',r1,r2.mono q3,r3⟩
   ·rw [tS (by omega)] at hv
    obtain ⟨v',r1,r2⟩:=q4'.get hv;refine ⟨v',?_,r2,Kl v (gu hv)⟩;have:=(VS (n5 _ _ r1)).1;rw [h8] at this;rw [h8] at hi;rw [show a.off+i=a.off+j * c+(i - j * c) by omega];exact this
  ·by_cases h0:j=0
   ·subst h0
    have h0:0 < cs.length:=by rw [hlen]; omega
    exact (VS (n5 0 _ (cJ h0))).2.2 (by omega)
   ·exact (GD (by omega)).2
theorem GK {e:TypeId} : ∀ {l:List (DataW H)} {d:DataW H},d∈l->∀ w∈DataW.weights P e d,w∈DataW.weightsAll P e l
 | [],_,h,_,_=>by simp at h
 | x::l,d,h,w,hw=>by
  simp only [DataW.weightsAll,jM];rcases de.1 h with rfl | h
  ·exact .inl hw
  ·exact .inr (GK h w hw)
theorem ahb:∀ n,aak enc P W n
 | 0=>fun t ht=>by simp [DF] at ht
 | n+1=>by
  have IH:=ahb n;intro t ht fuel cs x E B ρ hx hz hp hi;have hn:∀ {m l},lay P m t=some l->∃ m',m=m' + 1:=by
   intro m l h;cases m with
   | zero=>simp [lay] at h
   | succ m=>exact ⟨m,rfl⟩
  unfold DF at ht;split at ht
  ·rename_i k hu
   obtain ⟨i,rfl,_,hw⟩:=DataW.trod_int hu hx;refine ⟨E,B,ρ,[.int k i],hi,Env.le_refl _,Ren.le_refl _,⟨_,.cons .mkInt .nil,.cons (by simp [VR]) .nil⟩,⟨hw,trivial⟩,fun m l h=>?_⟩;obtain ⟨m',rfl⟩:=hn h;simp only [lay,hu,bQ] at h;subst h;simp [aE,kindOk]
  ·rename_i hu
   obtain ⟨b,rfl,_⟩:=DataW.trod_bool hu hx;refine ⟨E,B,ρ,[.bool b],hi,Env.le_refl _,Ren.le_refl _,⟨_,.cons .ub .nil,.cons (by simp [VR]) .nil⟩,⟨trivial,trivial⟩,fun m l h=>?_⟩;obtain ⟨m',rfl⟩:=hn h;simp only [lay,hu,bQ] at h;subst h;simp [aE,kindOk]
  ·rename_i hu
   obtain ⟨s,rfl,_,hw⟩:=DataW.trod_string hu hx;refine ⟨E,B,ρ,[.str s],hi,Env.le_refl _,Ren.le_refl _,⟨_,.cons .mkStr .nil,.cons (by simp [VR]) .nil⟩,⟨hw,trivial⟩,fun m l h=>?_⟩;obtain ⟨m',rfl⟩:=hn h;simp only [lay,hu,bQ] at h;subst h;simp [aE,kindOk]
  ·rename_i e hu
   simp only [ao] at ht;obtain ⟨⟨vG,P0⟩,ht3⟩:=ht;have hc1:=dX vG;split at ht3
   ·rename_i l hl
    simp only [ao,ve] at ht3;have HR:=aL ht3.1;have Ch:l.agg=true\/l.ks.length=1:=ht3.2.imp id aL;have hlF:aQ P e=l:=by simp [aQ,hl]
    have dT:aU P e=P.cellsOf e:=by rw [aU,hlF,HR]
    have fin:∀ {ks:List KV} {m:Nat} {l' : Lay} {mk:Mk} {nn:Nat} {es:List KV} {acc:Nat->KV},mk = .any->lay P m t=some l'->ks = [.ts e mk nn es acc]->aE l'.ks ks=true:=by
     intro ks m l' mk nn es acc TF h qL;obtain ⟨m',rfl⟩:=hn h;simp only [lay,hu,bQ] at h;subst h qL TF;simp [aE,kindOk]
    rcases DataW.trod_slice hu hx with ⟨rfl,_⟩ | ⟨a,len,cap,elems,rest,fu,_,rfl,hxe,_,hle,ajM,Dt,hE,hR,_⟩
    ·refine ⟨E,B,ρ,[.ts e .any 0 [] qN],hi,Env.le_refl _,Ren.le_refl _,⟨[.slice .none 0 0],.cons ?_ .nil,.cons (by simp [VR]) .nil⟩,⟨⟨r6 _,trivial,rfl,by rw [Nat.zero_mul]; exact r6 _⟩,trivial⟩,fun m l h=>fin rfl h rfl⟩
     simp only [VK];exact ⟨⟨rfl,fun i h=>by omega,rfl⟩,[],.nil,.none,0,rfl,aC _,.inl ⟨rfl,rfl⟩,trivial⟩
    ·have aoj:len * P.bytesOf e<=reachBytes:=by
      refine hD (Nat.mul_le_mul_right _ ?_) (hz ((elems.length+rest.length) * P.bytesOf e) ?_)
      ·omega
      ·rw [hxe]; simp [DataW.weights,hu]
     have hxs:∀ i,i < len->∃ x,(W.cells? 0 (a.add (i * P.cellsOf e)) (P.cellsOf e)).bind (DataW.trod enc P W 0 (fun _=>true) true fu e)=some x/\∀ w∈DataW.weights P e x.1,w<=reachBytes:=by
      intro i h;rw [hE i h];have hi:i < elems.length:=by rw [Dt]; exact h
      refine ⟨_,cJ hi,fun w hw=>hz w ?_⟩;rw [hxe];have:=GK (l:=elems.map (·.1)) (HJ.2 ⟨_,Rb hi,rfl⟩) w hw;simp only [DataW.weights,hu,de,jM];exact .inr (.inl this)
     obtain ⟨E1,B1,kM,es,us,fl,h1,h2,h3,h4,h5,h6,h7,h8,h9,px,GD⟩:=Ze IH P0 hl HR Ch rfl hc1 hxs hi len (aC _);have Gv:0 < cap->a.block < W.heap.size/\a.spot = .none:=by
      intro h0;by_cases Mi:0 < len
      ·exact GD Mi
      ·have Mi:len=0:=by omega
       subst Mi;obtain ⟨hr1,yS⟩:=hR rfl;have hr3:=yS 0 (by omega);rw [cJ (by rw [hr1]; omega)] at hr3;obtain ⟨bP,aml,_⟩:=cE.1 hr3;obtain ⟨hlen,n5⟩:=abY aml;have h0:0 < bP.length:=by rw [hlen]; omega
       have:=VS (n5 0 _ (cJ h0));exact ⟨this.2.1,this.2.2 (by omega)⟩
     have hh:0 < W.heap.size:=hp a len cap (by simp);have hlenes:us.length=len:=by rw [h5.length,h4]
     have aqL:∃ lc:aG.Loc,lc.bp=P.cellsOf e/\lc.cb < W.heap.size/\lc.dw+fl.length<=lc.Df/\(cap≠0->a=⟨lc.cb,lc.dw,.none⟩)/\lc.dw+cap * lc.bp<=lc.Df/\
       (∀ (i:Nat) (v:Value),fl[i]? = some v->∃ v',W.cell? ⟨lc.cb,lc.dw+i,.none⟩=some v'/\VR kM v v'/\scalar v=true):=by
      by_cases h0:cap=0
      ·subst h0
       have Mi:len=0:=by omega
       subst Mi;refine ⟨⟨0,0,0,P.cellsOf e⟩,rfl,hh,by simp [h8],fun h=>absurd rfl h,by simp,fun i v hv=>?_⟩;have:fl = []:=by apply List.eq_nil_of_length_eq_zero; simp [h8]
       rw [this] at hv; simp at hv
      ·obtain ⟨p1,p2⟩:=Gv (by omega)
       refine ⟨⟨a.block,a.off,a.off+cap * P.cellsOf e,P.cellsOf e⟩,rfl,p1,?_,fun _=>?_,aC _,px⟩
       ·rw [h8]; exact Nat.add_le_add_left (Nat.mul_le_mul_right _ hle) _
       ·obtain ⟨b,o,s⟩:=a
        simp at p2;simp [p2]
     obtain ⟨lc,l1,l2,l3,l4,l5,l6⟩:=aqL;obtain ⟨i1,i2,i3⟩:=h1.add l6 l2 l3;refine ⟨_,_,_,[.ts e .any len es (cY es)],i1,Env.le_trans h2 i2,Ren.le_trans h3 i3,⟨[.slice (some ⟨B1.next,0,.none⟩) len len],.cons ?_ .nil,.cons ?_ .nil⟩,⟨⟨by omega,h7,rfl,aoj⟩,trivial⟩,fun m l h=>fin rfl h rfl⟩
     ·simp only [VK]
      refine ⟨⟨h4.symm,fun i _=>rfl,by rw [hlF]; exact h6⟩,us,h5.mono i2,some ⟨B1.next,0,.none⟩,len,rfl,aC _,.inr ⟨B1.next,0,⟨fl,lc.bp,false,.none⟩,rfl,by simp [Env.eM],by rw [l1,dT],?_⟩,trivial⟩;rw [dT];exact h9
     ·simp only [VR]
      exact ⟨trivial,aC _,lc,a,cap,by simp [Ren.set],hle,fun h=>by simpa using l4 h,by simpa using l5,rfl⟩
   ·simp at ht3
  ·rename_i fs hu
   simp only [ao,fk] at ht;split at ht
   ·rename_i k hk
    have hkc:=aL ht.2;obtain ⟨xs,fu,_,hxe,hlen,hxs,hf⟩:=DataW.trod_struct hu hx;have hff:∀ f∈fs.toList,∃ x,DataW.trod enc P W 0 (fun _=>true) true fu f.type ((cs.drop f.offset).take (P.cellsOf f.type))=some x/\∀ w∈DataW.weights P f.type x.1,w<=reachBytes:=by
     intro f hm;obtain ⟨i,WQ⟩:=List.getElem?_of_mem hm;have hi2:fs[i]? = some f:=by simpa using WQ
     have bm:i < xs.length:=by rw [hxs]; exact (r8.1 hi2).1
     refine ⟨xs[i],by rw [hf i f hi2]; exact cJ bm,fun w hw=>hz w ?_⟩;rw [hxe];simp only [DataW.weights,hu];exact DataW.weights_mem_each (j:=i) (t:=f.type) (d:=xs[i].1) (by rw [pg,WQ]; rfl) (by rw [pg,cJ bm]; rfl) w hw
    obtain ⟨_,E1,B1,kM,ks,h1,h2,h3,h4,h5,h6⟩:=VQ IH hp fs.toList 0 k E B ρ hi hk (by rw [hkc,hlen]; exact aC _) ht.1 hff;refine ⟨E1,B1,kM,ks,h1,h2,h3,?_,h5,fun m l h=>?_⟩
    ·have e:(cs.drop 0).take (k - 0)=cs:=by rw [List.drop_zero,Nat.sub_zero,hkc,<- hlen,List.take_length]
     rw [e] at h4;exact h4
    ·obtain ⟨m',rfl⟩:=hn h
     simp only [lay,hu,cj] at h;obtain ⟨l',vb,rfl⟩:=h;exact h6 m' l' vb
   ·simp at ht
  ·rename_i len e hu
   simp only [ao] at ht;have hkc:=aL ht.2;obtain ⟨xs,fu,_,hxe,hlen,hxs,hf⟩:=DataW.trod_array hu hx;have hff:∀ i,i < len->∃ x,DataW.trod enc P W 0 (fun _=>true) true fu e ((cs.drop (i * P.cellsOf e)).take (P.cellsOf e))=some x/\∀ w∈DataW.weights P e x.1,w<=reachBytes:=by
    intro i h;have hi:i < xs.length:=by rw [hxs]; exact h
    refine ⟨xs[i],by rw [hf i h]; exact cJ hi,fun w hw=>hz w ?_⟩;rw [hxe];simp only [DataW.weights,hu];exact GK (l:=xs.map (·.1)) (HJ.2 ⟨_,Rb hi,rfl⟩) w hw
   obtain ⟨E1,B1,kM,ks,h1,h2,h3,h4,h5,h6⟩:=Zd IH hp ht.1 rfl (by rw [hlen,hkc]; exact aC _) hff hi len (aC _);refine ⟨E1,B1,kM,ks,h1,h2,h3,?_,h5,fun m l h=>?_⟩
   ·rw [<- hkc,<- hlen,List.take_length] at h4
    exact h4
   ·obtain ⟨m',rfl⟩:=hn h
    simp only [lay,hu,cj] at h;obtain ⟨l',vb,rfl⟩:=h;exact h6 m' l' vb
  ·simp at ht
end
end Go.K
end
section
namespace Go.K
open Go Go.aG Go.WideShapes
mutual
def GL (P:Program):KV->Prop
 | .ts T _ n es acc=>hX P T n es acc/\BX P es
 | .agg cs=>BX P cs
 | _=>True
def BX (P:Program):List KV->Prop
 | []=>True
 | v::vs=>GL P v/\BX P vs
end
mutual
theorem VK.deep {P:Program} {E:Env} : ∀ {v:KV} {u:Value},VK P E v u->GL P v
 | .ts T m n es acc,u,h=>by
  obtain ⟨h1,us,h2,_⟩:=h.lh;exact ⟨h1,aV.deep h2⟩
 | .agg cs,u,h=>by
  obtain ⟨l,_,h1⟩:=h.kQ;exact aV.deep (vs:=cs) h1
 | .int _ _,_,_ | .bool _,_,_ | .str _,_,_ | .kL _,_,_ | .tp ..,_,_ | .ptr ..,_,_ | .al ..,_,_ | .ap ..,_,_ | .sl ..,_,_ | .Hl,_,_ | .ky,_,_ | .Dk,_,_ | .map _,_,_ | .fn ..,_,_ | .IZ,_,_ | .iface ..,_,_ | .I0,_,_ | .bh,_,_=>trivial
theorem aV.deep {P:Program} {E:Env} : ∀ {vs:List KV} {us:List Value},aV P E vs us->BX P vs
 | [],_,_=>trivial
 | v::vs,us,h=>by
  simp only [aV] at h;obtain ⟨y,ys,_,h1,h2⟩:=h;exact ⟨VK.deep h1,aV.deep h2⟩
end
def mc (P:Program):List TypeId->List KV->Bool
 | [],[]=>true
 | t::ts,v::vs=>cv (aQ P t) v&&mc P ts vs
 | _,_=>false
theorem Zf {P:Program} : ∀ {ts:List TypeId} {arD:List KV},mc P ts arD=true->arD.length=ts.length
 | [],[],_=>rfl
 | [],_::_,h=>by simp [mc] at h
 | _::_,[],h=>by simp [mc] at h
 | t::ts,v::vs,h=>by
  simp only [mc,ao] at h;simp [Zf h.2]
def VT (P:Program) (t:TypeId):Bool:=DF P 30 t&&(match lay P 12 t with
 | some l=>Nat.beq l.ks.length (P.cellsOf t)
 | .none=>false)
section
variable {H:Type} {enc:TypeId×Value->H} {P:Program} {W:World}
theorem afn {r:Reach} {base:Nat} {t:TypeId} {v:Value} (h:Value.okWide P W r base t v):abW W v.cells.toList:=by
 intro a n c hm;have cell:∀ u,Cell.okWide P W r base u (.slice (some a) n c)->0 < W.heap.size:=by
  intro u hu;unfold Cell.okWide at hu;split at hu <;> try (rename_i heq; simp at heq; done)
  unfold Cell.ok at hu;split at hu <;> try (rename_i heq; simp at heq; done)
  ·rename_i e heq
   simp at heq;obtain ⟨rfl,rfl,rfl⟩:=heq;obtain ⟨_,_,_,_,row,cells,hs,_⟩:=hu;unfold World.shape? at hs;split at hs
   ·rename_i hh
    have:=(r8.1 hh).1;omega
   ·simp at hs
  ·exact hu.elim
 unfold Value.okWide at h;split at h
 ·obtain ⟨cs,rfl,_,ts,_,_,hc⟩:=h
  obtain ⟨i,hi⟩:=List.getElem?_of_mem hm;obtain ⟨u,_,hu⟩:=hc i _ (by simpa [Value.cells] using hi);exact cell u hu
 ·obtain ⟨cs,rfl,_,ts,_,_,hc⟩:=h
  obtain ⟨i,hi⟩:=List.getElem?_of_mem hm;obtain ⟨u,_,hu⟩:=hc i _ (by simpa [Value.cells] using hi);exact cell u hu
 ·have hv:v.cells.toList = [v]\/∃ cs,v = .agg cs:=by cases v <;> first | exact .inl rfl | exact .inr ⟨_,rfl⟩
  rcases hv with hv | ⟨cs,rfl⟩
  ·rw [hv] at hm
   simp at hm;subst hm;exact cell t h
  ·exfalso
   unfold Cell.okWide at h;split at h <;> try (rename_i heq; simp at heq; done)
   unfold Cell.ok at h;split at h <;> first | (rename_i heq; simp at heq; done) | exact h.elim
theorem alu {E:Env} {B:St} {ρ:Ren} {t:TypeId} {v:Value} {d:DataW H} {ps:List MemPlace} {r:Reach} {base:Nat} (ht:VT P t=true) (hd:DataW.Trod enc P W 0 (fun _=>true) true t v d ps) (hz:∀ w∈DataW.weights P t d,w<=reachBytes) (hw:Value.okWide P W r base t v) (hi:RV P W E B ρ) :
  ∃ E' B' aF a,RV P W E' B' aF/\E.le E'/\ρ.le aF/\VC P E' aF a v/\cv (aQ P t) a=true/\RU P a:=by
 unfold VT at ht;simp only [ao] at ht;obtain ⟨vG,P0⟩:=ht;split at P0
 ·rename_i l hl
  obtain ⟨fuel,hf⟩:=hd;obtain ⟨E1,B1,kM,ks,h1,h2,h3,⟨m,h4,h4'⟩,h5,h6⟩:=ahb 30 t vG fuel _ _ E B ρ hf hz (afn hw) hi;have hk:=h6 12 l hl;have hlF:aQ P t=l:=by simp [aQ,hl]
  have akz:(l.agg=true/\∃ cs:Array Value,v = .agg cs)\/(l.agg=false/\l.ks.length=1/\v.cells.toList = [v]):=by
   unfold DF at vG;split at vG
   ·rename_i k hu
    obtain ⟨n,rfl⟩:=okWide_int hu hw;simp only [lay,hu,bQ] at hl;subst hl; exact .inr ⟨rfl,rfl,rfl⟩
   ·rename_i hu
    obtain ⟨n,rfl⟩:=okWide_bool hu hw;simp only [lay,hu,bQ] at hl;subst hl; exact .inr ⟨rfl,rfl,rfl⟩
   ·rename_i hu
    obtain ⟨n,rfl⟩:=okWide_string hu hw;simp only [lay,hu,bQ] at hl;subst hl; exact .inr ⟨rfl,rfl,rfl⟩
   ·rename_i e hu
    obtain ⟨a,n,c,rfl⟩:=okWide_slice hu hw;simp only [lay,hu,bQ] at hl;subst hl; exact .inr ⟨rfl,rfl,rfl⟩
   ·rename_i fs hu
    simp only [lay,hu,cj] at hl;obtain ⟨_,_,rfl⟩:=hl;unfold Value.okWide at hw;rw [hu] at hw;obtain ⟨cs,rfl,_⟩:=hw;exact .inl ⟨rfl,cs,rfl⟩
   ·rename_i len e hu
    simp only [lay,hu,cj] at hl;obtain ⟨_,_,rfl⟩:=hl;unfold Value.okWide at hw;rw [hu] at hw;obtain ⟨cs,rfl,_⟩:=hw;exact .inl ⟨rfl,cs,rfl⟩
   ·simp at vG
  refine ⟨E1,B1,kM,Pe l.agg ks,h1,h2,h3,?_,?_,aky h5⟩
  ·rcases akz with ⟨ha,cs,rfl⟩ | ⟨ha,hlen,hv⟩
   ·rw [ha]
    exact ⟨.agg ⟨m⟩,.rR h4,VR.rR (l':=cs.toList) h4'⟩
   ·rw [ha]
    rw [hv] at h4';have W6:m.length=1:=by have:=h4'.length; simpa using this.symm
    have:=abi (agg:=false) h4 (.inr W6)
    match m,W6,h4',this with
    | [y],_,h4',this=>
     obtain ⟨z,zs,e,q1,_⟩:=h4'.cons_inv;simp at e;refine ⟨y,this,?_⟩;rw [e.1]; exact q1
  ·rw [hlF]
   exact Xy hk (akz.imp (·.1) (·.2.1))
 ·simp at P0
theorem abZ {r:Reach} {base:Nat} : ∀ {ts:List TypeId} {vs:List Value} {ds:List (DataW H)} {ps:List MemPlace} {E:Env} {B:St} {ρ:Ren},(∀ t∈ts,VT P t=true)->DataW.TrodAll enc P W 0 (fun _=>true) true ts vs ds ps->(∀ w∈DataW.weightsEach P ts ds,w<=reachBytes)->
  (∀ (j:Nat) t v,ts[j]? = some t->vs[j]? = some v->Value.okWide P W r base t v)->RV P W E B ρ->∃ E' B' aF arD,RV P W E' B' aF/\E.le E'/\ρ.le aF/\rU P E' aF arD vs/\mc P ts arD=true/\Ew P arD
 | [],vs,ds,ps,E,B,ρ,_,h,_,_,hi=>by
  obtain ⟨rfl,_,_⟩:=Go.ChangeShapes.trodAll_nil h;exact ⟨E,B,ρ,[],hi,Env.le_refl _,Ren.le_refl _,⟨[],.nil,.nil⟩,rfl,trivial⟩
 | t::ts,vs,ds,ps,E,B,ρ,ht,h,hz,hw,hi=>by
  obtain ⟨v,vs1,d,ds1,a,b,rfl,rfl,rfl,h1,h2⟩:=Go.ChangeShapes.trodAll_cons h;obtain ⟨E1,B1,kM,x,q1,q2,q3,⟨u,q4,q4'⟩,q5,q6⟩:=alu (ht t (by simp)) h1 (fun w hw=>hz w (by simp only [DataW.weightsEach,jM]; exact .inl hw)) (hw 0 t v rfl rfl) hi;obtain ⟨E2,B2,xC,xs,p1,p2,p3,⟨m,p4,p4'⟩,p5,p6⟩:=abZ (fun t' h'=>ht t' (by simp [h'])) h2 (fun w hw=>hz w (by simp only [DataW.weightsEach,jM]; exact .inr hw)) (fun j t' v' h3 h4=>hw (j+1) t' v' (by simpa using h3) (by simpa using h4)) q1;exact ⟨E2,B2,xC,x::xs,p1,Env.le_trans q2 p2,Ren.le_trans q3 p3,⟨u::m,.cons (q4.mono p2) p4,.cons (q4'.mono p3) p4'⟩,by simp [mc,q5,p5],⟨q6,p6⟩⟩
theorem SH:∀ {ts us:List TypeId} {ds gs:List (DataW H)},∀ w∈DataW.weightsEach P ts ds,w∈DataW.weightsEach P (ts++us) (ds++gs)
 | [],_,_,_,w,h=>by simp [DataW.weightsEach] at h
 | _::_,_,[],_,w,h=>by simp [DataW.weightsEach] at h
 | t::ts,us,d::ds,gs,w,h=>by
  simp only [List.cons_append,DataW.weightsEach,jM] at h ⊢;exact h.imp id (SH w)
theorem ahc {ts us:List TypeId} {ds gs:List (DataW H)} (h:(DataW.weightsEach P (ts++us) (ds++gs)).all (·<=reachBytes)=true):∀ w∈DataW.weightsEach P ts ds,w<=reachBytes:=fun w hw=>by
 have:=fk.1 h w (SH w hw);simpa using this
theorem aok (hP:P.funcs.toList.all kG=true) (hm:P.follows .mixedOrders=true) {cfg:dF} (eW:rD P cfg.pc) (iH:vK P cfg) {L n:Nat} {f:FuncId} {ts:List TypeId} (hts:ts.all (VT P)=true)
  (qM:∀ arD,mc P ts arD=true->Ew P arD->BX P arD->EN P cfg L n f (normArgs P ts arD)=some (.bool true)) {args:Array Value} {ds:List (DataW H)} {ps:List MemPlace} {r:Reach} {base:Nat}
  (hd:DataW.TrodAll enc P W 0 (fun _=>true) true ts args.toList ds ps) (hz:∀ w∈DataW.weightsEach P ts ds,w<=reachBytes) (hw:∀ (j:Nat) t v,ts[j]? = some t->args.toList[j]? = some v->Value.okWide P W r base t v) :
  Calls P f args W fun e w'=>e = .returned (.bool true)/\RowKit.Below W.heap.size W w':=by
 obtain ⟨E,B,ρ,arD,h1,_,_,h4,h5,h6⟩:=abZ (fk.1 hts) hd hz hw (RV.start P W);have XN:BX P arD:=by obtain ⟨m,q,_⟩:=h4; exact q.deep
 have lI:=qM arD h5 h6 XN;have h4:rU P E ρ (normArgs P ts arD) args.toList:=by
  obtain ⟨m,q,q'⟩:=h4;exact ⟨m,aV.NW (.of rfl) q (Zf h5),q'⟩
 have ug:=uK (R:=KV) hP hm eW iH L n;obtain ⟨fn,c,hf,hc,cI,hnm,lI⟩:=Qe hP lI;have:=NV eW ug hm L hf hc cI (iH.2 f fn c hf hc) lI h4 (base:=W.heap.size) (w:=W) ⟨h1.k,h1.fY⟩;refine this.mono ?_;rintro e w' ⟨vs,b7,E1,A1,B1,kM,rfl,⟨m,q1,q1'⟩,q2,q3⟩;have q3:Bool.rec (motive:=fun _=>Option KV) .none (some (I2 (zL P (vA P f) (AE A1 vs).1))) (Nat.beq vs.length (vA P f).length)=some (.bool true):=q3;obtain ⟨E2,_,q1⟩:=KD q2.fY q1;cases hb:Nat.beq vs.length (vA P f).length with
 | false=>rw [hb] at q3; exact absurd q3 (by simp)
 | true=>
  rw [hb] at q3;have q3:some (I2 (zL P (vA P f) (AE A1 vs).1))=some (.bool true):=q3;simp only [bQ] at q3;have hv:VC P E2 kM (I2 (zL P (vA P f) (AE A1 vs).1)) (afe b7):=Qd ⟨m,by rw [Jj]; exact aV.NW (.of rfl) q1 ((NN A1 vs).trans (aL hb)),q1'⟩;rw [q3] at hv;have hg:=q2.eJ;refine ⟨by rw [hv.eK],hg.kept.os,hg.kept.tape,hg.kept.output,hg.kept.size,fun k hk=>hg.kept.block k hk ?_⟩;rintro ⟨b,o,l,ho,Lx,_⟩;rw [(h1.xA b o ho).1] at Lx;simp at Lx
end
noncomputable def ad8:List (Nat×(List KV->KR KV))->FuncId->Option (List KV->KR KV)
 | [],_=>.none
 | p::ps,g=>cond (Nat.beq p.1 g) (some p.2) (ad8 ps g)
theorem akA {P:Program} : ∀ {ps:List (Nat×(List KV->KR KV))},(∀ p∈ps,bB P p.1 p.2)->rD P (ad8 ps)
 | [],_=>fun g F h=>by simp [ad8] at h
 | p::ps,h=>fun g F hF=>by
  unfold ad8 at hF;cases hb:Nat.beq p.1 g with
  | true=>
   rw [hb] at hF;simp only [aj,bQ] at hF;have:=aL hb;subst this hF;exact h p (by simp)
  | false=>
   rw [hb] at hF;exact akA (fun q hq=>h q (r7 _ hq)) g F hF
theorem ahd (l:Lay):cv l .bh=false:=by
 show (!l.agg&&aE l.ks [.bh])=false;cases l.ks with
 | nil=>simp [aE]
 | cons c cs=>cases c <;> simp [aE,kindOk]
theorem aiX {P:Program} {t:TypeId} {v:KV} (h:cv (aQ P t) (U2 P t v)=true):∃ w,U2 P t v=gV P (b8 P du) t w:=by
 unfold U2 at h ⊢;cases hb:cv (aQ P t) (dN (aQ P t) v) with
 | false=>rw [hb,aH,ahd] at h; simp at h
 | true=>exact ⟨dN (aQ P t) v,rfl⟩
theorem N7:∀ {ks:List CK} {cs:List KV},aE ks cs=true->Dl ks cs=cs
 | [],[],_=>rfl
 | [],_::_,h=>by simp [aE] at h
 | _::_,[],h=>by simp [aE] at h
 | k::ks,v::vs,h=>by
  simp only [aE,ao] at h;have e:nV k v=v:=by
   unfold nV;split
   ·simp [kindOk] at h
   ·rename_i t t' m n es acc
    cases m <;> simp [kindOk] at h;obtain ⟨rfl,_⟩:=h;rw [tT,aj]
   ·rw [h.1]; rfl
  rw [Dl,e,N7 h.2]
theorem ahe {l:Lay} {v:KV} (h:cv l v=true):dN l v=v:=by
 by_cases ha:∃ cs,v = .agg cs
 ·obtain ⟨cs,rfl⟩:=ha
  simp only [cv,ao] at h;show cond (l.agg&&Nat.beq cs.length l.ks.length) (KV.agg (Dl l.ks cs)) .bh=_;rw [h.1,ue h.2,N7 h.2];simp
 ·have h1:(!l.agg&&aE l.ks [v])=true:=by
   cases v <;> first | exact h | exact absurd ⟨_,rfl⟩ ha | simp [cv] at h
  simp only [ao,ma] at h1;have e:dN l v=cond l.agg .bh (match l.ks with | [c]=>nV c v | _=>.bh):=by
   cases v <;> first | rfl | exact absurd ⟨_,rfl⟩ ha
  rw [e,h1.1,aH]
  match hk:l.ks,h1.2 with
  | [c],h2=>
   have:=N7 h2;simpa [Dl] using this
  | [],h2=>simp [aE] at h2
  | _::_::_,h2=>simp [aE] at h2
theorem aiY {P:Program} {t:TypeId} {v:KV} (h:cv (aQ P t) v=true):U2 P t v=gV P (b8 P du) t v:=by
 unfold U2;rw [ahe h,h,aj]
noncomputable def uM (P:Program):List TypeId->(Nat->KV)->Nat->List KV
 | [],_,_=>[]
 | t::ts,w,k=>gV P (b8 P du) t (w k)::uM P ts w (Nat.succ k)
theorem VU {P:Program} : ∀ {ts:List TypeId} {w w' : Nat->KV} {k:Nat},(∀ i,k<=i->w i=w' i)->uM P ts w k=uM P ts w' k
 | [],_,_,_,_=>rfl
 | t::ts,w,w',k,h=>by
  rw [uM,uM,h k (aC _),VU fun i hi=>h i (by omega)]
theorem Ju {P:Program} : ∀ {ts:List TypeId} {arD:List KV} (k:Nat),mc P ts (normArgs P ts arD)=true->∃ w,normArgs P ts arD=uM P ts w k
 | [],arD,k,_=>⟨fun _=>.bh,by cases arD <;> rfl⟩
 | t::ts,[],k,h=>by simp [normArgs,mc] at h
 | t::ts,v::vs,k,h=>by
  simp only [normArgs,mc,ao] at h;obtain ⟨w,hw⟩:=aiX h.1;obtain ⟨w',hw'⟩:=Ju (k+1) h.2;refine ⟨fun i=>if i=k then w else w' i,?_⟩;rw [normArgs,uM,hw,hw',aD rfl];rw [VU (w:=w') (w':=fun i=>if i=k then w else w' i) fun i hi=>by rw [aa (by omega)]]
theorem ab0 {P:Program} : ∀ {ts:List TypeId} {arD:List KV} (k:Nat) {w:Nat->KV},mc P ts arD=true->(∀ i,i < arD.length->w (k+i)=arD.getD i .bh)->normArgs P ts arD=uM P ts w k
 | [],[],k,_,_,_=>rfl
 | [],_::_,_,_,h,_=>by simp [mc] at h
 | _::_,[],_,_,h,_=>by simp [mc] at h
 | t::ts,v::vs,k,w,h,hw=>by
  simp only [mc,ao] at h;rw [normArgs,uM,aiY h.1,ab0 (k+1) (w:=w) h.2 fun i hi=>by have:=hw (i+1) (by simp; omega); rw [show k+1+i=k+(i+1) by omega,this]; rfl];have:=hw 0 (by simp);rw [yI] at this;rw [this]; rfl
noncomputable def bC (P:Program) (g:FuncId) (F:List KV->KR KV):List KV->KR KV:=fun arD=>cond (mc P (bT P g) arD) (F arD) .no
theorem anc {P:Program} {g:FuncId} {F:List KV->KR KV} (hP:P.funcs.toList.all kG=true) (hm:P.follows .mixedOrders=true) {cfg:dF} (eW:rD P cfg.pc) (iH:vK P cfg) {L n:Nat}
  (h:∀ w v,aI (F (uM P (bT P g) w 0)) v->EN P cfg L n g (uM P (bT P g) w 0)=some v) (hy:Nat.blt g yB=true:=by rfl):bB P g (bC P g F):=
 amT hy hP hm fun arD v _ hF=>by
  unfold bC at hF;obtain ⟨hb,hF⟩:=aI.cond hF;obtain ⟨w,hw⟩:=Ju 0 hb;rw [hw] at hF ⊢;exact ⟨cfg,L,n,eW,iH,h w v hF⟩
noncomputable def ane (P:Program) (d:CD) (w:KV):KV:=
 match d with
 | .k c=>b8 P du (leaf c w)
 | .lit v=>v
 | .aP t=>b8 P du (leaf (.slice t) w)
 | .arr t=>b8 P du (leaf (.slice t) w)
 | .ref v=>v
noncomputable def LR (P:Program):List CD->(Nat->KV)->Nat->List KV
 | [],_,_=>[]
 | d::ds,w,k=>ane P d (w k)::LR P ds w (Nat.succ k)
noncomputable def afo (P:Program) (d:VD) (w:Nat->KV):KV:=Bool.rec (motive:=fun _=>KV) ((LR P d.ks w 0).headD .bh) (.agg (LR P d.ks w 0)) d.agg
noncomputable def ju (P:Program):List (Tmp×VD)->(Nat->Nat->KV)->Nat->List KV
 | [],_,_=>[]
 | p::ps,w,k=>afo P p.2 (w k)::ju P ps w (Nat.succ k)
noncomputable def jv (P:Program):List (Tmp×List CD×Nat)->(Nat->Nat->KV)->Nat->List (List KV)
 | [],_,_=>[]
 | p::ps,w,k=>LR P p.2.1 (w k) 0::jv P ps w (Nat.succ k)
theorem ad9 {P:Program} {A:ae} {d:CD} {v:KV} (h:jt d (eN P A d v)=true):∃ w,eN P A d v=ane P d w:=by
 cases d with
 | ref u=>exact ⟨.bh,rfl⟩
 | k c=>
  have e:eN P A (.k c) v=cond (kindOk c (nV c v)) (b8 P du (leaf c (nV c v))) .bh:=rfl;cases hb:kindOk c (nV c v) with
  | true=>exact ⟨nV c v,by rw [e,hb]; rfl⟩
  | false=>
   rw [e,hb] at h;cases c <;> simp [jt,kindOk] at h
 | lit u=>
  have e:eN P A (.lit u) v=cond (za u v) u .bh:=rfl;cases hb:za u v with
  | true=>exact ⟨.bh,by rw [e,hb]; rfl⟩
  | false=>
   rw [e,hb,aH] at h;have h:za u .bh=true:=h;cases u <;> first | (simp [za] at h; done) | (rename_i f a b; cases f <;> cases a <;> cases b <;> simp [za] at h)
 | aP t=>
  cases v with
  | ky=>exact ⟨.ts t .any 0 [] qN,rfl⟩
  | ts t' m n es acc=>
   cases m with
   | aP f=>
    have e:eN P A (.aP t) (.ts t' (.aP f) n es acc)=cond (Nat.beq t t') (b8 P du (.ts t .any n es acc)) .bh:=rfl;cases hb:Nat.beq t t' with
    | true=>exact ⟨.ts t .any n es acc,by rw [e,hb]; rfl⟩
    | false=>rw [e,hb] at h; simp [jt,kindOk] at h
   | _=>simp [eN,jt,kindOk] at h
  | _=>simp [eN,jt,kindOk] at h
 | arr t=>
  rcases XJ h with rfl | ⟨b,n,m,N,es,acc,rfl,_,he⟩
  ·exact ⟨.ts t .any 0 [] qN,rfl⟩
  ·exact ⟨.ts t .any N es acc,he⟩
theorem VV {P:Program} : ∀ {ds:List CD} {w w' : Nat->KV} {k:Nat},(∀ i,k<=i->w i=w' i)->LR P ds w k=LR P ds w' k
 | [],_,_,_,_=>rfl
 | t::ts,w,w',k,h=>by
  rw [LR,LR,h k (aC _),VV fun i hi=>h i (by omega)]
theorem XO {P:Program} {A:ae} : ∀ {ds:List CD} {vs:List KV} (k:Nat),df ds (eO P A ds vs)=true->∃ w,eO P A ds vs=LR P ds w k
 | [],vs,k,_=>⟨fun _=>.bh,by cases vs <;> rfl⟩
 | d::ds,[],k,h=>by simp [eO,df] at h
 | d::ds,v::vs,k,h=>by
  simp only [eO,df,ao] at h;obtain ⟨w,hw⟩:=ad9 h.1;obtain ⟨w',hw'⟩:=XO (k+1) h.2;refine ⟨fun i=>if i=k then w else w' i,?_⟩;rw [eO,LR,hw,hw',aD rfl];rw [VV (w:=w') (w':=fun i=>if i=k then w else w' i) fun i hi=>by rw [aa (by omega)]]
theorem alv {P:Program} {A:ae} {d:VD} {v:KV} (h:zO d (yN P A d v)=true):∃ w,yN P A d v=afo P d w:=by
 have Ch:=Bq h;rcases Br h with ⟨cs,rfl,h1,h2,h3⟩ | ⟨h0,c,h1,h2,h3,h4,h5⟩
 ·obtain ⟨w,hw⟩:=XO 0 h3
  refine ⟨w,?_⟩;have:d.agg=true:=by
   rcases Ch with ⟨_,_,q,_⟩ | ⟨q,_⟩
   ·exact q
   ·exact absurd h2 (q _)
  rw [h2,hw,afo,this]
 ·obtain ⟨w,hw⟩:=ad9 h3
  refine ⟨fun _=>w,?_⟩;have:d.agg=false:=by
   rcases Ch with ⟨cs,q,_⟩ | ⟨_,q,_⟩
   ·rw [h2] at q; exact absurd q (h5 _)
   ·exact q
  rw [h2,hw,afo,this,h1]; rfl
theorem SI {P:Program} : ∀ {ps:List (Tmp×VD)} {w w' : Nat->Nat->KV} {k:Nat},(∀ i,k<=i->w i=w' i)->ju P ps w k=ju P ps w' k
 | [],_,_,_,_=>rfl
 | t::ts,w,w',k,h=>by
  rw [ju,ju,h k (aC _),SI fun i hi=>h i (by omega)]
theorem ab1 {P:Program} {t:bf} {A:ae} : ∀ {ps:List (Tmp×VD)} (k:Nat),eP ps (oq P t A ps)=true->∃ w,oq P t A ps=ju P ps w k
 | [],k,_=>⟨fun _ _=>.bh,rfl⟩
 | p::ps,k,h=>by
  simp only [oq,eP,ao] at h;obtain ⟨w,hw⟩:=alv h.1;obtain ⟨w',hw'⟩:=ab1 (k+1) h.2;refine ⟨fun i=>if i=k then w else w' i,?_⟩;rw [oq,ju,hw,hw',aD rfl];rw [SI (w:=w') (w':=fun i=>if i=k then w else w' i) fun i hi=>by rw [aa (by omega)]]
theorem SJ {P:Program} : ∀ {ps:List (Tmp×List CD×Nat)} {w w' : Nat->Nat->KV} {k:Nat},(∀ i,k<=i->w i=w' i)->jv P ps w k=jv P ps w' k
 | [],_,_,_,_=>rfl
 | t::ts,w,w',k,h=>by
  rw [jv,jv,h k (aC _),SJ fun i hi=>h i (by omega)]
theorem ab2 {P:Program} : ∀ {ps:List (Tmp×List CD×Nat)} {rs:List (List KV)} (k:Nat),rs.length=ps.length->(∀ (i:Nat) p r,ps[i]? = some p->rs[i]? = some r->df p.2.1 r=true)->
  (∀ (i:Nat) p,ps[i]? = some p->∃ A mg,rs[i]? = some (eO P A p.2.1 mg)/\mg.length=p.2.1.length)->∃ w,rs=jv P ps w k
 | [],[],k,_,_,_=>⟨fun _ _=>.bh,rfl⟩
 | [],_::_,_,h,_,_=>by simp at h
 | _::_,[],_,h,_,_=>by simp at h
 | p::ps,r::rs,k,hl,hg,hn=>by
  obtain ⟨A,mg,h1,_⟩:=hn 0 p rfl;simp only [List.getElem?_cons_zero,bQ] at h1;have h2:=hg 0 p r rfl rfl;rw [h1] at h2;obtain ⟨w,hw⟩:=XO 0 h2;obtain ⟨w',hw'⟩:=ab2 (ps:=ps) (rs:=rs) (k+1) (by simpa using hl) (fun i p r a b=>hg (i+1) p r (by simpa using a) (by simpa using b)) fun i p a=>by simpa using hn (i+1) p (by simpa using a)
  refine ⟨fun i=>if i=k then w else w' i,?_⟩;rw [jv,h1,hw,aD rfl];congr 1;rw [hw'];exact SJ fun i hi=>by rw [aa (by omega)]
theorem yO.form {P:Program} {S:aJ} {vs:List KV} {rs:List (List KV)} (h:yO P S vs rs):∃ wv wr,vs=ju P S.dD wv 0/\rs=jv P S.rows wr 0:=by
 obtain ⟨t,A,ht⟩:=h.vn;have hv:=h.v;rw [ht] at hv;obtain ⟨wv,hwv⟩:=ab1 0 hv;obtain ⟨wr,hwr⟩:=ab2 0 h.rV h.ua h.rn;exact ⟨wv,wr,by rw [ht,hwv],hwr⟩
inductive aW (X:Type) where
 | fail
 | next (x:X)
 | out (e:ah) (x:X)
def aW.enc {X:Type} (ev:X->List KV) (er:X->List (List KV)):aW X->Option (ah×List KV×List (List KV))
 | .fail=>.none
 | .next x=>some (.normal,ev x,er x)
 | .out e x=>some (e,ev x,er x)
theorem aW.cw {X:Type} (ev:X->List KV) (er:X->List (List KV)) (c:Bool) (a b:aW X):aW.enc ev er (cond c a b)=cond c (aW.enc ev er a) (aW.enc ev er b):=by cases c <;> rfl
def aW.go {X:Type} (step:X->aW X):Nat->X->aW X
 | 0,_=>.fail
 | n+1,x=>match step x with
  | .fail=>.fail
  | .next x=>aW.go step n x
  | .out e x=>cond (mK e) .fail (.out e x)
def zS:ah->ah->Bool
 | .normal,.normal=>true
 | .exit i,.exit j=>Nat.beq i j
 | .goto i,.goto j=>Nat.beq i j
 | .ret,.ret=>true
 | _,_=>false
theorem afp {a b:ah} (h:zS a b=true):a=b:=by
 cases a <;> cases b <;> simp [zS] at h <;> first | rfl | (subst h; rfl)
def aW.by {X:Type} (s:aW X) (e:ah):Bool:=
 match s with
 | .out e' _=>zS e' e
 | _=>false
def aW.st {X:Type} [Inhabited X] (s:aW X):X:=
 match s with
 | .out _ x=>x
 | _=>default
theorem go_iter {X:Type} {step:X->aW X} {ev:X->List KV} {er:X->List (List KV)} {rd:List KV->List (List KV)->Option (ah×List KV×List (List KV))} (h:∀ x,step x = .fail\/rd (ev x) (er x)=aW.enc ev er (step x)) :
  ∀ (n:Nat) (x:X) (e:ah) (y:X),aW.go step n x = .out e y->vN rd n (ev x) (er x)=some (e,ev y,er y)
 | 0,x,e,y,hg=>by simp [aW.go] at hg
 | n+1,x,e,y,hg=>by
  simp only [aW.go] at hg;have hx:=h x;cases hs:step x with
  | fail=>rw [hs] at hg; simp at hg
  | next x'=>
   have hx:=hx.resolve_left (by rw [hs]; simp);rw [hs] at hg hx;simp only [vN,hx,aW.enc,mK,aj];exact go_iter h n x' e y hg
  | out e' x'=>
   have hx:=hx.resolve_left (by rw [hs]; simp);rw [hs] at hg hx;simp only at hg;cases hn:mK e' with
   | true=>rw [hn] at hg; simp at hg
   | false=>
    rw [hn,aH] at hg;simp only [aW.out.injEq] at hg;obtain ⟨rfl,rfl⟩:=hg;simp only [vN,hx,aW.enc,hn,aH]
def dK {X:Type} [Inhabited X] (ev:X->List KV) (er:X->List (List KV)) (s:aW X):List ah->wV
 | []=>.no
 | e::es=>.br (s.by e) (.out e (ev s.st) (er s.st)) (dK ev er s es)
theorem Ua {X:Type} [Inhabited X] {ev:X->List KV} {er:X->List (List KV)} {s:aW X} : ∀ {es:List ah} {e:ah} {vs:List KV} {rs:List (List KV)},(dK ev er s es).ev=some (e,vs,rs)->∃ x,s = .out e x/\vs=ev x/\rs=er x
 | [],e,vs,rs,h=>by simp [dK,wV.ev] at h
 | e'::es,e,vs,rs,h=>by
  simp only [dK,wV.ev] at h;cases hb:s.by e' with
  | false=>rw [hb] at h; exact Ua h
  | true=>
   rw [hb,aj] at h;simp only [bQ,dt] at h;obtain ⟨rfl,rfl,rfl⟩:=h;cases s with
   | out e0 x=>
    have:=afp (show zS e0 e' = true from hb);subst this;exact ⟨x,rfl,rfl,rfl⟩
   | fail=>simp [aW.by] at hb
   | next x=>simp [aW.by] at hb
def goN {X:Type} (step:X->aW X) (x:X):aW X:=aW.go step gx x
theorem ab3 {P:Program} {l:Lp} {X:Type} [Inhabited X] {cfg:dF} {L n:Nat} (eW:rD P cfg.pc) (iH:vK P cfg) {step:X->aW X} {ev:X->List KV} {er:X->List (List KV)} {es:List ah} {pa:List KV->List (List KV)->X}
  (hF:∀ vs rs,l.F vs rs=dK ev er (goN step (pa vs rs)) es) (gz:∀ wv wr,ev (pa (ju P l.S.dD wv 0) (jv P l.S.rows wr 0))=ju P l.S.dD wv 0/\er (pa (ju P l.S.dD wv 0) (jv P l.S.rows wr 0))=jv P l.S.rows wr 0)
  (vd:∀ x,step x = .fail\/akv l.st P cfg L n l.f l.p (DE P l.f l.p) l.S (ev x) (er x)=aW.enc ev er (step x)):l.Ok P:=
 ⟨cfg,L,n,eW,iH,fun vs rs e b7 iI cI sD=>by
  obtain ⟨wv,wr,rfl,rfl⟩:=cI.form;obtain ⟨h1,h2⟩:=gz wv wr;rw [hF] at sD;obtain ⟨y,hy,rfl,rfl⟩:=Ua sD;have:=go_iter vd gx _ e y hy;rw [h1,h2] at this;exact this⟩
theorem alw {P:Program} {l:Lp} {X:Type} [Inhabited X] {cfg:dF} {L n:Nat} {XL q:Nat} {b:Code} (eW:rD P cfg.pc) (iH:vK P cfg) {step:X->aW X} {ev:X->List KV} {er:X->List (List KV)} {es:List ah} {pa:List KV->List (List KV)->X}
  (Kl:ML P l.f l.p=some (XL,b,q)) (hs:l.st=false) (hF:∀ vs rs,l.F vs rs=dK ev er (goN step (pa vs rs)) es) (gz:∀ wv wr,ev (pa (ju P l.S.dD wv 0) (jv P l.S.rows wr 0))=ju P l.S.dD wv 0/\er (pa (ju P l.S.dD wv 0) (jv P l.S.rows wr 0))=jv P l.S.rows wr 0)
  (vd:∀ x,step x = .fail\/RB P cfg L n l.f q b XL l.S (ev x) (er x)=aW.enc ev er (step x)):l.OkG P:=
 ⟨hs,XL,b,q,cfg,L,n,Kl,eW,iH,fun vs rs e b7 iI cI sD=>by
  obtain ⟨wv,wr,rfl,rfl⟩:=cI.form;obtain ⟨h1,h2⟩:=gz wv wr;rw [hF] at sD;obtain ⟨y,hy,rfl,rfl⟩:=Ua sD;have:=go_iter vd gx _ e y hy;rw [h1,h2] at this;exact this⟩
theorem aW.lit {X:Type} {ev:X->List KV} {er:X->List (List KV)} {R:Option (ah×List KV×List (List KV))} {k n:Int} {a b:aW X} (h:k=n->R=aW.enc ev er a) (h' : b = .fail\/R=aW.enc ev er b):cond (k==n) a b = .fail\/R=aW.enc ev er (cond (k==n) a b):=by
 cases e:k==n with
 | true=>exact .inr (h (by simpa using e))
 | false=>exact h'
theorem aff {P:Program} {arD:List KV} (h:mc P [] arD=true):arD = []:=by
 cases arD with
 | nil=>rfl
 | cons a arD=>simp [mc] at h
theorem alx {ks:List CK} {v:KV} (h:cv ⟨true,ks⟩ v=true):∃ cs,v = .agg cs/\aE ks cs=true:=by
 cases v with
 | agg cs=>exact ⟨cs,rfl,by simpa [cv] using h⟩
 | kL cs=>simp [cv] at h
 | _=>simp [cv] at h
end Go.K
end
section
namespace Go.K
open Go Go.aG
variable {P:Program} {E:Env}
theorem jb.below {base:Nat} {ρ:Ren} {B:St} {w w' : World} (hs:vu ρ B base w) (h:RowKit.Below w.heap.size w w'):jb base ρ B w ρ B w':=by
 refine ⟨⟨.FC (fun b o hg hd=>?_) hs.rel.apart hs.rel.cX,hs.jP,hD hs.size h.size,hs.IU⟩,fun _ _=>rfl,⟨h.os,h.tape,h.output,h.size,fun k hk _=>h.block k hk⟩,aC _,aC _,fun _ _ _=>rfl,fun _ _ hk=>hk⟩;obtain ⟨l,e,ok⟩:=hs.rel.obj hg hd;exact ⟨l,e,ok.dR (Ren.le_refl _) (h.block _ (ok.lt hd)) h.size⟩
theorem ahf {g:FuncId} {F:List KV->KR KV} (hc:x9 P g)
  (h:∀ args v (E:Env) (A:ae) (B:St) (ρ:Ren) (base:Nat) (w:World) (dY:List Value),aI (F (normArgs P (bT P g) args)) v->args.length=(bT P g).length->rU P E ρ args dY->KJ P E A B ρ base w->
   Calls P g dY.toArray w fun e w'=>∃ v',e = .returned v'/\VC P E ρ v v'/\RowKit.Below w.heap.size w w'):bB P g F:=
 fun args v hF hlen=>⟨hc,fun E A B ρ base w dY hv hj=>(h args v E A B ρ base w dY hF hlen hv hj).mono fun _ _ ⟨v',h1,h2,h3⟩=>
  ⟨v',E,B,ρ,h1,h2,hj.k,jb.below hj.s h3,Env.le_refl _,aC _,fun _ _ _ _=>rfl,fun _ _ h=>.inl h,fun _ _ h=>.inl h,fun _ _ h=>.inl ⟨_,h⟩,fun _ _ _ _=>rfl,fun _ h=>.inl h,fun _ h=>.inl h,fun _ _ h=>.inl h,fun _ h=>.inl h,fun _ _ cs _ _ _ h=>⟨cs,h,rfl⟩,fun _ h=>h⟩⟩
end Go.K
end
section
namespace Go.K
open Go Go.aG
structure Sl (α:Type) where
 n:Nat
 get:Nat->α
instance {α:Type} [Inhabited α] : Inhabited (Sl α):=⟨⟨0,fun _=>default⟩⟩
def dq {α:Type} (T:TypeId) (k:α->KV) (s:Sl α):KV:=.ts T .any s.n ((List.range s.n).map fun i=>k (s.get i)) (fun i=>k (s.get i))
def aw {α:Type} (p:KV->α) (n:Nat) (acc:Nat->KV):Sl α:=⟨n,fun i=>p (acc i)⟩
def dM {α:Type} (p:KV->α) (v:KV):Sl α:=aw p (lenOf v) (AI v)
def kI (k:IntKind) (n:Int):KV:=.int k n
def kB (b:Bool):KV:=.bool b
abbrev aK (n:Int):Int:=IntKind.wrap .i64 n
abbrev w8 (n:Int):Int:=IntKind.wrap .u8 n
abbrev w16 (n:Int):Int:=IntKind.wrap .u16 n
abbrev akB (n:Int):Int:=IntKind.wrap .u64 n
def Sl.push {α:Type} [Inhabited α] (s:Sl α) (v:α):Sl α:=⟨s.n+1,fun i=>cond (Nat.blt i s.n) (s.get i) (cond (Nat.beq i s.n) v default)⟩
def Sl.join {α:Type} (s t:Sl α):Sl α:=⟨s.n+t.n,fun i=>cond (Nat.blt i s.n) (s.get i) (t.get (i - s.n))⟩
def Sl.lit {α:Type} [Inhabited α] (l:List α):Sl α:=⟨l.length,fun i=>l.getD i default⟩
theorem jR {α:Type} [Inhabited α] {p:KV->α} {k:α->KV} (h:∀ x,p (k x)=x) (hd:p .bh=default) (l:List α):aw p l.length (cY (l.map k))=Sl.lit l:=by
 unfold aw Sl.lit cY;congr 1;funext i;rw [fH,fH,pg];cases l[i]? with
 | none=>exact hd
 | some x=>exact h x
theorem fR {α:Type} [Inhabited α] {p:KV->α} {k:α->KV} (h:∀ x,p (k x)=x) (hd:p .bh=default) (s:Sl α) (v:α):aw p (s.n+1) (ax s.n (fun i=>k (s.get i)) (cY [k v]))=s.push v:=by
 unfold aw Sl.push;congr 1;funext i;unfold ax;cases hb:Nat.blt i s.n with
 | true=>exact h _
 | false=>
  have hi:s.n<=i:=by
   cases Nat.lt_or_ge i s.n with
   | inl h=>rw [<- bI,hb] at h; simp at h
   | inr h=>exact h
  rw [aH,aH];cases hq:Nat.beq i s.n with
  | true=>
   have:=aL hq;subst this;rw [Nat.sub_self,aj];exact h v
  | false=>
   have cD:i≠s.n:=fun e=>by rw [e,tT] at hq; simp at hq
   rw [aH];obtain ⟨j,hj⟩:∃ j,i - s.n=j+1:=⟨i - s.n - 1,by omega⟩
   rw [hj];exact hd
theorem gW {α:Type} {p:KV->α} {k:α->KV} (h:∀ x,p (k x)=x) (s t:Sl α):aw p (s.n+t.n) (ax s.n (fun i=>k (s.get i)) (fun i=>k (t.get i)))=s.join t:=by
 unfold aw Sl.join;congr 1;funext i;unfold ax;cases Nat.blt i s.n <;> exact h _
def Sl.set {α:Type} (s:Sl α) (i:Nat) (v:α):Sl α:=⟨s.n,fun j=>cond (Nat.beq j i) v (s.get j)⟩
def Sl.qZ {α:Type} (s:Sl α) (o k:Nat) (t:Sl α):Sl α:=⟨s.n,fun j=>cond (Nat.blt j o) (s.get j) (cond (Nat.blt j (o+k)) (t.get (j - o)) (s.get j))⟩
theorem jS {α:Type} {p:KV->α} {k:α->KV} (h:∀ x,p (k x)=x) (s:Sl α) (i:Nat) (v:α):aw p s.n (bR (fun j=>k (s.get j)) i (k v))=s.set i v:=by
 unfold aw Sl.set;congr 1;funext j;unfold bR;cases Nat.beq j i <;> exact h _
theorem fP {α:Type} {p:KV->α} {k:α->KV} (h:∀ x,p (k x)=x) (s t:Sl α) (o m:Nat):aw p s.n (aB o m (fun j=>k (s.get j)) (fun j=>k (t.get j)))=s.qZ o m t:=by
 unfold aw Sl.qZ;congr 1;funext j;unfold aB;cases Nat.blt j o with
 | true=>exact h _
 | false=>cases Nat.blt j (o+m) <;> exact h _
theorem kh {α:Type} {p:KV->α} {k:α->KV} (h:∀ x,p (k x)=x) (m n n' : Nat) (acc ay:Nat->KV):aw p m (ax n (fun i=>k ((aw p n' acc).get i)) ay)=aw p m (ax n acc ay):=by
 unfold aw;congr 1;funext i;unfold ax;cases Nat.blt i n with
 | true=>exact h _
 | false=>rfl
theorem ki {α:Type} {p:KV->α} {k:α->KV} (h:∀ x,p (k x)=x) (m n n' : Nat) (acc ay:Nat->KV):aw p m (ax n acc (fun i=>k ((aw p n' ay).get i)))=aw p m (ax n acc ay):=by
 unfold aw;congr 1;funext i;unfold ax;cases Nat.blt i n with
 | true=>rfl
 | false=>exact h _
theorem kl {α:Type} {p:KV->α} {k:α->KV} (h:∀ x,p (k x)=x) (m n' i:Nat) (acc:Nat->KV) (v:KV):aw p m (bR (fun j=>k ((aw p n' acc).get j)) i v)=aw p m (bR acc i v):=by
 unfold aw;congr 1;funext j;unfold bR;cases Nat.beq j i with
 | true=>rfl
 | false=>exact h _
theorem kU {α:Type} {p:KV->α} {k:α->KV} (h:∀ x,p (k x)=x) (n n' o m:Nat) (acc ay:Nat->KV):aw p n (aB o m (fun j=>k ((aw p n' acc).get j)) ay)=aw p n (aB o m acc ay):=by
 unfold aw;congr 1;funext j;unfold aB;cases Nat.blt j o with
 | true=>exact h _
 | false=>
  cases Nat.blt j (o+m) with
  | true=>rfl
  | false=>exact h _
theorem kV {α:Type} {p:KV->α} {k:α->KV} (h:∀ x,p (k x)=x) (n n' o m:Nat) (acc ay:Nat->KV):aw p n (aB o m acc (fun j=>k ((aw p n' ay).get j)))=aw p n (aB o m acc ay):=by
 unfold aw;congr 1;funext j;unfold aB;cases Nat.blt j o with
 | true=>rfl
 | false=>
  cases Nat.blt j (o+m) with
  | true=>exact h _
  | false=>rfl
theorem vO (m n n' : Nat) (acc ay:Nat->KV):aw (fun v=>aq (v.cells.getD 0 .bh)) m (ax n (fun i=>kI .i64 ((aw (fun v=>aq (v.cells.getD 0 .bh)) n' acc).get i)) ay)=aw (fun v=>aq (v.cells.getD 0 .bh)) m (ax n acc ay):=kh (k:=kI .i64) (fun _=>rfl) ..
theorem xF (m n n' : Nat) (acc ay:Nat->KV):aw (fun v=>aq (v.cells.getD 0 .bh)) m (ax n acc (fun i=>kI .i64 ((aw (fun v=>aq (v.cells.getD 0 .bh)) n' ay).get i)))=aw (fun v=>aq (v.cells.getD 0 .bh)) m (ax n acc ay):=ki (k:=kI .i64) (fun _=>rfl) ..
theorem xG (m n' i:Nat) (acc:Nat->KV) (v:KV):aw (fun v=>aq (v.cells.getD 0 .bh)) m (bR (fun j=>kI .i64 ((aw (fun v=>aq (v.cells.getD 0 .bh)) n' acc).get j)) i v)=aw (fun v=>aq (v.cells.getD 0 .bh)) m (bR acc i v):=kl (k:=kI .i64) (fun _=>rfl) ..
theorem xH (n n' o m:Nat) (acc ay:Nat->KV):aw (fun v=>aq (v.cells.getD 0 .bh)) n (aB o m (fun j=>kI .i64 ((aw (fun v=>aq (v.cells.getD 0 .bh)) n' acc).get j)) ay)=aw (fun v=>aq (v.cells.getD 0 .bh)) n (aB o m acc ay):=kU (k:=kI .i64) (fun _=>rfl) ..
theorem xI (n n' o m:Nat) (acc ay:Nat->KV):aw (fun v=>aq (v.cells.getD 0 .bh)) n (aB o m acc (fun j=>kI .i64 ((aw (fun v=>aq (v.cells.getD 0 .bh)) n' ay).get j)))=aw (fun v=>aq (v.cells.getD 0 .bh)) n (aB o m acc ay):=kV (k:=kI .i64) (fun _=>rfl) ..
theorem um (s:Sl Int) (i:Nat) (v:Int):s.set i v=aw (fun v=>aq (v.cells.getD 0 .bh)) s.n (bR (fun j=>kI .i64 (s.get j)) i (kI .i64 v)):=(jS (k:=kI .i64) (fun _=>rfl) s i v).symm
theorem sI (s:Sl Bool) (i:Nat) (v:Bool):s.set i v=aw (fun v=>eL (v.cells.getD 0 .bh)) s.n (bR (fun j=>kB (s.get j)) i (kB v)):=(jS (k:=kB) (fun _=>rfl) s i v).symm
theorem pz (s t:Sl Int) (o m:Nat):s.qZ o m t=aw (fun v=>aq (v.cells.getD 0 .bh)) s.n (aB o m (fun j=>kI .i64 (s.get j)) (fun j=>kI .i64 (t.get j))):=(fP (k:=kI .i64) (fun _=>rfl) s t o m).symm
theorem mT (s t:Sl Bool) (o m:Nat):s.qZ o m t=aw (fun v=>eL (v.cells.getD 0 .bh)) s.n (aB o m (fun j=>kB (s.get j)) (fun j=>kB (t.get j))):=(fP (k:=kB) (fun _=>rfl) s t o m).symm
theorem rK (s:Sl Int) (v:Int):s.push v=aw (fun v=>aq (v.cells.getD 0 .bh)) (s.n+1) (ax s.n (fun i=>kI .i64 (s.get i)) (cY [kI .i64 v])):=(fR (fun _=>rfl) rfl s v).symm
theorem rL (s t:Sl Int):s.join t=aw (fun v=>aq (v.cells.getD 0 .bh)) (s.n+t.n) (ax s.n (fun i=>kI .i64 (s.get i)) (fun i=>kI .i64 (t.get i))):=(gW (fun _=>rfl) s t).symm
theorem uo (l:List Int):Sl.lit l=aw (fun v=>aq (v.cells.getD 0 .bh)) l.length (cY (l.map (kI .i64))):=(jR (fun _=>rfl) rfl l).symm
theorem sJ (l:List Bool):Sl.lit l=aw (fun v=>eL (v.cells.getD 0 .bh)) l.length (cY (l.map kB)):=(jR (fun _=>rfl) rfl l).symm
theorem pA (s:Sl Bool) (v:Bool):s.push v=aw (fun v=>eL (v.cells.getD 0 .bh)) (s.n+1) (ax s.n (fun i=>kB (s.get i)) (cY [kB v])):=(fR (fun _=>rfl) rfl s v).symm
theorem pB (s t:Sl Bool):s.join t=aw (fun v=>eL (v.cells.getD 0 .bh)) (s.n+t.n) (ax s.n (fun i=>kB (s.get i)) (fun i=>kB (t.get i))):=(gW (fun _=>rfl) s t).symm
theorem bG {α β:Type} (f:α->β) (c:Bool) (a b:Option α):Option.map f (cond c a b)=cond c (Option.map f a) (Option.map f b):=by cases c <;> rfl
def ai (P:Program) (ps:List (Nat×(List KV->KR KV))):Prop:=∀ p∈ps,bB P p.1 p.2
theorem ai.nil {P:Program} : ai P []:=fun p hp=>by simp at hp
theorem ai.cons {P:Program} {g:Nat} {F:List KV->KR KV} {ps:List (Nat×(List KV->KR KV))} (h:bB P g F) (t:ai P ps):ai P ((g,F)::ps):=fun p hp=>by
 rcases de.1 hp with rfl | hp
 ·exact h
 ·exact t p hp
theorem ai.pc {P:Program} {ps:List (Nat×(List KV->KR KV))} (h:ai P ps):rD P (ad8 ps):=akA h
def bj (P:Program) (ls:List Lp):Prop:=∀ l∈ls,l.aiW P
theorem bj.nil {P:Program} : bj P []:=fun p hp=>by simp at hp
theorem bj.cons {P:Program} {l:Lp} {ls:List Lp} (h:l.Ok P) (h' : Jt P l.f l.p=true) (t:bj P ls):bj P (l::ls):=fun p hp=>by
 rcases de.1 hp with rfl | hp
 ·exact .inl ⟨h,h'⟩
 ·exact t p hp
theorem bj.apM {P:Program} {l:Lp} {ls:List Lp} (h:l.OkG P) (t:bj P ls):bj P (l::ls):=fun p hp=>by
 rcases de.1 hp with rfl | hp
 ·exact .inr h
 ·exact t p hp
def E7 (P:Program) (fs:List Fc):Prop:=∀ c∈fs,c.Ok P
theorem E7.nil {P:Program} : E7 P []:=fun p hp=>by simp at hp
noncomputable def ra (P:Program) (ps:List (Nat×(List KV->KR KV))) (ls:List Lp) (mt:TypeId->Bool:=fun _=>false) (fz:Bool:=false) (eg:Bool:=false) (fs:List Fc:=[]):dF:=⟨ad8 ps,VO P ls,⟨ad6 P fs,mt,fz,eg⟩⟩
noncomputable def bO {R:Type} [Inhabited R] (k:R->KV) (r:List KV->Option R):List KV->KR KV:=fun arD=>.jQ (r arD).isSome (k ((r arD).getD default))
theorem Qm {P:Program} {R:Type} [Inhabited R] {k:R->KV} {r:List KV->Option R} {g:FuncId} (hP:P.funcs.toList.all kG=true) (hm:P.follows .mixedOrders=true) {ps:List (Nat×(List KV->KR KV))} {ls:List Lp} (eW:ai P ps) (iH:bj P ls) {L n:Nat} {mt:TypeId->Bool} {fz eg:Bool} {fs:List Fc}
  (h:∀ w,EN P (ra P ps ls mt fz eg fs) L n g (uM P (bT P g) w 0)=(r (uM P (bT P g) w 0)).map k) (hy:Nat.blt g yB=true:=by rfl) (ZG:E7 P fs:=by exact E7.nil):bB P g (bC P g (bO k r)):=
 anc (cfg:=ra P ps ls mt fz eg fs) hP hm eW.pc (RC hP hm (RD hP hm ZG) iH) (hy:=hy) fun w v hv=>by
  obtain ⟨h1,h2⟩:=aI.jQ hv;rw [h w];cases hr:r (uM P (bT P g) w 0) with
  | none=>rw [hr] at h1; simp at h1
  | some x=>rw [hr] at h2; rw [<- h2]; rfl
theorem ahg {P:Program} {l:Lp} {X:Type} [Inhabited X] (hP:P.funcs.toList.all kG=true) (hm:P.follows .mixedOrders=true) {ps:List (Nat×(List KV->KR KV))} {ls:List Lp} (eW:ai P ps) (iH:bj P ls) {L n:Nat} {mt:TypeId->Bool} {fz eg:Bool} {fs:List Fc} {step:X->aW X} {ev:X->List KV} {er:X->List (List KV)} {es:List ah} {pa:List KV->List (List KV)->X}
  (hF:l.F=fun vs rs=>dK ev er (goN step (pa vs rs)) es) (gz:∀ wv wr,ev (pa (ju P l.S.dD wv 0) (jv P l.S.rows wr 0))=ju P l.S.dD wv 0/\er (pa (ju P l.S.dD wv 0) (jv P l.S.rows wr 0))=jv P l.S.rows wr 0)
  (vd:∀ x,FJ P (ra P ps ls mt fz eg fs) L n l.f l.p (DE P l.f l.p) l.S (ev x) (er x)=aW.enc ev er (step x)) (ZG:E7 P fs:=by exact E7.nil) (hs:l.st=false:=by rfl):l.Ok P:=
 ab3 (cfg:=ra P ps ls mt fz eg fs) eW.pc (RC hP hm (RD hP hm ZG) iH) (fun _ _=>by rw [hF]) gz (fun x=>.inr (by rw [hs]; exact vd x))
theorem VW {P:Program} {l:Lp} {X:Type} [Inhabited X] (hP:P.funcs.toList.all kG=true) (hm:P.follows .mixedOrders=true) {ps:List (Nat×(List KV->KR KV))} {ls:List Lp} (eW:ai P ps) (iH:bj P ls) {L n:Nat} {mt:TypeId->Bool} {fz eg:Bool} {fs:List Fc} {step:X->aW X} {ev:X->List KV} {er:X->List (List KV)} {es:List ah} {pa:List KV->List (List KV)->X}
  (hF:l.F=fun vs rs=>dK ev er (goN step (pa vs rs)) es) (gz:∀ wv wr,ev (pa (ju P l.S.dD wv 0) (jv P l.S.rows wr 0))=ju P l.S.dD wv 0/\er (pa (ju P l.S.dD wv 0) (jv P l.S.rows wr 0))=jv P l.S.rows wr 0)
  (vd:∀ x,step x = .fail\/FJ P (ra P ps ls mt fz eg fs) L n l.f l.p (DE P l.f l.p) l.S (ev x) (er x)=aW.enc ev er (step x)) (ZG:E7 P fs:=by exact E7.nil) (hs:l.st=false:=by rfl):l.Ok P:=
 ab3 (cfg:=ra P ps ls mt fz eg fs) eW.pc (RC hP hm (RD hP hm ZG) iH) (fun _ _=>by rw [hF]) gz (fun x=>by rw [hs]; exact vd x)
noncomputable def VX (P:Program) (f p:Nat):Nat×Code×Nat:=(ML P f p).getD (0,.skip,0)
noncomputable def afq (P:Program) (cfg:dF) (L n:Nat) (f p:Nat) (S:aJ) (vs:List KV) (rs:List (List KV)):Option (ah×List KV×List (List KV)):=
 RB P cfg L n f (VX P f p).2.2 (VX P f p).2.1 (VX P f p).1 S vs rs
theorem afr {P:Program} {l:Lp} {X:Type} [Inhabited X] (hP:P.funcs.toList.all kG=true) (hm:P.follows .mixedOrders=true) {ps:List (Nat×(List KV->KR KV))} {ls:List Lp} (eW:ai P ps) (iH:bj P ls) {L n:Nat} {mt:TypeId->Bool} {fz eg:Bool} {fs:List Fc} {step:X->aW X} {ev:X->List KV} {er:X->List (List KV)} {es:List ah} {pa:List KV->List (List KV)->X}
  (hF:l.F=fun vs rs=>dK ev er (goN step (pa vs rs)) es) (gz:∀ wv wr,ev (pa (ju P l.S.dD wv 0) (jv P l.S.rows wr 0))=ju P l.S.dD wv 0/\er (pa (ju P l.S.dD wv 0) (jv P l.S.rows wr 0))=jv P l.S.rows wr 0)
  (vd:∀ x,afq P (ra P ps ls mt fz eg fs) L n l.f l.p l.S (ev x) (er x)=aW.enc ev er (step x)) (Kl:(ML P l.f l.p).isSome=true:=by kernel_rfl) (ZG:E7 P fs:=by exact E7.nil) (hs:l.st=false:=by rfl):l.OkG P:=by
 obtain ⟨⟨XL,b,q⟩,hx⟩:=Q8.1 Kl;refine alw (cfg:=ra P ps ls mt fz eg fs) (L:=L) (n:=n) eW.pc (RC hP hm (RD hP hm ZG) iH) hx hs (fun _ _=>by rw [hF]) gz (fun x=>.inr ?_);have:=vd x;unfold afq VX at this;rw [hx] at this;exact this
theorem afs {P:Program} {l:Lp} {X:Type} [Inhabited X] (hP:P.funcs.toList.all kG=true) (hm:P.follows .mixedOrders=true) {ps:List (Nat×(List KV->KR KV))} {ls:List Lp} (eW:ai P ps) (iH:bj P ls) {L n:Nat} {mt:TypeId->Bool} {fz eg:Bool} {fs:List Fc} {step:X->aW X} {ev:X->List KV} {er:X->List (List KV)} {es:List ah} {pa:List KV->List (List KV)->X}
  (hF:l.F=fun vs rs=>dK ev er (goN step (pa vs rs)) es) (gz:∀ wv wr,ev (pa (ju P l.S.dD wv 0) (jv P l.S.rows wr 0))=ju P l.S.dD wv 0/\er (pa (ju P l.S.dD wv 0) (jv P l.S.rows wr 0))=jv P l.S.rows wr 0)
  (vd:∀ x,N6 P (ra P ps ls mt fz eg fs) L n l.f l.p (DE P l.f l.p) l.S (ev x) (er x)=aW.enc ev er (step x)) (ZG:E7 P fs:=by exact E7.nil) (hs:l.st=true:=by rfl):l.Ok P:=
 ab3 (cfg:=ra P ps ls mt fz eg fs) eW.pc (RC hP hm (RD hP hm ZG) iH) (fun _ _=>by rw [hF]) gz (fun x=>.inr (by rw [hs]; exact vd x))
end Go.K
end
section
set_option maxRecDepth 20000
namespace Go.Proofs.Ytckbdndhmcoihaa.nodes
open Go Go.RowKit Go.Lib
abbrev hv (x:Int×Int):Value:=.agg #[.int .i64 x.1,.int .i64 x.2]
theorem zT:Try.prog.follows .mixedOrders=true:=by kernel_rfl
theorem apN (x y:Int×Int) (w:World):(Op.equal 32 (hv x) (hv y)).run Try.prog w = .ok (decide (x=y)) w:=by
 obtain ⟨s,g⟩:=x;obtain ⟨s',g'⟩:=y;have e:decide ((s,g)=(s',g'))=(s==s'&&g==g'):=by
  rw [Bool.eq_iff_iff];simp
 rw [e];have h:=K.PR (P:=Try.prog) (E:=⟨fun _=>none,fun _=>none,fun _=>none,fun _=>none⟩) 12 10000 32 ⟨true,[.int .i64,.int .i64]⟩ [.int .i64 s,.int .i64 g] [.int .i64 s',.int .i64 g'] [.int .i64 s,.int .i64 g] [.int .i64 s',.int .i64 g'] ((s==s')&&((g==g')&&true))
  (by kernel_rfl) (by kernel_rfl) (by omega) (.cons .mkInt (.cons .mkInt .nil)) (.cons .mkInt (.cons .mkInt .nil)) rfl rfl rfl
 rw [Fv] at h;exact aG.fI h w
def VY (es:Array MapEntry) (S:List (Int×Int)):Prop:=es.toList.map (·.key)=S.map hv/\∀ e∈es.toList,e.val = .bool true
theorem ahh (k:Int×Int) (w:World):∀ (l:List MapEntry) (S:List (Int×Int)) (i:Nat),l.map (·.key)=S.map hv->(∀ e∈l,e.val = .bool true)->
  ∃ r,(Instr.findAsking 32 (hv k) l i).run Try.prog w = .ok r w/\(k∈S->∃ j,r=some (i+j,.bool true)/\j < l.length/\l[j]?.map (·.key)=some (hv k))/\(k ∉ S->r=none)
 | [],[],i,_,_=>⟨none,rfl,fun h=>by simp at h,fun _=>rfl⟩
 | [],_::_,_,h,_=>by simp at h
 | _::_,[],_,h,_=>by simp at h
 | e::l,x::S,i,h,hb=>by
  simp only [List.map_cons,List.cons.injEq] at h;obtain ⟨r,h1,h2,h3⟩:=ahh k w l S (i+1) h.2 (fun e' he=>hb e' (r7 _ he));have he:=apN k x w;rw [<- h.1] at he;by_cases hx:k=x
  ·rw [au hx] at he
   refine ⟨some (i,.bool true),?_,fun _=>⟨0,rfl,by simp,by simp [h.1,hx]⟩,fun hn=>absurd (by rw [hx]; exact Q9 ..) hn⟩;have RP:=hb e (Q9 ..);simp [Instr.findAsking,he,RP]
  ·rw [aZ hx] at he
   refine ⟨r,?_,fun hm=>?_,fun hn=>h3 fun q=>hn (r7 _ q)⟩
   ·simp only [Instr.findAsking,Sem.run_bind,he,ir]
    exact h1
   ·obtain ⟨j,q1,q2,q3⟩:=h2 ((de.1 hm).resolve_left hx)
    exact ⟨j+1,by rw [q1]; congr 2; omega,by simp; omega,by simpa using q3⟩
theorem aea (b:Bool) (k:Int×Int) (w:World):(Instr.checkKey b 10000 32 (hv k)).run Try.prog w = .ok () w:=by
 have h:aG.cO Try.prog (Instr.checkKey b 10000 32 (hv k))=some ():=by cases b <;> kernel_rfl
 exact aG.fI h w
theorem Zg (k:Int×Int) (w:World) {es:Array MapEntry} {S:List (Int×Int)} (h:VY es S) :
  ∃ r,(Instr.findKey 32 (hv k) es.toList).run Try.prog w = .ok r w/\(k∈S->∃ j,r=some (j,.bool true))/\(k ∉ S->r=none):=by
 obtain ⟨r,h1,h2,h3⟩:=ahh k w es.toList S 0 h.1 h.2;have u32:=run_underlying Try.underlying32;unfold Instr.findKey;cases hl:es.toList with
 | nil=>
  rw [hl] at h1;refine ⟨none,?_,fun hk=>?_,fun _=>rfl⟩
  ·simp only [Sem.run_bind,u32,ir,Instr.findNow]
   rfl
  ·have:=h.1
   rw [hl] at this;have:S = []:=by simpa using this.symm
   rw [this] at hk;simp at hk
 | cons e l=>
  rw [hl] at h1;refine ⟨r,?_,fun hk=>?_,h3⟩
  ·have hn:∀ fs i,Instr.findNow (.struct fs) (hv k) (e::l) i=none:=fun fs i=>by
    unfold Instr.findNow;have:∀ v,Instr.sameNow (.struct fs) (hv k) v=none:=fun v=>by cases v <;> rfl
    rw [this]
   simp only [Sem.run_bind,u32,ir,hn];exact h1
  ·obtain ⟨j,q,_⟩:=h2 hk
   exact ⟨0+j,q⟩
theorem aly {W:World} {mb:Nat} {es:Array MapEntry} {clock:Nat} {S:List (Int×Int)} (hm:W.heap[mb]? = some (.map es clock)) (h:VY es S) (k:Int×Int) :
  (Instr.lookup 172 (.map (some mb)) (hv k) false).run Try.prog W = .ok (.bool (decide (k∈S))) W:=by
 obtain ⟨r,h1,h2,h3⟩:=Zg k W h;have SK:=run_underlying Try.underlying172;have v4:=Try.zeroValue4;unfold Instr.lookup;simp only [Sem.run_bind,SK,ir,MapKept.run_getObj_map hm,Sem.run_pure,aea,h1];by_cases hk:k∈S
 ·obtain ⟨j,rfl⟩:=h2 hk
  rw [au hk];rfl
 ·rw [h3 hk,aZ hk]
  simp only [Sem.run_bind,v4,ir,Sem.run_pure];rfl
def put (W:World) (mb:Nat) (o:Obj):World:={ W with heap:=W.heap.setIfInBounds mb o }
theorem ang {W:World} {mb:Nat} {es:Array MapEntry} {clock:Nat} {S:List (Int×Int)} (hm:W.heap[mb]? = some (.map es clock)) (h:VY es S) (k:Int×Int) (hk:k ∉ S) :
  (Instr.mapUpdate 172 (.map (some mb)) (hv k) (.bool true)).run Try.prog W = .ok () (put W mb (.map (es.push ⟨hv k,.bool true,clock⟩) (clock+1))):=by
 obtain ⟨r,h1,h2,h3⟩:=Zg k W h;have SK:=run_underlying Try.underlying172;unfold Instr.mapUpdate;simp only [Sem.run_bind,SK,ir,MapKept.run_getObj_map hm,Sem.run_pure,aea,h1,h3 hk];exact MapKept.run_setObj_map _ hm
theorem aiZ {es:Array MapEntry} {S:List (Int×Int)} (h:VY es S) (k:Int×Int) (c:Nat):VY (es.push ⟨hv k,.bool true,c⟩) (S++[k]):=by
 refine ⟨?_,fun e he=>?_⟩
 ·rw [Array.toList_push,Fu,Fu,h.1]; rfl
 ·rw [Array.toList_push] at he
  rcases jM.1 he with he | he
  ·exact h.2 e he
  ·rw [List.mem_singleton.1 he]
theorem aeb:VY #[] []:=⟨rfl,fun e he=>by simp at he⟩
theorem aad {W:World} {mb:Nat} {o o' : Obj} (h:W.heap[mb]? = some o'):(put W mb o).heap[mb]? = some o:=by
 have bm:mb < W.heap.size:=(r8.1 h).1;unfold put;simp [Array.getElem?_setIfInBounds,bm]
theorem aae {W:World} {mb k:Nat} {o:Obj} (h:k≠mb):(put W mb o).heap[k]? = W.heap[k]?:=by
 unfold put;simp [Array.getElem?_setIfInBounds,Ne.symm h]
theorem XP {W:World} {mb:Nat} {o:Obj} : (put W mb o).heap.size=W.heap.size:=by
 unfold put;simp
end Go.Proofs.Ytckbdndhmcoihaa.nodes
end
section
set_option maxRecDepth 20000
namespace Go.Proofs.Ytckbdndhmcoihaa.nodes
open Go Go.RowKit Go.Lib Go.Shelf
set_option maxHeartbeats 4000000 in
theorem aol (g:Nat) (lb:Array Value) (eg:∀ args w,(callFunc g args).run Try.prog w = .ok (.enter g args) w) (a:Option Addr) (n c:Nat) (x:Nat->Int×Int) (I:Nat->World->Prop) (T:World->Prop) (apa:n<=1000000)
  (fv:∀ W kk,kk < n->I kk W->∃ b off,a=some ⟨b,off,none⟩/\W.cell? ⟨b,off+kk * 2,none⟩=some (.int .i64 (x kk).1)/\W.cell? ⟨b,off+kk * 2+1,none⟩=some (.int .i64 (x kk).2))
  (y8:∀ kk W,kk < n->I kk W->Calls Try.prog g (#[hv (x kk)]++lb) W fun e W'=>e = .returned (.bool true)/\T W'\/e = .returned (.bool false)/\I (kk+1) W')
  (w:World) (h0:I 0 w):Calls Try.prog 91 #[.slice a n c,.func (.func g) #[] lb] w fun e W'=>(∃ kk:Nat,kk < n/\e = .returned (.int .i64 kk)/\T W')\/e = .returned (.int .i64 (-1))/\I n W':=by
 have mixed:=zT;have t32:=Try.underlying32; have a32:=Try.isAgg32; have z32:=Try.sizeOf32; have v32:=Try.zeroValue32; have u32:=run_underlying Try.underlying32;have t35:=Try.underlying47; have a35:=Try.isAgg47; have z35:=Try.sizeOf47; have v35:=Try.zeroValue47; have u35:=run_underlying Try.underlying47;have t3:=Try.underlying3; have a3:=Try.isAgg3; have z3:=Try.sizeOf3; have v3:=Try.zeroValue3; have u3:=run_underlying Try.underlying3
 go_enter Try.func91,Try.ntmps91
 go_wp2
 go_loopg [5,8] n (fun gg _ s8 wr=>∃ kk:Nat,kk<=n/\n - kk<=gg/\s8 = .int .i64 kk/\Aside (I kk wr))
 case atStart=>exact ⟨0,r6 _,by omega,rfl,h0⟩
 case round=>
  obtain ⟨kk,hkk,hg,rfl,BW⟩:=hrel;by_cases bm:kk < n
  ·have ahi:(kk:Int) < (n:Int):=by omega
   obtain ⟨b,off,ea,l1,l2⟩:=fv wr kk bm BW.out;subst ea;have hc:=y8 kk wr bm BW.out;clear fv y8;generalize hy:x kk=y at l1 l2 hc;clear hy
   go_wp2_with (go_at_fn g; refine hc.mono ?_; rintro e w' (⟨rfl,VH⟩ | ⟨rfl,VH⟩))
   ·go_wp2
    go_ret
    exact .inl ⟨kk,bm,rfl,VH⟩
   ·go_wp2
    go_roundg (n - (kk+1))
    case measure=>omega
    case rel=>exact ⟨kk+1,by omega,by omega,by go_num,VH⟩
  ·have ahi : ¬ (kk:Int) < (n:Int):=by omega
   have:kk=n:=by omega
   subst this
   go_wp2
   go_ret
   exact .inr ⟨rfl,BW.out⟩
set_option maxHeartbeats 4000000 in
theorem Ub (g:Nat) (lb:Array Value) (eg:∀ args w,(callFunc g args).run Try.prog w = .ok (.enter g args) w) (a:Option Addr) (n c:Nat) (x:Nat->Int×Int) (I:Nat->World->Prop) (T:World->Prop) (apa:n<=1000000)
  (fv:∀ W kk,kk < n->I kk W->∃ b off,a=some ⟨b,off,none⟩/\W.cell? ⟨b,off+kk * 2,none⟩=some (.int .i64 (x kk).1)/\W.cell? ⟨b,off+kk * 2+1,none⟩=some (.int .i64 (x kk).2))
  (y8:∀ kk W,kk < n->I kk W->Calls Try.prog g (#[hv (x kk)]++lb) W fun e W'=>e = .returned (.bool true)/\T W'\/e = .returned (.bool false)/\I (kk+1) W')
  (w:World) (h0:I 0 w):Calls Try.prog 72 #[.slice a n c,.func (.func g) #[] lb] w fun e W'=>∃ r,e = .returned (.bool r)/\(r=true/\T W'\/r=false/\I n W'):=by
 have mixed:=zT;have t35:=Try.underlying47; have a35:=Try.isAgg47; have z35:=Try.sizeOf47; have v35:=Try.zeroValue47; have u35:=run_underlying Try.underlying47;have t3:=Try.underlying3; have a3:=Try.isAgg3; have z3:=Try.sizeOf3; have v3:=Try.zeroValue3; have u3:=run_underlying Try.underlying3;have hI:=aol g lb eg a n c x I T apa fv y8 w h0
 go_enter Try.func72,Try.ntmps72
 go_wp2_with (go_at_call 91; refine hI.mono ?_; rintro e w' (⟨kk,hk,rfl,VH⟩ | ⟨rfl,VH⟩))
 ·go_wp2
  go_ret
  exact ⟨true,by congr 2,.inl ⟨rfl,VH⟩⟩
 ·go_wp2
  go_ret
  exact ⟨false,by congr 2,.inr ⟨rfl,VH⟩⟩
structure G where
 sa:Option Addr
 sn:Nat
 sc:Nat
 ka:Option Addr
 kn:Nat
 kc:Nat
 ia:Nat->Option Addr
 im:Nat->Nat
 ic:Nat->Nat
 dW:Nat->Nat->Int×Int
structure GAt (q:G) (B:Nat) (W:World):Prop where
 kids:∀ i,i < q.kn->∃ b off,q.ka=some ⟨b,off,none⟩/\b < B/\W.cell? ⟨b,off+i,none⟩=some (.slice (q.ia i) (q.im i) (q.ic i))
 small:∀ i,i < q.kn->q.im i<=1000000
 row:∀ i,i < q.kn->∀ k,k < q.im i->∃ b off,q.ia i=some ⟨b,off,none⟩/\b < B/\W.cell? ⟨b,off+k * 2,none⟩=some (.int .i64 (q.dW i k).1)/\W.cell? ⟨b,off+k * 2+1,none⟩=some (.int .i64 (q.dW i k).2)
structure Kp (mb:Nat) (W W' : World):Prop where
 os:W'.os=W.os
 tape:W'.tape=W.tape
 output:W'.output=W.output
 size:W.heap.size<=W'.heap.size
 block:∀ k,k < W.heap.size->k≠mb->W'.heap[k]? = W.heap[k]?
theorem Kp.refl (mb:Nat) (W:World):Kp mb W W:=⟨rfl,rfl,rfl,aC _,fun _ _ _=>rfl⟩
theorem Kp.trans {mb:Nat} {W W' W2:World} (h:Kp mb W W') (k:Kp mb W' W2):Kp mb W W2:=
 ⟨k.os.trans h.os,k.tape.trans h.tape,k.output.trans h.output,hD h.size k.size,fun j hj hn=>(k.block j (fa hj h.size) hn).trans (h.block j hj hn)⟩
theorem Kp.below {mb B:Nat} {W W' : World} (h:Kp mb W W') (hB:B<=W.heap.size) (hm:B<=mb):Below B W W':=
 ⟨h.os,h.tape,h.output,h.size,fun k hk=>h.block k (by omega) (by omega)⟩
theorem Kp.cell {mb:Nat} {W W' : World} (h:Kp mb W W') {b j:Nat} (hb:b < W.heap.size) (hm:b≠mb):W'.cell? ⟨b,j,none⟩=W.cell? ⟨b,j,none⟩:=by
 have:=h.block b hb hm;unfold World.cell?;simp only [this]
theorem Kp.alloc {mb:Nat} (W:World) (o:Obj):Kp mb W (W.alloc o):=⟨rfl,rfl,rfl,by simp,fun k hk _=>Below.heap_alloc W o k hk⟩
theorem Kp.drew (mb:Nat) (W:World):Kp mb W W.drew:=⟨rfl,rfl,rfl,aC _,fun _ _ _=>rfl⟩
theorem Kp.put {mb:Nat} (W:World) (o:Obj):Kp mb W (put W mb o):=⟨rfl,rfl,rfl,by rw [XP]; exact aC _,fun k _ hn=>aae hn⟩
theorem GAt.dR {q:G} {B mb:Nat} {W W' : World} (h:GAt q B W) (k:Kp mb W W') (hB:B<=W.heap.size) (hm:B<=mb):GAt q B W':=by
 refine ⟨fun i hi=>?_,h.small,fun i hi j hj=>?_⟩
 ·obtain ⟨b,off,h1,h2,h3⟩:=h.kids i hi
  exact ⟨b,off,h1,h2,by rw [k.cell (by omega) (by omega)]; exact h3⟩
 ·obtain ⟨b,off,h1,h2,h3,h4⟩:=h.row i hi j hj
  exact ⟨b,off,h1,h2,by rw [k.cell (by omega) (by omega)]; exact h3,by rw [k.cell (by omega) (by omega)]; exact h4⟩
structure BZ (q:G) (B b1 b2 b3 b4 mb:Nat) (to:Int×Int) (W:World) (S:List (Int×Int)):Prop where
 g:GAt q B W
 eV:B<=W.heap.size
 l1:b1 < W.heap.size/\b1≠mb
 l2:b2 < W.heap.size/\b2≠mb
 l3:b3 < W.heap.size/\b3≠mb
 l4:b4 < W.heap.size/\b4≠mb
 m:B<=mb
 c1:W.cell? ⟨b1,0,none⟩=some (.int .i64 to.1)
 d1:W.cell? ⟨b1,1,none⟩=some (.int .i64 to.2)
 c2:W.cell? ⟨b2,0,none⟩=some (.map (some mb))
 c3:W.cell? ⟨b3,0,none⟩=some (.slice q.sa q.sn q.sc)
 d3:W.cell? ⟨b3,1,none⟩=some (.slice q.ka q.kn q.kc)
 c4:W.cell? ⟨b4,0,none⟩=some (.func (.func 92) #[] #[.pointer (some ⟨b1,0,none⟩),.pointer (some ⟨b2,0,none⟩),.pointer (some ⟨b3,0,none⟩),.pointer (some ⟨b4,0,none⟩)])
 map:∃ es clock,W.heap[mb]? = some (.map es clock)/\VY es S
 to:to ∉ S
theorem BZ.dR {q:G} {B b1 b2 b3 b4 mb:Nat} {to:Int×Int} {W W' : World} {S S' : List (Int×Int)} (h:BZ q B b1 b2 b3 b4 mb to W S) (k:Kp mb W W') (hm:∃ es clock,W'.heap[mb]? = some (.map es clock)/\VY es S') (ht:to ∉ S') :
  BZ q B b1 b2 b3 b4 mb to W' S' where
 g:=h.g.dR k h.eV h.m
 eV:=hD h.eV k.size
 l1:=⟨fa h.l1.1 k.size,h.l1.2⟩
 l2:=⟨fa h.l2.1 k.size,h.l2.2⟩
 l3:=⟨fa h.l3.1 k.size,h.l3.2⟩
 l4:=⟨fa h.l4.1 k.size,h.l4.2⟩
 m:=h.m
 c1:=(k.cell h.l1.1 h.l1.2).trans h.c1
 d1:=(k.cell h.l1.1 h.l1.2).trans h.d1
 c2:=(k.cell h.l2.1 h.l2.2).trans h.c2
 c3:=(k.cell h.l3.1 h.l3.2).trans h.c3
 d3:=(k.cell h.l3.1 h.l3.2).trans h.d3
 c4:=(k.cell h.l4.1 h.l4.2).trans h.c4
 map:=hm
 to:=ht
inductive Reach (q:G) (to:Int×Int):Int×Int->Prop where
 | here:Reach q to to
 | dW (h:Int×Int) (k:Nat) (hk:k < q.im h.1.toNat) (r:Reach q to (q.dW h.1.toNat k)):Reach q to h
structure Grow (q:G) (S:List (Int×Int)) (h:Int×Int) (S' : List (Int×Int)):Prop where
 sub:∀ x∈S,x∈S'
 is:h∈S'
 new:∀ x∈S',x∈S\/∀ k,k < q.im x.1.toNat->q.dW x.1.toNat k∈S'
theorem filter_le {S S1:List (Int×Int)} (h:∀ x∈S,x∈S1):∀ U:List (Int×Int),(U.filter fun u=>!decide (u∈S1)).length<=(U.filter fun u=>!decide (u∈S)).length
 | []=>aC _
 | u::U=>by
  have ih:=filter_le h U;by_cases h1:u∈S
  ·rw [List.filter_cons_of_neg (by simp [h u h1]),List.filter_cons_of_neg (by simp [h1])]; exact ih
  ·rw [List.filter_cons_of_pos (p:=fun u=>!decide (u∈S)) (by simp [h1])]
   by_cases h2:u∈S1
   ·rw [List.filter_cons_of_neg (by simp [h2])]; exact Nat.le_succ_of_le ih
   ·rw [List.filter_cons_of_pos (by simp [h2])]; exact Nat.succ_le_succ ih
theorem filter_lt {S S1:List (Int×Int)} (h:∀ x∈S,x∈S1) {k:Int×Int} (hk:k ∉ S) (tY:k∈S1):∀ U:List (Int×Int),k∈U->(U.filter fun u=>!decide (u∈S1)).length < (U.filter fun u=>!decide (u∈S)).length
 | [],hm=>by simp at hm
 | u::U,hm=>by
  by_cases e:k=u
  ·subst e
   rw [List.filter_cons_of_neg (by simp [tY]),List.filter_cons_of_pos (p:=fun u=>!decide (u∈S)) (by simp [hk])];exact Nat.lt_succ_of_le (filter_le h U)
  ·have ih:=filter_lt h hk tY U ((de.1 hm).resolve_left e)
   by_cases h1:u∈S
   ·rw [List.filter_cons_of_neg (by simp [h u h1]),List.filter_cons_of_neg (by simp [h1])]; exact ih
   ·rw [List.filter_cons_of_pos (p:=fun u=>!decide (u∈S)) (by simp [h1])]
    by_cases h2:u∈S1
    ·rw [List.filter_cons_of_neg (by simp [h2])]; exact Nat.lt_succ_of_lt ih
    ·rw [List.filter_cons_of_pos (by simp [h2])]; exact Nat.succ_lt_succ ih
set_option maxHeartbeats 4000000 in
theorem look (q:G) (B b1 b2 b3 b4 mb:Nat) (to:Int×Int) (U:List (Int×Int)) (hU:∀ u∈U,(0<=u.1/\u.1 < (q.kn:Int))/\∀ k,k < q.im u.1.toNat->q.dW u.1.toNat k∈U) :
  ∀ (fuel:Nat) (S:List (Int×Int)) (W:World) (h:Int×Int),h∈U->(U.filter fun u=>!decide (u∈S)).length < fuel->BZ q B b1 b2 b3 b4 mb to W S->
   Calls Try.prog 92 #[hv h,.pointer (some ⟨b1,0,none⟩),.pointer (some ⟨b2,0,none⟩),.pointer (some ⟨b3,0,none⟩),.pointer (some ⟨b4,0,none⟩)] W fun e W'=>
    ∃ S',BZ q B b1 b2 b3 b4 mb to W' S'/\Kp mb W W'/\(e = .returned (.bool true)/\Reach q to h\/e = .returned (.bool false)/\Grow q S h S'):=by
 intro fuel
 induction fuel with
 | zero=>exact fun S W h _ hf=>absurd hf (ph _)
 | succ fuel ih=>
  intro S W h hhU hf L;have mixed:=zT;have t32:=Try.underlying32; have a32:=Try.isAgg32; have z32:=Try.sizeOf32; have v32:=Try.zeroValue32; have u32:=run_underlying Try.underlying32;have t202:=Try.underlying172; have anh:=Try.isAgg172; have ani:=Try.sizeOf172; have anj:=Try.zeroValue172; have SK:=run_underlying Try.underlying172;have t200:=Try.underlying170; have apb:=Try.isAgg170; have apc:=Try.sizeOf170; have apd:=Try.zeroValue170; have ape:=run_underlying Try.underlying170;have t25:=Try.underlying25; have a25:=Try.isAgg25; have z25:=Try.sizeOf25; have v25:=Try.zeroValue25; have u25:=run_underlying Try.underlying25;have t27:=Try.underlying27; have a27:=Try.isAgg27; have z27:=Try.sizeOf27; have v27:=Try.zeroValue27; have u27:=run_underlying Try.underlying27;have t35:=Try.underlying47; have a35:=Try.isAgg47; have z35:=Try.sizeOf47; have v35:=Try.zeroValue47; have u35:=run_underlying Try.underlying47;have t3:=Try.underlying3; have a3:=Try.isAgg3; have z3:=Try.sizeOf3; have v3:=Try.zeroValue3; have u3:=run_underlying Try.underlying3;have t4:=Try.underlying4; have a4:=Try.isAgg4; have z4:=Try.sizeOf4; have v4:=Try.zeroValue4; have u4:=run_underlying Try.underlying4;obtain ⟨es,clock,ank,ahj⟩:=L.map;have apf:mb < W.heap.size:=(r8.1 ank).1;by_cases Pc:h=to
  ·subst Pc
   have KA:=Kp.alloc (mb:=mb) W (.cells #[.int .i64 h.1,.int .i64 h.2] 32);have c1:(W.alloc (.cells #[.int .i64 h.1,.int .i64 h.2] 32)).cell? ⟨b1,0,none⟩=some (.int .i64 h.1):=(KA.cell L.l1.1 L.l1.2).trans L.c1;have d1:(W.alloc (.cells #[.int .i64 h.1,.int .i64 h.2] 32)).cell? ⟨b1,1,none⟩=some (.int .i64 h.2):=(KA.cell L.l1.1 L.l1.2).trans L.d1
   go_enter Try.func92,Try.ntmps92
   go_wp2
   go_ret
   exact ⟨S,L.dR KA ⟨es,clock,by rw [Below.heap_alloc W _ mb apf]; exact ank,ahj⟩ L.to,KA,.inl ⟨rfl,.here⟩⟩
  ·have KA:=Kp.alloc (mb:=mb) W (.cells #[.int .i64 h.1,.int .i64 h.2] 32)
   obtain ⟨t1,c1,d1,apg⟩:∃ t1,(W.alloc (.cells #[.int .i64 h.1,.int .i64 h.2] 32)).cell? ⟨b1,0,none⟩=some (.int .i64 t1)/\(W.alloc (.cells #[.int .i64 h.1,.int .i64 h.2] 32)).cell? ⟨b1,1,none⟩=some (.int .i64 to.2)/\(t1=h.1/\¬ h.2=to.2\/¬ h.1=t1):=by
    refine ⟨to.1,(KA.cell L.l1.1 L.l1.2).trans L.c1,(KA.cell L.l1.1 L.l1.2).trans L.d1,?_⟩;by_cases e1:h.1=to.1
    ·exact .inl ⟨e1.symm,fun e2=>Pc (Prod.ext e1 e2)⟩
    ·exact .inr e1
   have c2:(W.alloc (.cells #[.int .i64 h.1,.int .i64 h.2] 32)).cell? ⟨b2,0,none⟩=some (.map (some mb)):=(KA.cell L.l2.1 L.l2.2).trans L.c2;have afu:(W.alloc (.cells #[.int .i64 h.1,.int .i64 h.2] 32)).heap[mb]? = some (.map es clock):=by rw [Below.heap_alloc W _ mb apf]; exact ank
   have hlk:=aly afu ahj h;by_cases hS:h∈S
   ·rw [au hS] at hlk
    have fin:∃ S',BZ q B b1 b2 b3 b4 mb to (W.alloc (.cells #[.int .i64 h.1,.int .i64 h.2] 32)) S'/\Kp mb W (W.alloc (.cells #[.int .i64 h.1,.int .i64 h.2] 32))/\Grow q S h S':=
     ⟨S,L.dR KA ⟨es,clock,afu,ahj⟩ L.to,KA,⟨fun x hx=>hx,hS,fun x hx=>.inl hx⟩⟩
    obtain ⟨S',f1,f2,f3⟩:=fin;rcases apg with ⟨rfl,e2⟩ | e1
    ·go_enter Try.func92,Try.ntmps92
     go_wp2
     go_ret
     exact ⟨S',f1,f2,.inr ⟨rfl,f3⟩⟩
    ·go_enter Try.func92,Try.ntmps92
     go_wp2
     go_ret
     exact ⟨S',f1,f2,.inr ⟨rfl,f3⟩⟩
   ·rw [aZ hS] at hlk
    have Vh:=ang afu ahj h hS;have apO:=aad (o:=.map (es.push ⟨hv h,.bool true,clock⟩) (clock+1)) afu;have KP:=Kp.put (mb:=mb) (W.alloc (.cells #[.int .i64 h.1,.int .i64 h.2] 32)) (.map (es.push ⟨hv h,.bool true,clock⟩) (clock+1));have LP:=L.dR (KA.trans KP) ⟨_,_,apO,aiZ ahj h clock⟩ (by
     rw [jM];rintro (hm | hm)
     ·exact L.to hm
     ·exact Pc (List.mem_singleton.1 hm).symm)
    have cb:(put (W.alloc (.cells #[.int .i64 h.1,.int .i64 h.2] 32)) mb (.map (es.push ⟨hv h,.bool true,clock⟩) (clock+1))).cell? ⟨W.heap.size,0,none⟩=some (.int .i64 h.1):=by
     rw [KP.cell (by simp) (by omega)];simp
    have IW:=LP.g;obtain ⟨hU1,hU2⟩:=hU h hhU;obtain ⟨bk,ok,hka,hbk,fv⟩:=IW.kids h.1.toNat (by omega);have d3:=LP.d3;rw [hka] at d3;have c4:=LP.c4;have TS:W.heap.size < (put (W.alloc (.cells #[.int .i64 h.1,.int .i64 h.2] 32)) mb (.map (es.push ⟨hv h,.bool true,clock⟩) (clock+1))).heap.size:=by rw [XP]; simp
    have K2:=KA.trans KP;generalize put (W.alloc (.cells #[.int .i64 h.1,.int .i64 h.2] 32)) mb (.map (es.push ⟨hv h,.bool true,clock⟩) (clock+1))=W2 at *;have eg:∀ args w,(callFunc 92 args).run Try.prog w = .ok (.enter 92 args) w:=enters_of Try.func92 (by kernel_rfl) rfl;have Qn:=Ub 92 #[.pointer (some ⟨b1,0,none⟩),.pointer (some ⟨b2,0,none⟩),.pointer (some ⟨b3,0,none⟩),.pointer (some ⟨b4,0,none⟩)] eg (q.ia h.1.toNat) (q.im h.1.toNat) (q.ic h.1.toNat) (q.dW h.1.toNat)
     (fun kk W'=>∃ S1,BZ q B b1 b2 b3 b4 mb to W' S1/\Kp mb W2 W'/\(∀ x∈S,x∈S1)/\h∈S1/\(∀ j,j < kk->q.dW h.1.toNat j∈S1)/\∀ x∈S1,x∈S\/x=h\/∀ k,k < q.im x.1.toNat->q.dW x.1.toNat k∈S1)
     (fun W'=>∃ S1,BZ q B b1 b2 b3 b4 mb to W' S1/\Kp mb W2 W'/\Reach q to h)
     (LP.g.small _ (by omega))
     (fun W' kk hk ⟨S1,L1,_⟩=>by
      obtain ⟨b,off,r1,_,r2,r3⟩:=L1.g.row h.1.toNat (by omega) kk hk;exact ⟨b,off,r1,r2,r3⟩)
     (fun kk W' hk ⟨S1,L1,k1,s1,s2,s3,s4⟩=>by
      refine (ih S1 W' (q.dW h.1.toNat kk) (hU2 kk hk) (fa (filter_lt s1 hS s2 U hhU) (Nat.le_of_lt_succ hf)) L1).mono ?_;rintro e W3 ⟨S2,L2,k2,⟨rfl,hr⟩ | ⟨rfl,H5⟩⟩
      ·exact .inl ⟨rfl,S2,L2,k1.trans k2,.dW h kk hk hr⟩
      ·refine .inr ⟨rfl,S2,L2,k1.trans k2,fun x hx=>H5.sub x (s1 x hx),H5.sub h s2,fun j hj=>?_,fun x hx=>?_⟩
       ·by_cases ej:j=kk
        ·subst ej; exact H5.is
        ·exact H5.sub _ (s3 j (by omega))
       ·rcases H5.new x hx with h1 | h1
        ·rcases s4 x h1 with h2 | h2 | h2
         ·exact .inl h2
         ·exact .inr (.inl h2)
         ·exact .inr (.inr fun k hk=>H5.sub _ (h2 k hk))
        ·exact .inr (.inr h1))
     W2.drew ⟨S++[h],LP.dR (Kp.drew mb W2) (by obtain ⟨pt,cl2,q1,q2⟩:=LP.map; exact ⟨pt,cl2,q1,q2⟩) LP.to,Kp.drew mb W2,fun x hx=>List.mem_append_left _ hx,List.mem_append_right _ (List.mem_singleton.2 rfl),fun j hj=>absurd hj (ph _),fun x hx=>(jM.1 hx).imp id fun q=>.inl (List.mem_singleton.1 q)⟩
    have Hk:0<=h.1:=hU1.1;have bm:h.1 < (q.kn:Int):=hU1.2;have fin:∀ W' r,(r=true/\(∃ S1,BZ q B b1 b2 b3 b4 mb to W' S1/\Kp mb W2 W'/\Reach q to h)\/r=false/\∃ S1,BZ q B b1 b2 b3 b4 mb to W' S1/\Kp mb W2 W'/\(∀ x∈S,x∈S1)/\h∈S1/\(∀ j,j < q.im h.1.toNat->q.dW h.1.toNat j∈S1)/\∀ x∈S1,x∈S\/x=h\/∀ k,k < q.im x.1.toNat->q.dW x.1.toNat k∈S1)->
      ∃ S',BZ q B b1 b2 b3 b4 mb to W' S'/\Kp mb W W'/\((Ending.returned (.bool r) = .returned (.bool true))/\Reach q to h\/(Ending.returned (.bool r) = .returned (.bool false))/\Grow q S h S'):=by
     rintro W' r (⟨rfl,S1,L1,k1,hr⟩ | ⟨rfl,S1,L1,k1,s1,s2,s3,s4⟩)
     ·exact ⟨S1,L1,K2.trans k1,.inl ⟨rfl,hr⟩⟩
     ·refine ⟨S1,L1,K2.trans k1,.inr ⟨rfl,s1,s2,fun x hx=>?_⟩⟩
      rcases s4 x hx with h1 | h1 | h1
      ·exact .inl h1
      ·subst h1; exact .inr s3
      ·exact .inr h1
    clear ih hU2 LP L IW hf;rcases apg with ⟨rfl,e2⟩ | e1
    ·go_enter Try.func92,Try.ntmps92
     go_wp2
     go_region_with (go_at_call 72; refine Qn.mono ?_; rintro e w' ⟨r,rfl,hr⟩)
     all_goals (go_wp2; go_ret; exact fin _ _ (by assumption))
    ·go_enter Try.func92,Try.ntmps92
     go_wp2
     go_region_with (go_at_call 72; refine Qn.mono ?_; rintro e w' ⟨r,rfl,hr⟩)
     all_goals (go_wp2; go_ret; exact fin _ _ (by assumption))
end Go.Proofs.Ytckbdndhmcoihaa.nodes
end
