/- Part of the proof of WorldLevels: the machine, shown to be the model's, and plain models. No conditions. -/
import Derived.Test.YtckbdndhmcoihaaDp
set_option linter.unusedSimpArgs false
set_option linter.unusedVariables false
section
namespace Go.K
open Go Go.aG
variable {P:Program} {E:Env}
theorem Pf {R:Type} {cfg:dD} {aR:ko R} (eW:rp P cfg.pc) (tZ:Ii P aR) {o:Oper} {t:bd} {A:ae} {k:KV->ae->Option R} {r:R} {N base:Nat} {B:St} {ρ:Ren} {a:Act} {w:World} {next:Act->World->Prop} {Q:Exit->Act->World->Prop}
  (h:JO aR t A k (bw P cfg o.op)=some r) (ht:iR P E ρ t N a) (hj:KJ P E A B ρ base w)
  (hk:∀ E' A' B' aF v v' w',k v A' = some r->VC P E' aF v v'->Ev P base E A B ρ w E' A' B' aF w'->next (a.put o.dst v') w'):o.wp P a w next Q:=by
 by_cases hc:∃ f args,bw P cfg o.op = .call f args
 ·obtain ⟨f,args,hc⟩:=hc
  rw [hc] at h;have h:Option.rec (motive:=fun _=>Option R) none (fun p=>aR p.1 p.2 A k) (yG (jU t args) (gp t f))=some r:=h;cases OM:yG (jU t args) (gp t f) with
  | none=>rw [OM] at h; exact absurd h (by simp)
  | some p=>
   obtain ⟨g,vs⟩:=p;rw [OM] at h;have h:aR g vs A k=some r:=h;obtain ⟨hg,lA⟩:=tZ g vs A k r h;obtain ⟨b7,h1,h2⟩:=aeh (XK hc) ht OM hg;unfold Oper.wp;rw [h2 w];refine (lA E B ρ base w b7 h1 hj).mono ?_;rintro e w' ⟨v,v',E',A',B',aF,rfl,h3,h4,h5⟩;exact hk E' A' B' aF v v' w' h5 h3 h4
 ·obtain ⟨v,A',h1,h2⟩:=JT (fun f args e=>hc ⟨f,args,e⟩) h
  exact M8 eW h1 (fun x _=>ht.ev x) hj fun E' B' aF v' w' h3 h4=>hk E' A' B' aF v v' w' h2 h3 h4
theorem afJ {R:Type} {cfg:dD} {aR:ko R} {all:List Oper} {o:Oper} {k:bd->ae->Option R} {t:bd} {A:ae} {r:R} {N:Nat} {ρ:Ren} {a:Act} (ht:iR P E ρ t N a) (h:Ab P cfg aR all o k t A=some r) :
  ∃ t1,(∀ i,t1.get i=t.get i)/\((Region.wanted o (yielded ⟨all⟩ a.tmps)=true/\JO aR t1 A (fun v A=>k (qH t1 o.dst v) A) (bw P cfg o.op)=some r)\/
   (Region.wanted o (yielded ⟨all⟩ a.tmps)=false/\k (qH t1 o.dst tT) A=some r)):=by
 unfold Ab at h;cases hg:o.guard with
 | none=>
  rw [hg] at h;refine ⟨t,fun _=>rfl,.inl ⟨?_,h⟩⟩;unfold Region.wanted;rw [hg]
 | some p=>
  obtain ⟨j,want⟩:=p;rw [hg] at h;exact aeg hg ht h
theorem Pg {R:Type} {cfg:dD} {aR:ko R} (eW:rp P cfg.pc) (tZ:Ii P aR) {N base:Nat} {Q:Exit->Act->World->Prop} {all:List Oper} (hd:all.all (Kt N)=true) {k:bd->ae->Option R} {r:R} :
  ∀ (os:List Oper) (j:Nat) (t:bd) (E:Env) (A:ae) (B:St) (ρ:Ren) (a:Act) (w:World),all.drop j=os->XA P cfg aR all k os t A=some r->iR P E ρ t N a->KJ P E A B ρ base w->
   (∀ t' E' A' B' aF a' w',k t' A' = some r->iR P E' aF t' N a'->a'.defers=a.defers->Ev P base E A B ρ w E' A' B' aF w'->Q .normal a' w')->wpOps P ⟨all⟩ Q (List.range' j os.length) a w
 | [],j,t,E,A,B,ρ,a,w,_,h,ht,hj,hq=>hq t E A B ρ a w h ht rfl (.refl hj.k hj.s)
 | o::os,j,t,E,A,B,ρ,a,w,hk,h,ht,hj,hq=>by
  have ho:(⟨all⟩:Array Oper)[j]? = some o:=by
   have:(all.drop j)[0]? = some o:=by rw [hk]; rfl
   rw [o7] at this;simpa using this
  have mF:all.drop (j+1)=os:=by rw [<- List.drop_drop,hk]; rfl
  have Ik:∀ d,o.dst=some d->d < N:=by
   intro d e;have hm:o∈all:=gh (by simpa using ho);have:=fg.1 hd o hm;unfold Kt at this;rw [e] at this;simp only at this;rw [bF] at this;exact this
  rw [qN,List.range'_succ];simp only [wpOps,ho];have h:Ab P cfg aR all o (XA P cfg aR all k os) t A=some r:=h;obtain ⟨t1,Kx,h⟩:=afJ ht h;have vB:=ht.same Kx;rcases h with ⟨hw,h⟩ | ⟨hw,h⟩
  ·rw [hw]
   refine .inl (Pf eW tZ h vB hj fun E' A' B' aF v v' w' h1 h2 h3=>?_);refine Pg eW tZ hd os (j+1) _ E' A' B' aF _ w' mF h1 ((vB.mono h3.le (h3.eH.le hj.s)).put Ik h2) h3.kj fun t' Hh A'' Il vo SF G3 h4 h5 h6 h7=>?_;exact hq t' Hh A'' Il vo SF G3 h4 h5 (by rw [h6,put_defers]) (h3.trans h7)
  ·rw [hw]
   refine Pg eW tZ hd os (j+1) _ E A B ρ _ w mF h (vB.put Ik .undef) hj fun t' Hh A'' Il vo SF G3 h4 h5 h6 h7=>?_;exact hq t' Hh A'' Il vo SF G3 h4 h5 (by rw [h6,put_defers]) h7
abbrev Out:=Bool×KV×ae
inductive Run (P:Program) (cfg:dD) (all:List Oper):List Oper->bd->ae->List Out->bd->ae->Prop where
 | nil {t:bd} {A:ae} : Run P cfg all [] t A [] t A
 | cons {o:Oper} {os:List Oper} {t t1 t' : bd} {A A1 A' : ae} {wd:Bool} {v:KV} {L:List Out}
   (same:∀ i,t1.get i=t.get i)
   (want:(o.guard=none/\wd=true)\/∃ j want d,o.guard=some (j,want)/\(all[j]?).bind (·.dst)=some d/\((∃ b,t.get d=some (.bool b)/\wd=(b==want))\/(∃ l,t.get d=some (.ma l)/\wd=false)))
   (yes:wd=true->aH (xm (bw P cfg o.op) t1 A) (v,A1)) (no:wd=false->v=tT/\A1=A)
   (rest:Run P cfg all os (qH t1 o.dst v) A1 L t' A'):Run P cfg all (o::os) t A ((wd,v,A1)::L) t' A'
theorem Im {R:Type} {t:bd} {d:Option Tmp} {want:Bool} {yes no:bd->Option R} {r:R} (h:afk t d want yes no=some r) :
  ∃ d',d=some d'/\((∃ b t',t.get d' = some (.bool b)/\(∀ i,t'.get i=t.get i)/\((b==want)=true/\yes t' = some r\/(b==want)=false/\no t' = some r))\/∃ l,t.get d' = some (.ma l)/\no t=some r):=by
 unfold afk at h;cases d with
 | none=>exact absurd h (by simp)
 | some d=>
  refine ⟨d,rfl,?_⟩;have h:BK.rec (motive:=fun _=>Option R)
   (fun b=>Bool.rec (motive:=fun _=>Option R)
    (Bool.rec (motive:=fun _=>Option R) (yes (t.set (.bool false) d)) (no (t.set (.bool false) d)) want)
    (Bool.rec (motive:=fun _=>Option R) (no (t.set (.bool true) d)) (yes (t.set (.bool true) d)) want) b)
   (no t) none (x8 ((t.get d).getD .bf))=some r:=h
  have nU:∀ v,(t.get d).getD .bf=v->v≠.bf->t.get d=some v:=by
   intro v e cH;cases hg:t.get d with
   | none=>rw [hg] at e; exact absurd e.symm cH
   | some u=>rw [hg] at e; simp at e; rw [e]
  cases hb:x8 ((t.get d).getD .bf) with
  | no=>rw [hb] at h; exact absurd h (by simp)
  | ma=>
   rw [hb] at h;obtain ⟨l,hl⟩:=aax hb;exact .inr ⟨l,nU _ hl (by simp),h⟩
  | bool b=>
   rw [hb] at h;refine .inl ⟨b,t.set (.bool b) d,nU _ (Fu hb) (by simp),M7 hb,?_⟩;cases b <;> cases want
   ·exact .inl ⟨rfl,h⟩
   ·exact .inr ⟨rfl,h⟩
   ·exact .inr ⟨rfl,h⟩
   ·exact .inl ⟨rfl,h⟩
theorem Ua {R:Type} {cfg:dD} {aR:ko R} {all:List Oper} {k:bd->ae->Option R} {r:R} : ∀ {os:List Oper} {t:bd} {A:ae},(∀ o∈os,∀ f args,bw P cfg o.op≠.call f args)->XA P cfg aR all k os t A=some r->
  ∃ L t' A',Run P cfg all os t A L t' A'/\k t' A' = some r
 | [],t,A,_,h=>⟨[],t,A,.nil,h⟩
 | o::os,t,A,hn,h=>by
  have h:Ab P cfg aR all o (XA P cfg aR all k os) t A=some r:=h;have Lz:=fun q hq=>hn q (rU o hq);unfold Ab at h;cases hg:o.guard with
  | none=>
   rw [hg] at h;obtain ⟨v,A1,h1,h2⟩:=JT (hn o (by simp)) h;obtain ⟨L,t',A',h3,h4⟩:=Ua Lz h2;exact ⟨_,t',A',.cons (fun _=>rfl) (.inl ⟨hg,rfl⟩) (fun _=>h1) (fun e=>by simp at e) h3,h4⟩
  | some p=>
   obtain ⟨j,want⟩:=p;rw [hg] at h;obtain ⟨d,hd,h⟩:=Im h;rcases h with ⟨b,t1,h1,h2,h3⟩ | ⟨l,h1,h2⟩
   ·rcases h3 with ⟨h3,h4⟩ | ⟨h3,h4⟩
    ·obtain ⟨v,A1,h5,h6⟩:=JT (hn o (by simp)) h4
     obtain ⟨L,t',A',h7,h8⟩:=Ua Lz h6;exact ⟨_,t',A',.cons h2 (.inr ⟨j,want,d,hg,hd,.inl ⟨b,h1,h3.symm⟩⟩) (fun _=>h5) (fun e=>by simp at e) h7,h8⟩
    ·obtain ⟨L,t',A',h7,h8⟩:=Ua Lz h4
     exact ⟨_,t',A',.cons h2 (.inr ⟨j,want,d,hg,hd,.inl ⟨b,h1,h3.symm⟩⟩) (fun e=>by simp at e) (fun _=>⟨rfl,rfl⟩) h7,h8⟩
   ·obtain ⟨L,t',A',h7,h8⟩:=Ua Lz h2
    exact ⟨_,t',A',.cons (fun _=>rfl) (.inr ⟨j,want,d,hg,hd,.inr ⟨l,h1,rfl⟩⟩) (fun e=>by simp at e) (fun _=>⟨rfl,rfl⟩) h7,h8⟩
noncomputable def turns (P:Program) (cfg:dD) (o:Oper) (x:Out):Bool:=x.1&&Nat.ble 3 (cF (bw P cfg o.op))
noncomputable def gQ (S:Nat->Bool):List Oper->List Out->Nat->bd->bd
 | o::os,x::L,i,t=>gQ S os L (i+1) (cond (S i) (qH t o.dst x.2.1) t)
 | _,_,_,t=>t
noncomputable def nV (P:Program) (cfg:dD) (S:Nat->Bool):List Oper->List Out->Nat->ae->ae
 | o::os,x::L,i,A=>nV P cfg S os L (i+1) (cond (S i&&turns P cfg o x) x.2.2 A)
 | _,_,_,A=>A
theorem vD (t:bd) (dst:Option Tmp) (v:KV) (x:Tmp):(qH t dst v).get x=if dst=some x then some v else t.get x:=by
 cases dst with
 | none=>rfl
 | some d=>
  simp only [qH,Trie.oO,bM];by_cases h:x=d
  ·rw [aE h,aE h.symm]
  ·rw [aa h,aa (Ne.symm h)]
theorem Ei (S:Nat->Bool):∀ (os:List Oper) (L:List Out) (k:Nat) (t:bd),gQ S os L (k+1) t=gQ (fun i=>S (i+1)) os L k t
 | [],L,k,t=>by cases L <;> rfl
 | o::os,[],k,t=>rfl
 | o::os,x::L,k,t=>by simp only [gQ]; exact Ei S os L (k+1) _
theorem SG {cfg:dD} (S:Nat->Bool):∀ (os:List Oper) (L:List Out) (k:Nat) (A:ae),nV P cfg S os L (k+1) A=nV P cfg (fun i=>S (i+1)) os L k A
 | [],L,k,t=>by cases L <;> rfl
 | o::os,[],k,t=>rfl
 | o::os,x::L,k,t=>by simp only [nV]; exact SG S os L (k+1) _
theorem kM {S S' : Nat->Bool} {y:Tmp} : ∀ {os:List Oper} {L:List Out} {k:Nat} {t t' : bd},t.get y=t'.get y->(∀ i o,os[i]? = some o->o.dst=some y->S (k+i)=S' (k+i))->(gQ S os L k t).get y=(gQ S' os L k t').get y
 | [],L,k,t,t',h,_=>by cases L <;> exact h
 | o::os,[],k,t,t',h,_=>h
 | o::os,x::L,k,t,t',h,hs=>by
  simp only [gQ];refine kM ?_ fun i o' ho hd=>by have:=hs (i+1) o' (by simpa using ho) hd; rwa [show k+(i+1)=k+1+i by omega] at this
  by_cases hd:o.dst=some y
  ·have:=hs 0 o rfl hd
   rw [ym] at this;rw [this];cases S' k with
   | true=>simp only [aj,vD,aE hd]
   | false=>exact h
  ·have e:∀ (b:Bool) (u:bd),(cond b (qH u o.dst x.2.1) u).get y=u.get y:=by
    intro b u;cases b with
    | true=>rw [aj,vD,aa hd]
    | false=>rfl
   rw [e,e]; exact h
theorem aay {S:Nat->Bool} {y:Tmp} : ∀ {os:List Oper} {L:List Out} {k i:Nat} {t:bd} {o:Oper} {x:Out},os[i]? = some o->L[i]? = some x->o.dst=some y->(∀ j q,os[j]? = some q->q.dst=some y->i < j->S (k+j)=false)->
  (gQ (cQ S (k+i)) os L k t).get y=some x.2.1
 | [],L,k,i,t,o,x,ho,_,_,_=>by simp at ho
 | q::os,[],k,i,t,o,x,_,hx,_,_=>by simp at hx
 | q::os,u::L,k,0,t,o,x,ho,hx,hd,hs=>by
  simp at ho hx;subst ho hx;simp only [gQ,ym];have hk:cQ S k k=true:=by simp [cQ]
  rw [hk,aj];have:=kM (S:=cQ S k) (S':=fun _=>false) (y:=y) (os:=os) (L:=L) (k:=k+1) (t:=qH t q.dst u.2.1) (t':=qH t q.dst u.2.1) rfl (fun j q' hq hqd=>by
   have h1:=hs (j+1) q' (by simpa using hq) hqd (by omega);rw [show k+(j+1)=k+1+j by omega] at h1;simp only [cQ,h1,Bool.false_or];cases hb:Nat.beq (k+1+j) k with
   | false=>rfl
   | true=>have:=aK hb; omega)
  rw [this];have F7:∀ (os:List Oper) (L:List Out) (k:Nat) (t:bd),gQ (fun _=>false) os L k t=t:=by
   intro os
   induction os with
   | nil=>intro L k t; cases L <;> rfl
   | cons o os ih=>intro L k t; cases L with
    | nil=>rfl
    | cons x L=>simp only [gQ,aI]; exact ih L _ t
  rw [F7,vD,aE hd]
 | q::os,u::L,k,i+1,t,o,x,ho,hx,hd,hs=>by
  simp only [gQ];rw [show k+(i+1)=k+1+i by omega];exact aay (by simpa using ho) (by simpa using hx) hd fun j q' hq hqd bj=>by
   have:=hs (j+1) q' (by simpa using hq) hqd (by omega);rwa [show k+(j+1)=k+1+j by omega] at this
theorem JU {cfg:dD} {S S' : Nat->Bool} : ∀ {os:List Oper} {L:List Out} {k:Nat} {A:ae},(∀ i o x,os[i]? = some o->L[i]? = some x->turns P cfg o x=true->S (k+i)=S' (k+i))->nV P cfg S os L k A=nV P cfg S' os L k A
 | [],L,k,A,_=>by cases L <;> rfl
 | o::os,[],k,A,_=>rfl
 | o::os,x::L,k,A,h=>by
  simp only [nV];have h0:(S k&&turns P cfg o x)=(S' k&&turns P cfg o x):=by
   cases ht:turns P cfg o x with
   | false=>simp
   | true=>have:=h 0 o x rfl rfl ht; rw [ym] at this; rw [this]
  rw [h0];exact JU fun i o' x' ho hx ht=>by have:=h (i+1) o' x' (by simpa using ho) (by simpa using hx) ht; rwa [show k+(i+1)=k+1+i by omega] at this
def Hi (all:List Oper) (o:Oper) (t:bd) (wd:Bool):Prop:=(o.guard=none/\wd=true)\/∃ j want d,o.guard=some (j,want)/\(all[j]?).bind (·.dst)=some d/\((∃ b,t.get d=some (.bool b)/\wd=(b==want))\/(∃ l,t.get d=some (.ma l)/\wd=false))
theorem Ej {cfg:dD} {o:Oper} {t:bd} {A A1:ae} {v:KV} (h:aH (xm (bw P cfg o.op) t A) (v,A1)) (hk:Nat.ble 3 (cF (bw P cfg o.op))=false):A1=A:=by
 generalize bw P cfg o.op=ins at h hk;cases ins with
 | pure f xs=>obtain ⟨u,_,h2⟩:=aH.map h; simp at h2; exact h2.2.symm
 | read f xs=>obtain ⟨u,_,h2⟩:=aH.map h; simp at h2; exact h2.2.symm
 | act f xs=>exact absurd hk (by simp [cF])
 | look f xs=>obtain ⟨u,_,h2⟩:=aH.map h; simp at h2; exact h2.2.symm
 | D9 g f xs=>obtain ⟨u,_,h2⟩:=aH.map h; simp at h2; exact h2.2.symm
 | H7 g f xs=>exact absurd hk (by simp [cF])
 | call f xs=>exact h.elim
 | bad=>exact h.elim
theorem Run.at {cfg:dD} {all:List Oper} : ∀ {os:List Oper} {t t' : bd} {A A' : ae} {L:List Out},Run P cfg all os t A L t' A'->
  L.length=os.length/\(∀ y,t'.get y=(gQ (fun _=>true) os L 0 t).get y)/\A' = nV P cfg (fun _=>true) os L 0 A/\
  ∀ i o x,os[i]? = some o->L[i]? = some x->∃ t1,(∀ y,t1.get y=(gQ (fun j=>Nat.blt j i) os L 0 t).get y)/\Hi all o t1 x.1/\(x.1=true->aH (xm (bw P cfg o.op) t1 (nV P cfg (fun j=>Nat.blt j i) os L 0 A)) (x.2.1,x.2.2))/\(x.1=false->x.2.1=tT)
 | _,_,_,_,_,_,.nil=>⟨rfl,fun _=>rfl,rfl,fun i o x ho=>by simp at ho⟩
 | o::os,t,t',A,A',(wd,v,A1)::L,.cons (t1:=t1) same want yes no rest=>by
  obtain ⟨h1,h2,h3,h4⟩:=rest.at;have hA1:cond (turns P cfg o (wd,v,A1)) A1 A=A1:=by
   cases ht:turns P cfg o (wd,v,A1) with
   | true=>rfl
   | false=>
    rw [aI];cases wd with
    | false=>exact (no rfl).2.symm
    | true=>exact (Ej (yes rfl) (by simpa [turns] using ht)).symm
  have Ub:∀ y,(qH t1 o.dst v).get y=(qH t o.dst v).get y:=fun y=>by rw [vD,vD,same]
  refine ⟨by simp [h1],fun y=>?_,?_,fun i q x hq hx=>?_⟩
  ·rw [h2 y]
   simp only [gQ,aj];rw [Ei];exact kM (Ub y) fun _ _ _ _=>rfl
  ·rw [h3]
   simp only [nV,CF];rw [SG,hA1]
  ·cases i with
   | zero=>
    simp at hq hx;subst hq hx;have e0:∀ (os:List Oper) (L:List Out) (k:Nat) (t:bd),gQ (fun j=>Nat.blt j 0) os L k t=t:=by
     intro os
     induction os with
     | nil=>intro L k t; cases L <;> rfl
     | cons o os ih=>intro L k t; cases L with
      | nil=>rfl
      | cons x L=>simp only [gQ]; exact ih L _ t
    have e1:∀ (os:List Oper) (L:List Out) (k:Nat) (A:ae),nV P cfg (fun j=>Nat.blt j 0) os L k A=A:=by
     intro os
     induction os with
     | nil=>intro L k t; cases L <;> rfl
     | cons o os ih=>intro L k t; cases L with
      | nil=>rfl
      | cons x L=>simp only [nV]; exact ih L _ t
    refine ⟨t1,fun y=>by rw [e0]; exact same y,?_,fun e=>by rw [e1]; exact yes e,fun e=>(no e).1⟩;rcases want with h | ⟨j,wt,d,e2,e3,e4⟩
    ·exact .inl h
    ·exact .inr ⟨j,wt,d,e2,e3,by rw [same]; exact e4⟩
   | succ i=>
    obtain ⟨t2,h5,h6,h7,h8⟩:=h4 i q x (by simpa using hq) (by simpa using hx);have hsh:(fun j=>Nat.blt (j+1) (i+1))=fun j=>Nat.blt j i:=by
     funext j;cases hb:Nat.blt j i with
     | true=>rw [bF] at hb ⊢; omega
     | false=>
      cases hc:Nat.blt (j+1) (i+1) with
      | false=>rfl
      | true=>rw [bF] at hc; rw [show Nat.blt j i=true from by rw [bF]; omega] at hb; simp at hb
    have h01:Nat.blt 0 (i+1)=true:=by rw [bF]; omega
    have gY:nV P cfg (fun j=>Nat.blt j (i+1)) (o::os) ((wd,v,A1)::L) 0 A=nV P cfg (fun j=>Nat.blt j i) os L 0 A1:=by
     simp only [nV,h01,CF];rw [SG,hA1,hsh]
    refine ⟨t2,fun y=>?_,h6,fun e=>by rw [gY]; exact h7 e,h8⟩;rw [h5 y];simp only [gQ,h01,aj];rw [Ei,hsh];exact kM (Ub y) fun _ _ _ _=>rfl
end Go.K
end
section
namespace Go.K
open Go Go.aG
variable {P:Program} {E:Env}
theorem Uc {cfg:dD} {all:List Oper} {b:List Nat} {i:Nat} {y:Oper} : ∀ (xs:List Oper) (k:Nat),Qt P cfg all b i y xs k=true->∀ (j:Nat) (x:Oper),xs[j]? = some x->k+j < i->KI P cfg all x y=true->oE b i (k+j)=true\/(wJ P cfg all x y=false/\(XB all (k+j) x i y).isSome=true)
 | [],k,_,j,x,hx,_,_=>by simp at hx
 | x0::xs,k,h,0,x,hx,bj,hc=>by
  simp at hx;subst hx;simp only [Qt,aq,u7,lU] at h;rcases h.1 with ((h1 | h1) | h1) | h1
  ·have:=dX h1; omega
  ·rw [hc] at h1; simp at h1
  ·exact .inl h1
  ·exact .inr h1
 | x0::xs,k,h,j+1,x,hx,bj,hc=>by
  simp only [Qt,aq] at h;have:=Uc xs (k+1) h.2 j x (by simpa using hx) (by omega) hc;rwa [show k+1+j=k+(j+1) by omega] at this
theorem Ph {cfg:dD} {all:List Oper} {b:List Nat} : ∀ (os:List Oper) (k:Nat),LI P cfg all b os k=true->∀ (i:Nat) (o:Oper),os[i]? = some o->Qt P cfg all b (k+i) o all 0=true
 | [],k,_,i,o,ho=>by simp at ho
 | o0::os,k,h,0,o,ho=>by
  simp at ho;subst ho;simp only [LI,aq] at h;exact h.1
 | o0::os,k,h,i+1,o,ho=>by
  simp only [LI,aq] at h;have:=Ph os (k+1) h.2 i o (by simpa using ho);rwa [show k+1+i=k+(i+1) by omega] at this
theorem Ud {cfg:dD} {all:List Oper} {b:List Nat} {i:Nat} {y:Oper} {p:Option Operand×Operand} : ∀ (xs:List Oper) (k j:Nat) (x:Oper),xs[j]? = some x->k+j < i->KI P cfg all x y=true->oE b i (k+j)=false->XB all (k+j) x i y=some p->p∈Fp P cfg all b i y xs k
 | [],k,j,x,hx,_,_,_,_=>by simp at hx
 | x0::xs,k,0,x,hx,bj,hm,hb,he=>by
  simp at hx;subst hx;have h1:(Nat.ble i k||!KI P cfg all x0 y||oE b i k)=false:=by
   rw [hm,show oE b i k=false from hb];cases h:Nat.ble i k with
   | false=>rfl
   | true=>have:=dX h; omega
  simp only [Fp];rw [h1,aI,show XB all k x0 i y=some p from he];exact Qj
 | x0::xs,k,j+1,x,hx,bj,hm,hb,he=>by
  have e:k+(j+1)=k+1+j:=by omega
  have:=Ud (b:=b) (p:=p) xs (k+1) j x (by simpa using hx) (show k+1+j < i by omega) hm (by rw [<- e]; exact hb) (by rw [<- e]; exact he);simp only [Fp];cases (Nat.ble i k||!KI P cfg all x0 y||oE b i k) with
  | true=>exact this
  | false=>
   rw [aI];split
   ·exact rU _ this
   ·exact this
theorem Rx {cfg:dD} {all:List Oper} {b:List Nat} {p:Option Operand×Operand} : ∀ (os:List Oper) (k i:Nat) (y:Oper),os[i]? = some y->p∈Fp P cfg all b (k+i) y all 0->p∈V4 P cfg all b os k
 | [],k,i,y,hy,_=>by simp at hy
 | o::os,k,0,y,hy,h=>by
  simp at hy;subst hy;exact List.mem_append_left _ h
 | o::os,k,i+1,y,hy,h=>by
  refine List.mem_append_right _ (Rx os (k+1) i y (by simpa using hy) ?_);rwa [show k+1+i=k+(i+1) by omega]
structure Ry (P:Program) (cfg:dD) (all:List Oper):Prop where
 SH:wD P all
 kind:∀ o∈all,cF (bw P cfg o.op)<=3
 ord:∀ i j x y,all[i]? = some y->all[j]? = some x->j < i->KI P cfg all x y=true->oE (dE [] all) i j=true\/(wJ P cfg all x y=false/\∃ p,XB all j x i y=some p/\p∈KK P cfg all)
 plain:∀ p,p∈KK P cfg all->Sm P cfg all=true
theorem afK {cfg:dD} {all:List Oper} (h:afl P cfg all=true):Ry P cfg all:=by
 unfold afl at h;simp only [aq] at h;refine ⟨F2 h.1.1.1,fun o ho=>dX (fg.1 h.1.1.2 o ho),fun i j x y hy hx bj hm=>?_,fun p hp=>?_⟩
 ·have:=Ph all 0 h.1.2 i y hy
  rw [ba] at this;have:=Uc all 0 this j x hx (by omega) hm;rw [ba] at this;cases hb:oE (dE [] all) i j with
  | true=>exact .inl rfl
  | false=>
   rcases this with h1 | ⟨h1,h2⟩
   ·rw [hb] at h1; simp at h1
   ·obtain ⟨p,hp⟩:=Qi.1 h2
    refine .inr ⟨h1,p,hp,Rx all 0 i y hy ?_⟩;rw [ba];exact Ud all 0 j x hx (by omega) hm (by rw [ba]; exact hb) (by rw [ba]; exact hp)
 ·have h2:=h.2
  simp only [u7] at h2;rcases h2 with h2 | h2
  ·rw [List.isEmpty_iff] at h2
   rw [h2] at hp;simp at hp
  ·exact h2
structure aaz (P:Program) (cfg:dD) (all:List Oper):Prop where
 SH:wD P all
 FV:∀ {i j:Nat} {x y:Oper},all[i]? = some y->all[j]? = some x->j < i->wJ P cfg all x y=true->oE (dE [] all) i j=true
theorem Ry.toT {cfg:dD} {all:List Oper} (hf:Ry P cfg all):aaz P cfg all:=⟨hf.SH,fun {i j x y} hy hx bj hc=>by
 rcases hf.ord i j x y hy hx bj (by unfold KI; rw [hc]; rfl) with h | ⟨h,_⟩
 ·exact h
 ·rw [hc] at h; simp at h⟩
def Ue (P:Program) (cfg:dD) (all:List Oper) (i:Nat):Prop:=∀ j q,all[j]? = some q->Nat.ble 3 (cF (bw P cfg q.op))=true->(j < i->oE (dE [] all) i j=true)/\(i < j->oE (dE [] all) j i=true)
theorem C2 {x y:Oper} {p:Option Operand×Operand} (h:MQ x y=some p):(∃ T,y.op = .load T p.2)/\((p.1=none/\Qs x.op=true)\/∃ T a v,p.1=some a/\x.op = .store T a v):=by
 unfold MQ at h;split at h
 ·rename_i a ha
  have hl:∃ T,y.op = .load T a:=by
   unfold G8 at ha;split at ha
   ·rename_i T a' e; simp at ha; subst ha; exact ⟨T,e⟩
   ·simp at ha
  cases hs:Qs x.op with
  | true=>
   rw [hs,aj] at h;simp at h;subst h;exact ⟨hl,.inl ⟨rfl,rfl⟩⟩
  | false=>
   rw [hs,aI] at h;split at h
   ·rename_i a2 ZD
    simp at h;subst h;refine ⟨hl,.inr ?_⟩;unfold TV at ZD;split at ZD
    ·rename_i T a3 v e; simp at ZD; subst ZD; exact ⟨T,_,v,rfl,e⟩
    ·simp at ZD
   ·simp at h
 ·simp at h
theorem aaA {all:List Oper} {i j:Nat} {x y:Oper} {p:Option Operand×Operand} (h:XB all j x i y=some p) :
  (MQ x y=some p/\uB i p.2 all 0=true/\MP j p.1 all=true)\/(MQ y x=some p/\uB j p.2 all 0=true/\MP i p.1 all=true):=by
 unfold XB at h;split at h
 ·rename_i q hq
  cases hb:(uB i q.2 all 0&&MP j q.1 all) with
  | false=>rw [hb] at h; simp at h
  | true=>
   rw [hb,aj] at h;simp at h;subst h;simp only [aq] at hb;exact .inl ⟨hq,hb.1,hb.2⟩
 ·split at h
  ·rename_i q hq
   cases hb:(uB j q.2 all 0&&MP i q.1 all) with
   | false=>rw [hb] at h; simp at h
   | true=>
    rw [hb,aj] at h;simp at h;subst h;simp only [aq] at hb;exact .inr ⟨hq,hb.1,hb.2⟩
  ·simp at h
theorem Ip {cfg:dD} {o:Oper} {T:TypeId} {a:Operand} (h:o.op = .load T a):cF (bw P cfg o.op)=1:=by rw [h]; rfl
theorem unordered {cfg:dD} {all:List Oper} (hf:Ry P cfg all) {i j:Nat} {o q:Oper} (ho:all[i]? = some o) (hq:all[j]? = some q) (hk:cF (bw P cfg o.op)≠0) (h3:Nat.ble 3 (cF (bw P cfg q.op))=true) :
  ((j < i->oE (dE [] all) i j=true)/\(i < j->oE (dE [] all) j i=true))\/∃ p,p∈KK P cfg all/\MQ q o=some p/\uB i p.2 all 0=true/\MP j p.1 all=true:=by
 have mF:Nat.beq (cF (bw P cfg o.op)) 0=false:=by
  cases hb:Nat.beq (cF (bw P cfg o.op)) 0 with
  | false=>rfl
  | true=>exact absurd (aK hb) hk
 have hnl:∀ T a,q.op≠.load T a:=fun T a e=>by rw [Ip e] at h3; simp at h3
 rcases Nat.lt_trichotomy j i with h | h | h
 ·rcases hf.ord i j q o ho hq h (by unfold KI; rw [h3,mF]; simp) with h1 | ⟨_,p,h1,h2⟩
  ·exact .inl ⟨fun _=>h1,fun h'=>by omega⟩
  ·rcases aaA h1 with ⟨e1,e2,e3⟩ | ⟨e1,e2,e3⟩
   ·exact .inr ⟨p,h2,e1,e2,e3⟩
   ·obtain ⟨⟨T,e⟩,_⟩:=C2 e1
    exact absurd e (hnl _ _)
 ·exact .inl ⟨fun h'=>by omega,fun h'=>by omega⟩
 ·rcases hf.ord j i o q hq ho h (by unfold KI; rw [h3,mF]; simp) with h1 | ⟨_,p,h1,h2⟩
  ·exact .inl ⟨fun h'=>by omega,fun _=>h1⟩
  ·rcases aaA h1 with ⟨e1,e2,e3⟩ | ⟨e1,e2,e3⟩
   ·obtain ⟨⟨T,e⟩,_⟩:=C2 e1
    exact absurd e (hnl _ _)
   ·exact .inr ⟨p,h2,e1,e2,e3⟩
theorem Pj {cfg:dD} {all:List Oper} (hf:Ry P cfg all) {i:Nat} {o:Oper} (ho:all[i]? = some o) (hk:cF (bw P cfg o.op)≠0) (hn:∀ T a,o.op≠.load T a):Ue P cfg all i:=fun j q hq h3=>by
 rcases unordered hf ho hq hk h3 with h | ⟨p,_,h,_⟩
 ·exact h
 ·obtain ⟨⟨T,e⟩,_⟩:=C2 h
  exact absurd e (hn _ _)
theorem zk {cfg:dD} {o:Oper} (h:cF (bw P cfg o.op)<=3):∀ f args,bw P cfg o.op≠.call f args:=by
 intro f args e;rw [e] at h;simp [cF] at h
theorem C3 {d:Tmp} {l:List Tmp} (h:d∈l):OI (some d) l=true:=by
 simp only [OI,List.any_eq_true];exact ⟨d,h,by simp⟩
theorem ky {x:Tmp} : ∀ {xs:List Operand},Operand.tmp x∈xs->x∈tQ xs
 | [],h=>by simp at h
 | y::ys,h=>by
  rcases de.1 h with h | h
  ·subst h; simp [tQ]
  ·have:=ky h
   cases y <;> simp [tQ,this]
section
variable {cfg:dD} {all:List Oper} {L:List Out} {t0:bd} {A0:ae}
theorem aaB (hf:aaz P cfg all) {S:Nat->Bool} (hc:va all S) {i:Nat} {o:Oper} (ho:all[i]? = some o) (sh:S i=false) (u6:zf all S i) {y:Tmp} (hy:y∈nS P cfg all o) :
  (gQ S all L 0 t0).get y=(gQ (fun j=>Nat.blt j i) all L 0 t0).get y:=by
 refine kM rfl fun j q hq hd=>?_;rw [ba];rcases Nat.lt_trichotomy j i with h | h | h
 ·have:oE (dE [] all) i j=true:=hf.FV ho hq h (by
   unfold wJ;rw [hd,C3 hy];rfl)
  rw [hc.ready hf.SH ho u6 j this]
  symm; rw [bF]; exact h
 ·subst h
  rw [sh]
  symm
  cases hb:Nat.blt j j with
  | false=>rfl
  | true=>rw [bF] at hb; omega
 ·have hb:oE (dE [] all) j i=true:=hf.FV hq ho h (by
   unfold wJ;rw [hd,C3 hy];simp)
  have:S j=false:=by
   cases hs:S j with
   | false=>rfl
   | true=>have:=hc j i hs hb; rw [sh] at this; simp at this
  rw [this]
  symm
  cases hbb:Nat.blt j i with
  | false=>rfl
  | true=>rw [bF] at hbb; omega
theorem Uf (hf:Ry P cfg all) {S:Nat->Bool} (hc:va all S) {i:Nat} {o:Oper} (ho:all[i]? = some o) (sh:S i=false) (u6:zf all S i) (gY:Ue P cfg all i) :
  nV P cfg S all L 0 A0=nV P cfg (fun j=>Nat.blt j i) all L 0 A0:=by
 refine JU fun j q x hq hx ht=>?_;rw [ba];have h3:Nat.ble 3 (cF (bw P cfg q.op))=true:=by unfold turns at ht; simp only [aq] at ht; exact ht.2
 rcases Nat.lt_trichotomy j i with h | h | h
 ·have:oE (dE [] all) i j=true:=(gY j q hq h3).1 h
  rw [hc.ready hf.SH ho u6 j this]
  symm; rw [bF]; exact h
 ·subst h
  rw [sh]
  symm
  cases hb:Nat.blt j j with
  | false=>rfl
  | true=>rw [bF] at hb; omega
 ·have hb:oE (dE [] all) j i=true:=(gY j q hq h3).2 h
  have:S j=false:=by
   cases hs:S j with
   | false=>rfl
   | true=>have:=hc j i hs hb; rw [sh] at this; simp at this
  rw [this]
  symm
  cases hbb:Nat.blt j i with
  | false=>rfl
  | true=>rw [bF] at hbb; omega
theorem LU (hf:aaz P cfg all) {S:Nat->Bool} (hc:va all S) {i:Nat} {o:Oper} {x:Out} (ho:all[i]? = some o) (hx:L[i]? = some x) (sh:S i=false) (y:Tmp) :
  (gQ (cQ S i) all L 0 t0).get y=(qH (gQ S all L 0 t0) o.dst x.2.1).get y:=by
 rw [vD];by_cases hd:o.dst=some y
 ·rw [aE hd]
  have:=aay (S:=S) (y:=y) (os:=all) (L:=L) (k:=0) (i:=i) (t:=t0) ho hx hd (fun j q hq hqd bj=>by
   rw [ba];have hb:oE (dE [] all) j i=true:=hf.FV hq ho bj (by
    unfold wJ;rw [hqd,hd];simp [TC])
   cases hs:S j with
   | false=>rfl
   | true=>have:=hc j i hs hb; rw [sh] at this; simp at this)
  rw [ba] at this;exact this
 ·rw [aa hd]
  refine kM rfl fun j q hq hqd=>?_;rw [ba];have cH:j≠i:=by
   intro e;subst e;rw [ho] at hq;simp at hq;subst hq;exact hd hqd
  unfold cQ;have:Nat.beq j i=false:=by
   cases hb:Nat.beq j i with
   | false=>rfl
   | true=>exact absurd (aK hb) cH
  rw [this,Bool.or_false]
theorem Bj {S:Nat->Bool} {i:Nat} {o:Oper} {x:Out} (ho:all[i]? = some o) (hx:L[i]? = some x) (ht:turns P cfg o x=false):nV P cfg (cQ S i) all L 0 A0=nV P cfg S all L 0 A0:=by
 refine JU fun j q y hq hy hty=>?_;rw [ba];have cH:j≠i:=by
  intro e;subst e;rw [ho] at hq; rw [hx] at hy;simp at hq hy;subst hq hy;rw [ht] at hty; simp at hty
 unfold cQ;have:Nat.beq j i=false:=by
  cases hb:Nat.beq j i with
  | false=>rfl
  | true=>exact absurd (aK hb) cH
 rw [this,Bool.or_false]
theorem afL {i:Nat} {o:Oper} {x:Out} (ho:all[i]? = some o) (hx:L[i]? = some x) (ht:turns P cfg o x=true):nV P cfg (fun j=>Nat.blt j (i+1)) all L 0 A0=x.2.2:=by
 have key:∀ (os:List Oper) (L:List Out) (k i:Nat) (A:ae) (o:Oper) (x:Out),os[i]? = some o->L[i]? = some x->turns P cfg o x=true->nV P cfg (fun j=>Nat.blt j (k+i+1)) os L k A=x.2.2:=by
  intro os
  induction os with
  | nil=>intro L k i A o x ho; simp at ho
  | cons q os ih=>
   intro L k i A o x ho hx ht;cases L with
   | nil=>simp at hx
   | cons u L=>
    simp only [nV];have bj:Nat.blt k (k+i+1)=true:=by rw [bF]; omega
    rw [bj,CF];cases i with
    | zero=>
     simp at ho hx;subst ho hx;rw [ht,aj];have:∀ (os:List Oper) (L:List Out) (m:Nat) (A:ae),k+1<=m->nV P cfg (fun j=>Nat.blt j (k+0+1)) os L m A=A:=by
      intro os
      induction os with
      | nil=>intro L m A _; cases L <;> rfl
      | cons q os ih=>
       intro L m A hm;cases L with
       | nil=>rfl
       | cons u L=>
        simp only [nV];have:Nat.blt m (k+0+1)=false:=by
         cases hb:Nat.blt m (k+0+1) with
         | false=>rfl
         | true=>rw [bF] at hb; omega
        rw [this,Bool.false_and,aI];exact ih L _ A (by omega)
     exact this os L (k+1) _ (aB _)
    | succ i=>
     have:=ih L (k+1) i (cond (turns P cfg q u) u.2.2 A) o x (by simpa using ho) (by simpa using hx) ht;rwa [show k+1+i+1=k+(i+1)+1 by omega] at this
 have:=key all L 0 i A0 o x ho hx ht;rwa [ba] at this
theorem ahR (hf:Ry P cfg all) {S:Nat->Bool} (hc:va all S) {i:Nat} {o:Oper} {x:Out} (ho:all[i]? = some o) (hx:L[i]? = some x) (sh:S i=false) (u6:zf all S i) (ht:turns P cfg o x=true) :
  nV P cfg (cQ S i) all L 0 A0=x.2.2:=by
 have h3:Nat.ble 3 (cF (bw P cfg o.op))=true:=by unfold turns at ht; simp only [aq] at ht; exact ht.2
 have hk:cF (bw P cfg o.op)≠0:=by have:=dX h3; omega
 have h1:nV P cfg (cQ S i) all L 0 A0=nV P cfg (fun j=>Nat.blt j (i+1)) all L 0 A0:=by
  refine JU fun j q y hq hy hty=>?_;rw [ba];have hq3:Nat.ble 3 (cF (bw P cfg q.op))=true:=by unfold turns at hty; simp only [aq] at hty; exact hty.2
  have gY:Ue P cfg all i:=Pj hf ho hk fun T a e=>by rw [Ip e] at h3; simp at h3
  rcases Nat.lt_trichotomy j i with h | h | h
  ·have:oE (dE [] all) i j=true:=(gY j q hq hq3).1 h
   have:=hc.ready hf.SH ho u6 j this;unfold cQ;rw [this,Bool.true_or]
   symm; rw [bF]; omega
  ·subst h
   have:cQ S j j=true:=by simp [cQ]
   rw [this]
   symm; rw [bF]; omega
  ·have hb:oE (dE [] all) j i=true:=(gY j q hq hq3).2 h
   have:S j=false:=by
    cases hs:S j with
    | false=>rfl
    | true=>have:=hc j i hs hb; rw [sh] at this; simp at this
   unfold cQ;have cH:Nat.beq j i=false:=by
    cases hb:Nat.beq j i with
    | false=>rfl
    | true=>have:=aK hb; omega
   rw [this,cH]
   symm
   cases hbb:Nat.blt j (i+1) with
   | false=>rfl
   | true=>rw [bF] at hbb; omega
 rw [h1];exact afL ho hx ht
end
theorem acm {all:List Oper} {o:Oper} {j:Nat} {want:Bool} {d:Tmp} (hg:o.guard=some (j,want)) (hd:(all[j]?).bind (·.dst)=some d):d∈HD all o:=by
 unfold HD;rw [hg];simp [hd]
theorem yJ {all:List Oper} {o:Oper} {t t1:bd} {wd:Bool} {N:Nat} {ρ:Ren} {a:Act} (ht:iR P E ρ t N a) (hl:∀ y∈HD all o,t1.get y=t.get y) (h:Hi all o t1 wd):Region.wanted o (yielded ⟨all⟩ a.tmps)=wd:=by
 rcases h with ⟨hg,rfl⟩ | ⟨j,want,d,hg,hd,h⟩
 ·unfold Region.wanted
  rw [hg]
 ·have Kx:=hl d (acm hg hd)
  have AK:=ht.val d;unfold Region.wanted;rw [hg];simp only;unfold yielded;have e:(⟨all⟩:Array Oper)[j]? = all[j]?:=by simp
  rw [e,hd];simp only [dN];rcases h with ⟨b,h1,rfl⟩ | ⟨l,h1,rfl⟩
  ·rw [<- Kx,h1] at AK
   have hcv:=AK.eK;cases hc:a.tmps[d]? with
   | none=>simp [kR,hc,undef] at hcv
   | some u=>
    have:u = .bool b:=by rw [<- hcv]; simp [kR,hc]
    subst this;rfl
  ·rw [<- Kx,h1] at AK
   obtain ⟨u,h2,h3⟩:=AK;obtain ⟨m,rfl,_⟩:=h2.O1;obtain ⟨m',h4,_⟩:=h3.Sc;cases hc:a.tmps[d]? with
   | none=>rfl
   | some u=>
    have:u = .tuple m':=by rw [<- h4]; simp [kR,hc]
    subst this;rfl
theorem Pk {t t1:bd} {N:Nat} {ρ:Ren} {a:Act} (ht:iR P E ρ t N a) {x:Operand} (h:∀ y,x = .tmp y->t1.get y=t.get y):VC P E ρ (gp t1 x) (a.eval x):=by
 have:=ht.ev x;cases x with
 | tmp y=>simp only [gp] at this ⊢; rw [h y rfl]; exact this
 | const v=>exact this
 | global g=>exact this
 | func f=>exact this
theorem afM {cfg:dD} {o:Oper} {t:bd} {A A1 A' : ae} {v:KV} (h:aH (xm (bw P cfg o.op) t A) (v,A1)) (hk:cF (bw P cfg o.op)=0):aH (xm (bw P cfg o.op) t A') (v,A'):=by
 generalize bw P cfg o.op=ins at h hk;cases ins with
 | pure f xs=>obtain ⟨u,h1,h2⟩:=aH.map h; simp at h2; obtain ⟨rfl,_⟩:=h2; exact h1.Bi
 | read f xs=>simp [cF] at hk
 | act f xs=>simp [cF] at hk
 | look f xs=>obtain ⟨u,h1,h2⟩:=aH.map h; simp at h2; obtain ⟨rfl,_⟩:=h2; exact h1.Bi
 | D9 g f xs=>obtain ⟨u,h1,h2⟩:=aH.map h; simp at h2; obtain ⟨rfl,_⟩:=h2; exact h1.Bi
 | H7 g f xs=>simp [cF] at hk
 | call f xs=>exact h.elim
 | bad=>exact h.elim
theorem SI {cfg:dD} {S:Nat->Bool} (h:∀ i,S i=false):∀ {os:List Oper} {L:List Out} {k:Nat} {A:ae},nV P cfg S os L k A=A
 | [],L,k,A=>by cases L <;> rfl
 | o::os,[],k,A=>rfl
 | o::os,x::L,k,A=>by simp only [nV]; rw [h,Bool.false_and,aI]; exact SI h
theorem M9 {S:Nat->Bool} (h:∀ i,S i=false):∀ {os:List Oper} {L:List Out} {k:Nat} {t:bd},gQ S os L k t=t
 | [],L,k,A=>by cases L <;> rfl
 | o::os,[],k,A=>rfl
 | o::os,x::L,k,A=>by simp only [gQ]; rw [h,aI]; exact M9 h
theorem alT {A:ae} {o:gT} {b:Nat} (hb:b < A.next) (cs:List KV) (e:Nat):A.get b=some (.row cs e)↔(A.new o).get b=some (.row cs e):=by
 rw [ae.cq,aa (by omega)]
theorem Pl {A:ae} {o:gT} {b c:Nat} (h:b≠c\/((∀ cs e,A.get b≠some (.row cs e))/\∀ cs e,o≠.row cs e)) (cs:List KV) (e:Nat):A.get b=some (.row cs e)↔(A.put c o).get b=some (.row cs e):=by
 rw [ae.bA];by_cases Yu:b=c
 ·rw [aE Yu]
  rcases h with h | ⟨h1,h2⟩
  ·exact absurd Yu h
  ·exact ⟨fun q=>absurd q (h1 _ _),fun q=>absurd (by simpa using q) (h2 cs e)⟩
 ·rw [aa Yu]
def Rz (A A' : ae):Prop:=A.next<=A'.next/\∀ b,b < A.next->∀ cs e,A.get b=some (.row cs e)↔A'.get b=some (.row cs e)
theorem HI {A:ae} {o:gT} : Rz A (A.new o):=⟨by simp,fun _ hb cs e=>alT hb cs e⟩
theorem Qz {A:ae} {c:Nat} {o o' : gT} (hc:A.get c=some o') (h' : ∀ cs e,o'≠.row cs e) (h:∀ cs e,o≠.row cs e):Rz A (A.put c o):=⟨by simp,fun b _ cs e=>by
 by_cases Yu:b=c
 ·subst Yu
  exact Pl (.inr ⟨fun cs e q=>by rw [hc] at q; simp at q; exact h' cs e q,h⟩) cs e
 ·exact Pl (.inl Yu) cs e⟩
theorem Rz.trans {A B C:ae} (h:Rz A B) (k:Rz B C):Rz A C:=⟨gR h.1 k.1,fun b hb cs e=>(h.2 b hb cs e).trans (k.2 b (fa hb h.1) cs e)⟩
theorem Na {e sz b n f m:Nat} {base new:List KV} {ab an:Nat->KV} {A A' : ae} {v:KV} {more:Bool} (h:aH (TS e sz b n base ab A f m new an more) (v,A')):A' = A.put f (.aP (n+m) sz):=by
 obtain ⟨_,h⟩:=aH.jJ h;simp only [du] at h;exact h.2.symm
theorem Ug {e b n m:Nat} {base new:List KV} {ab an:Nat->KV} {A A' : ae} {v:KV} {more:Bool} (h:aH (Y4 e b n base ab A m new an more) (v,A')):∃ o,A' = A.new (.arr o):=by
 obtain ⟨_,h⟩:=aH.jJ h;simp only [du] at h;exact ⟨_,h.2.symm⟩
theorem aek {e sz b:Nat} {A A' : ae} {xs:List KV} {v:KV} (h:aH (OV e sz b A xs) (v,A')):Rz A A':=by
 unfold OV at h;split at h
 ·obtain ⟨_,h⟩:=aH.cond h
  rw [Na h];exact HI.trans (Qz (o':=.aP 0 sz) (by simp) (by simp) (by simp))
 ·obtain ⟨_,h⟩:=aH.cond h
  rw [Na h];exact HI.trans (Qz (o':=.aP 0 sz) (by simp) (by simp) (by simp))
 ·split at h
  ·rename_i hf
   obtain ⟨_,h⟩:=aH.cond h;rw [Na h];exact Qz hf (by simp) (by simp)
  ·exact h.elim
 ·exact h.elim
theorem RA {e b:Nat} {A A' : ae} {xs:List KV} {v:KV} (h:aH (HG e b A xs) (v,A')):Rz A A':=by
 unfold HG at h;split at h
 ·obtain ⟨_,h⟩:=aH.cond h
  obtain ⟨o,rfl⟩:=Ug h;exact HI
 ·split at h
  ·rename_i hf
   obtain ⟨_,h⟩:=aH.cond h;obtain ⟨o,rfl⟩:=Ug h;exact (Qz hf (by simp) (by simp)).trans HI
  ·exact h.elim
 ·exact h.elim
theorem acn {e sz b:Nat} {mt:Bool} {A A' : ae} {xs:List KV} {v:KV} (h:aH (LG e sz b mt A xs) (v,A')):Rz A A':=by
 unfold LG at h;split at h
 ·split at h
  ·rename_i y' _
   revert h
   cases alD _ with
   | true=>exact fun h=>RA h
   | false=>
    cases mt with
    | true=>exact fun h=>RA h
    | false=>exact fun h=>aek h
  ·exact h.elim
 ·exact h.elim
theorem akz {c:Bool} {i:r8} {t:bd} {A:ae} {x:KV×ae} (h:aH (xm (cond c i .bad) t A) x):aH (xm i t A) x:=by
 cases c with
 | true=>exact h
 | false=>exact h.elim
theorem aaC {cfg:dD} {o:Oper} {t:bd} {A A' : ae} {v:KV} (hs:Qs o.op=true) (h:aH (xm (bw P cfg o.op) t A) (v,A')):Rz A A':=by
 revert hs h
 cases hop:o.op <;> intro hs h <;> simp [Qs] at hs
 ·rename_i T
  have h:aH (xm (rC P T) t A) (v,A'):=h;unfold rC at h;split at h
  ·rename_i z _
   cases hb:(flat z&&z.cells.toList.all scalar&&gx (fy z).cells) with
   | false=>rw [hb] at h; exact h.elim
   | true=>
    rw [hb,aj] at h;have h:(KV.ptr A.next 0,A.new (.row (fy z).cells (oP P T)))=(v,A'):=h;simp only [du] at h;rw [<- h.2];exact HI
  ·exact h.elim
 ·rename_i T x
  have h:aH (H8 (oP P T) A [gp t x]) (v,A'):=h;unfold H8 at h;simp only at h;obtain ⟨_,h⟩:=aH.cond h;have h:(KV.ptr A.next 0,A.new (.row (gp t x).cells (oP P T)))=(v,A'):=h;simp only [du] at h;rw [<- h.2];exact HI
 ·rename_i c
  split at hs
  ·rename_i hc
   have h:aH (xm (lH P cfg c) t A) (v,A'):=h;unfold lH at h;rw [hc] at h;simp only [CU] at h;unfold JN at h;split at h
   ·split at h
    ·split at h
     ·split at h
      ·exact acn (akz h)
      ·exact h.elim
     ·exact h.elim
    ·exact h.elim
   ·exact h.elim
  ·simp at hs
theorem XM {cfg:dD} {o:Oper} {T:TypeId} {a x:Operand} {t:bd} {A A' : ae} {v:KV} (ho:o.op = .store T a x) (h:aH (xm (bw P cfg o.op) t A) (v,A')) :
  A'.next=A.next/\∀ b,((∃ b2 off,gp t a = .ptr b2 off/\b≠b2)\/∃ U Tc c i k,gp t a = .ap U Tc c i k)->∀ cs e,A.get b=some (.row cs e)↔A'.get b=some (.row cs e):=by
 rw [ho] at h;have h:aH (TR P T A [gp t a,gp t x]) (v,A'):=h;unfold TR at h;split at h
 ·rename_i c off w heq
  simp only [List.cons.injEq,and_true] at heq;obtain ⟨_,h⟩:=aH.cond h;split at h
  ·split at h
   ·have h:(tT,_)=(v,A'):=h
    simp only [du] at h;rw [<- h.2];refine ⟨rfl,fun b hb cs e=>Pl (.inl ?_) cs e⟩;rcases hb with ⟨b2,alP,h1,h2⟩ | ⟨U,Tc,c',i,k,h1⟩
    ·rw [heq.1] at h1; simp at h1; rw [h1.1]; exact h2
    ·rw [heq.1] at h1; simp at h1
   ·exact h.elim
  ·exact h.elim
 ·rename_i U Tc c i k w heq
  split at h
  ·rename_i hA
   obtain ⟨_,h⟩:=aH.cond h;split at h
   ·have h:(tT,_)=(v,A'):=h
    simp only [du] at h;rw [<- h.2];refine ⟨rfl,fun b _ cs e=>?_⟩;by_cases Yu:b=c
    ·subst Yu
     exact Pl (.inr ⟨fun cs e q=>by rw [hA] at q; simp at q,by simp⟩) cs e
    ·exact Pl (.inl Yu) cs e
   ·exact h.elim
  ·exact h.elim
 ·exact h.elim
theorem SJ {t:bd} {nx:Nat} : ∀ {l:List (Option Operand×Operand)},Sk t nx l=true->∀ p∈l,LH t nx p=true
 | [],_,p,hp=>by simp at hp
 | q::l,h,p,hp=>by
  have h:Bool.rec (motive:=fun _=>Bool) false (Sk t nx l) (LH t nx q)=true:=h;cases hq:LH t nx q with
  | false=>rw [hq] at h; simp at h
  | true=>
   rw [hq] at h;rcases de.1 hp with rfl | hp
   ·exact hq
   ·exact SJ h p hp
theorem Pm {i:Nat} {x:Tmp} : ∀ (os:List Oper) (k:Nat),uB i (.tmp x) os k=true->∀ j o,os[j]? = some o->i<=k+j->o.dst≠some x
 | [],k,_,j,o,ho,_=>by simp at ho
 | q::os,k,h,0,o,ho,hle=>by
  simp at ho;subst ho;simp only [uB,aq,u7,lU] at h;rcases h.1 with h1 | h1
  ·rw [bF] at h1; omega
  ·intro e
   rw [e,C3 (by simp [tQ])] at h1;simp at h1
 | q::os,k,h,j+1,o,ho,hle=>by
  simp only [uB,aq] at h;exact Pm os (k+1) h.2 j o (by simpa using ho) (by omega)
section
variable {cfg:dD} {all:List Oper} {L:List Out} {t0:bd} {A0:ae}
theorem ael {tn t1:bd} {i:Nat} {x:Operand} (QX:∀ y,tn.get y=(gQ (fun _=>true) all L 0 t0).get y) (vB:∀ y,t1.get y=(gQ (fun j=>Nat.blt j i) all L 0 t0).get y) (h:uB i x all 0=true):gp tn x=gp t1 x:=by
 cases x with
 | tmp y=>
  simp only [gp];rw [QX y,vB y,kM (S':=fun j=>Nat.blt j i) rfl fun j o ho hd=>?_];rw [ba]
  symm
  rw [bF];refine Nat.lt_of_not_le fun hle=>?_;exact Pm all 0 h j o ho (by omega) hd
 | const v=>rfl
 | global g=>rfl
 | func f=>rfl
theorem afN (j:Nat):(∃ q x,all[j]? = some q/\L[j]? = some x/\turns P cfg q x=true/\nV P cfg (fun k=>Nat.blt k (j+1)) all L 0 A0=x.2.2)\/
  ((∀ q x,all[j]? = some q->L[j]? = some x->turns P cfg q x=false)/\nV P cfg (fun k=>Nat.blt k (j+1)) all L 0 A0=nV P cfg (fun k=>Nat.blt k j) all L 0 A0):=by
 by_cases h:∃ q x,all[j]? = some q/\L[j]? = some x/\turns P cfg q x=true
 ·obtain ⟨q,x,h1,h2,h3⟩:=h
  refine .inl ⟨q,x,h1,h2,h3,?_⟩;have:=afL (A0:=A0) h1 h2 h3;exact this
 ·have hn:∀ q x,all[j]? = some q->L[j]? = some x->turns P cfg q x=false:=fun q x h1 h2=>by
   cases ht:turns P cfg q x with
   | false=>rfl
   | true=>exact absurd ⟨q,x,h1,h2,ht⟩ h
  refine .inr ⟨hn,JU fun k q x hq hx ht=>?_⟩;rw [ba];have cH:k≠j:=fun e=>by subst e; rw [hn q x hq hx] at ht; simp at ht
  cases hb:Nat.blt k j with
  | true=>rw [bF] at hb ⊢; omega
  | false=>
   cases wB:Nat.blt k (j+1) with
   | false=>rfl
   | true=>
    rw [bF] at wB;have : ¬ k < j:=fun h=>by rw [<- bF,hb] at h; simp at h
    omega
theorem XN (hf:Ry P cfg all) {S:Nat->Bool} (hc:va all S):∀ n,∃ m,m<=n/\∀ j q x,j < n->all[j]? = some q->L[j]? = some x->turns P cfg q x=true->S j=Nat.blt j m
 | 0=>⟨0,aB 0,fun j q x hj=>by omega⟩
 | n+1=>by
  obtain ⟨m,hm,h⟩:=XN hf hc n;by_cases hn:∃ q x,all[n]? = some q/\L[n]? = some x/\turns P cfg q x=true/\S n=true
  ·obtain ⟨q,x,h1,h2,h3,h4⟩:=hn
   have hq3:Nat.ble 3 (cF (bw P cfg q.op))=true:=by unfold turns at h3; simp only [aq] at h3; exact h3.2
   have hk:cF (bw P cfg q.op)≠0:=by have:=dX hq3; omega
   have gY:=Pj hf h1 hk fun T a e=>by rw [Ip e] at hq3; simp at hq3
   refine ⟨n+1,aB _,fun j q' x' hj h5 h6 h7=>?_⟩;have hb:Nat.blt j (n+1)=true:=by rw [bF]; exact hj
   rw [hb];by_cases hjn:j=n
   ·subst hjn; exact h4
   ·have apE:Nat.ble 3 (cF (bw P cfg q'.op))=true:=by unfold turns at h7; simp only [aq] at h7; exact h7.2
    exact hc n j h4 ((gY j q' h5 apE).1 (by omega))
  ·refine ⟨m,by omega,fun j q x hj h5 h6 h7=>?_⟩
   by_cases hjn:j=n
   ·subst hjn
    have hb:Nat.blt j m=false:=by
     cases hb:Nat.blt j m with
     | false=>rfl
     | true=>rw [bF] at hb; omega
    rw [hb];cases hs:S j with
    | false=>rfl
    | true=>exact absurd ⟨q,x,h5,h6,h7,hs⟩ hn
   ·exact h j q x (by omega) h5 h6 h7
theorem akA (hf:Ry P cfg all) {S:Nat->Bool} (hc:va all S):∃ m,(∀ j q x,all[j]? = some q->L[j]? = some x->turns P cfg q x=true->S j=Nat.blt j m)/\nV P cfg S all L 0 A0=nV P cfg (fun j=>Nat.blt j m) all L 0 A0:=by
 obtain ⟨m,_,h⟩:=XN (L:=L) hf hc all.length;have h' : ∀ j q x,all[j]? = some q->L[j]? = some x->turns P cfg q x=true->S j=Nat.blt j m:=fun j q x h1 h2 h3=>h j q x (cG.1 h1).1 h1 h2 h3;exact ⟨m,h',JU fun j q x h1 h2 h3=>by rw [ba]; exact h' j q x h1 h2 h3⟩
def AtK (P:Program) (cfg:dD) (all:List Oper) (L:List Out) (t0:bd) (A0:ae):Prop:=∀ i o x,all[i]? = some o->L[i]? = some x->∃ t1,(∀ y,t1.get y=(gQ (fun j=>Nat.blt j i) all L 0 t0).get y)/\(x.1=true->aH (xm (bw P cfg o.op) t1 (nV P cfg (fun j=>Nat.blt j i) all L 0 A0)) (x.2.1,x.2.2))
theorem afO (uZ:AtK P cfg all L t0 A0) (hpl:Sm P cfg all=true):∀ j,A0.next<=(nV P cfg (fun k=>Nat.blt k j) all L 0 A0).next
 | 0=>by rw [SI (fun i=>by
   cases hb:Nat.blt i 0 with
   | false=>rfl
   | true=>rw [bF] at hb; omega)]; exact aB _
 | j+1=>by
  have ih:=afO uZ hpl j;rcases afN (P:=P) (cfg:=cfg) (all:=all) (L:=L) (A0:=A0) j with ⟨q,x,h1,h2,h3,h4⟩ | ⟨_,h4⟩
  ·rw [h4]
   obtain ⟨t1,_,hg⟩:=uZ j q x h1 h2;unfold turns at h3;simp only [aq] at h3;have hg:=hg h3.1;have hp:=fg.1 hpl q (gh h1);simp only [u7,h3.2,Bool.not_true,G0,false_or] at hp;rcases hp with hp | hp
   ·exact gR ih (aaC hp hg).1
   ·obtain ⟨a2,ZD⟩:=Qi.1 hp
    unfold TV at ZD;split at ZD
    ·rename_i T a3 v e
     rw [(XM e hg).1]; exact ih
    ·simp at ZD
  ·rw [h4]; exact ih
theorem afP (hf:Ry P cfg all) {S:Nat->Bool} (hc:va all S) {i:Nat} {o:Oper} {T:TypeId} {a:Operand} (ho:all[i]? = some o) (F1:o.op = .load T a) (sh:S i=false) (u6:zf all S i) (hns : ¬ Ue P cfg all i)
  (uZ:AtK P cfg all L t0 A0) {tn:bd} (QX:∀ y,tn.get y=(gQ (fun _=>true) all L 0 t0).get y) (ajr:Sk tn A0.next (KK P cfg all)=true)
  {t1:bd} (vB:∀ y,t1.get y=(gQ (fun j=>Nat.blt j i) all L 0 t0).get y) {v:KV} {A1:ae} (hg:aH (xm (bw P cfg o.op) t1 (nV P cfg (fun j=>Nat.blt j i) all L 0 A0)) (v,A1)) :
  aH (xm (bw P cfg o.op) t1 (nV P cfg S all L 0 A0)) (v,nV P cfg S all L 0 A0):=by
 have hk:cF (bw P cfg o.op)≠0:=by rw [Ip F1]; simp
 have hex:∃ p,p∈KK P cfg all/\p.2=a/\uB i a all 0=true:=by
  refine Classical.byContradiction fun cH=>hns fun j q hq h3=>?_;rcases unordered hf ho hq hk h3 with h | ⟨p,h1,h2,h3,_⟩
  ·exact h
  ·obtain ⟨⟨T',e⟩,_⟩:=C2 h2
   rw [F1] at e;simp only [Op.load.injEq] at e;exact absurd ⟨p,h1,e.2.symm,by rw [e.2]; exact h3⟩ cH
 obtain ⟨p,hp,hpa,hnd⟩:=hex;have AK:=ael QX vB hnd;have hpd:=SJ ajr p hp;have hpl:=hf.plain p hp;rw [F1] at hg ⊢;have alU:∀ A,xm (bw P cfg (.load T a)) t1 A=(Aa P T A [gp t1 a]).map fun v=>(v,A):=fun _=>rfl;rw [alU] at hg ⊢;obtain ⟨u,Oo,he⟩:=aH.map hg;simp only [du] at he;obtain ⟨rfl,_⟩:=he;clear hg;have hg:=Oo;clear Oo;refine aH.Bi (f:=fun v=>(v,nV P cfg S all L 0 A0)) ?_;unfold LH at hpd;rw [hpa,AK] at hpd;cases hv:gp t1 a with
 | tp U Tc m k es acc=>rw [hv] at hg; exact hg
 | ptr b off=>
  rw [hv] at hg hpd;simp only [aq] at hpd;have hb:=hpd.1;rw [bF] at hb;have fp:∃ cs e,(nV P cfg (fun j=>Nat.blt j i) all L 0 A0).get b=some (.row cs e):=by
   have hg:aH (match Tx P T,size? P T with
    | some ag,some n=>match (K.rowAt (nV P cfg (fun j=>Nat.blt j i) all L 0 A0) b).bind fun cs=>yE n (Ea off cs) with
     | some l=>cond ag (.ok (.agg l)) (match l with | [v]=>.ok v | _=>.no)
     | none=>.no
    | _,_=>.no) u:=hg
   split at hg
   ·split at hg
    ·rename_i l hl
     obtain ⟨cs,h1,_⟩:=cC.1 hl;unfold K.rowAt at h1;split at h1
     ·rename_i bL e h2; exact ⟨bL,e,h2⟩
     ·simp at h1
    ·exact hg.elim
   ·exact hg.elim
  obtain ⟨cs,e,fp⟩:=fp;obtain ⟨m,hm,gY⟩:=akA (L:=L) (A0:=A0) hf hc;have step:∀ k,(∀ q x,all[k]? = some q->L[k]? = some x->turns P cfg q x=true->¬ ((k < i->oE (dE [] all) i k=true)/\(i < k->oE (dE [] all) k i=true)))->
    ((nV P cfg (fun j=>Nat.blt j k) all L 0 A0).get b=some (.row cs e)↔(nV P cfg (fun j=>Nat.blt j (k+1)) all L 0 A0).get b=some (.row cs e)):=by
   intro k Nb;rcases afN (P:=P) (cfg:=cfg) (all:=all) (L:=L) (A0:=A0) k with ⟨q,x,h1,h2,h3,h4⟩ | ⟨_,h4⟩
   ·rw [h4]
    have h3':=h3;unfold turns at h3';simp only [aq] at h3';rcases unordered hf ho h1 hk h3'.2 with h5 | ⟨p',h5,h6,h7,h8⟩
    ·exact absurd h5 (Nb q x h1 h2 h3)
    ·obtain ⟨tk,htk,hgk⟩:=uZ k q x h1 h2
     have hgk:=hgk h3'.1;obtain ⟨⟨T',e1⟩,e2⟩:=C2 h6;rw [F1] at e1;simp only [Op.load.injEq] at e1;have afQ:=SJ ajr p' h5;unfold LH at afQ;rw [<- e1.2,AK,hv] at afQ;simp only [aq] at afQ;rcases e2 with ⟨e2,e3⟩ | ⟨U,a2,v2,e2,e3⟩
     ·exact (aaC e3 hgk).2 b (fa hb (afO uZ hpl k)) cs e
     ·refine (XM e3 hgk).2 b ?_ cs e
      rw [e2] at afQ h8;have Sb:=ael QX htk h8;have h9:=afQ.2;simp only at h9;rw [Sb] at h9;split at h9
      ·rename_i b2 alP e4
       refine .inl ⟨b2,alP,e4,fun e5=>?_⟩;subst e5;simp at h9
      ·rename_i U' Tc' c' i' k' e4; exact .inr ⟨_,_,_,_,_,e4⟩
      ·simp at h9
   ·rw [h4]
  have aoS:(nV P cfg S all L 0 A0).get b=some (.row cs e):=by
   rw [gY];rcases Nat.le_total m i with hle | hle
   ·have down:∀ d k,k+d=i->m<=k->(nV P cfg (fun j=>Nat.blt j k) all L 0 A0).get b=some (.row cs e):=by
     intro d
     induction d with
     | zero=>intro k hk _; have:k=i:=by omega
             rw [this]; exact fp
     | succ d ih=>
      intro k hk SA;refine (step k fun q x h1 h2 h3 LV=>?_).2 (ih (k+1) (by omega) (by omega));have h4:=hm k q x h1 h2 h3;have h5:S k=true:=hc.ready hf.SH ho u6 k (LV.1 (by omega));rw [h5] at h4;have h4:=h4.symm;rw [bF] at h4;omega
    exact down (i - m) m (by omega) (aB m)
   ·have up:∀ d,i+d<=m->(nV P cfg (fun j=>Nat.blt j (i+d)) all L 0 A0).get b=some (.row cs e):=by
     intro d
     induction d with
     | zero=>intro _; exact fp
     | succ d ih=>
      intro hd;refine (step (i+d) fun q x h1 h2 h3 LV=>?_).1 (ih (by omega));have h4:=hm (i+d) q x h1 h2 h3;have h5:Nat.blt (i+d) m=true:=by rw [bF]; omega
      rw [h5] at h4;by_cases hd0:d=0
      ·subst hd0
       rw [ym] at h4;rw [sh] at h4; simp at h4
      ·have:=hc (i+d) i h4 (LV.2 (by omega))
       rw [sh] at this; simp at this
    have:=up (m - i) (by omega);rwa [show i+(m - i)=m by omega] at this
  have Kx:K.rowAt (nV P cfg S all L 0 A0) b=K.rowAt (nV P cfg (fun j=>Nat.blt j i) all L 0 A0) b:=by
   unfold K.rowAt;rw [fp,aoS]
  show aH (match Tx P T,size? P T with
    | some ag,some n=>match (K.rowAt (nV P cfg S all L 0 A0) b).bind fun cs=>yE n (Ea off cs) with
     | some l=>cond ag (.ok (.agg l)) (match l with | [v]=>.ok v | _=>.no)
     | none=>.no
    | _,_=>.no) u
  rw [Kx];exact hg
 | _=>rw [hv] at hpd; simp at hpd
end
theorem aco {R:Type} {cfg:dD} {aR:ko R} (eW:rp P cfg.pc) (hm:P.follows .mixedOrders=true) {id:Nat} {all:List Oper} {N base:Nat} (hdN:all.all (Kt N)=true) {k:bd->ae->Option R} {r:R} {t:bd} {A:ae} {B:St} {ρ:Ren} {a:Act} {w:World} {Q:Exit->Act->World->Prop}
  (LV:afl P cfg all=true) (h:XA P cfg aR all (fun t' A'=>Bool.rec (motive:=fun _=>Option R) none (k t' A') (Sk t' A.next (KK P cfg all))) all t A=some r) (ht:iR P E ρ t N a) (hj:KJ P E A B ρ base w)
  (hq:∀ t' E' A' B' aF a' w',k t' A' = some r->iR P E' aF t' N a'->a'.defers=a.defers->Ev P base E A B ρ w E' A' B' aF w'->Q .normal a' w'):(Code.region id ⟨all⟩ true).wp P Q a w:=by
 have hf:=afK LV;obtain ⟨L,tn,An,lA,hk⟩:=Ua (fun o ho f args=>zk (hf.kind o ho) f args) h;obtain ⟨hlen,QX,hAn,uZ⟩:=lA.at;have hdk:Sk tn A.next (KK P cfg all)=true/\k tn An=some r:=by
  cases hd:Sk tn A.next (KK P cfg all) with
  | false=>simp only [hd] at hk; exact absurd hk (by simp)
  | true=>simp only [hd] at hk; exact ⟨rfl,hk⟩
 obtain ⟨ajr,hk⟩:=hdk;have apF:AtK P cfg all L t A:=fun i o x ho hx=>by obtain ⟨t1,q1,_,q3,_⟩:=uZ i o x ho hx; exact ⟨t1,q1,q3⟩
 have Pn:Ev P base E A B ρ w E A B ρ w.drew:=(cO.refl hj.k).ev (iU.drew hj.s);refine wp_region_any hm ?_;show wpAny P .any ⟨all⟩ Q all.length (Array.replicate all.length false) a w.drew;have F7:∀ i,(Array.replicate all.length false).getD i false=false:=by
  intro i;rw [kR,Array.getElem?_replicate];split <;> rfl
 let Inv:(Nat->Bool)->Act->World->Prop:=fun S a' w'=>∃ E' B' aF,a'.defers=a.defers/\Ev P base E A B ρ w.drew E' (nV P cfg S all L 0 A) B' aF w'/\iR P E' aF (gQ S all L 0 t) N a'
 refine G7 hf.SH Inv ?_ ?_ ?_ all.length _ a w.drew (by simp) ?_ (fun i j hi _=>by
   have h2:(Array.replicate all.length false).getD i false=true:=hi;rw [F7] at h2; simp at h2) ⟨E,B,ρ,rfl,?_,?_⟩
 ·
  rintro S S' a' w' hSS ⟨E',B',aF,h1,h2,h3⟩;have e1:nV P cfg S all L 0 A=nV P cfg S' all L 0 A:=JU fun i o x ho _ _=>by rw [ba]; exact hSS i (cG.1 ho).1
  refine ⟨E',B',aF,h1,by rw [<- e1]; exact h2,h3.same fun y=>?_⟩;exact kM rfl fun i o ho _=>by rw [ba]; exact (hSS i (cG.1 ho).1).symm
 ·
  rintro S a' w' i o ⟨E',B',aF,h1,h2,h3⟩ hc ho sh u6 _;have hi:i < L.length:=by rw [hlen]; exact (cG.1 ho).1
  have hx:L[i]? = some L[i]:=cI hi;obtain ⟨t1,vB,hw,afR,Nb⟩:=uZ i o L[i] ho hx;have Ek:∀ y∈nS P cfg all o,t1.get y=(gQ S all L 0 t).get y:=fun y hy=>by rw [vB y,aaB hf.toT hc ho sh u6 hy]
  have El:=yJ h3 (fun y hy=>Ek y (by unfold nS; exact List.mem_append_left _ hy)) hw;have Ik:∀ d,o.dst=some d->d < N:=by
   intro d ed;have:=fg.1 hdN o (gh ho);unfold Kt at this;rw [ed] at this;simp only at this;rw [bF] at this;exact this
  have hoA:(⟨all⟩:Array Oper)[i]? = some o:=by simpa using ho
  unfold wpOp;rw [hoA];simp only [El];cases DY:L[i].1 with
  | false=>
   simp only [G0,if_false];have hv:=Nb DY;refine ⟨E',B',aF,by rw [put_defers]; exact h1,?_,?_⟩
   ·rw [Bj ho hx (by unfold turns; rw [DY]; rfl)]
    exact h2
   ·refine (h3.put Ik VC.undef).same fun y=>?_
    rw [LU hf.toT hc ho hx sh y,hv]
  | true=>
   simp only [if_true];refine .inl ?_;have hg:=afR DY;have hgS:∃ A1,aH (xm (bw P cfg o.op) t1 (nV P cfg S all L 0 A)) (L[i].2.1,A1)/\nV P cfg (cQ S i) all L 0 A=A1:=by
    by_cases xg:cF (bw P cfg o.op)=0
    ·refine ⟨_,afM hg xg,Bj ho hx ?_⟩
     unfold turns;rw [xg,show Nat.ble 3 0=false from rfl,Bool.and_false]
    ·by_cases gY:Ue P cfg all i
     ·rw [Uf (L:=L) (A0:=A) hf hc ho sh u6 gY]
      refine ⟨_,hg,?_⟩;cases QX:turns P cfg o L[i] with
      | true=>exact ahR hf hc ho hx sh u6 QX
      | false=>
       have h4:=Ej hg (by simpa [turns,DY] using QX);rw [Bj ho hx QX,Uf (L:=L) (A0:=A) hf hc ho sh u6 gY,h4]
     ·have hex:∃ T a,o.op = .load T a:=Classical.byContradiction fun cH=>gY (Pj hf ho xg fun T a e=>cH ⟨T,a,e⟩)
      obtain ⟨T,a',F1⟩:=hex;refine ⟨_,afP hf hc ho F1 sh u6 gY apF QX ajr vB hg,Bj ho hx ?_⟩;unfold turns;rw [Ip F1,show Nat.ble 3 1=false from rfl,Bool.and_false]
   obtain ⟨A1,hg1,hA1⟩:=hgS;refine M8 eW hg1 (fun x hxm=>Pk h3 fun y e=>Ek y ?_) h2.kj fun Hh Il vo v' G3 h4 h5=>?_
   ·unfold nS
    subst e;exact List.mem_append_right _ (ky hxm)
   ·refine ⟨Hh,Il,vo,by rw [put_defers]; exact h1,?_,?_⟩
    ·rw [hA1]; exact h2.trans h5
    ·refine ((h3.mono h5.le (h5.eH.le h2.eH.fT)).put Ik h4).same fun y=>?_
     rw [LU hf.toT hc ho hx sh y]
 ·
  rintro S a' w' qF ⟨E',B',aF,h1,h2,h3⟩;have e1:nV P cfg S all L 0 A=An:=by rw [hAn]; exact JU fun i o x ho _ _=>by rw [ba]; exact qF i (cG.1 ho).1
  rw [e1] at h2;refine hq tn E' An B' aF a' w' hk (h3.same fun y=>?_) h1 (Pn.trans h2);rw [QX y];exact kM rfl fun i o ho _=>by rw [ba]; exact (qF i (cG.1 ho).1).symm
 ·simp
 ·rw [SI F7]
  exact .refl hj.k Pn.eH.fT
 ·refine ht.same fun y=>?_
  rw [M9 F7]
end Go.K
end
section
namespace Go.K
open Go Go.aG
variable {P:Program} {E:Env}
theorem apG {A:ae} {B:St} {bL:List Value} {bp:Nat} (h:dr P E A B):cO P E A B E A (B.new (.row bL bp true none)):=by
 have BP:∀ x,AR A E x->(B.new (.row bL bp true none)).get x=B.get x:=fun x q=>by have:=h.Ic q; rw [St.cq,aa (by omega)]
 refine ⟨⟨?_,?_,?_,h.apart,h.inj,h.gz,h.jI,h.kK,h.live,?_,?_,?_,?_,?_,h.ar.dP (Env.le_refl _) (fun _=>rfl) (fun _ _ e=>e) (fun _ _ e=>e) (aB _) (by simp) BP (fun _ _ e=>.inl e) (fun _ _ e=>.inl e) (fun b g e=>.inl ⟨b,e⟩) (fun _ _=>by simp) h.mem⟩,Env.le_refl _,aB _,?_,fun _ _ e=>.inl e,fun _ _ e=>.inl e,fun _ _ e=>.inl e,fun _ _ _ _=>by simp,fun _ q=>.inl q,fun _ q=>.inl (q.of (fun _=>rfl) (fun _ _ e=>e) BP),fun _ _ q=>.inl (by simpa using q),fun _ q=>.inl (q.of (fun _=>rfl) (fun _ _ e=>e) BP fun _ _=>by simp),mm aag,fun _ e=>e⟩
 ·intro b lY O8 hb
  obtain ⟨x,c,h1,h2,h3⟩:=h.row b lY O8 hb;have:=h.eV b x h1;exact ⟨x,c,h1,by rw [St.cq,aa (by omega)]; exact h2,h3⟩
 ·intro b top F4 hb
  rcases h.aP b top F4 hb with h1 | ⟨g,h1,hp0,h2⟩
  ·exact .inl h1
  ·refine .inr ⟨g,h1,hp0,fun x hx c e own f k hg=>?_⟩
   rw [St.cq] at hg;split at hg
   ·simp at hg
   ·exact h2 x (by simpa using hx) c e own f k hg
 ·intro b r hb
  have:=h.lB b r hb;rw [St.cq,aa (by omega)];exact h.z b r hb
 ·intro b x hb; have:=h.eV b x hb; rw [St.bS]; omega
 ·intro b r hb; have:=h.lB b r hb; rw [St.bS]; omega
 ·intro b g hb; have:=h.ik b g hb; rw [St.bS]; omega
 ·intro g hg; rw [St.bS] at hg; rw [St.jh]; exact h.fresh g (by omega)
 ·intro g x hx; rw [St.jh] at hx; rw [St.bS]; have:=h.mem g x hx; omega
 ·intro x hx _ _; rw [St.cq,aa (by omega)]
structure Fr (E:Env) (A:ae) (B:St) (b0 y:Nat):Prop where
 lo:b0<=y
 hi:y < B.next
 un:∀ b,E.κ b≠some y
 z:E.z y=none
 eI : ¬ AT A E B y
theorem Fr.step {A A' : ae} {B B' : St} {E' : Env} {b0 y base:Nat} {ρ aF:Ren} {w w' : World} (h:Fr E A B b0 y) (k:Ev P base E A B ρ w E' A' B' aF w'):Fr E' A' B' b0 y/\B'.get y=B.get y:=by
 have hn:=k.eH.next;refine ⟨⟨h.lo,fa h.hi hn,fun b e=>?_,?_,fun q=>?_⟩,k.dP y h.hi (fun b e=>absurd e (h.un b)) h.eI⟩
 ·rcases k.new b y e with e | e
  ·exact h.un b e
  ·have:=h.hi; omega
 ·cases hz:E'.z y with
  | none=>rfl
  | some r=>
   rcases k.tW y r hz with e | e | e
   ·rw [h.z] at e; simp at e
   ·exact absurd (.inl e) h.eI
   ·have:=h.hi; omega
 ·rcases k.lZ y q with e | e
  ·exact h.eI e
  ·have:=h.hi; omega
theorem apH {E0:Env} {A0 A:ae} {B0 B:St} {VV ρ aF:Ren} {w0 w w' : World} {base y bp:Nat} {lY bL:List Value} (h:Ev P base E0 A0 B0 VV w0 E A B ρ w) (hy:Fr E A B B0.next y) (hold:B.get y=some (.row lY bp true none))
  (g:iU base ρ B w aF (B.put y (.row bL bp true none)) w'):Ev P base E0 A0 B0 VV w0 E A (B.put y (.row bL bp true none)) aF w':=by
 have hs:=h.fT;have BP:∀ x,AR A E x->(B.put y (.row bL bp true none)).get x=B.get x:=fun x q=>by
  rw [St.bA,aa];intro e;subst e;exact hy.eI (.inl q)
 have KO:∀ q,AF A E (B.put y (.row bL bp true none)) q->AF A E B q:=fun q r=>r.of (fun _=>rfl) (fun _ _ e=>e) BP;have hAT:∀ q,AT A E (B.put y (.row bL bp true none)) q->AT A E B q:=fun q r=>r.of (fun _=>rfl) (fun _ _ e=>e) BP fun _ _=>by simp
 refine ⟨⟨?_,?_,?_,hs.apart,hs.inj,hs.gz,hs.jI,hs.kK,hs.live,hs.eV,hs.lB,hs.ik,?_,?_,hs.ar.dP (Env.le_refl _) (fun _=>rfl) (fun _ _ e=>e) (fun _ _ e=>e) (aB _) (aB _) BP (fun _ _ e=>.inl e) (fun _ _ e=>.inl e) (fun b g e=>.inl ⟨b,e⟩) (fun _ _=>by simp) hs.mem⟩,h.eH.trans g,h.le,h.next,?_,h.new,h.tW,h.se,?_,h.kq,fun q r=>h.kL q (KO q r),?_,fun q r=>h.lZ q (hAT q r),?_,h.CW⟩
 ·intro b cs e hb
  obtain ⟨x,c,h1,h2,h3⟩:=hs.row b cs e hb;refine ⟨x,c,h1,?_,h3⟩;rw [St.bA,aa (fun e=>hy.un b (by rw [<- e]; exact h1))];exact h2
 ·intro b top sz hb
  rcases hs.aP b top sz hb with h1 | ⟨q,h1,hp0,h2⟩
  ·exact .inl h1
  ·refine .inr ⟨q,h1,hp0,fun x hx c e own f k hg=>?_⟩
   rw [St.bA] at hg;split at hg
   ·simp at hg
   ·exact h2 x (by simpa using hx) c e own f k hg
 ·intro b r hb
  rw [St.bA,aa]
  ·exact hs.z b r hb
  ·intro e
   subst e;rw [hy.z] at hb;simp at hb
 ·intro q hq; rw [St.wz]; exact hs.fresh q hq
 ·intro q x hx; rw [St.wz] at hx; exact hs.mem q x hx
 ·intro x hx hn ha
  rw [St.bA,aa (fun e=>by have:=hy.lo; omega)];exact h.dP x hx hn ha
 ·intro q hq hn ha; rw [St.wz]; exact h.oU q hq hn ha
 ·intro q x hx; rw [St.wz] at hx; exact h.vz q x hx
 ·intro x hx c e own bK hg
  rw [St.bA,aa (fun e=>by have:=hy.lo; omega)] at hg;exact h.rows x hx c e own bK hg
theorem aoT {E0:Env} {A0 A:ae} {B0 B:St} {VV ρ:Ren} {w0 w:World} {base y bp:Nat} {cs:List KV} {bL:List Value} (h:Ev P base E0 A0 B0 VV w0 E A B ρ w) (hy:Fr E A B B0.next y) (hold:B.get y=some (.row bL bp true none)) (hv:aV P E cs bL) :
  E.le (E.lI A.next y)/\Ev P base E0 A0 B0 VV w0 (E.lI A.next y) (A.new (.row cs bp)) B ρ w:=by
 have hs:=h.fT;have hle:E.le (E.lI A.next y):=⟨fun _ _ e=>e,fun b x e=>by
  have:=hs.jI b x e;simp only [Env.lI]; rw [aa (by omega)]; exact e,fun _ _ e=>e,fun _ _ e=>e⟩
 have hA:∀ (b:Nat) (v:KV),(A.new (.row cs bp)).get b=some (.arr v)->A.get b=some (.arr v):=fun b v hb=>by
  rw [ae.cq] at hb;split at hb
  ·simp at hb
  ·exact hb
 have Wd:∀ (b:Nat) (v:KV),(A.new (.row cs bp)).get b=some (.iA v)->A.get b=some (.iA v):=fun b v hb=>by
  rw [ae.cq] at hb;split at hb
  ·simp at hb
  ·exact hb
 have r6:∀ x,AR (A.new (.row cs bp)) (E.lI A.next y) x->AR A E x:=fun _ q=>q.of (fun _=>rfl) hA;have KO:∀ g,AF (A.new (.row cs bp)) (E.lI A.next y) B g->AF A E B g:=fun _ q=>q.of (fun _=>rfl) hA fun _ _=>rfl;have hAT:∀ x,AT (A.new (.row cs bp)) (E.lI A.next y) B x->AT A E B x:=fun _ q=>q.of (fun _=>rfl) hA (fun _ _=>rfl) fun _ _=>rfl;refine ⟨hle,⟨⟨?_,?_,hs.z,?_,?_,?_,?_,?_,?_,?_,hs.lB,hs.ik,hs.fresh,hs.mem,?_⟩,h.eH,Env.le_trans h.le hle,by have:=h.next; rw [ae.bS]; omega,h.dP,?_,h.tW,h.se,h.oU,fun x q=>h.kq x (r6 x q),fun g q=>h.kL g (KO g q),h.vz,fun x q=>h.lZ x (hAT x q),h.rows,fun b e=>hs.aah b (h.CW b e)⟩⟩
 ·intro b lY O8 hb
  rw [ae.cq] at hb;split at hb
  ·rename_i e
   simp at hb;obtain ⟨rfl,rfl⟩:=hb;exact ⟨y,bL,by simp [Env.lI,e],hold,hv.mono hle⟩
  ·obtain ⟨x,c,h1,h2,h3⟩:=hs.row b lY O8 hb
   exact ⟨x,c,hle.κ _ _ h1,h2,h3.mono hle⟩
 ·intro b top F4 hb
  rw [ae.cq] at hb;split at hb
  ·simp at hb
  ·exact hs.aP b top F4 hb
 ·intro b x hb
  simp only [Env.lI] at hb ⊢;split at hb
  ·simp at hb; subst hb; exact hy.z
  ·exact hs.apart b x hb
 ·intro b c x hb hc
  simp only [Env.lI] at hb hc;split at hb <;> split at hc
  ·omega
  ·simp at hb; subst hb; exact absurd hc (hy.un c)
  ·simp at hc; subst hc; exact absurd hb (hy.un b)
  ·exact hs.inj b c x hb hc
 ·exact Hb.new (E:=E.lI A.next y) (fun x z g a b c d e f hx hz=>hs.gz x z g a b c d e f hx hz) (.inl fun _ _=>by simp)
 ·intro b x hb
  simp only [Env.lI] at hb;rw [ae.bS];split at hb
  ·omega
  ·have:=hs.jI b x hb; omega
 ·intro b g hb; have:=hs.kK b g hb; rw [ae.bS]; omega
 ·intro b o hb
  rw [ae.cq] at hb;rw [ae.bS];split at hb
  ·omega
  ·have:=hs.live b o hb; omega
 ·intro b x hb
  simp only [Env.lI] at hb;split at hb
  ·simp at hb; have:=hy.hi; omega
  ·exact hs.eV b x hb
 ·have tV:∀ b,(E.lI A.next y).α b=E.α b:=fun _=>rfl
  have JA:∀ c x,(E.lI A.next y).κ c=some x->(c=A.next/\x=y)\/E.κ c=some x:=fun c x e=>by
   simp only [Env.lI] at e;split at e
   ·rename_i e1; simp at e; exact .inl ⟨e1,e.symm⟩
   ·exact .inr e
  refine ⟨fun b v hb=>(hs.ar.arr b v (hA _ _ hb)).mono hle rfl fun _ _ _ _=>rfl,fun b v hb=>(hs.ar.iA b v (Wd _ _ hb)).mono hle rfl,fun x q=>?_,fun b c v u x L N L' N' h1 h2 h3 h4=>hs.ar.inj b c v u x L N L' N' (hA _ _ h1) (hA _ _ h2) h3 h4,
   fun b c v u x z L N L' N' cs e own g k bL e' rm k' h1 h2 h3 h4 h5 h6=>hs.ar.xh b c v u x z L N L' N' cs e own g k bL e' rm k' (hA _ _ h1) (hA _ _ h2) h3 h4 h5 h6,fun b x e=>?_,fun b p e=>?_,fun b x L N e=>hs.ar.eV b x L N e,fun b v x L N cs e own g k h1 h2 h3=>?_,fun b v hb=>?_⟩
  ·obtain ⟨h1,h2⟩:=hs.ar.z x (r6 x q)
   refine ⟨h1,fun c e=>?_⟩;rcases JA c x e with ⟨_,rfl⟩ | e
   ·exact hy.eI (.inl (r6 _ q))
   ·exact h2 c e
  ·rcases JA b x e with ⟨rfl,_⟩ | e
   ·cases hb:E.α A.next with
    | none=>exact hb
    | some p=>have:=hs.ar.jI _ p hb; omega
   ·exact hs.ar.Z6 b x e
  ·have:=hs.ar.jI b p e; rw [ae.bS]; omega
  ·obtain ⟨h4,h5,h6⟩:=hs.ar.vy b v x L N cs e own g k (hA _ _ h1) h2 h3
   refine ⟨h4,h5,fun z hz cH=>?_⟩;obtain ⟨h7,h8,h9⟩:=h6 z hz cH;refine ⟨h7,fun q=>h8 (r6 z q),fun c e'=>?_⟩;rcases JA c z e' with ⟨_,rfl⟩ | e'
   ·exact hy.eI (.inr ⟨g,⟨b,v,x,L,N,cs,e,own,k,hA _ _ h1,h2,h3⟩,hz⟩)
   ·exact h9 c e'
  ·obtain ⟨h1,h2⟩:=hs.ar.nk b v (hA _ _ hb)
   rw [ae.bS];refine ⟨by omega,?_⟩;cases hk:(E.lI A.next y).κ b with
   | none=>rfl
   | some x=>
    rcases JA b x hk with ⟨e,_⟩ | e
    ·omega
    ·rw [h2] at e; simp at e
 ·intro b x hb
  simp only [Env.lI] at hb;split at hb
  ·rename_i e; simp at hb; subst hb; exact .inr ⟨by have:=h.next; omega,hy.lo⟩
  ·exact h.new b x hb
theorem ahS {cfg:dD} (eW:rp P cfg.pc) {o:Oper} {p:Operand×List Operand} (hp:LK o=some p) {t:bd} {A A' : ae} {v:KV} {base:Nat} {B:St} {ρ:Ren} {a:Act} {w:World} {next:Act->World->Prop} {Q:Exit->Act->World->Prop}
  (h:aH (xm (G9 P cfg t p) t A) (v,A')) (hv:∀ x∈p.1::p.2,VC P E ρ (gp t x) (a.eval x)) (hj:KJ P E A B ρ base w)
  (hk:∀ E' B' aF v' w',VC P E' aF v v'->Ev P base E A B ρ w E' A' B' aF w'->next (a.put o.dst v') w'):o.wp P a w next Q:=by
 classical
 have aL:compile P o.op = .call p.1 p.2:=by
  unfold LK at hp;split at hp
  ·rename_i c ho hg
   split at hp
   ·rename_i d hc
    simp at hp;subst hp;rw [ho];exact XK (cfg:=dD.none) (show lH P dD.none c=_ by unfold lH; rw [hc])
   ·simp at hp
  ·simp at hp
 unfold G9 at h;split at h
 ·rename_i g hfv
  split at h
  ·rename_i F hF
   obtain ⟨u,h1,h2⟩:=aH.map h;simp only [du] at h2;obtain ⟨rfl,rfl⟩:=h2;obtain ⟨hlen,hf⟩:=aH.cond h1;obtain ⟨hg,lA⟩:=eW g F hF _ _ hf (aK hlen);have cL:=rl P o;rw [aL] at cL;obtain ⟨em,h3,h4⟩:=mid (xs:=p.1::p.2) hv;obtain ⟨y,ys,e,h5,h6⟩:=h3.cons_inv;simp only [List.map_cons,List.cons.injEq] at e;obtain ⟨rfl,rfl⟩:=e;rw [hfv] at h5;obtain ⟨l,m,e5,e6,e7⟩:=h5.JQ;have:=e6.b5;subst this;have:=e7.b5;subst this;obtain ⟨b7,h7,h8⟩:=cL.2 ρ em a.eval g (p.2.map em) h4 hg.1 (by rw [e5]; simp only [BL]; rw [hg.1]; simp) hg.2;unfold Oper.wp;rw [h8 w];refine (lA E A B ρ base w b7 ⟨p.2.map em,by rw [vC]; exact h6,h7⟩ hj).mono ?_;rintro e w' ⟨v',E',B',aF,rfl,h9,pn⟩;exact hk E' B' aF v' w' h9 pn
  ·exact h.elim
 ·exact h.elim
inductive XO (P:Program) (cfg:dD) (all:List Oper) (A:ae):List Oper->bd->List Out->bd->Prop where
 | nil {t:bd} : XO P cfg all A [] t [] t
 | cons {o:Oper} {os:List Oper} {t t1 t' : bd} {wd:Bool} {v:KV} {L:List Out}
   (same:∀ i,t1.get i=t.get i) (want:Hi all o t wd)
   (yes:wd=true->(si all o=true/\v = .bf)\/(si all o=false/\(aH (xm (bw P cfg o.op) t1 A) (v,A)\/∃ p,LK o=some p/\aH (xm (G9 P cfg t1 p) t1 A) (v,A)))) (no:wd=false->v=tT/\si all o=false)
   (rest:XO P cfg all A os (qH t1 o.dst v) L t'):XO P cfg all A (o::os) t ((wd,v,A)::L) t'
theorem ua {o:Oper} {T:TypeId} {d:Tmp} (h:fO o=some (T,d)):o.op = .alloc T/\o.guard=none/\o.dst=some d:=by
 unfold fO at h;split at h
 ·rename_i T' d' h1 h2 h3
  simp at h;obtain ⟨rfl,rfl⟩:=h;exact ⟨h1,h2,h3⟩
 ·simp at h
theorem Fv {all:List Oper} {o:Oper} {T:TypeId} {d:Tmp} {x:Operand} (h:vt all o=some (T,d,x)):o.op = .store T (.tmp d) x/\o.guard=none/\o.dst=none/\zg d all=true:=by
 unfold vt at h;split at h
 ·rename_i T' d' x' h1 h2 h3
  cases hb:zg d' all with
  | false=>rw [hb] at h; simp at h
  | true=>
   rw [hb,aj] at h;simp at h;obtain ⟨rfl,rfl,rfl⟩:=h;exact ⟨h1,h2,h3,hb⟩
 ·simp at h
theorem SK {all:List Oper} {o:Oper} (h:si all o=true):(∃ T d,fO o=some (T,d))\/∃ T d x,vt all o=some (T,d,x):=by
 unfold si at h;simp only [u7,Qi] at h;rcases h with ⟨⟨T,d⟩,h⟩ | ⟨⟨T,d,x⟩,h⟩
 ·exact .inl ⟨T,d,h⟩
 ·exact .inr ⟨T,d,x,h⟩
theorem ahT {all:List Oper} {o:Oper} (h:si all o=true):o.guard=none:=by
 rcases SK h with ⟨T,d,h⟩ | ⟨T,d,x,h⟩
 ·exact (ua h).2.1
 ·exact (Fv h).2.1
theorem Iq {R:Type} {cfg:dD} {aR:ko R} {all:List Oper} {k:bd->ae->Option R} {r:R} : ∀ {os:List Oper} {t:bd} {A:ae},(∀ o∈os,si all o=true\/cF (bw P cfg o.op)<=1\/(LK o).isSome=true)->Z2 P cfg aR all k os t A=some r->
  ∃ L t',XO P cfg all A os t L t'/\k t' A=some r
 | [],t,A,_,h=>⟨[],t,.nil,h⟩
 | o::os,t,A,hn,h=>by
  have h:ahC P cfg aR all o (Z2 P cfg aR all k os) t A=some r:=h;have Lz:=fun q hq=>hn q (rU o hq);unfold ahC at h;cases hb:si all o with
  | true=>
   rw [hb] at h;have h:Z2 P cfg aR all k os (qH t o.dst .bf) A=some r:=h;obtain ⟨L,t',h1,h2⟩:=Iq Lz h;exact ⟨_,t',.cons (fun _=>rfl) (.inl ⟨ahT hb,rfl⟩) (fun _=>.inl ⟨hb,rfl⟩) (fun e=>by simp at e) h1,h2⟩
  | false=>
   rw [hb] at h;cases hdy:LK o with
   | some p=>
    simp only [hdy] at h;have h:JO aR t A (fun v A=>Z2 P cfg aR all k os (qH t o.dst v) A) (G9 P cfg t p)=some r:=h;have hg:o.guard=none:=by
     unfold LK at hdy;split at hdy
     ·assumption
     ·simp at hdy
    have ajs:G9 P cfg t p = .bad\/∃ g f,G9 P cfg t p = .D9 g f p.2:=by
     unfold G9;split
     ·split
      ·exact .inr ⟨_,_,rfl⟩
      ·exact .inl rfl
     ·exact .inl rfl
    obtain ⟨v,A1,h1,h2⟩:=JT (fun f args e=>by
     rcases ajs with h | ⟨g,f',h⟩ <;> rw [h] at e <;> simp at e) h
    have e:A1=A:=by
     rcases ajs with h | ⟨g,f',h⟩
     ·rw [h] at h1; exact h1.elim
     ·rw [h] at h1
      obtain ⟨u,_,h3⟩:=aH.map h1;simp at h3;exact h3.2.symm
    subst e;obtain ⟨L,t',h3,h4⟩:=Iq Lz h2;exact ⟨_,t',.cons (fun _=>rfl) (.inl ⟨hg,rfl⟩) (fun _=>.inr ⟨hb,.inr ⟨p,hdy,h1⟩⟩) (fun e=>by simp at e) h3,h4⟩
   | none=>
   simp only [hdy] at h;have hk:cF (bw P cfg o.op)<=1:=by
    rcases hn o (by simp) with e | e | e
    ·rw [hb] at e; simp at e
    ·exact e
    ·rw [hdy] at e; simp at e
   have hk3:Nat.ble 3 (cF (bw P cfg o.op))=false:=by
    cases hc:Nat.ble 3 (cF (bw P cfg o.op)) with
    | false=>rfl
    | true=>have:=dX hc; omega
   have hnc:=zk (P:=P) (cfg:=cfg) (o:=o) (by omega);have h:Ab P cfg aR all o (Z2 P cfg aR all k os) t A=some r:=h;unfold Ab at h;cases hg:o.guard with
   | none=>
    rw [hg] at h;obtain ⟨v,A1,h1,h2⟩:=JT hnc h;have e:=Ej h1 hk3;subst e;obtain ⟨L,t',h3,h4⟩:=Iq Lz h2;exact ⟨_,t',.cons (fun _=>rfl) (.inl ⟨hg,rfl⟩) (fun _=>.inr ⟨hb,.inl h1⟩) (fun e=>by simp at e) h3,h4⟩
   | some p=>
    obtain ⟨j,want⟩:=p;rw [hg] at h;obtain ⟨d,hd,h⟩:=Im h;rcases h with ⟨b,t1,h1,h2,h3⟩ | ⟨l,h1,h2⟩
    ·rcases h3 with ⟨h3,h4⟩ | ⟨h3,h4⟩
     ·obtain ⟨v,A1,h5,h6⟩:=JT hnc h4
      have e:=Ej h5 hk3;subst e;obtain ⟨L,t',h7,h8⟩:=Iq Lz h6;exact ⟨_,t',.cons h2 (.inr ⟨j,want,d,hg,hd,.inl ⟨b,h1,h3.symm⟩⟩) (fun _=>.inr ⟨hb,.inl h5⟩) (fun e=>by simp at e) h7,h8⟩
     ·obtain ⟨L,t',h7,h8⟩:=Iq Lz h4
      exact ⟨_,t',.cons h2 (.inr ⟨j,want,d,hg,hd,.inl ⟨b,h1,h3.symm⟩⟩) (fun e=>by simp at e) (fun _=>⟨rfl,hb⟩) h7,h8⟩
    ·obtain ⟨L,t',h7,h8⟩:=Iq Lz h2
     exact ⟨_,t',.cons (fun _=>rfl) (.inr ⟨j,want,d,hg,hd,.inr ⟨l,h1,rfl⟩⟩) (fun e=>by simp at e) (fun _=>⟨rfl,hb⟩) h7,h8⟩
theorem XO.at {cfg:dD} {all:List Oper} {A:ae} : ∀ {os:List Oper} {t t' : bd} {L:List Out},XO P cfg all A os t L t'->
  L.length=os.length/\(∀ y,t'.get y=(gQ (fun _=>true) os L 0 t).get y)/\
  ∀ i o x,os[i]? = some o->L[i]? = some x->∃ t1,(∀ y,t1.get y=(gQ (fun j=>Nat.blt j i) os L 0 t).get y)/\Hi all o t1 x.1/\(x.1=true->(si all o=true/\x.2.1 = .bf)\/(si all o=false/\(aH (xm (bw P cfg o.op) t1 A) (x.2.1,A)\/∃ p,LK o=some p/\aH (xm (G9 P cfg t1 p) t1 A) (x.2.1,A))))/\(x.1=false->x.2.1=tT/\si all o=false)
 | _,_,_,_,.nil=>⟨rfl,fun _=>rfl,fun i o x ho=>by simp at ho⟩
 | o::os,t,t',(wd,v,_)::L,.cons (t1:=t1) same want yes no rest=>by
  obtain ⟨h1,h2,h4⟩:=rest.at;have Ub:∀ y,(qH t1 o.dst v).get y=(qH t o.dst v).get y:=fun y=>by rw [vD,vD,same]
  refine ⟨by simp [h1],fun y=>?_,fun i q x hq hx=>?_⟩
  ·rw [h2 y]
   simp only [gQ,aj];rw [Ei];exact kM (Ub y) fun _ _ _ _=>rfl
  ·cases i with
   | zero=>
    simp at hq hx;subst hq hx;have e0:∀ (os:List Oper) (L:List Out) (k:Nat) (t:bd),gQ (fun j=>Nat.blt j 0) os L k t=t:=by
     intro os
     induction os with
     | nil=>intro L k t; cases L <;> rfl
     | cons o os ih=>intro L k t; cases L with
      | nil=>rfl
      | cons x L=>simp only [gQ]; exact ih L _ t
    refine ⟨t1,fun y=>by rw [e0]; exact same y,?_,yes,no⟩;rcases want with h | ⟨j,wt,d,e2,e3,e4⟩
    ·exact .inl h
    ·exact .inr ⟨j,wt,d,e2,e3,by rw [same]; exact e4⟩
   | succ i=>
    obtain ⟨t2,h5,h6,h7,h8⟩:=h4 i q x (by simpa using hq) (by simpa using hx);have hsh:(fun j=>Nat.blt (j+1) (i+1))=fun j=>Nat.blt j i:=by
     funext j;cases hb:Nat.blt j i with
     | true=>rw [bF] at hb ⊢; omega
     | false=>
      cases hc:Nat.blt (j+1) (i+1) with
      | false=>rfl
      | true=>rw [bF] at hc; rw [show Nat.blt j i=true from by rw [bF]; omega] at hb; simp at hb
    have h01:Nat.blt 0 (i+1)=true:=by rw [bF]; omega
    refine ⟨t2,fun y=>?_,h6,h7,h8⟩;rw [h5 y];simp only [gQ,h01,aj];rw [Ei,hsh];exact kM (Ub y) fun _ _ _ _=>rfl
theorem Ir {cfg:dD} {all:List Oper} {b:List Nat} {i:Nat} {y:Oper} : ∀ (xs:List Oper) (k:Nat),HH P cfg all b i y xs k=true->∀ (j:Nat) (x:Oper),xs[j]? = some x->k+j < i->wJ P cfg all x y=true->oE b i (k+j)=true
 | [],k,_,j,x,hx,_,_=>by simp at hx
 | x0::xs,k,h,0,x,hx,bj,hc=>by
  simp at hx;subst hx;simp only [HH,aq,u7,lU] at h;rcases h.1 with (h1 | h1) | h1
  ·have:=dX h1; omega
  ·rw [hc] at h1; simp at h1
  ·exact h1
 | x0::xs,k,h,j+1,x,hx,bj,hc=>by
  simp only [HH,aq] at h;have:=Ir xs (k+1) h.2 j x (by simpa using hx) (by omega) hc;rwa [show k+1+j=k+(j+1) by omega] at this
theorem Em {cfg:dD} {all:List Oper} {b:List Nat} : ∀ (os:List Oper) (k:Nat),Ci P cfg all b os k=true->∀ (i:Nat) (o:Oper),os[i]? = some o->HH P cfg all b (k+i) o all 0=true
 | [],k,_,i,o,ho=>by simp at ho
 | o0::os,k,h,0,o,ho=>by
  simp at ho;subst ho;simp only [Ci,aq] at h;exact h.1
 | o0::os,k,h,i+1,o,ho=>by
  simp only [Ci,aq] at h;have:=Em os (k+1) h.2 i o (by simpa using ho);rwa [show k+1+i=k+(i+1) by omega] at this
theorem RB {i:Nat} {d:Tmp} : ∀ (os:List Oper) (k:Nat),LJ i d os k=true->∀ (j:Nat) (o:Oper),os[j]? = some o->k+j≠i->o.dst≠some d
 | [],k,_,j,o,ho,_=>by simp at ho
 | q::os,k,h,0,o,ho,cH=>by
  simp at ho;subst ho;simp only [LJ,aq,u7,lU] at h;rcases h.1 with h1 | h1
  ·exact absurd (aK h1) (by simpa using cH)
  ·intro e
   rw [e,C3 (by simp)] at h1;simp at h1
 | q::os,k,h,j+1,o,ho,cH=>by
  simp only [LJ,aq] at h;exact RB os (k+1) h.2 j o (by simpa using ho) (by omega)
theorem NU {all:List Oper} {i:Nat} {d:Tmp} : ∀ (os:List Oper) (k:Nat),Ed all i d os k=true->∀ (j:Nat) (o:Oper),os[j]? = some o->k+j≠i->∀ T x,vt all o≠some (T,d,x)
 | [],k,_,j,o,ho,_=>by simp at ho
 | q::os,k,h,0,o,ho,cH=>by
  simp at ho;subst ho;simp only [Ed,aq,u7] at h;intro T x e;rcases h.1 with h1 | h1
  ·exact absurd (aK h1) (by simpa using cH)
  ·rw [e] at h1
   simp at h1
 | q::os,k,h,j+1,o,ho,cH=>by
  simp only [Ed,aq] at h;exact NU os (k+1) h.2 j o (by simpa using ho) (by omega)
theorem Po {d:Tmp} : ∀ {os:List Oper},zg d os=true->∃ (j:Nat) (o:Oper) (T:TypeId),os[j]? = some o/\fO o=some (T,d)
 | [],h=>by simp [zg] at h
 | o::os,h=>by
  simp only [zg,u7] at h;rcases h with h | h
  ·split at h
   ·rename_i T e he
    have:=aK h;subst this;exact ⟨0,o,T,rfl,he⟩
   ·simp at h
  ·obtain ⟨j,q,T,h1,h2⟩:=Po h
   exact ⟨j+1,q,T,by simpa using h1,h2⟩
structure acW (P:Program) (cfg:dD) (all:List Oper):Prop where
 ord:aaz P cfg all
 kind:∀ o∈all,si all o=true\/cF (bw P cfg o.op)<=1\/(LK o).isSome=true
 dst:∀ (i:Nat) (o:Oper) (T:TypeId) (d:Tmp),all[i]? = some o->fO o=some (T,d)->∀ (j:Nat) (q:Oper),all[j]? = some q->j≠i->q.dst≠some d
 st:∀ (i:Nat) (o:Oper) (T:TypeId) (d:Tmp) (x:Operand),all[i]? = some o->vt all o=some (T,d,x)->uB i x all 0=true/\(∀ (j:Nat) (q:Oper),all[j]? = some q->j≠i->∀ T' x',vt all q≠some (T',d,x'))/\(∃ (j:Nat) (q:Oper) (T' : TypeId),j < i/\all[j]? = some q/\fO q=some (T',d))/\x≠.tmp d
theorem Pp {all:List Oper} : ∀ (os:List Oper) (k:Nat),OY all os k=true->∀ (i:Nat) (o:Oper),os[i]? = some o->
  (∀ T d,fO o=some (T,d)->LJ (k+i) d all 0=true)/\∀ T d x,vt all o=some (T,d,x)->uB (k+i) x all 0=true/\Ed all (k+i) d all 0=true/\zg d (all.take (k+i))=true/\x≠.tmp d
 | [],k,_,i,o,ho=>by simp at ho
 | o0::os,k,h,0,o,ho=>by
  simp at ho;subst ho;simp only [OY,aq] at h;refine ⟨fun T d e=>?_,fun T d x e=>?_⟩
  ·have:=h.1.1
   rw [e] at this;exact this
  ·have:=h.1.2
   rw [e] at this;simp only [aq,lU] at this;refine ⟨this.1.1.1,this.1.1.2,this.1.2,fun e2=>?_⟩;have h3:=this.2;rw [e2,C3 (by simp [tQ])] at h3;simp at h3
 | o0::os,k,h,i+1,o,ho=>by
  simp only [OY,aq] at h;have:=Pp os (k+1) h.2 i o (by simpa using ho);rwa [show k+1+i=k+(i+1) by omega] at this
theorem afS {cfg:dD} {all:List Oper} (h:TW P cfg all=true):acW P cfg all:=by
 unfold TW at h;simp only [aq] at h;obtain ⟨⟨⟨h1,h2⟩,h3⟩,h4⟩:=h;refine ⟨⟨F2 h1,fun {i j x y} hy hx bj hc=>?_⟩,fun o ho=>?_,fun i o T d ho he j q hq cH=>?_,fun i o T d x ho he=>?_⟩
 ·have:=Em all 0 h3 i y hy
  rw [ba] at this;have:=Ir all 0 this j x hx (by omega) hc;rwa [ba] at this
 ·have:=fg.1 h2 o ho
  simp only [u7] at this;rcases this with (h | h) | h
  ·exact .inl h
  ·exact .inr (.inl (dX h))
  ·exact .inr (.inr h)
 ·have:=(Pp all 0 h4 i o ho).1 T d he
  rw [ba] at this;exact RB all 0 this j q hq (by omega)
 ·have:=(Pp all 0 h4 i o ho).2 T d x he
  rw [ba] at this;refine ⟨this.1,fun j q hq cH T' x'=>NU all 0 this.2.1 j q hq (by omega) T' x',?_,this.2.2.2⟩;obtain ⟨j,q,T',h5,h6⟩:=Po this.2.2.1;rw [mg] at h5;split at h5
  ·rename_i bj; exact ⟨j,q,T',bj,h5,h6⟩
  ·simp at h5
theorem E4 {all:List Oper} {d:Tmp} {T:TypeId} {x:Operand} : ∀ {os:List Oper},vu all d os=some (T,x)->∃ (i:Nat) (o:Oper),os[i]? = some o/\vt all o=some (T,d,x)
 | [],h=>by simp [vu] at h
 | o::os,h=>by
  unfold vu at h;split at h
  ·rename_i T' e x' he
   cases hb:Nat.beq d e with
   | true=>
    rw [hb,aj] at h;have:=aK hb;subst this;simp at h;obtain ⟨rfl,rfl⟩:=h;exact ⟨0,o,rfl,he⟩
   | false=>
    rw [hb,aI] at h;obtain ⟨i,q,h1,h2⟩:=E4 h;exact ⟨i+1,q,by simpa using h1,h2⟩
  ·obtain ⟨i,q,h1,h2⟩:=E4 h
   exact ⟨i+1,q,by simpa using h1,h2⟩
theorem E5 {all:List Oper} {d:Tmp} : ∀ {os:List Oper},vu all d os=none->∀ (i:Nat) (o:Oper),os[i]? = some o->∀ T x,vt all o≠some (T,d,x)
 | [],_,i,o,ho=>by simp at ho
 | q::os,h,i,o,ho=>by
  unfold vu at h;intro T x e;split at h
  ·rename_i T' e' x' he
   cases hb:Nat.beq d e' with
   | true=>rw [hb] at h; simp at h
   | false=>
    rw [hb,aI] at h;cases i with
    | zero=>
     simp at ho;subst ho;rw [he] at e;simp at e;rw [e.2.1,tM] at hb;simp at hb
    | succ i=>exact E5 h i o (by simpa using ho) T x e
  ·rename_i hn
   cases i with
   | zero=>simp at ho; subst ho; rw [hn] at e; simp at e
   | succ i=>exact E5 h i o (by simpa using ho) T x e
theorem Iu {all:List Oper} {t:bd} {T:TypeId} {d:Tmp} {cs:List KV} (h:zh P all t T d=some cs):∃ z,wx P T=some z/\flat z=true/\z.cells.toList.all scalar=true/\gx (fy z).cells=true/\some (fy z).cells.length=size? P T/\
  (∀ T' x,vu all d all=some (T',x)->T=T'/\some (gp t x).cells.length=size? P T/\gx (gp t x).cells=true/\cs=(gp t x).cells)/\(vu all d all=none->cs=(fy z).cells):=by
 unfold zh at h;split at h
 ·rename_i z hz
  cases hb:(flat z&&z.cells.toList.all scalar&&gx (fy z).cells&&decide (some (fy z).cells.length=size? P T)) with
  | false=>rw [hb] at h; simp at h
  | true=>
   rw [hb,aj] at h;simp only [aq,lT] at hb;refine ⟨z,hz,hb.1.1.1,hb.1.1.2,hb.1.2,hb.2,fun T' x hs=>?_,fun hs=>?_⟩
   ·rw [hs] at h
    simp only at h;cases hc:(Nat.beq T T'&&decide (some (gp t x).cells.length=size? P T)&&gx (gp t x).cells) with
    | false=>rw [hc] at h; simp at h
    | true=>
     rw [hc,aj] at h;simp only [aq,lT] at hc;exact ⟨aK hc.1.1,hc.1.2,hc.2,by simpa using h.symm⟩
   ·rw [hs] at h
    simpa using h.symm
 ·simp at h
theorem SL {R:Type} {all:List Oper} {t0:bd} {k:bd->ae->Option R} {r:R} : ∀ {os:List Oper} {t:bd} {A:ae},XC P all t0 k os t A=some r->∀ o∈os,∀ T d,fO o=some (T,d)->∃ cs,zh P all t0 T d=some cs
 | [],_,_,_,o,ho,_,_,_=>by simp at ho
 | q::os,t,A,h,o,ho,T,d,he=>by
  have h:Option.rec (motive:=fun _=>Option R) (XC P all t0 k os t A) (fun p=>
   Option.rec (motive:=fun _=>Option R) none (fun cs=>XC P all t0 k os (t.set (.ptr A.next 0) p.2) (A.new (.row cs (oP P p.1)))) (zh P all t0 p.1 p.2)) (fO q)=some r:=h
  cases hq:fO q with
  | none=>
   rw [hq] at h;rcases de.1 ho with rfl | ho
   ·rw [hq] at he; simp at he
   ·exact SL h o ho T d he
  | some p=>
   rw [hq] at h;cases hc:zh P all t0 p.1 p.2 with
   | none=>simp only [hc] at h; exact absurd h (by simp)
   | some cs=>
    simp only [hc] at h;rcases de.1 ho with rfl | ho
    ·rw [hq] at he
     simp at he;subst he;exact ⟨cs,hc⟩
    ·exact SL h o ho T d he
end Go.K
end
section
namespace Go.K
open Go Go.aG
variable {P:Program} {E:Env}
theorem XP:∀ {l vs:List Value},l.length=vs.length->gu 0 l vs=some vs
 | [],[],_=>rfl
 | [],_::_,h=>by simp at h
 | _::_,[],h=>by simp at h
 | x::l,v::vs,h=>by rw [yz,XP (by simpa using h)]; rfl
theorem Y7 {a:Act} {d:Tmp} {v:Value} (h:d < a.tmps.size):(a.put (some d) v).tmps.getD d undef=v:=by
 simp [Act.put,kR,h]
theorem Y8 {a:Act} {dst:Option Tmp} {d:Tmp} {v:Value} (h:dst≠some d):(a.put dst v).tmps.getD d undef=a.tmps.getD d undef:=by
 cases dst with
 | none=>rfl
 | some e=>
  have cH:e≠d:=fun q=>h (by rw [q]);simp [Act.put,kR,Array.getElem?_setIfInBounds_ne cH]
def apI (P:Program) (E:Env) (all:List Oper) (tn:bd) (S:Nat->Bool) (T:TypeId) (d:Tmp) (bL:List Value):Prop:=
 some bL.length=size? P T/\(∀ (i:Nat) (o:Oper) T' x,all[i]? = some o->vt all o=some (T',d,x)->S i=true->aV P E (gp tn x).cells bL)/\
  ((∀ (i:Nat) (o:Oper) T' x,all[i]? = some o->vt all o=some (T',d,x)->S i=false)->∃ z,wx P T=some z/\aV P E (fy z).cells bL)
def Y9 (P:Program) (E:Env) (A:ae) (B:St) (ρ:Ren) (b0:Nat) (all:List Oper) (tn:bd) (S:Nat->Bool) (a:Act) (y:Nat->Nat):Prop:=
 ∀ (j:Nat) (o:Oper) (T:TypeId) (d:Tmp),all[j]? = some o->fO o=some (T,d)->S j=true->
  VR ρ (HS (y j)) (a.tmps.getD d undef)/\Fr E A B b0 (y j)/\(∃ bL,B.get (y j)=some (.row bL (oP P T) true none)/\apI P E all tn S T d bL)/\
  ∀ (j' : Nat) (o' : Oper) (T' : TypeId) (d' : Tmp),all[j']? = some o'->fO o' = some (T',d')->S j' = true->y j' = y j->j' = j
theorem KQ {all:List Oper} {o:Oper} {T:TypeId} {d:Tmp} (h:fO o=some (T,d)):vt all o=none:=by
 cases hb:vt all o with
 | none=>rfl
 | some p=>
  obtain ⟨T',d',x⟩:=p;have h1:=(ua h).1;have h2:=(Fv hb).1;rw [h1] at h2;simp at h2
theorem fX {S:Nat->Bool} {i j:Nat} (h:j≠i):cQ S i j=S j:=by
 unfold cQ;cases hb:Nat.beq j i with
 | false=>simp
 | true=>exact absurd (aK hb) h
theorem Cm {S:Nat->Bool} {i:Nat} : cQ S i i=true:=by simp [cQ]
theorem Y9.step {E' : Env} {A:ae} {B B' : St} {ρ aF:Ren} {base b0:Nat} {w w' : World} {all:List Oper} {tn:bd} {S:Nat->Bool} {a:Act} {y:Nat->Nat} {i:Nat} {o:Oper} {v' : Value} {cfg:dD} (h:Y9 P E A B ρ b0 all tn S a y) (hf:acW P cfg all)
  (ho:all[i]? = some o) (hb:si all o=false) (k:Ev P base E A B ρ w E' A B' aF w') (kC:ρ.le aF):Y9 P E' A B' aF b0 all tn (cQ S i) (a.put o.dst v') y:=by
 intro j q T d hq he hS;have cH:∀ (m:Nat) (q:Oper),all[m]? = some q->si all q=true->m≠i:=fun m q hm AL e=>by
  subst e;rw [ho] at hm;simp at hm;subst hm;rw [hb] at AL;simp at AL
 have hal:∀ {q:Oper} {T:TypeId} {d:Tmp},fO q=some (T,d)->si all q=true:=fun e=>by unfold si; rw [e]; rfl
 have gY:∀ {q:Oper} {T:TypeId} {d:Tmp} {x:Operand},vt all q=some (T,d,x)->si all q=true:=fun e=>by unfold si; rw [e]; simp
 have hji:=cH j q hq (hal he);rw [fX hji] at hS;obtain ⟨h1,h2,⟨bL,h3,h4,h5,h6⟩,h7⟩:=h j q T d hq he hS;obtain ⟨h8,h9⟩:=h2.step k;refine ⟨?_,h8,⟨bL,by rw [h9]; exact h3,h4,fun m q' T' x hm SM Wl=>?_,fun hn=>?_⟩,fun j' o' T' d' z7 KD hS'=>?_⟩
 ·rw [Y8 (hf.dst j q T d hq he i o ho (Ne.symm hji))]
  exact h1.mono kC
 ·rw [fX (cH m q' hm (gY SM))] at Wl
  exact (h5 m q' T' x hm SM Wl).mono k.le
 ·obtain ⟨z,pn,F5⟩:=h6 fun m q' T' x hm SM=>by
   have:=hn m q' T' x hm SM;rwa [fX (cH m q' hm (gY SM))] at this
  exact ⟨z,pn,F5.mono k.le⟩
 ·rw [fX (cH j' o' z7 (hal KD))] at hS'
  exact h7 j' o' T' d' z7 KD hS'
theorem SN {R:Type} {all:List Oper} {tn:bd} {k:bd->ae->Option R} {r:R} {E0:Env} {A0:ae} {B0 B:St} {VV ρ:Ren} {w0 w:World} {base N:Nat} {a:Act} {y:Nat->Nat} : ∀ (os:List Oper) (m:Nat) (t:bd) (E:Env) (A:ae),all.drop m=os->XC P all tn k os t A=some r->
  Ev P base E0 A0 B0 VV w0 E A B ρ w->iR P E ρ t N a->(∀ (j:Nat) (o:Oper) T d,m<=j->all[j]? = some o->fO o=some (T,d)->d < N)->
  (∀ (j:Nat) (o:Oper) (T:TypeId) (d:Tmp),m<=j->all[j]? = some o->fO o=some (T,d)->VR ρ (HS (y j)) (a.tmps.getD d undef)/\Fr E A B B0.next (y j)/\(∀ cs,zh P all tn T d=some cs->∃ bL,B.get (y j)=some (.row bL (oP P T) true none)/\aV P E cs bL)/\
   ∀ (j' : Nat) (o' : Oper) (T' : TypeId) (d' : Tmp),m<=j'->all[j']? = some o'->fO o' = some (T',d')->y j' = y j->j' = j)->
  ∃ t' E' A',k t' A' = some r/\iR P E' ρ t' N a/\Ev P base E0 A0 B0 VV w0 E' A' B ρ w
 | [],m,t,E,A,_,h,sm,ht,_,_=>⟨t,E,A,h,ht,sm⟩
 | o::os,m,t,E,A,hd,h,sm,ht,hN,hb=>by
  have ho:all[m]? = some o:=by
   have:(all.drop m)[0]? = some o:=by rw [hd]; rfl
   rw [o7] at this;simpa using this
  have hd' : all.drop (m+1)=os:=by rw [<- List.drop_drop,hd]; rfl
  have h:Option.rec (motive:=fun _=>Option R) (XC P all tn k os t A) (fun p=>
   Option.rec (motive:=fun _=>Option R) none (fun cs=>XC P all tn k os (t.set (.ptr A.next 0) p.2) (A.new (.row cs (oP P p.1)))) (zh P all tn p.1 p.2)) (fO o)=some r:=h
  cases hq:fO o with
  | none=>
   rw [hq] at h;exact SN (y:=y) os (m+1) t E A hd' h sm ht (fun j o' T d hj=>hN j o' T d (by omega)) fun j o' T d hj ho' he=>by
    obtain ⟨h1,h2,h3,h4⟩:=hb j o' T d (by omega) ho' he;exact ⟨h1,h2,h3,fun j' o'' T' d' z7=>h4 j' o'' T' d' (by omega)⟩
  | some p=>
   obtain ⟨T,d⟩:=p;rw [hq] at h;cases hc:zh P all tn T d with
   | none=>simp only [hc] at h; exact absurd h (by simp)
   | some cs=>
    simp only [hc] at h;obtain ⟨h1,h2,h3,h4⟩:=hb m o T d (aB m) ho hq;obtain ⟨bL,h5,h6⟩:=h3 cs hc;obtain ⟨hle,apJ⟩:=aoT (cs:=cs) sm h2 h5 h6;have JA:(E.lI A.next (y m)).κ A.next=some (y m):=by simp [Env.lI]
    refine SN (y:=y) os (m+1) _ (E.lI A.next (y m)) (A.new (.row cs (oP P T))) hd' h apJ ⟨ht.size,fun i=>?_,fun i hi=>?_⟩ (fun j o' T d hj=>hN j o' T d (by omega)) fun j o' T' d' hj ho' he=>?_
    ·rw [Trie.oO]
     by_cases CW:i=d
     ·subst CW
      rw [aE rfl];exact ⟨_,.BM JA,h1⟩
     ·rw [aa CW]
      exact (ht.val i).mono hle (fun _ _ e=>e)
    ·rw [Trie.oO,aa]
     ·exact ht.none i hi
     ·intro e
      subst e;exact absurd (hN m o T i (aB m) ho hq) (Nat.not_lt_of_le hi)
    ·obtain ⟨g1,g2,g3,g4⟩:=hb j o' T' d' (by omega) ho' he
     have apK:y j≠y m:=fun e=>by have:=h4 j o' T' d' (by omega) ho' he e; omega
     refine ⟨g1,⟨g2.lo,g2.hi,fun b e=>?_,g2.z,fun q=>?_⟩,fun lY hc0=>?_,fun j' o'' T'' d'' z7=>g4 j' o'' T'' d'' (by omega)⟩
     ·simp only [Env.lI] at e
      split at e
      ·simp at e; exact apK e.symm
      ·exact g2.un b e
     ·have hA:∀ (b:Nat) (v:KV),(A.new (.row cs (oP P T))).get b=some (.arr v)->A.get b=some (.arr v):=fun b v hb=>by
       rw [ae.cq] at hb;split at hb
       ·simp at hb
       ·exact hb
      exact g2.eI (q.of (fun _=>rfl) hA (fun _ _=>rfl) fun _ _=>rfl)
     ·obtain ⟨oG,g5,g6⟩:=g3 lY hc0
      exact ⟨oG,g5,g6.mono hle⟩
theorem afT {R:Type} {cfg:dD} {aR:ko R} (eW:rp P cfg.pc) (hm:P.follows .mixedOrders=true) {id:Nat} {all:List Oper} {N base:Nat} (hdN:all.all (Kt N)=true) {k:bd->ae->Option R} {r:R} {t:bd} {A:ae} {B:St} {ρ:Ren} {a:Act} {w:World} {Q:Exit->Act->World->Prop}
  (LV:TW P cfg all=true) (h:Z2 P cfg aR all (fun t A=>XC P all t k all t A) all t A=some r) (ht:iR P E ρ t N a) (hj:KJ P E A B ρ base w)
  (hq:∀ t' E' A' B' aF a' w',k t' A' = some r->iR P E' aF t' N a'->a'.defers=a.defers->Ev P base E A B ρ w E' A' B' aF w'->Q .normal a' w'):(Code.region id ⟨all⟩ true).wp P Q a w:=by
 classical
 have hf:=afS LV;obtain ⟨L,tn,lA,hk⟩:=Iq hf.kind h;obtain ⟨hlen,QX,uZ⟩:=lA.at;have wC:=SL hk;have Pn:Ev P base E A B ρ w E A B ρ w.drew:=(cO.refl hj.k).ev (iU.drew hj.s);have Ik:∀ (i:Nat) (o:Oper),all[i]? = some o->∀ d,o.dst=some d->d < N:=by
  intro i o ho d ed;have:=fg.1 hdN o (gh ho);unfold Kt at this;rw [ed] at this;simp only at this;rw [bF] at this;exact this
 refine wp_region_any hm ?_;show wpAny P .any ⟨all⟩ Q all.length (Array.replicate all.length false) a w.drew;have F7:∀ i,(Array.replicate all.length false).getD i false=false:=by
  intro i;rw [kR,Array.getElem?_replicate];split <;> rfl
 let Inv:(Nat->Bool)->Act->World->Prop:=fun S a' w'=>∃ E' B' aF y,a'.defers=a.defers/\Ev P base E A B ρ w.drew E' A B' aF w'/\iR P E' aF (gQ S all L 0 t) N a'/\Y9 P E' A B' aF B.next all tn S a' y
 refine G7 hf.ord.SH Inv ?_ ?_ ?_ all.length _ a w.drew (by simp) ?_ (fun i j hi _=>by
   have h2:(Array.replicate all.length false).getD i false=true:=hi;rw [F7] at h2; simp at h2) ⟨E,B,ρ,fun _=>0,rfl,.refl hj.k Pn.eH.fT,?_,?_⟩
 ·
  rintro S S' a' w' hSS ⟨E',B',aF,y,h1,h2,h3,h4⟩;have hS:∀ (i:Nat) (o:Oper),all[i]? = some o->S i=S' i:=fun i o ho=>hSS i (cG.1 ho).1;refine ⟨E',B',aF,y,h1,h2,h3.same fun z=>kM rfl fun i o ho _=>by rw [ba]; exact (hS i o ho).symm,fun j o T d ho he KS=>?_⟩;obtain ⟨q1,q2,⟨bL,q3,q4,q5,q6⟩,q7⟩:=h4 j o T d ho he (by rw [hS j o ho]; exact KS);exact ⟨q1,q2,⟨bL,q3,q4,fun m q T' x hm SM Wl=>q5 m q T' x hm SM (by rw [hS m q hm]; exact Wl),fun hn=>q6 fun m q T' x hm SM=>by rw [hS m q hm]; exact hn m q T' x hm SM⟩,fun j' o' T' d' z7 KD hS'=>q7 j' o' T' d' z7 KD (by rw [hS j' o' z7]; exact hS')⟩
 ·
  rintro S a' w' i o ⟨E',B',aF,y,h1,h2,h3,h4⟩ hc ho sh u6 _;have hi:i < L.length:=by rw [hlen]; exact (cG.1 ho).1
  have hx:L[i]? = some L[i]:=cI hi;obtain ⟨t1,vB,hw,afR,Nb⟩:=uZ i o L[i] ho hx;have Ek:∀ z∈nS P cfg all o,t1.get z=(gQ S all L 0 t).get z:=fun z hz=>by rw [vB z,aaB hf.ord hc ho sh u6 hz]
  have El:=yJ h3 (fun z hz=>Ek z (by unfold nS; exact List.mem_append_left _ hz)) hw;have hoA:(⟨all⟩:Array Oper)[i]? = some o:=by simpa using ho
  unfold wpOp;rw [hoA];simp only [El];cases DY:L[i].1 with
  | false=>
   simp only [G0,if_false];obtain ⟨hv,hnb⟩:=Nb DY;refine ⟨E',B',aF,y,by rw [put_defers]; exact h1,h2,?_,h4.step hf ho hnb (.refl h2.fT h2.eH.fT) (fun _ _ e=>e)⟩;refine (h3.put (Ik i o ho) VC.undef).same fun z=>?_;rw [LU hf.ord hc ho hx sh z,hv]
  | true=>
   simp only [if_true];refine .inl ?_;rcases afR DY with ⟨SM,hv⟩ | ⟨hnb,hg⟩
   ·rcases SK SM with ⟨T,d,he⟩ | ⟨T,d,x,he⟩
    ·
     obtain ⟨e1,e2,e3⟩:=ua he;obtain ⟨cs,Kz⟩:=wC o (gh ho) T d he;obtain ⟨z,Ky,Cz,hz3,hz4,hz5,_⟩:=Iu Kz;have aL:compile P o.op = .make (Mw P T) []:=by rw [e1]; rfl
     obtain ⟨xk,v',w2,hr1,yy,hr3⟩:=Wc (em:=fun _=>undef) (cE:=a'.eval) (obj:=G2 (oP P T) z) (mk:=HS) aL h2.eH.fT (fun x hx=>by simp at hx) (by simp only [Mw,Ky,dN,Cz,hz3,cK,aj]);unfold Oper.wp;rw [hr1];have dS:d < a'.tmps.size:=by rw [h3.size]; exact Ik i o ho d e3
     have hnx:=h2.eH.next;have kC:=hr3.le h2.eH.fT;have gY:=apG (bL:=z.cells.toList) (bp:=oP P T) h2.fT;have sm:Ev P base E' A B' aF w' E' A (B'.new (G2 (oP P T) z)) xk w2:=gY.ev hr3;refine ⟨E',B'.new (G2 (oP P T) z),xk,fun m=>if m=i then B'.next else y m,by rw [put_defers]; exact h1,h2.trans sm,?_,fun j q U c hq LC hS=>?_⟩
     ·refine ((h3.mono (Env.le_refl _) kC).put (v:=.bf) (Ik i o ho) ⟨.chan none,.vx,by simp [VR]⟩).same fun z=>?_
      rw [LU hf.ord hc ho hx sh z,hv]
     ·have hold:∀ (m:Nat) (q:Oper) (U:TypeId) (c:Tmp),all[m]? = some q->fO q=some (U,c)->cQ S i m=true->m≠i->S m=true:=fun m q U c _ _ hS cH=>by rwa [fX cH] at hS
      have Wm:∀ (m:Nat) (q:Oper) (U:TypeId) (c:Tmp) (x:Operand),all[m]? = some q->vt all q=some (U,c,x)->m≠i:=fun m q U c x hm AL e=>by
       subst e;rw [ho] at hm;simp at hm;subst hm;rw [KQ he] at AL;simp at AL
      by_cases hji:j=i
      ·subst hji
       rw [ho] at hq;simp at hq;subst hq;rw [he] at LC;simp at LC;obtain ⟨rfl,rfl⟩:=LC;simp only [if_true];refine ⟨?_,⟨hnx,by simp,fun b e=>?_,?_,fun q=>?_⟩,⟨z.cells.toList,by simp [G2],?_,fun m q T' x hm AL Wl=>?_,fun _=>⟨z,Ky,Ee hz4⟩⟩,fun j' o' T' d' z7 KD hS' hy=>?_⟩
       ·rw [e3,Y7 dS]; exact yy
       ·have:=h2.fT.eV b _ e; omega
       ·cases hzz:E'.z B'.next with
        | none=>rfl
        | some r=>have:=h2.fT.lB _ r hzz; omega
       ·rcases q with q | ⟨g,_,q⟩
        ·obtain ⟨b,v,L',N',q1,q2⟩:=q
         have:=h2.fT.ar.eV b _ _ _ q2;omega
        ·rw [G2,St.jh] at q
         have:=h2.fT.mem g _ q;omega
       ·rw [<- (Ee (P:=P) (E:=E') hz4).length] at hz5
        exact hz5
       ·
        exfalso;have hmi:=Wm m q T' d x hm AL;rw [fX hmi] at Wl;obtain ⟨_,_,⟨j0,q0,T0,bj,hq0,ZU⟩,_⟩:=hf.st m q T' d x hm AL;have:j0=j:=by
         by_cases hjj:j0=j
         ·exact hjj
         ·exact absurd (ua ZU).2.2 (hf.dst j o T d ho he j0 q0 hq0 hjj)
        subst this;have hb:oE (dE [] all) m j0=true:=hf.ord.FV hm hq0 bj (by
         unfold wJ;rw [(ua ZU).2.2,show OI (some d) (nS P cfg all q)=true from C3 (by
          unfold nS;refine List.mem_append_right _ ?_;rw [(Fv AL).1];exact ky (show Operand.tmp d∈[Operand.tmp d,x] by simp))]
         rfl)
        have:=hc m j0 Wl hb;rw [sh] at this; simp at this
       ·by_cases M3:j' = j
        ·exact M3
        ·exfalso
         rw [aa M3] at hy;have:=(h4 j' o' T' d' z7 KD (hold j' o' T' d' z7 KD hS' M3)).2.1.hi;omega
      ·simp only [aa hji]
       obtain ⟨q1,q2,⟨bL,q3,q4,q5,q6⟩,q7⟩:=h4 j q U c hq LC (hold j q U c hq LC hS hji);obtain ⟨q8,q9⟩:=q2.step sm;refine ⟨?_,q8,⟨bL,by rw [q9]; exact q3,q4,fun m q' T' x hm AL Wl=>?_,fun hn=>?_⟩,fun j' o' T' d' z7 KD hS' hy=>?_⟩
       ·rw [Y8 (hf.dst j q U c hq LC i o ho (Ne.symm hji))]
        exact q1.mono kC
       ·rw [fX (Wm m q' T' c x hm AL)] at Wl
        exact q5 m q' T' x hm AL Wl
       ·exact q6 fun m q' T' x hm AL=>by
         have:=hn m q' T' x hm AL;rwa [fX (Wm m q' T' c x hm AL)] at this
       ·by_cases M3:j' = i
        ·rw [aE M3] at hy
         have:=q2.hi;omega
        ·rw [aa M3] at hy
         exact q7 j' o' T' d' z7 KD (hold j' o' T' d' z7 KD hS' M3) hy
    ·
     obtain ⟨e1,e2,e3,_⟩:=Fv he;obtain ⟨hnd,aaD,⟨j0,q0,T0,bj,hq0,ZU⟩,hxd⟩:=hf.st i o T d x ho he;have hb0:oE (dE [] all) i j0=true:=hf.ord.FV ho hq0 bj (by
      unfold wJ;rw [(ua ZU).2.2,show OI (some d) (nS P cfg all o)=true from C3 (by
       unfold nS;refine List.mem_append_right _ ?_;rw [e1];exact ky (show Operand.tmp d∈[Operand.tmp d,x] by simp))]
      rfl)
     have hS0:S j0=true:=hc.ready hf.ord.SH ho u6 j0 hb0;obtain ⟨q1,q2,⟨lY,q3,q4,_,_⟩,q7⟩:=h4 j0 q0 T0 d hq0 ZU hS0;obtain ⟨cs,Kz⟩:=wC q0 (gh hq0) T0 d ZU;obtain ⟨z,_,_,_,_,_,hz6,hz7⟩:=Iu Kz;have apL:vu all d all=some (T,x):=by
      cases hs:vu all d all with
      | none=>exact absurd he (E5 hs i o ho T x)
      | some p=>
       obtain ⟨T2,x2⟩:=p;obtain ⟨i2,o2,h5,h6⟩:=E4 hs;by_cases hii:i2=i
       ·subst hii
        rw [ho] at h5;simp at h5;subst h5;rw [he] at h6;simp at h6;rw [h6.1,h6.2]
       ·exact absurd h6 (aaD i2 o2 h5 hii T2 x2)
     obtain ⟨hT,hl,T5,_⟩:=hz6 T x apL;subst hT;have AK:gp tn x=gp t1 x:=ael QX vB hnd;rw [AK] at hl T5;have ZQ:VC P E' aF (gp t1 x) (a'.eval x):=Pk h3 fun z e=>Ek z (by
      unfold nS;refine List.mem_append_right _ ?_;rw [e1];subst e;exact ky (show Operand.tmp z∈[Operand.tmp d,Operand.tmp z] by simp))
     obtain ⟨u,hu1,hu2⟩:=ZQ;have alV:=hu1.cells (AH T5);have qF:u.cells.toList.all scalar=true:=fg.2 (alV.scalar T5);have alW:some u.cells.size=size? P T0:=by
      rw [<- hl];have:=alV.length;simp only [Array.length_toList] at this;rw [this]
     have aL:compile P o.op = .act (JG P T0) [.tmp d,x]:=by rw [e1]; rfl
     have cL:=rl P o;rw [aL] at cL
     let em:Operand->Value:=fun q=>if q = .tmp d then HS (y j0) else u
     have hw:gu 0 lY u.cells.toList=some u.cells.toList:=XP (by
      rw [<- alW] at q4;simp only [bM] at q4;rw [q4]; simp)
     obtain ⟨xk,v',nx,w2,hr1,yy,hr3,hr4⟩:=cL aF B' (B'.put (y j0) (.row u.cells.toList (oP P T0) true none)) base w' em a'.eval undef h2.eH.fT (fun q hq=>by
       rcases de.1 hq with rfl | hq
       ·show VR aF (em (.tmp d)) (a'.tmps.getD d undef)
        simp only [em,if_true];exact q1
       ·simp only [List.mem_singleton] at hq
        subst hq;simp only [em,aa hxd];exact hu2) (by
       have h1:em (.tmp d)=HS (y j0):=by simp [em]
       have h2:em x=u:=by simp [em,hxd]
       simp [h1,h2,JG,aG.storeAt,HS,alW,St.Bd,cJ,qF,q3,hw,St.fo])
     have apM:=apH h2 q2 q3 hr4;have kC:=hr4.le h2.eH.fT;have BP:∀ x,AR A E' x->(B'.put (y j0) (.row u.cells.toList (oP P T0) true none)).get x=B'.get x:=fun x q=>by
      rw [St.bA,aa];intro e;subst e;exact q2.eI (.inl q)
     have hAT:∀ q,AT A E' (B'.put (y j0) (.row u.cells.toList (oP P T0) true none)) q->AT A E' B' q:=fun q r=>r.of (fun _=>rfl) (fun _ _ e=>e) BP fun _ _=>by simp
     have hFr:∀ q,Fr E' A B' B.next q->Fr E' A (B'.put (y j0) (.row u.cells.toList (oP P T0) true none)) B.next q:=fun q f=>⟨f.lo,f.hi,f.un,f.z,fun r=>f.eI (hAT q r)⟩
     have aoU:∀ v:Value,a'.put o.dst v=a':=fun v=>by rw [e3]; rfl
     have aaE:Inv (cQ S i) (a'.put o.dst v') w2:=by
      rw [aoU];refine ⟨E',_,xk,y,h1,apM,(h3.mono (Env.le_refl _) kC).same fun z=>?_,fun j q U c hq LC hS=>?_⟩
      ·rw [LU hf.ord hc ho hx sh z,e3]; rfl
      ·have hji:j≠i:=fun e=>by
        subst e;rw [ho] at hq;simp at hq;subst hq;rw [KQ LC] at he;simp at he
       have hold:∀ (m:Nat) (q:Oper) (U:TypeId) (c:Tmp),all[m]? = some q->fO q=some (U,c)->cQ S i m=true->S m=true:=fun m q U c hm LC hS=>by
        have:m≠i:=fun e=>by
         subst e;rw [ho] at hm;simp at hm;subst hm;rw [KQ LC] at he;simp at he
        rwa [fX this] at hS
       rw [fX hji] at hS;obtain ⟨p1,p2,⟨bL,p3,p4,p5,p6⟩,p7⟩:=h4 j q U c hq LC hS;refine ⟨p1.mono kC,hFr _ p2,?_,fun j' o' T' d' z7 KD hS'=>p7 j' o' T' d' z7 KD (hold j' o' T' d' z7 KD hS')⟩;by_cases JD:j=j0
       ·subst JD
        rw [hq0] at hq;simp at hq;subst hq;rw [ZU] at LC;simp at LC;obtain ⟨rfl,rfl⟩:=LC;refine ⟨u.cells.toList,by simp,by simpa using alW,fun m q' T' x' hm AL _=>?_,fun hn=>?_⟩
        ·have hmi:m=i:=by
          by_cases hmi:m=i
          ·exact hmi
          ·exact absurd AL (aaD m q' hm hmi T' x')
         subst hmi;rw [ho] at hm;simp at hm;subst hm;rw [he] at AL;simp at AL;rw [<- AL.2,AK];exact alV
        ·have:=hn i o T0 x ho he
         rw [Cm] at this;simp at this
       ·have hcd:c≠d:=fun e=>by
         subst e;exact absurd (ua ZU).2.2 (hf.dst j q U c hq LC j0 q0 hq0 (Ne.symm JD))
        have Wm:∀ (m:Nat) (q:Oper) (U:TypeId) (x:Operand),all[m]? = some q->vt all q=some (U,c,x)->m≠i:=fun m q U x hm AL e=>by
         subst e;rw [ho] at hm;simp at hm;subst hm;rw [he] at AL;simp at AL;exact hcd AL.2.1.symm
        refine ⟨bL,?_,p4,fun m q' T' x' hm AL Wl=>?_,fun hn=>?_⟩
        ·rw [St.bA,aa]
         ·exact p3
         ·intro e
          exact JD ((p7 j0 q0 T0 d hq0 ZU hS0 e.symm).symm)
        ·rw [fX (Wm m q' T' x' hm AL)] at Wl
         exact p5 m q' T' x' hm AL Wl
        ·exact p6 fun m q' T' x' hm AL=>by
          have:=hn m q' T' x' hm AL;rwa [fX (Wm m q' T' x' hm AL)] at this
     unfold Oper.wp;rw [hr1];cases nx with
     | value u'=>have:u' = v':=yy; subst this; exact aaE
     | skip=>have:v' = undef:=yy; subst this; exact aaE
     | _=>exact yy.elim
   ·
    have HZ:∀ Hh Il vo v' G3,VC P Hh vo L[i].2.1 v'->Ev P base E' A B' aF w' Hh A Il vo G3->Inv (cQ S i) (a'.put o.dst v') G3:=fun Hh Il vo v' G3 h5 h6=>by
     have kC:=h6.eH.le h2.eH.fT;refine ⟨Hh,Il,vo,y,by rw [put_defers]; exact h1,h2.trans h6,?_,h4.step hf ho hnb h6 kC⟩;refine ((h3.mono h6.le kC).put (Ik i o ho) h5).same fun z=>?_;rw [LU hf.ord hc ho hx sh z]
    rcases hg with hg | ⟨p,hp,hg⟩
    ·refine M8 eW hg (fun x hxm=>Pk h3 fun z e=>Ek z ?_) h2.kj HZ
     unfold nS;subst e;exact List.mem_append_right _ (ky hxm)
    ·refine ahS eW hp hg (fun x hxm=>Pk h3 fun z e=>Ek z ?_) h2.kj HZ
     unfold nS;subst e;refine List.mem_append_right _ (ky ?_);unfold LK at hp;split at hp
     ·rename_i c FZ _
      split at hp
      ·rename_i d vq
       simp at hp;subst hp;rw [FZ];show Operand.tmp z∈TU (lH P cfg c);unfold lH;rw [vq];exact hxm
      ·simp at hp
     ·simp at hp
 ·
  rintro S a' w' qF ⟨E',B',aF,y,h1,h2,h3,h4⟩;have hS:∀ (i:Nat) (o:Oper),all[i]? = some o->S i=true:=fun i o ho=>qF i (cG.1 ho).1;have apN:iR P E' aF tn N a':=h3.same fun z=>by
   rw [QX z];exact kM rfl fun i o ho _=>by rw [ba]; exact (hS i o ho).symm
  obtain ⟨t',E2,A2,f1,f2,f3⟩:=SN (y:=y) all 0 tn E' A rfl hk h2 apN (fun j o T d _ ho he=>Ik j o ho d (ua he).2.2) fun j o T d _ ho he=>by
   obtain ⟨q1,q2,⟨bL,q3,q4,q5,q6⟩,q7⟩:=h4 j o T d ho he (hS j o ho);refine ⟨q1,q2,fun cs Kz=>⟨bL,q3,?_⟩,fun j' o' T' d' _ z7 KD hy=>q7 j' o' T' d' z7 KD (hS j' o' z7) hy⟩;obtain ⟨z,Ky,_,_,_,_,hz6,hz7⟩:=Iu Kz;cases hs:vu all d all with
   | some p=>
    obtain ⟨T2,x2⟩:=p;obtain ⟨i2,o2,h5,h6⟩:=E4 hs;rw [(hz6 T2 x2 hs).2.2.2];exact q5 i2 o2 T2 x2 h5 h6 (hS i2 o2 h5)
   | none=>
    rw [hz7 hs];obtain ⟨z',g1,g2⟩:=q6 fun m q' T' x hm AL=>absurd AL (E5 hs m q' hm T' x);rw [Ky] at g1;simp at g1;subst g1;exact g2
  exact hq t' E2 A2 B' aF a' w' f1 f2 h1 (Pn.trans f3)
 ·simp
 ·refine ht.same fun z=>?_
  rw [M9 F7]
 ·intro j o T d ho he KS
  have KS:(Array.replicate all.length false).getD j false=true:=KS;rw [F7] at KS;simp at KS
end Go.K
end
section
namespace Go.K
open Go Go.aG
variable {P:Program} {E:Env}
theorem Uh {R:Type} {cfg:dD} {aR:ko R} {all:List Oper} {k:bd->ae->Option R} : ∀ (a b:List Oper) (i:Nat),AG P cfg aR all k (a++b) i=AG P cfg aR all (AG P cfg aR all k b (i+a.length)) a i
 | [],b,i=>rfl
 | o::a,b,i=>by
  show OZ P cfg aR all i o (AG P cfg aR all k (a++b) (i+1))=OZ P cfg aR all i o (AG P cfg aR all (AG P cfg aR all k b (i+(a.length+1))) a (i+1));rw [Uh a b,show i+1+a.length=i+(a.length+1) by omega]
theorem afU {cfg:dD} {o:Oper} (h:cF (bw P cfg o.op)<=3):xj P cfg o=false:=by
 unfold xj;split
 ·rename_i f args e
  exact absurd e (zk h f args)
 ·rfl
theorem acX {R:Type} {cfg:dD} {aR:ko R} {all:List Oper} {i:Nat} {o:Oper} {k:bd->ae->Option R} {t:bd} {A:ae} (h:xj P cfg o=false):OZ P cfg aR all i o k t A=Ab P cfg aR all o k t A:=by
 unfold OZ;rw [h]
theorem acY {cfg:dD} {all:List Oper} {o:Oper} (h:cF (bw P cfg o.op)<=1):si all o=false:=by
 cases hb:si all o with
 | false=>rfl
 | true=>
  exfalso;rcases SK hb with ⟨T,d,e⟩ | ⟨T,d,x,e⟩
  ·rw [(ua e).1] at h
   have h:cF (rC P T)<=1:=h;unfold rC at h;split at h
   ·rename_i z _
    cases hc:(flat z&&z.cells.toList.all scalar&&gx (fy z).cells) <;> rw [hc] at h <;> simp [cF] at h
   ·simp [cF] at h
  ·rw [(Fv e).1] at h
   have h:(3:Nat)<=1:=h;omega
theorem Pq {R:Type} {cfg:dD} {aR:ko R} {all:List Oper} {k:bd->ae->Option R} {r:R} : ∀ {os:List Oper} {i:Nat} {t:bd} {A:ae},(∀ o∈os,cF (bw P cfg o.op)<=1)->AG P cfg aR all k os i t A=some r->
  ∃ L t',XO P cfg all A os t L t'/\k t' A=some r
 | [],i,t,A,_,h=>⟨[],t,.nil,h⟩
 | o::os,i,t,A,hn,h=>by
  have Lz:=fun q hq=>hn q (rU o hq);have hk:=hn o (by simp);have hb:=acY (all:=all) hk;have hk3:Nat.ble 3 (cF (bw P cfg o.op))=false:=by
   cases hc:Nat.ble 3 (cF (bw P cfg o.op)) with
   | false=>rfl
   | true=>have:=dX hc; omega
  have hnc:=zk (P:=P) (cfg:=cfg) (o:=o) (by omega);have h:OZ P cfg aR all i o (AG P cfg aR all k os (i+1)) t A=some r:=h;rw [acX (afU (by omega))] at h;unfold Ab at h;cases hg:o.guard with
  | none=>
   rw [hg] at h;obtain ⟨v,A1,h1,h2⟩:=JT hnc h;have e:=Ej h1 hk3;subst e;obtain ⟨L,t',h3,h4⟩:=Pq Lz h2;exact ⟨_,t',.cons (fun _=>rfl) (.inl ⟨hg,rfl⟩) (fun _=>.inr ⟨hb,.inl h1⟩) (fun e=>by simp at e) h3,h4⟩
  | some p=>
   obtain ⟨j,want⟩:=p;rw [hg] at h;obtain ⟨d,hd,h⟩:=Im h;rcases h with ⟨b,t1,h1,h2,h3⟩ | ⟨l,h1,h2⟩
   ·rcases h3 with ⟨h3,h4⟩ | ⟨h3,h4⟩
    ·obtain ⟨v,A1,h5,h6⟩:=JT hnc h4
     have e:=Ej h5 hk3;subst e;obtain ⟨L,t',h7,h8⟩:=Pq Lz h6;exact ⟨_,t',.cons h2 (.inr ⟨j,want,d,hg,hd,.inl ⟨b,h1,h3.symm⟩⟩) (fun _=>.inr ⟨hb,.inl h5⟩) (fun e=>by simp at e) h7,h8⟩
    ·obtain ⟨L,t',h7,h8⟩:=Pq Lz h4
     exact ⟨_,t',.cons h2 (.inr ⟨j,want,d,hg,hd,.inl ⟨b,h1,h3.symm⟩⟩) (fun e=>by simp at e) (fun _=>⟨rfl,hb⟩) h7,h8⟩
   ·obtain ⟨L,t',h7,h8⟩:=Pq Lz h2
    exact ⟨_,t',.cons (fun _=>rfl) (.inr ⟨j,want,d,hg,hd,.inr ⟨l,h1,rfl⟩⟩) (fun e=>by simp at e) (fun _=>⟨rfl,hb⟩) h7,h8⟩
section
variable {cfg:dD} {all os:List Oper} {L:List Out} {t0:bd} {m:Nat}
theorem aaF (hf:aaz P cfg all) (hos:∀ j q,os[j]? = some q->all[m+j]? = some q) {S:Nat->Bool} (hc:va all S) {i:Nat} {o:Oper} (ho:os[i]? = some o) (sh:S (m+i)=false) (u6:zf all S (m+i)) {y:Tmp} (hy:y∈nS P cfg all o) :
  (gQ (fun j=>S (m+j)) os L 0 t0).get y=(gQ (fun j=>Nat.blt j i) os L 0 t0).get y:=by
 refine kM rfl fun j q hq hd=>?_;rw [ba];have ho':=hos i o ho;have hq':=hos j q hq;rcases Nat.lt_trichotomy j i with h | h | h
 ·have:oE (dE [] all) (m+i) (m+j)=true:=hf.FV ho' hq' (by omega) (by
   unfold wJ;rw [hd,C3 hy];rfl)
  rw [hc.ready hf.SH ho' u6 (m+j) this]
  symm; rw [bF]; exact h
 ·subst h
  rw [sh]
  symm
  cases hb:Nat.blt j j with
  | false=>rfl
  | true=>rw [bF] at hb; omega
 ·have hb:oE (dE [] all) (m+j) (m+i)=true:=hf.FV hq' ho' (by omega) (by
   unfold wJ;rw [hd,C3 hy];simp)
  have:S (m+j)=false:=by
   cases hs:S (m+j) with
   | false=>rfl
   | true=>have:=hc (m+j) (m+i) hs hb; rw [sh] at this; simp at this
  rw [this]
  symm
  cases hbb:Nat.blt j i with
  | false=>rfl
  | true=>rw [bF] at hbb; omega
theorem alX (hf:aaz P cfg all) (hos:∀ j q,os[j]? = some q->all[m+j]? = some q) {S:Nat->Bool} (hc:va all S) {i:Nat} {o:Oper} {x:Out} (ho:os[i]? = some o) (hx:L[i]? = some x) (sh:S (m+i)=false) (y:Tmp) :
  (gQ (fun j=>cQ S (m+i) (m+j)) os L 0 t0).get y=(qH (gQ (fun j=>S (m+j)) os L 0 t0) o.dst x.2.1).get y:=by
 have aaG:(fun j=>cQ S (m+i) (m+j))=cQ (fun j=>S (m+j)) i:=by
  funext j;unfold cQ;cases hb:Nat.beq j i with
  | true=>have:=aK hb; subst this; simp
  | false=>
   have cH:=Nat.ne_of_beq_eq_false hb;cases wB:Nat.beq (m+j) (m+i) with
   | false=>rfl
   | true=>have:=aK wB; omega
 rw [aaG,vD];by_cases hd:o.dst=some y
 ·rw [aE hd]
  have:=aay (S:=fun j=>S (m+j)) (y:=y) (os:=os) (L:=L) (k:=0) (i:=i) (t:=t0) ho hx hd (fun j q hq hqd bj=>by
   rw [ba];have hb:oE (dE [] all) (m+j) (m+i)=true:=hf.FV (hos j q hq) (hos i o ho) (by omega) (by
    unfold wJ;rw [hqd,hd];simp [TC])
   cases hs:S (m+j) with
   | false=>rfl
   | true=>have:=hc (m+j) (m+i) hs hb; rw [sh] at this; simp at this)
  rw [ba] at this;exact this
 ·rw [aa hd]
  refine kM rfl fun j q hq hqd=>?_;rw [ba];have cH:j≠i:=by
   intro e;subst e;rw [ho] at hq;simp at hq;subst hq;exact hd hqd
  unfold cQ;have:Nat.beq j i=false:=by
   cases hb:Nat.beq j i with
   | false=>rfl
   | true=>exact absurd (aK hb) cH
  rw [this,Bool.or_false]
end
theorem RC {cfg:dD} {b:List Nat} {i:Nat} {hd:Bool} {all:List Oper} : ∀ (os:List Oper) (k:Nat),LL P cfg b i hd all os k=true->∀ (j:Nat) (o:Oper),os[j]? = some o->(k+j < i->cF (bw P cfg o.op)=0\/oE b i (k+j)=true\/(hd=true/\Y5 o (k+j) all=true))/\(i < k+j->oE b (k+j) i=true)
 | [],k,_,j,o,ho=>by simp at ho
 | q::os,k,h,0,o,ho=>by
  simp at ho;subst ho;simp only [LL,aq] at h;rw [ym];have h2:=h.1;cases hb:Nat.beq k i with
  | true=>have:=aK hb; exact ⟨fun e=>by omega,fun e=>by omega⟩
  | false=>
   rw [hb,aI] at h2;refine ⟨fun bj=>?_,fun bj=>?_⟩
   ·rw [show Nat.blt k i=true from by rw [bF]; exact bj,aj] at h2
    cases hz:Nat.beq (cF (bw P cfg q.op)) 0 with
    | true=>exact .inl (aK hz)
    | false=>
     rw [hz,aI] at h2;cases Fs:oE b i k with
     | true=>exact .inr (.inl rfl)
     | false=>
      rw [Fs,aI,aq] at h2;exact .inr (.inr h2)
   ·have:Nat.blt k i=false:=by
     cases wB:Nat.blt k i with
     | false=>rfl
     | true=>rw [bF] at wB; omega
    rwa [this,aI] at h2
 | q::os,k,h,j+1,o,ho=>by
  simp only [LL,aq] at h;have:=RC os (k+1) h.2 j o (by simpa using ho);rwa [show k+1+j=k+(j+1) by omega] at this
theorem Pr {cfg:dD} {b:List Nat} {all:List Oper} : ∀ (os:List Oper) (k:Nat),LM P cfg b all os k=true->∀ (i:Nat) (o:Oper),os[i]? = some o->¬ cF (bw P cfg o.op)<=1->LL P cfg b (k+i) (xj P cfg o) all all 0=true
 | [],k,_,i,o,ho,_=>by simp at ho
 | q::os,k,h,0,o,ho,hk=>by
  simp at ho;subst ho;simp only [LM,aq] at h;have h2:=h.1;have:Nat.ble (cF (bw P cfg q.op)) 1=false:=by
   cases hb:Nat.ble (cF (bw P cfg q.op)) 1 with
   | false=>rfl
   | true=>exact absurd (dX hb) hk
  rw [this,aI] at h2;exact h2
 | q::os,k,h,i+1,o,ho,hk=>by
  simp only [LM,aq] at h;have:=Pr os (k+1) h.2 i o (by simpa using ho) hk;rwa [show k+1+i=k+(i+1) by omega] at this
theorem dr.aoc {A:ae} {B:St} (h:dr P E A B) {b x:Nat} (hx:E.κ b=some x) : ¬ AT A E B x:=by
 rintro (q | ⟨g,⟨c,v,y,L,N,cs,e,own,k,h1,h2,h3⟩,hm⟩)
 ·exact (h.ar.z x q).2 b hx
 ·by_cases CN:x=y
  ·subst CN
   exact (h.ar.z x ⟨c,v,L,N,h1,h2⟩).2 b hx
  ·exact ((h.ar.vy c v y L N cs e own g k h1 h2 h3).2.2 x hm CN).2.2 b hx
theorem JV {A:ae} : ∀ {hs:List Nat} {Ah:ae},Sn hs A=some Ah->Ah.next=A.next/\(∀ c,c ∉ hs->Ah.get c=A.get c)/\∀ c,c∈hs->Ah.get c=some wu/\((∃ cs e,A.get c=some (.row cs e))\/A.get c=some wu)
 | [],Ah,h=>by
  have h:some A=some Ah:=h;simp only [bM] at h;subst h;exact ⟨rfl,fun _ _=>rfl,fun c hc=>by simp at hc⟩
 | b::hs,Ah,h=>by
  have h:Option.rec (motive:=fun _=>Option ae) none (fun A'=>match ae.get A' b with
   | some (.row _ _)=>some (A'.put b (.map []))
   | some (.map [])=>some A'
   | _=>none) (Sn hs A)=some Ah:=h
  cases hh:Sn hs A with
  | none=>rw [hh] at h; exact absurd h (by simp)
  | some A1=>
   rw [hh] at h;obtain ⟨h1,h2,h3⟩:=JV hh;have h:(match A1.get b with
    | some (.row _ _)=>some (A1.put b (.map []))
    | some (.map [])=>some A1
    | _=>none)=some Ah:=h
   split at h
   ·rename_i cs e hb
    simp only [bM] at h;subst h;have KF:b ∉ hs:=fun hm=>by rw [(h3 b hm).1] at hb; simp at hb
    refine ⟨h1,fun c hc=>?_,fun c hc=>?_⟩
    ·rw [de,not_or] at hc
     rw [ae.bA,aa hc.1];exact h2 c hc.2
    ·rw [ae.bA]
     by_cases Cy:c=b
     ·subst Cy
      exact ⟨aE rfl,.inl ⟨cs,e,by rw [<- h2 c KF]; exact hb⟩⟩
     ·rw [aa Cy]
      exact h3 c ((de.1 hc).resolve_left Cy)
   ·rename_i hb
    simp only [bM] at h;subst h;refine ⟨h1,fun c hc=>?_,fun c hc=>?_⟩
    ·rw [de,not_or] at hc
     exact h2 c hc.2
    ·by_cases Cy:c=b
     ·subst Cy
      refine ⟨hb,?_⟩;by_cases hm:c∈hs
      ·exact (h3 c hm).2
      ·exact .inr (by rw [<- h2 c hm]; exact hb)
     ·exact h3 c ((de.1 hc).resolve_left Cy)
   ·exact absurd h (by simp)
theorem JW {A A' : ae} : ∀ (hs:List Nat),(yH hs A A').next=A'.next/\(∀ c,c ∉ hs->(yH hs A A').get c=A'.get c)/\∀ c o,c∈hs->A.get c=some o->(yH hs A A').get c=some o
 | []=>⟨rfl,fun _ _=>rfl,fun c _ hc=>by simp at hc⟩
 | b::hs=>by
  obtain ⟨h1,h2,h3⟩:=JW (A:=A) (A':=A') hs;have e0:yH (b::hs) A A' = match A.get b with
   | some o=>(yH hs A A').put b o
   | none=>yH hs A A':=rfl
  rw [e0];cases hb:A.get b with
  | none=>
   refine ⟨h1,fun c hc=>?_,fun c o hc ho=>?_⟩
   ·rw [de,not_or] at hc
    exact h2 c hc.2
   ·rcases de.1 hc with rfl | hc
    ·rw [hb] at ho; simp at ho
    ·exact h3 c o hc ho
  | some o1=>
   refine ⟨by rw [ae.sv]; exact h1,fun c hc=>?_,fun c o hc ho=>?_⟩
   ·rw [de,not_or] at hc
    simp only [ae.bA];rw [aa hc.1];exact h2 c hc.2
   ·simp only [ae.bA]
    by_cases Cy:c=b
    ·subst Cy
     rw [aE rfl,<- hb];exact ho
    ·rw [aa Cy]
     exact h3 c o ((de.1 hc).resolve_left Cy) ho
theorem dr.aod {hs:List Nat} {A Ah:ae} {B:St} (h:dr P E A B) (hh:Sn hs A=some Ah):dr P E Ah B:=by
 obtain ⟨h1,h2,h3⟩:=JV hh;have fH:∀ c o,Ah.get c=some o->A.get c=some o\/(o=wu/\c < A.next):=fun c o hc=>by
  by_cases hm:c∈hs
  ·obtain ⟨h4,h5⟩:=h3 c hm
   rw [h4] at hc;simp only [bM] at hc;refine .inr ⟨hc.symm,?_⟩;rcases h5 with ⟨cs,e,h5⟩ | h5
   ·exact h.live c _ h5
   ·exact h.live c _ h5
  ·exact .inl (by rw [<- h2 c hm]; exact hc)
 have Nb:∀ c o,o≠wu->Ah.get c=some o->A.get c=some o:=fun c o ho hc=>(fH c o hc).resolve_right fun q=>ho q.1;refine ⟨fun c cs e hc=>h.row c cs e (Nb c _ (by simp) hc),fun c t sz hc=>h.aP c t sz (Nb c _ (by simp) hc),h.z,h.apart,h.inj,fun b c g tb sb tc sc q1 q2=>h.gz b c g tb sb tc sc (Nb b _ (by simp) q1) (Nb c _ (by simp) q2),fun b x e=>by rw [h1]; exact h.jI b x e,fun b g e=>by rw [h1]; exact h.kK b g e,fun c o hc=>?_,h.eV,h.lB,h.ik,h.fresh,h.mem,
  h.ar.dP (Env.le_refl _) (fun _=>rfl) (fun b v q=>Nb b _ (by simp) q) (fun b v q=>Nb b _ (by simp) q) (by rw [h1]; exact aB _) (aB _) (fun _ _=>rfl) (fun _ _ e=>.inl e) (fun _ _ e=>.inl e) (fun b g e=>.inl ⟨b,e⟩) (fun _ _=>rfl) h.mem⟩
 rw [h1];rcases fH c o hc with q | ⟨_,q⟩
 ·exact h.live c o q
 ·exact q
theorem Ev.show {hs:List Nat} {base:Nat} {A Ah A' : ae} {B B' : St} {ρ aF:Ren} {w w' : World} {E' : Env} (hk:dr P E A B) (hh:Sn hs A=some Ah) (h:Ev P base E Ah B ρ w E' A' B' aF w'):Ev P base E A B ρ w E' (yH hs A A') B' aF w':=by
 obtain ⟨h1,h2,h3⟩:=JV hh;obtain ⟨s1,s2,s3⟩:=JW (A:=A) (A':=A') hs;have hhs:=hk.aod hh;have Ol:=h.fT;have fH:∀ c o,(yH hs A A').get c=some o->(c∈hs/\A.get c=some o/\((∃ cs e,o = .row cs e)\/o=wu))\/(c ∉ hs/\A'.get c=some o):=fun c o hc=>by
  by_cases hm:c∈hs
  ·rcases (h3 c hm).2 with ⟨cs,e,q⟩ | q
   ·rw [s3 c _ hm q] at hc
    simp only [bM] at hc;subst hc;exact .inl ⟨hm,q,.inl ⟨_,_,rfl⟩⟩
   ·rw [s3 c _ hm q] at hc
    simp only [bM] at hc;subst hc;exact .inl ⟨hm,q,.inr rfl⟩
  ·exact .inr ⟨hm,by rw [<- s2 c hm]; exact hc⟩
 have vr:∀ c t s,(yH hs A A').get c=some (.aP t s)->A'.get c=some (.aP t s):=fun c t s hc=>by
  rcases fH c _ hc with ⟨_,_,⟨_,_,e⟩ | e⟩ | ⟨_,q⟩
  ·simp at e
  ·simp at e
  ·exact q
 have rJ:∀ c v,(yH hs A A').get c=some (.arr v)->A'.get c=some (.arr v):=fun c v hc=>by
  rcases fH c _ hc with ⟨_,_,⟨_,_,e⟩ | e⟩ | ⟨_,q⟩
  ·simp at e
  ·simp at e
  ·exact q
 have alS:∀ c v,(yH hs A A').get c=some (.iA v)->A'.get c=some (.iA v):=fun c v hc=>by
  rcases fH c _ hc with ⟨_,_,⟨_,_,e⟩ | e⟩ | ⟨_,q⟩
  ·simp at e
  ·simp at e
  ·exact q
 have alY:∀ c v,Ah.get c=some (.arr v)->A.get c=some (.arr v):=fun c v hc=>by
  by_cases hm:c∈hs
  ·rw [(h3 c hm).1] at hc; simp at hc
  ·rw [<- h2 c hm]; exact hc
 have hAarr' : ∀ c v,A.get c=some (.arr v)->Ah.get c=some (.arr v):=fun c v hc=>by
  by_cases hm:c∈hs
  ·rcases (h3 c hm).2 with ⟨cs,e,q⟩ | q <;> (rw [q] at hc; simp at hc)
  ·rw [h2 c hm]; exact hc
 have eAR:∀ x,AR (yH hs A A') E' x->AR A' E' x:=fun x ⟨c,v,L,N,q1,q2⟩=>⟨c,v,L,N,rJ c v q1,q2⟩
 have eAF:∀ g,AF (yH hs A A') E' B' g->AF A' E' B' g:=fun g ⟨c,v,x,L,N,cs,e,own,k,q1,q2,q3⟩=>⟨c,v,x,L,N,cs,e,own,k,rJ c v q1,q2,q3⟩
 have fAR:∀ x,AR Ah E x->AR A E x:=fun x ⟨c,v,L,N,q1,q2⟩=>⟨c,v,L,N,alY c v q1,q2⟩
 have fAF:∀ g,AF Ah E B g->AF A E B g:=fun g ⟨c,v,x,L,N,cs,e,own,k,q1,q2,q3⟩=>⟨c,v,x,L,N,cs,e,own,k,alY c v q1,q2,q3⟩
 have fAT:∀ y,AT Ah E B y->AT A E B y:=fun y q=>q.imp (fAR y) fun ⟨g,q1,q2⟩=>⟨g,fAF g q1,q2⟩
 have fU:=h.next;refine ⟨⟨fun c cs e hc=>?_,fun c t sz hc=>Ol.aP c t sz (vr c t sz hc),Ol.z,Ol.apart,Ol.inj,fun b c g tb sb tc sc q1 q2=>Ol.gz b c g tb sb tc sc (vr _ _ _ q1) (vr _ _ _ q2),fun b x e=>by rw [s1]; exact Ol.jI b x e,fun b g e=>by rw [s1]; exact Ol.kK b g e,fun c o hc=>?_,Ol.eV,Ol.lB,Ol.ik,Ol.fresh,Ol.mem,
  Ol.ar.dP (Env.le_refl _) (fun _=>rfl) rJ alS (by rw [s1]; exact aB _) (aB _) (fun _ _=>rfl) (fun _ _ e=>.inl e) (fun _ _ e=>.inl e) (fun b g e=>.inl ⟨b,e⟩) (fun _ _=>rfl) Ol.mem⟩,
  h.eH,h.le,by rw [s1,<- h1]; exact fU,fun x hx hn ha=>h.dP x hx (fun b e=>?_) (fun q=>ha (fAT x q)),fun b x e=>by rw [<- h1]; exact h.new b x e,fun b r e=>(h.tW b r e).imp id (fun q=>q.imp (fAR b) id),h.se,fun g hg hn ha=>h.oU g hg hn fun q=>ha (fAF g q),fun x q=>(h.kq x (eAR x q)).imp (fAR x) id,fun g q=>(h.kL g (eAF g q)).imp (fAF g) id,h.vz,fun y q=>(h.lZ y (q.imp (eAR y) fun ⟨g,q1,q2⟩=>⟨g,eAF g q1,q2⟩)).imp (fAT y) id,h.rows,fun b q=>?_⟩
 ·rcases fH c _ hc with ⟨hm,q,_⟩ | ⟨_,q⟩
  ·obtain ⟨x,bL,q1,q2,q3⟩:=hk.row c cs e q
   refine ⟨x,bL,h.le.κ _ _ q1,?_,q3.mono h.le⟩;rw [h.dP x (hk.eV c x q1) (fun b e2=>?_) fun q4=>dr.aoc hhs q1 q4]
   ·exact q2
   ·rw [hk.inj b c x e2 q1]
    exact (h3 c hm).1
  ·exact Ol.row c cs e q
 ·rw [s1]
  rcases fH c o hc with ⟨_,q,_⟩ | ⟨_,q⟩
  ·have:=hk.live c o q; rw [h1] at fU; omega
  ·exact Ol.live c o q
 ·by_cases hm:b∈hs
  ·exact (h3 b hm).1
  ·rw [h2 b hm]; exact hn b e
 ·by_cases hm:b∈hs
  ·exact s3 b _ hm q
  ·rw [s2 b hm]
   exact h.CW b (by rw [h2 b hm]; exact q)
theorem afV {R:Type} {cfg:dD} {aR:ko R} (eW:rp P cfg.pc) (tZ:Ii P aR) {hs:List Nat} {o:Oper} {t:bd} {A:ae} {k:KV->ae->Option R} {r:R} {N base:Nat} {B:St} {ρ:Ren} {a:Act} {w:World} {next:Act->World->Prop} {Q:Exit->Act->World->Prop}
  (yK:xj P cfg o=true) (h:JO (TX hs aR) t A k (bw P cfg o.op)=some r) (ht:iR P E ρ t N a) (hj:KJ P E A B ρ base w)
  (hk:∀ E' A' B' aF v v' w',k v A' = some r->(∀ c∈hs,A'.get c=A.get c)->VC P E' aF v v'->Ev P base E A B ρ w E' A' B' aF w'->next (a.put o.dst v') w'):o.wp P a w next Q:=by
 unfold xj at yK;split at yK
 ·rename_i f args hc
  rw [hc] at h;have h:Option.rec (motive:=fun _=>Option R) none (fun p=>TX hs aR p.1 p.2 A k) (yG (jU t args) (gp t f))=some r:=h;cases hh:Sn hs A with
  | none=>
   exfalso;cases OM:yG (jU t args) (gp t f) with
   | none=>rw [OM] at h; exact absurd h (by simp)
   | some p=>
    rw [OM] at h;have h:TX hs aR p.1 p.2 A k=some r:=h;unfold TX at h;rw [hh] at h;simp at h
  | some Ah=>
   have h' : JO aR t Ah (fun v A'=>k v (yH hs A A')) (bw P cfg o.op)=some r:=by
    rw [hc];show Option.rec (motive:=fun _=>Option R) none (fun p=>aR p.1 p.2 Ah (fun v A'=>k v (yH hs A A'))) (yG (jU t args) (gp t f))=some r;cases OM:yG (jU t args) (gp t f) with
    | none=>rw [OM] at h; exact absurd h (by simp)
    | some p=>
     rw [OM] at h;have h:TX hs aR p.1 p.2 A k=some r:=h;unfold TX at h;rw [hh] at h;exact h
   refine Pf eW tZ h' ht ⟨hj.k.aod hh,hj.s⟩ fun E' A' B' aF v v' w' q1 q2 q3=>hk E' (yH hs A A') B' aF v v' w' q1 (fun c hc=>?_) q2 (q3.show hj.k hh);rcases ((JV hh).2.2 c hc).2 with ⟨cs,e,q⟩ | q
   ·rw [q]; exact (JW hs).2.2 c _ hc q
   ·rw [q]; exact (JW hs).2.2 c _ hc q
 ·simp at yK
theorem Ui {cfg:dD} {b:List Nat} {i:Nat} {t:bd} : ∀ (os:List Oper) (k:Nat) (hs:List Nat),Qu P cfg b i t os k=some hs->∀ (j:Nat) (q:Oper),os[j]? = some q->k+j < i->cF (bw P cfg q.op)≠0->oE b i (k+j)=false->
  ∃ a,G8 q.op=some a/\((∃ c off,gp t a = .ptr c off/\c∈hs)\/∃ T Tc n m es acc,gp t a = .tp T Tc n m es acc)
 | [],k,hs,_,j,q,ho=>by simp at ho
 | p::os,k,hs,h,j,q,ho=>by
  intro bj hk Fs;simp only [Qu] at h;cases hr:Qu P cfg b i t os (Nat.succ k) with
  | none=>rw [hr] at h; simp at h
  | some l=>
   rw [hr] at h;simp only at h;have apO:∀ c∈l,c∈hs:=fun c hc=>by
    cases hcd:(Nat.blt k i&&!(Nat.beq (cF (bw P cfg p.op)) 0)&&!(oE b i k)) with
    | false=>rw [hcd,aI] at h; simp at h; subst h; exact hc
    | true=>
     rw [hcd,aj] at h;split at h
     ·split at h
      ·simp at h; subst h; exact rU _ hc
      ·simp at h; subst h; exact hc
      ·simp at h
     ·simp at h
   cases j with
   | succ j=>
    obtain ⟨a,h1,h2⟩:=Ui os (k+1) l hr j q (by simpa using ho) (by omega) hk (by rw [show k+1+j=k+(j+1) by omega]; exact Fs);exact ⟨a,h1,h2.imp (fun ⟨c,off,q1,q2⟩=>⟨c,off,q1,apO c q2⟩) id⟩
   | zero=>
    simp at ho;subst ho;rw [ym] at bj Fs;have hcd:(Nat.blt k i&&!(Nat.beq (cF (bw P cfg p.op)) 0)&&!(oE b i k))=true:=by
     rw [show Nat.blt k i=true from by rw [bF]; exact bj,Fs];cases hz:Nat.beq (cF (bw P cfg p.op)) 0 with
     | true=>exact absurd (aK hz) hk
     | false=>rfl
    rw [hcd,aj] at h;split at h
    ·rename_i a ha
     refine ⟨a,ha,?_⟩;split at h
     ·rename_i c off sm
      simp at h;subst h;exact .inl ⟨c,off,sm,Qj ..⟩
     ·rename_i sm
      exact .inr ⟨_,_,_,_,_,_,sm⟩
     ·simp at h
    ·simp at h
theorem ahU {A A' : ae} {T:TypeId} {v:KV} (h:(∃ c off,v = .ptr c off/\A'.get c=A.get c)\/∃ T1 Tc n m es acc,v = .tp T1 Tc n m es acc):Aa P T A' [v] = Aa P T A [v]:=by
 rcases h with ⟨c,off,rfl,e⟩ | ⟨T1,Tc,n,m,es,acc,rfl⟩
 ·simp only [Aa,rowAt,e]
 ·rfl
theorem aaH {cfg:dD} : ∀ (os:List Oper),∃ n,n<=os.length/\(∀ o∈os.take n,cF (bw P cfg o.op)<=1)/\(n=os.length\/∃ o,os[n]? = some o/\¬ cF (bw P cfg o.op)<=1)
 | []=>⟨0,by simp,by simp,by simp⟩
 | o::os=>by
  by_cases hk:cF (bw P cfg o.op)<=1
  ·obtain ⟨n,h1,h2,h3⟩:=aaH (cfg:=cfg) os
   refine ⟨n+1,by simpa using h1,fun q hq=>?_,?_⟩
   ·simp only [List.take_succ_cons,de] at hq
    rcases hq with rfl | hq
    ·exact hk
    ·exact h2 q hq
   ·rcases h3 with h3 | ⟨q,h3,h4⟩
    ·exact .inl (by simp [h3])
    ·exact .inr ⟨q,by simpa using h3,h4⟩
  ·exact ⟨0,by simp,by simp,.inr ⟨o,by simp,hk⟩⟩
theorem akB {R:Type} {cfg:dD} {aR:ko R} {all os:List Oper} {m:Nat} {k:bd->ae->Option R} {r:R} {t:bd} {A:ae} (h:AG P cfg aR all k os m t A=some r) :
  ∃ n L tn,n<=os.length/\(∀ o∈os.take n,cF (bw P cfg o.op)<=1)/\(n=os.length\/∃ o,os[n]? = some o/\¬ cF (bw P cfg o.op)<=1)/\XO P cfg all A (os.take n) t L tn/\AG P cfg aR all k (os.drop n) (m+n) tn A=some r:=by
 obtain ⟨n,h1,h2,h3⟩:=aaH (P:=P) (cfg:=cfg) os;rw [<- List.take_append_drop n os,Uh,kS,Nat.min_eq_left h1] at h;obtain ⟨L,tn,h4,h5⟩:=Pq h2 h;exact ⟨n,L,tn,h1,h2,h3,h4,h5⟩
theorem afW (S:Nat->Bool) (os:List Oper) (L:List Out) (t:bd):∀ (m:Nat),gQ S os L m t=gQ (fun j=>S (m+j)) os L 0 t:=by
 intro m
 induction m generalizing S with
 | zero=>simp only [ba]
 | succ m ih=>
  rw [Ei,ih];congr 1;funext j;rw [show m+j+1=m+1+j by omega]
theorem Nc (S:Nat->Bool):∀ (os:List Oper) (L L2:List Out) (k:Nat) (t:bd),L.length<=os.length->gQ S os (L++L2) k t=gQ S (os.drop L.length) L2 (k+L.length) (gQ S os L k t)
 | [],[],L2,k,t,_=>rfl
 | [],x::L,L2,k,t,h=>by simp at h
 | o::os,[],L2,k,t,_=>rfl
 | o::os,x::L,L2,k,t,h=>by
  simp only [List.cons_append,gQ,qN,List.drop_succ_cons];rw [Nc S os L L2 (k+1) _ (by simpa using h),show k+1+L.length=k+(L.length+1) by omega]
theorem Wn {S:Nat->Bool} {os:List Oper} {L L2:List Out} {t:bd} (h:L.length<=os.length) (hS:∀ j,L.length<=j->j < os.length->S j=false) (y:Tmp):(gQ S os (L++L2) 0 t).get y=(gQ S os L 0 t).get y:=by
 rw [Nc S os L L2 0 t h,ba,afW];refine (kM (S':=fun _=>false) rfl fun i o ho _=>?_).trans (by rw [M9 fun _=>rfl]);rw [ba];rw [o7] at ho;exact hS _ (by omega) (cG.1 ho).1
theorem Uj {S S' : Nat->Bool} : ∀ {os:List Oper} {L:List Out} {k:Nat} {t:bd},(∀ j,j < L.length->S (k+j)=S' (k+j))->gQ S os L k t=gQ S' os L k t
 | [],L,k,t,_=>by cases L <;> rfl
 | o::os,[],k,t,_=>rfl
 | o::os,x::L,k,t,h=>by
  simp only [gQ];rw [show S k=S' k from by have:=h 0 (by simp); simpa using this];exact Uj fun j hj=>by have:=h (j+1) (by simpa using hj); rwa [show k+(j+1)=k+1+j by omega] at this
theorem afX {S:Nat->Bool} : ∀ {os:List Oper} {L:List Out} {n k:Nat} {t:bd},L.length<=n->gQ S (os.take n) L k t=gQ S os L k t
 | [],L,n,k,t,_=>by simp
 | o::os,[],n,k,t,_=>by cases n <;> rfl
 | o::os,x::L,0,k,t,h=>by simp at h
 | o::os,x::L,n+1,k,t,h=>by
  simp only [List.take_succ_cons,gQ];exact afX (by simpa using h)
theorem ahV {cfg:dD} {o:Oper} {p:Operand×List Operand} (h:LK o=some p) : ¬ cF (bw P cfg o.op)<=1:=by
 unfold LK at h;split at h
 ·rename_i c' apP _
  split at h
  ·rename_i d vq
   rw [apP];show ¬ cF (lH P cfg c')<=1;unfold lH;rw [vq];show ¬ (9:Nat)<=1;omega
  ·simp at h
 ·simp at h
theorem yL {t t' : bd} : ∀ {xs:List Operand},(∀ x∈xs,gp t x=gp t' x)->jU t xs=jU t' xs:=fun {xs} h=>by
 rw [vC,vC];exact List.map_congr_left h
theorem XQ {R:Type} {aR:ko R} {t t' : bd} {A:ae} {k:KV->ae->Option R} {ins:r8} (h:∀ x∈TU ins,gp t x=gp t' x):JO aR t A k ins=JO aR t' A k ins:=by
 cases ins with
 | pure f xs=>show (f (jU t xs)).run _=(f (jU t' xs)).run _; rw [yL (xs:=xs) h]
 | read f xs=>show (f A (jU t xs)).run _=(f A (jU t' xs)).run _; rw [yL (xs:=xs) h]
 | act f xs=>show (f A (jU t xs)).run _=(f A (jU t' xs)).run _; rw [yL (xs:=xs) h]
 | look f xs=>show (f (jU t xs)).run _=(f (jU t' xs)).run _; rw [yL (xs:=xs) h]
 | D9 g f xs=>show (f (jU t xs)).run _=(f (jU t' xs)).run _; rw [yL (xs:=xs) h]
 | H7 g f xs=>show (f (zX A (jU t xs)).1).run (fun v=>k v (zX A (jU t xs)).2)=(f (zX A (jU t' xs)).1).run (fun v=>k v (zX A (jU t' xs)).2); rw [yL (xs:=xs) h]
 | call f xs=>
  show Option.rec (motive:=fun _=>Option R) none (fun p=>aR p.1 p.2 A k) (yG (jU t xs) (gp t f))=Option.rec (motive:=fun _=>Option R) none (fun p=>aR p.1 p.2 A k) (yG (jU t' xs) (gp t' f));rw [yL fun x hx=>h x (rU f hx),h f (Qj ..)]
 | bad=>rfl
theorem aem {R:Type} {cfg:dD} {aR:ko R} (eW:rp P cfg.pc) (tZ:Ii P aR) (hm:P.follows .mixedOrders=true) {id:Nat} {all:List Oper} {N base:Nat} (hdN:all.all (Kt N)=true) {k:bd->ae->Option R} {r:R} {t:bd} {A:ae} {B:St} {ρ:Ren} {a:Act} {w:World} {Q:Exit->Act->World->Prop}
  (LV:MR P cfg all=true) (h:AG P cfg aR all k all 0 t A=some r) (ht:iR P E ρ t N a) (hj:KJ P E A B ρ base w)
  (hq:∀ t' E' A' B' aF a' w',k t' A' = some r->iR P E' aF t' N a'->a'.defers=a.defers->Ev P base E A B ρ w E' A' B' aF w'->Q .normal a' w'):(Code.region id ⟨all⟩ true).wp P Q a w:=by
 unfold MR at LV;split at LV
 ·simp only [aq] at LV
  obtain ⟨⟨apQ,hcl⟩,har⟩:=LV;have hf:aaz P cfg all:=⟨F2 apQ,fun {i j x y} hy hx bj vq=>by
   have:=Em all 0 hcl i y hy;rw [ba] at this;have:=Ir all 0 this j x hx (by omega) vq;rwa [ba] at this⟩
  have piv:∀ (i:Nat) (o:Oper),all[i]? = some o->¬ cF (bw P cfg o.op)<=1->∀ j q,all[j]? = some q->(j < i->cF (bw P cfg q.op)=0\/oE (dE [] all) i j=true\/(xj P cfg o=true/\Y5 q j all=true))/\(i < j->oE (dE [] all) j i=true):=fun i o ho hk j q hq=>by
   have h1:=Pr all 0 har i o ho hk;have h2:=RC all 0 h1 j q hq;simpa only [ba] using h2
  have Pn:Ev P base E A B ρ w E A B ρ w.drew:=(cO.refl hj.k).ev (iU.drew hj.s);have Ik:∀ (i:Nat) (o:Oper),all[i]? = some o->∀ d,o.dst=some d->d < N:=by
   intro i o ho d ed;have:=fg.1 hdN o (gh ho);unfold Kt at this;rw [ed] at this;simp only at this;rw [bF] at this;exact this
  refine wp_region_any hm ?_;show wpAny P .any ⟨all⟩ Q all.length (Array.replicate all.length false) a w.drew;have F7:∀ i,(Array.replicate all.length false).getD i false=false:=by
   intro i;rw [kR,Array.getElem?_replicate];split <;> rfl
  have e0:∀ (S:Nat->Bool),(fun j=>S (0+j))=S:=fun S=>by funext j; rw [ba]
  have hos:∀ j q,all[j]? = some q->all[0+j]? = some q:=fun j q QY=>by rwa [ba]
  let aoe:List Out->ae->Nat->Oper->Out->Prop:=fun L A2 i o x=>∃ t1,(∀ y,t1.get y=(gQ (fun j=>Nat.blt j i) all L 0 t).get y)/\Hi all o t1 x.1/\(x.1=true->aH (xm (bw P cfg o.op) t1 A2) (x.2.1,A2))/\(x.1=false->x.2.1=tT)
  let Inv:(Nat->Bool)->Act->World->Prop:=fun S a' w'=>∃ n L A2 tn E' B' aF,n<=all.length/\L.length=n/\(∀ j,n<=j->j < all.length->S j=false)/\(n=all.length\/∃ o,all[n]? = some o/\¬ cF (bw P cfg o.op)<=1)/\
   (∀ j o,j < n->all[j]? = some o->¬ cF (bw P cfg o.op)<=1->S j=true)/\(∀ i o x,i < n->S i=false->all[i]? = some o->L[i]? = some x->aoe L A2 i o x)/\
   (∀ y,tn.get y=(gQ (fun _=>true) all L 0 t).get y)/\AG P cfg aR all k (all.drop n) n tn A2=some r/\a'.defers=a.defers/\Ev P base E A B ρ w.drew E' A2 B' aF w'/\iR P E' aF (gQ S all L 0 t) N a'
  have begin:∀ (m:Nat) (S:Nat->Bool) (L:List Out) (A2:ae) (t2:bd) (a' : Act) (w' : World) (E' : Env) (B' : St) (aF:Ren),m<=all.length->L.length=m->(∀ j,m<=j->j < all.length->S j=false)->
    (∀ j o,j < m->all[j]? = some o->¬ cF (bw P cfg o.op)<=1->S j=true)->(∀ i o x,i < m->S i=false->all[i]? = some o->L[i]? = some x->aoe L A2 i o x)->
    (∀ y,t2.get y=(gQ (fun _=>true) all L 0 t).get y)->AG P cfg aR all k (all.drop m) m t2 A2=some r->a'.defers=a.defers->Ev P base E A B ρ w.drew E' A2 B' aF w'->iR P E' aF (gQ S all L 0 t) N a'->Inv S a' w':=by
   intro m S L A2 t2 a' w' E' B' aF VN hL h1 h2 h3 h4 h5 h6 h7 h8;obtain ⟨n,L2,tn,g1,g2,g3,g4,g5⟩:=akB h5;rw [List.length_drop] at g1 g3;obtain ⟨k1,k2,k3⟩:=g4.at;rw [kS,List.length_drop,Nat.min_eq_left g1] at k1;have hLa:L.length<=all.length:=by omega
   have tail:∀ (S:Nat->Bool) (y:Tmp),(∀ j,j < m->S j=true)->(gQ S all (L++L2) 0 t).get y=(gQ (fun j=>S (m+j)) ((all.drop m).take n) L2 0 t2).get y:=fun S y hS=>by
    rw [Nc S all L L2 0 t hLa,ba,afW,afX (by omega),hL];refine kM ?_ fun _ _ _ _=>rfl;rw [h4 y,Uj (S:=S) (S':=fun _=>true) fun j hj=>by rw [ba]; exact hS j (by omega)]
   refine ⟨m+n,L++L2,A2,tn,E',B',aF,by omega,by rw [kv]; omega,fun j hj1 M3=>h1 j (by omega) M3,?_,fun j o hj ho hk=>?_,fun i o x hi sh ho hx=>?_,fun y=>?_,by rwa [List.drop_drop] at g5,h6,h7,h8.same fun y=>Wn hLa (fun j hj1 M3=>h1 j (by omega) M3) y⟩
   ·rcases g3 with g3 | ⟨o,g3,g6⟩
    ·exact .inl (by omega)
    ·exact .inr ⟨o,by rwa [o7] at g3,g6⟩
   ·by_cases hjm:j < m
    ·exact h2 j o hjm ho hk
    ·exfalso
     refine hk (g2 o (gh (i:=j - m) ?_));rw [mg,aE (by omega),o7,show m+(j - m)=j by omega];exact ho
   ·by_cases him:i < m
    ·rw [qM (by omega)] at hx
     obtain ⟨t1,q1,q2⟩:=h3 i o x him sh ho hx;exact ⟨t1,fun y=>by rw [q1 y]; exact (Wn hLa (fun j hj1 _=>by
      cases hb:Nat.blt j i with
      | false=>rfl
      | true=>rw [bF] at hb; omega) y).symm,q2⟩
    ·rw [tL (by omega),hL] at hx
     have hoi:((all.drop m).take n)[i - m]? = some o:=by rw [mg,aE (by omega),o7,show m+(i - m)=i by omega]; exact ho
     obtain ⟨t1,q1,q2,q3,q4⟩:=k3 (i - m) o x hoi hx;have hk:=g2 o (gh hoi);refine ⟨t1,fun y=>?_,q2,fun DY=>?_,fun DY=>(q4 DY).1⟩
     ·rw [q1 y,tail _ y fun j hj=>by rw [bF]; omega]
      refine kM rfl fun j q _ _=>?_;rw [ba];cases hb:Nat.blt (m+j) i with
      | true=>rw [bF] at hb ⊢; omega
      | false=>
       cases wB:Nat.blt j (i - m) with
       | false=>rfl
       | true=>
        rw [bF] at wB;have:Nat.blt (m+j) i=true:=by rw [bF]; omega
        rw [hb] at this; simp at this
     ·rcases q3 DY with ⟨SM,_⟩ | ⟨_,hg⟩
      ·rw [acY hk] at SM; simp at SM
      ·rcases hg with hg | ⟨p,hp,_⟩
       ·exact hg
       ·exact absurd hk (ahV hp)
   ·rw [k2 y,tail _ y fun _ _=>rfl]
  refine G7 hf.SH Inv ?_ ?_ ?_ all.length _ a w.drew (by simp) ?_ (fun i j hi _=>by
    have h2:(Array.replicate all.length false).getD i false=true:=hi;rw [F7] at h2; simp at h2) (begin 0 _ [] A t a w.drew E B ρ (by omega) rfl (fun j _ _=>F7 j) (fun j _ hj=>by omega) (fun i _ _ hi=>by omega) (fun y=>by cases all <;> rfl) (by simpa using h) rfl (.refl hj.k Pn.eH.fT) (ht.same fun y=>by cases all <;> rfl))
  ·
   rintro S S' a' w' hSS ⟨n,L,A2,tn,E',B',aF,h1,h2,h3,h4,h5,h6,h7,h8,h9,pn,F5⟩;refine ⟨n,L,A2,tn,E',B',aF,h1,h2,fun j hj1 M3=>by rw [<- hSS j M3]; exact h3 j hj1 M3,h4,fun j o hj ho hk=>by rw [<- hSS j (by omega)]; exact h5 j o hj ho hk,fun i o x hi sh ho hx=>h6 i o x hi (by rw [hSS i (by omega)]; exact sh) ho hx,h7,h8,h9,pn,F5.same fun z=>kM rfl fun i o ho _=>?_⟩;rw [ba];exact (hSS _ (cG.1 ho).1).symm
  ·
   rintro S a' w' i o ⟨n,L,A2,tn,E',B',aF,h1,h2,h3,h4,h5,h6,h7,h8,h9,pn,F5⟩ hcS ho sh u6 _;have hil:i < all.length:=(cG.1 ho).1;have hoA:(⟨all⟩:Array Oper)[i]? = some o:=by simpa using ho
   rcases Nat.lt_trichotomy i n with tZ | tZ | tZ
   ·
    have hkd:cF (bw P cfg o.op)<=1:=by
     by_cases hk:cF (bw P cfg o.op)<=1
     ·exact hk
     ·have:=h5 i o tZ ho hk
      rw [sh] at this; simp at this
    have hi:i < L.length:=by omega
    have hx:L[i]? = some L[i]:=cI hi;obtain ⟨t1,vB,hw,afR,Nb⟩:=h6 i o L[i] tZ sh ho hx;have Ek:∀ z∈nS P cfg all o,t1.get z=(gQ S all L 0 t).get z:=fun z hz=>by
     have:=aaF (m:=0) (L:=L) (t0:=t) hf hos hcS ho (by rw [ba]; exact sh) (by rw [ba]; exact u6) hz;rw [e0] at this;rw [vB z,this]
    have Ub:∀ z,(gQ (cQ S i) all L 0 t).get z=(qH (gQ S all L 0 t) o.dst L[i].2.1).get z:=fun z=>by
     have:=alX (m:=0) (L:=L) (t0:=t) hf hos hcS ho hx (by rw [ba]; exact sh) z;rw [ba,e0,e0] at this;exact this
    have El:=yJ F5 (fun z hz=>Ek z (by unfold nS; exact List.mem_append_left _ hz)) hw;have fin:∀ E2 B2 xk a2 w2,a2.defers=a'.defers->Ev P base E A B ρ w.drew E2 A2 B2 xk w2->iR P E2 xk (gQ (cQ S i) all L 0 t) N a2->Inv (cQ S i) a2 w2:=fun E2 B2 xk a2 w2 q1 q2 q3=>
     ⟨n,L,A2,tn,E2,B2,xk,h1,h2,fun j hj1 M3=>by rw [fX (by omega)]; exact h3 j hj1 M3,h4,fun j q hj QY hk=>by
      by_cases he:j=i
      ·subst he; exact Cm
      ·rw [fX he]; exact h5 j q hj QY hk,fun j q x hj KS QY hxj=>h6 j q x hj (by
       by_cases he:j=i
       ·subst he; rw [Cm] at KS; simp at KS
       ·rwa [fX he] at KS) QY hxj,h7,h8,q1.trans h9,q2,q3⟩
    unfold wpOp;rw [hoA];simp only [El];cases DY:L[i].1 with
    | false=>
     simp only [G0,if_false];refine fin E' B' aF _ _ (by rw [put_defers]) pn ?_;refine (F5.put (Ik i o ho) VC.undef).same fun z=>?_;rw [Ub z,Nb DY]
    | true=>
     simp only [if_true];refine .inl (M8 eW (afR DY) (fun x hxm=>Pk F5 fun z e=>Ek z ?_) pn.kj fun Hh Il vo v' G3 h5 h6=>?_)
     ·unfold nS
      subst e;exact List.mem_append_right _ (ky hxm)
     ·have kC:=h6.eH.le pn.eH.fT
      refine fin Hh Il vo _ _ (by rw [put_defers]) (pn.trans h6) ?_;refine ((F5.mono h6.le kC).put (Ik i o ho) h5).same fun z=>?_;rw [Ub z]
   ·
    subst tZ;rcases h4 with h4 | ⟨oc,FZ,afY⟩
    ·omega
    rw [FZ] at ho;simp at ho;subst ho;have Ek:∀ z∈nS P cfg all oc,tn.get z=(gQ S all L 0 t).get z:=fun z hz=>by
     have:=aaF (m:=0) (L:=L) (t0:=t) hf hos hcS FZ (by rw [ba]; exact sh) (by rw [ba]; exact u6) hz;rw [e0] at this;rw [this,h7 z,Uj (S:=fun _=>true) (S':=fun j=>Nat.blt j i) fun j hj=>by rw [ba]; symm; rw [bF]; omega]
    have mF:OZ P cfg aR all i oc (AG P cfg aR all k (all.drop (i+1)) (i+1)) tn A2=some r:=by
     have:all.drop i=oc::all.drop (i+1):=by
      rw [List.drop_eq_getElem_cons hil];rw [cI hil] at FZ;simp at FZ;rw [FZ]
     rw [this] at h8;exact h8
    have hLa:L.length<=all.length:=by omega
    have hdr:all.drop i=oc::all.drop (i+1):=by
     rw [List.drop_eq_getElem_cons hil];rw [cI hil] at FZ;simp at FZ;rw [FZ]
    have one:∀ (S:Nat->Bool) (x:Out),S i=true->gQ S all (L++[x]) 0 t=qH (gQ S all L 0 t) oc.dst x.2.1:=fun S x hS=>by
     rw [Nc S all L [x] 0 t hLa,ba,h2,hdr];simp only [gQ,hS,aj];cases all.drop (i+1) <;> rfl
    have Uk:∀ {t1:bd} {v:KV} {v' : Value} {E2:Env} {A3:ae} {B2:St} {xk:Ren} {w2:World},(∀ y,t1.get y=tn.get y)->AG P cfg aR all k (all.drop (i+1)) (i+1) (qH t1 oc.dst v) A3=some r->(∀ j q,j < i->all[j]? = some q->S j=false->cF (bw P cfg q.op)≠0->∃ a,G8 q.op=some a/\uB j a all 0=true/\∀ T,Aa P T A3 [gp tn a] = Aa P T A2 [gp tn a])->VC P E2 xk v v'->Ev P base E' A2 B' aF w' E2 A3 B2 xk w2->Inv (cQ S i) (a'.put oc.dst v') w2:=by
     intro t1 v v' E2 A3 B2 xk w2 vB q1 hld q2 q3;have kC:=q3.eH.le pn.eH.fT;have e1:gQ (cQ S i) all L 0 t=gQ S all L 0 t:=Uj fun j hj=>by rw [ba]; exact fX (by omega)
     refine begin (i+1) _ (L++[(true,v,A3)]) A3 _ _ w2 E2 B2 xk (by omega) (by simp [h2]) (fun j g1 g2=>by rw [fX (by omega)]; exact h3 j (by omega) g2) (fun j q hj QY hk=>?_) (fun j q x hj KS QY hxj=>?_) (fun y=>?_) q1 (by rw [put_defers]; exact h9) (pn.trans q3) ?_
     ·by_cases he:j=i
      ·subst he; exact Cm
      ·rw [fX he]; exact h5 j q (by omega) QY hk
     ·have he:j≠i:=by
       intro he;subst he;rw [Cm] at KS; simp at KS
      rw [fX he] at KS;rw [qM (by omega)] at hxj;obtain ⟨t3,p1,p2,p3,p4⟩:=h6 j q x (by omega) KS QY hxj;refine ⟨t3,fun y=>by rw [p1 y]; exact (Wn hLa (fun j' hj1 _=>by
       cases hb:Nat.blt j' j with
       | false=>rfl
       | true=>rw [bF] at hb; omega) y).symm,p2,fun DY=>?_,p4⟩
      by_cases hz:cF (bw P cfg q.op)=0
      ·exact afM (p3 DY) hz
      ·obtain ⟨ad,r1,r2,r3⟩:=hld j q (by omega) QY KS hz
       have sm:gp t3 ad=gp tn ad:=by
        cases ad with
        | tmp y=>
         simp only [gp];rw [p1 y,h7 y];congr 1;refine kM rfl fun j' q' hq' hd=>?_;rw [ba];have TP:j' < j:=by
          apply Nat.lt_of_not_le;intro hle;exact Pm all 0 r2 j' q' hq' (by omega) hd
         rw [bF]; exact TP
        | const v=>rfl
        | global g=>rfl
        | func f=>rfl
       have hp3:=p3 DY;obtain ⟨T,hop⟩:∃ T,q.op = .load T ad:=by
        unfold G8 at r1;split at r1
        ·rename_i T a' hq'
         simp only [bM] at r1;subst r1;exact ⟨T,hq'⟩
        ·simp at r1
       rw [hop] at hp3 ⊢;have alU:∀ A,xm (bw P cfg (.load T ad)) t3 A=(Aa P T A [gp t3 ad]).map fun v=>(v,A):=fun _=>rfl;rw [alU] at hp3 ⊢;obtain ⟨u,u1,u2⟩:=aH.map hp3;rw [sm,<- r3 T,<- sm] at u1;simp only [du] at u2;rw [<- u2.1];exact u1.Bi
     ·rw [one _ _ rfl,vD,vD,vB y,h7 y]
     ·refine ((F5.mono q3.le kC).put (Ik i oc FZ) q2).same fun z=>?_
      rw [one _ _ Cm,e1]
    have Hj:∀ z∈HD all oc,tn.get z=(gQ S all L 0 t).get z:=fun z hz=>Ek z (by unfold nS; exact List.mem_append_left _ hz);have hzero:xj P cfg oc=false->∀ {A3:ae},∀ j q,j < i->all[j]? = some q->S j=false->cF (bw P cfg q.op)≠0->∃ a,G8 q.op=some a/\uB j a all 0=true/\∀ T,Aa P T A3 [gp tn a] = Aa P T A2 [gp tn a]:=fun Nb A3 j q hj QY KS hz=>by
     exfalso;rcases (piv i oc FZ afY j q QY).1 hj with e | e | ⟨e,_⟩
     ·exact hz e
     ·have:=hcS.ready hf.SH FZ u6 j e
      rw [KS] at this; simp at this
     ·rw [Nb] at e; simp at e
    have alZ:∀ {t1:bd},(∀ y,t1.get y=tn.get y)->∀ x∈TU (bw P cfg oc.op),gp t1 x=gp (gQ S all L 0 t) x:=fun {t1} vB x hx=>by
     cases x with
     | tmp z=>
      have:=Ek z (by unfold nS; exact List.mem_append_right _ (ky hx));simp only [gp];rw [vB z,this]
     | const v=>rfl
     | global g=>rfl
     | func f=>rfl
    cases yK:xj P cfg oc with
    | false=>
     rw [acX yK] at mF;have run:∀ {t1:bd},(∀ y,t1.get y=tn.get y)->Hi all oc tn true->JO aR t1 A2 (fun v A=>AG P cfg aR all k (all.drop (i+1)) (i+1) (qH t1 oc.dst v) A) (bw P cfg oc.op)=some r->wpOp P ⟨all⟩ Q i (Inv (cQ S i)) a' w':=by
      intro t1 vB hw aaG;have El:=yJ F5 Hj hw;unfold wpOp;rw [hoA];simp only [El,if_true];rw [XQ (t':=gQ S all L 0 t) (alZ vB)] at aaG;exact .inl (Pf eW tZ aaG F5 pn.kj fun E2 A2 B2 xk v v' w2 q1 q2 q3=>Uk vB q1 (hzero yK) q2 q3)
     have skip:∀ {t1:bd},(∀ y,t1.get y=tn.get y)->Hi all oc tn false->AG P cfg aR all k (all.drop (i+1)) (i+1) (qH t1 oc.dst tT) A2=some r->wpOp P ⟨all⟩ Q i (Inv (cQ S i)) a' w':=by
      intro t1 vB hw hop;have El:=yJ F5 Hj hw;unfold wpOp;rw [hoA];simp only [El,G0,if_false];exact Uk vB hop (hzero yK) VC.undef (.refl pn.fT pn.eH.fT)
     unfold Ab at mF;cases Wo:oc.guard with
     | none=>
      rw [Wo] at mF;exact run (fun _=>rfl) (.inl ⟨Wo,rfl⟩) mF
     | some p=>
      obtain ⟨j,want⟩:=p;rw [Wo] at mF;obtain ⟨d,hd,mF⟩:=Im mF;rcases mF with ⟨b,t1,h4,h5,h6⟩ | ⟨l,h4,h5⟩
      ·rcases h6 with ⟨h6,h7⟩ | ⟨h6,h7⟩
       ·exact run h5 (.inr ⟨j,want,d,Wo,hd,.inl ⟨b,h4,h6.symm⟩⟩) h7
       ·exact skip h5 (.inr ⟨j,want,d,Wo,hd,.inl ⟨b,h4,h6.symm⟩⟩) h7
      ·exact skip (fun _=>rfl) (.inr ⟨j,want,d,Wo,hd,.inr ⟨l,h4,rfl⟩⟩) h5
    | true=>
     unfold OZ at mF;rw [yK] at mF;cases hha:Qu P cfg (dE [] all) i tn all 0 with
     | none=>rw [hha] at mF; exact absurd mF (by simp)
     | some hs=>
      rw [hha] at mF;have mF:Ab P cfg (TX hs aR) all oc (AG P cfg aR all k (all.drop (i+1)) (i+1)) tn A2=some r:=mF;have al0:∀ {A3:ae},(∀ c∈hs,A3.get c=A2.get c)->∀ j q,j < i->all[j]? = some q->S j=false->cF (bw P cfg q.op)≠0->∃ a,G8 q.op=some a/\uB j a all 0=true/\∀ T,Aa P T A3 [gp tn a] = Aa P T A2 [gp tn a]:=fun {A3} hA3 j q hj QY KS hz=>by
       rcases (piv i oc FZ afY j q QY).1 hj with e | e | ⟨_,e⟩
       ·exact absurd e hz
       ·have:=hcS.ready hf.SH FZ u6 j e
        rw [KS] at this; simp at this
       ·have Fs:oE (dE [] all) i j=false:=by
         cases hb:oE (dE [] all) i j with
         | false=>rfl
         | true=>have:=hcS.ready hf.SH FZ u6 j hb; rw [KS] at this; simp at this
        obtain ⟨a,r1,r2⟩:=Ui all 0 hs hha j q QY (by omega) hz (by rw [ba]; exact Fs);refine ⟨a,r1,?_,fun T=>ahU (r2.imp (fun ⟨c,off,u1,u2⟩=>⟨c,off,u1,hA3 c u2⟩) fun e=>e)⟩;unfold Y5 at e;rw [r1] at e;split at e
        ·rename_i a' _ e2
         simp only [bM] at e2;subst e2;exact e
        ·simp at e
      have run:∀ {t1:bd},(∀ y,t1.get y=tn.get y)->Hi all oc tn true->JO (TX hs aR) t1 A2 (fun v A=>AG P cfg aR all k (all.drop (i+1)) (i+1) (qH t1 oc.dst v) A) (bw P cfg oc.op)=some r->wpOp P ⟨all⟩ Q i (Inv (cQ S i)) a' w':=by
       intro t1 vB hw aaG;have El:=yJ F5 Hj hw;unfold wpOp;rw [hoA];simp only [El,if_true];rw [XQ (t':=gQ S all L 0 t) (alZ vB)] at aaG;exact .inl (afV eW tZ yK aaG F5 pn.kj fun E2 A2 B2 xk v v' w2 q1 q0 q2 q3=>Uk vB q1 (al0 q0) q2 q3)
      have skip:∀ {t1:bd},(∀ y,t1.get y=tn.get y)->Hi all oc tn false->AG P cfg aR all k (all.drop (i+1)) (i+1) (qH t1 oc.dst tT) A2=some r->wpOp P ⟨all⟩ Q i (Inv (cQ S i)) a' w':=by
       intro t1 vB hw hop;have El:=yJ F5 Hj hw;unfold wpOp;rw [hoA];simp only [El,G0,if_false];exact Uk vB hop (al0 fun _ _=>rfl) VC.undef (.refl pn.fT pn.eH.fT)
      unfold Ab at mF;cases Wo:oc.guard with
      | none=>
       rw [Wo] at mF;exact run (fun _=>rfl) (.inl ⟨Wo,rfl⟩) mF
      | some p=>
       obtain ⟨j,want⟩:=p;rw [Wo] at mF;obtain ⟨d,hd,mF⟩:=Im mF;rcases mF with ⟨b,t1,h4,h5,h6⟩ | ⟨l,h4,h5⟩
       ·rcases h6 with ⟨h6,h7⟩ | ⟨h6,h7⟩
        ·exact run h5 (.inr ⟨j,want,d,Wo,hd,.inl ⟨b,h4,h6.symm⟩⟩) h7
        ·exact skip h5 (.inr ⟨j,want,d,Wo,hd,.inl ⟨b,h4,h6.symm⟩⟩) h7
       ·exact skip (fun _=>rfl) (.inr ⟨j,want,d,Wo,hd,.inr ⟨l,h4,rfl⟩⟩) h5
   ·
    rcases h4 with h4 | ⟨oc,FZ,afY⟩
    ·omega
    have bj:n < all.length:=(cG.1 FZ).1;have h1':=hcS.ready hf.SH ho u6 n ((piv n oc FZ afY i o ho).2 tZ);have Kv:=h3 n (by omega) bj;rw [h1'] at Kv; simp at Kv
  ·
   rintro S a' w' qF ⟨n,L,A2,tn,E',B',aF,h1,h2,h3,h4,h5,h6,h7,h8,h9,pn,F5⟩;have hmn:n=all.length:=by
    rcases h4 with h4 | ⟨oc,FZ,afY⟩
    ·exact h4
    ·have bj:n < all.length:=(cG.1 FZ).1
     have:=h3 n (by omega) bj;rw [qF _ bj] at this; simp at this
   rw [hmn,List.drop_length] at h8;refine hq tn E' A2 B' aF a' w' h8 (F5.same fun z=>?_) h9 (Pn.trans pn);rw [h7 z];exact kM rfl fun j q QY _=>by rw [ba]; exact (qF _ (cG.1 QY).1).symm
  ·simp
 ·simp at LV
end Go.K
end
