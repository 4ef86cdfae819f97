/- Part of the proof of WorldPlain: the machine, shown to be the model's, and plain models. No conditions. -/
import Derived.Test.YtckbdndhmcoihaaDp
set_option linter.unusedSimpArgs false
set_option linter.unusedVariables false
section
namespace Go.K
open Go Go.aI
variable {P:Program} {E:Env}
theorem OX {R:Type} {cfg:dD} {aR:kq R} (eT:rf P cfg.pc) (tW:H4 P aR) {o:Oper} {t:bd} {A:ae} {k:KV->ae->Option R} {r:R} {N base:Nat} {B:St} {ρ:Ren} {a:Act} {w:World} {next:Act->World->Prop} {Q:Exit->Act->World->Prop}
  (h:JB aR t A k (bw P cfg o.op)=some r) (ht:iW P E ρ t N a) (hj:KJ P E A B ρ base w)
  (hk:∀ E' A' B' aF v v' w',k v A' = some r->VC P E' aF v v'->Ev P base E A B ρ w E' A' B' aF w'->next (a.put o.dst v') w'):o.wp P a w next Q:=by
 by_cases hc:∃ f args,bw P cfg o.op = .call f args
 ·obtain ⟨f,args,hc⟩:=hc
  rw [hc] at h;have h:Option.rec (motive:=fun _=>Option R) none (fun p=>aR p.1 p.2 A k) (yA (jY t args) (gq t f))=some r:=h;cases Ot:yA (jY t args) (gq t f) with
  | none=>rw [Ot] at h; exact absurd h (by simp)
  | some p=>
   obtain ⟨g,vs⟩:=p;rw [Ot] at h;have h:aR g vs A k=some r:=h;obtain ⟨hg,lC⟩:=tW g vs A k r h;obtain ⟨b6,h1,h2⟩:=adK (Xl hc) ht Ot hg;unfold Oper.wp;rw [h2 w];refine (lC E B ρ base w b6 h1 hj).mono ?_;rintro e w' ⟨v,v',E',A',B',aF,rfl,h3,h4,h5⟩;exact hk E' A' B' aF v v' w' h5 h3 h4
 ·obtain ⟨v,A',h1,h2⟩:=JG (fun f args e=>hc ⟨f,args,e⟩) h
  exact MP eT h1 (fun x _=>ht.ev x) hj fun E' B' aF v' w' h3 h4=>hk E' A' B' aF v v' w' h2 h3 h4
theorem afd {R:Type} {cfg:dD} {aR:kq R} {all:List Oper} {o:Oper} {k:bd->ae->Option R} {t:bd} {A:ae} {r:R} {N:Nat} {ρ:Ren} {a:Act} (ht:iW P E ρ t N a) (h:Ae P cfg aR all o k t A=some r) :
  ∃ t1,(∀ i,t1.get i=t.get i)/\((Region.wanted o (yielded ⟨all⟩ a.tmps)=true/\JB aR t1 A (fun v A=>k (qA t1 o.dst v) A) (bw P cfg o.op)=some r)\/
   (Region.wanted o (yielded ⟨all⟩ a.tmps)=false/\k (qA t1 o.dst tP) A=some r)):=by
 unfold Ae at h;cases hg:o.guard with
 | none=>
  rw [hg] at h;refine ⟨t,fun _=>rfl,.inl ⟨?_,h⟩⟩;unfold Region.wanted;rw [hg]
 | some p=>
  obtain ⟨j,want⟩:=p;rw [hg] at h;exact adJ hg ht h
theorem OY {R:Type} {cfg:dD} {aR:kq R} (eT:rf P cfg.pc) (tW:H4 P aR) {N base:Nat} {Q:Exit->Act->World->Prop} {all:List Oper} (hd:all.all (Kc N)=true) {k:bd->ae->Option R} {r:R} :
  ∀ (os:List Oper) (j:Nat) (t:bd) (E:Env) (A:ae) (B:St) (ρ:Ren) (a:Act) (w:World),all.drop j=os->Xb P cfg aR all k os t A=some r->iW P E ρ t N a->KJ P E A B ρ base w->
   (∀ t' E' A' B' aF a' w',k t' A' = some r->iW P E' aF t' N a'->a'.defers=a.defers->Ev P base E A B ρ w E' A' B' aF w'->Q .normal a' w')->wpOps P ⟨all⟩ Q (List.range' j os.length) a w
 | [],j,t,E,A,B,ρ,a,w,_,h,ht,hj,hq=>hq t E A B ρ a w h ht rfl (.refl hj.k hj.s)
 | o::os,j,t,E,A,B,ρ,a,w,hk,h,ht,hj,hq=>by
  have ho:(⟨all⟩:Array Oper)[j]? = some o:=by
   have:(all.drop j)[0]? = some o:=by rw [hk]; rfl
   rw [oV] at this;simpa using this
  have mD:all.drop (j+1)=os:=by rw [<- List.drop_drop,hk]; rfl
  have H6:∀ d,o.dst=some d->d < N:=by
   intro d e;have hm:o∈all:=gi (by simpa using ho);have:=fe.1 hd o hm;unfold Kc at this;rw [e] at this;simp only at this;rw [bG] at this;exact this
  rw [qI,List.range'_succ];simp only [wpOps,ho];have h:Ae P cfg aR all o (Xb P cfg aR all k os) t A=some r:=h;obtain ⟨t1,Kg,h⟩:=afd ht h;have vr:=ht.same Kg;rcases h with ⟨hw,h⟩ | ⟨hw,h⟩
  ·rw [hw]
   refine .inl (OX eT tW h vr hj fun E' A' B' aF v v' w' h1 h2 h3=>?_);refine OY eT tW hd os (j+1) _ E' A' B' aF _ w' mD h1 ((vr.mono h3.le (h3.eE.le hj.s)).put H6 h2) h3.kj fun t' G7 A'' H7 vd Sj GU h4 h5 h6 h7=>?_;exact hq t' G7 A'' H7 vd Sj GU h4 h5 (by rw [h6,put_defers]) (h3.trans h7)
  ·rw [hw]
   refine OY eT tW hd os (j+1) _ E A B ρ _ w mD h (vr.put H6 .undef) hj fun t' G7 A'' H7 vd Sj GU h4 h5 h6 h7=>?_;exact hq t' G7 A'' H7 vd Sj GU h4 h5 (by rw [h6,put_defers]) h7
abbrev Out:=Bool×KV×ae
inductive Run (P:Program) (cfg:dD) (all:List Oper):List Oper->bd->ae->List Out->bd->ae->Prop where
 | nil {t:bd} {A:ae} : Run P cfg all [] t A [] t A
 | cons {o:Oper} {os:List Oper} {t t1 t' : bd} {A A1 A' : ae} {wd:Bool} {v:KV} {L:List Out}
   (same:∀ i,t1.get i=t.get i)
   (want:(o.guard=none/\wd=true)\/∃ j want d,o.guard=some (j,want)/\(all[j]?).bind (·.dst)=some d/\((∃ b,t.get d=some (.bool b)/\wd=(b==want))\/(∃ l,t.get d=some (.l8 l)/\wd=false)))
   (yes:wd=true->aH (w5 (bw P cfg o.op) t1 A) (v,A1)) (no:wd=false->v=tP/\A1=A)
   (rest:Run P cfg all os (qA t1 o.dst v) A1 L t' A'):Run P cfg all (o::os) t A ((wd,v,A1)::L) t' A'
theorem H8 {R:Type} {t:bd} {d:Option Tmp} {want:Bool} {yes no:bd->Option R} {r:R} (h:aeO t d want yes no=some r) :
  ∃ d',d=some d'/\((∃ b t',t.get d' = some (.bool b)/\(∀ i,t'.get i=t.get i)/\((b==want)=true/\yes t' = some r\/(b==want)=false/\no t' = some r))\/∃ l,t.get d' = some (.l8 l)/\no t=some r):=by
 unfold aeO at h;cases d with
 | none=>exact absurd h (by simp)
 | some d=>
  refine ⟨d,rfl,?_⟩;have h:BK.rec (motive:=fun _=>Option R)
   (fun b=>Bool.rec (motive:=fun _=>Option R)
    (Bool.rec (motive:=fun _=>Option R) (yes (t.set (.bool false) d)) (no (t.set (.bool false) d)) want)
    (Bool.rec (motive:=fun _=>Option R) (no (t.set (.bool true) d)) (yes (t.set (.bool true) d)) want) b)
   (no t) none (xT ((t.get d).getD .bf))=some r:=h
  have nR:∀ v,(t.get d).getD .bf=v->v≠.bf->t.get d=some v:=by
   intro v e cI;cases hg:t.get d with
   | none=>rw [hg] at e; exact absurd e.symm cI
   | some u=>rw [hg] at e; simp at e; rw [e]
  cases hb:xT ((t.get d).getD .bf) with
  | no=>rw [hb] at h; exact absurd h (by simp)
  | l8=>
   rw [hb] at h;obtain ⟨l,hl⟩:=Z2 hb;exact .inr ⟨l,nR _ hl (by simp),h⟩
  | bool b=>
   rw [hb] at h;refine .inl ⟨b,t.set (.bool b) d,nR _ (Fj hb) (by simp),MO hb,?_⟩;cases b <;> cases want
   ·exact .inl ⟨rfl,h⟩
   ·exact .inr ⟨rfl,h⟩
   ·exact .inr ⟨rfl,h⟩
   ·exact .inl ⟨rfl,h⟩
theorem TM {R:Type} {cfg:dD} {aR:kq R} {all:List Oper} {k:bd->ae->Option R} {r:R} : ∀ {os:List Oper} {t:bd} {A:ae},(∀ o∈os,∀ f args,bw P cfg o.op≠.call f args)->Xb P cfg aR all k os t A=some r->
  ∃ L t' A',Run P cfg all os t A L t' A'/\k t' A' = some r
 | [],t,A,_,h=>⟨[],t,A,.nil,h⟩
 | o::os,t,A,hn,h=>by
  have h:Ae P cfg aR all o (Xb P cfg aR all k os) t A=some r:=h;have Mq:=fun q hq=>hn q (rR o hq);unfold Ae at h;cases hg:o.guard with
  | none=>
   rw [hg] at h;obtain ⟨v,A1,h1,h2⟩:=JG (hn o (by simp)) h;obtain ⟨L,t',A',h3,h4⟩:=TM Mq h2;exact ⟨_,t',A',.cons (fun _=>rfl) (.inl ⟨hg,rfl⟩) (fun _=>h1) (fun e=>by simp at e) h3,h4⟩
  | some p=>
   obtain ⟨j,want⟩:=p;rw [hg] at h;obtain ⟨d,hd,h⟩:=H8 h;rcases h with ⟨b,t1,h1,h2,h3⟩ | ⟨l,h1,h2⟩
   ·rcases h3 with ⟨h3,h4⟩ | ⟨h3,h4⟩
    ·obtain ⟨v,A1,h5,h6⟩:=JG (hn o (by simp)) h4
     obtain ⟨L,t',A',h7,h8⟩:=TM Mq h6;exact ⟨_,t',A',.cons h2 (.inr ⟨j,want,d,hg,hd,.inl ⟨b,h1,h3.symm⟩⟩) (fun _=>h5) (fun e=>by simp at e) h7,h8⟩
    ·obtain ⟨L,t',A',h7,h8⟩:=TM Mq h4
     exact ⟨_,t',A',.cons h2 (.inr ⟨j,want,d,hg,hd,.inl ⟨b,h1,h3.symm⟩⟩) (fun e=>by simp at e) (fun _=>⟨rfl,rfl⟩) h7,h8⟩
   ·obtain ⟨L,t',A',h7,h8⟩:=TM Mq h2
    exact ⟨_,t',A',.cons (fun _=>rfl) (.inr ⟨j,want,d,hg,hd,.inr ⟨l,h1,rfl⟩⟩) (fun e=>by simp at e) (fun _=>⟨rfl,rfl⟩) h7,h8⟩
noncomputable def turns (P:Program) (cfg:dD) (o:Oper) (x:Out):Bool:=x.1&&Nat.ble 3 (cG (bw P cfg o.op))
noncomputable def gR (S:Nat->Bool):List Oper->List Out->Nat->bd->bd
 | o::os,x::L,i,t=>gR S os L (i+1) (cond (S i) (qA t o.dst x.2.1) t)
 | _,_,_,t=>t
noncomputable def nS (P:Program) (cfg:dD) (S:Nat->Bool):List Oper->List Out->Nat->ae->ae
 | o::os,x::L,i,A=>nS P cfg S os L (i+1) (cond (S i&&turns P cfg o x) x.2.2 A)
 | _,_,_,A=>A
theorem vu (t:bd) (dst:Option Tmp) (v:KV) (x:Tmp):(qA t dst v).get x=if dst=some x then some v else t.get x:=by
 cases dst with
 | none=>rfl
 | some d=>
  simp only [qA,Trie.oE,bN];by_cases h:x=d
  ·rw [aE h,aE h.symm]
  ·rw [aa h,aa (Ne.symm h)]
theorem Ed (S:Nat->Bool):∀ (os:List Oper) (L:List Out) (k:Nat) (t:bd),gR S os L (k+1) t=gR (fun i=>S (i+1)) os L k t
 | [],L,k,t=>by cases L <;> rfl
 | o::os,[],k,t=>rfl
 | o::os,x::L,k,t=>by simp only [gR]; exact Ed S os L (k+1) _
theorem Sk {cfg:dD} (S:Nat->Bool):∀ (os:List Oper) (L:List Out) (k:Nat) (A:ae),nS P cfg S os L (k+1) A=nS P cfg (fun i=>S (i+1)) os L k A
 | [],L,k,t=>by cases L <;> rfl
 | o::os,[],k,t=>rfl
 | o::os,x::L,k,t=>by simp only [nS]; exact Sk S os L (k+1) _
theorem kN {S S' : Nat->Bool} {y:Tmp} : ∀ {os:List Oper} {L:List Out} {k:Nat} {t t' : bd},t.get y=t'.get y->(∀ i o,os[i]? = some o->o.dst=some y->S (k+i)=S' (k+i))->(gR S os L k t).get y=(gR S' os L k t').get y
 | [],L,k,t,t',h,_=>by cases L <;> exact h
 | o::os,[],k,t,t',h,_=>h
 | o::os,x::L,k,t,t',h,hs=>by
  simp only [gR];refine kN ?_ fun i o' ho hd=>by have:=hs (i+1) o' (by simpa using ho) hd; rwa [show k+(i+1)=k+1+i by omega] at this
  by_cases hd:o.dst=some y
  ·have:=hs 0 o rfl hd
   rw [ye] at this;rw [this];cases S' k with
   | true=>simp only [aj,vu,aE hd]
   | false=>exact h
  ·have e:∀ (b:Bool) (u:bd),(cond b (qA u o.dst x.2.1) u).get y=u.get y:=by
    intro b u;cases b with
    | true=>rw [aj,vu,aa hd]
    | false=>rfl
   rw [e,e]; exact h
theorem Z3 {S:Nat->Bool} {y:Tmp} : ∀ {os:List Oper} {L:List Out} {k i:Nat} {t:bd} {o:Oper} {x:Out},os[i]? = some o->L[i]? = some x->o.dst=some y->(∀ j q,os[j]? = some q->q.dst=some y->i < j->S (k+j)=false)->
  (gR (cQ S (k+i)) os L k t).get y=some x.2.1
 | [],L,k,i,t,o,x,ho,_,_,_=>by simp at ho
 | q::os,[],k,i,t,o,x,_,hx,_,_=>by simp at hx
 | q::os,u::L,k,0,t,o,x,ho,hx,hd,hs=>by
  simp at ho hx;subst ho hx;simp only [gR,ye];have hk:cQ S k k=true:=by simp [cQ]
  rw [hk,aj];have:=kN (S:=cQ S k) (S':=fun _=>false) (y:=y) (os:=os) (L:=L) (k:=k+1) (t:=qA t q.dst u.2.1) (t':=qA t q.dst u.2.1) rfl (fun j q' hq Z4=>by
   have h1:=hs (j+1) q' (by simpa using hq) Z4 (by omega);rw [show k+(j+1)=k+1+j by omega] at h1;simp only [cQ,h1,Bool.false_or];cases hb:Nat.beq (k+1+j) k with
   | false=>rfl
   | true=>have:=aK hb; omega)
  rw [this];have FX:∀ (os:List Oper) (L:List Out) (k:Nat) (t:bd),gR (fun _=>false) os L k t=t:=by
   intro os
   induction os with
   | nil=>intro L k t; cases L <;> rfl
   | cons o os ih=>intro L k t; cases L with
    | nil=>rfl
    | cons x L=>simp only [gR,aG]; exact ih L _ t
  rw [FX,vu,aE hd]
 | q::os,u::L,k,i+1,t,o,x,ho,hx,hd,hs=>by
  simp only [gR];rw [show k+(i+1)=k+1+i by omega];exact Z3 (by simpa using ho) (by simpa using hx) hd fun j q' hq Z4 bj=>by
   have:=hs (j+1) q' (by simpa using hq) Z4 (by omega);rwa [show k+(j+1)=k+1+j by omega] at this
theorem JH {cfg:dD} {S S' : Nat->Bool} : ∀ {os:List Oper} {L:List Out} {k:Nat} {A:ae},(∀ i o x,os[i]? = some o->L[i]? = some x->turns P cfg o x=true->S (k+i)=S' (k+i))->nS P cfg S os L k A=nS P cfg S' os L k A
 | [],L,k,A,_=>by cases L <;> rfl
 | o::os,[],k,A,_=>rfl
 | o::os,x::L,k,A,h=>by
  simp only [nS];have h0:(S k&&turns P cfg o x)=(S' k&&turns P cfg o x):=by
   cases ht:turns P cfg o x with
   | false=>simp
   | true=>have:=h 0 o x rfl rfl ht; rw [ye] at this; rw [this]
  rw [h0];exact JH fun i o' x' ho hx ht=>by have:=h (i+1) o' x' (by simpa using ho) (by simpa using hx) ht; rwa [show k+(i+1)=k+1+i by omega] at this
def G8 (all:List Oper) (o:Oper) (t:bd) (wd:Bool):Prop:=(o.guard=none/\wd=true)\/∃ j want d,o.guard=some (j,want)/\(all[j]?).bind (·.dst)=some d/\((∃ b,t.get d=some (.bool b)/\wd=(b==want))\/(∃ l,t.get d=some (.l8 l)/\wd=false))
theorem Ee {cfg:dD} {o:Oper} {t:bd} {A A1:ae} {v:KV} (h:aH (w5 (bw P cfg o.op) t A) (v,A1)) (hk:Nat.ble 3 (cG (bw P cfg o.op))=false):A1=A:=by
 generalize bw P cfg o.op=ins at h hk;cases ins with
 | pure f xs=>obtain ⟨u,_,h2⟩:=aH.map h; simp at h2; exact h2.2.symm
 | read f xs=>obtain ⟨u,_,h2⟩:=aH.map h; simp at h2; exact h2.2.symm
 | act f xs=>exact absurd hk (by simp [cG])
 | look f xs=>obtain ⟨u,_,h2⟩:=aH.map h; simp at h2; exact h2.2.symm
 | D4 g f xs=>obtain ⟨u,_,h2⟩:=aH.map h; simp at h2; exact h2.2.symm
 | HS g f xs=>exact absurd hk (by simp [cG])
 | call f xs=>exact h.elim
 | bad=>exact h.elim
theorem Run.at {cfg:dD} {all:List Oper} : ∀ {os:List Oper} {t t' : bd} {A A' : ae} {L:List Out},Run P cfg all os t A L t' A'->
  L.length=os.length/\(∀ y,t'.get y=(gR (fun _=>true) os L 0 t).get y)/\A' = nS P cfg (fun _=>true) os L 0 A/\
  ∀ i o x,os[i]? = some o->L[i]? = some x->∃ t1,(∀ y,t1.get y=(gR (fun j=>Nat.blt j i) os L 0 t).get y)/\G8 all o t1 x.1/\(x.1=true->aH (w5 (bw P cfg o.op) t1 (nS P cfg (fun j=>Nat.blt j i) os L 0 A)) (x.2.1,x.2.2))/\(x.1=false->x.2.1=tP)
 | _,_,_,_,_,_,.nil=>⟨rfl,fun _=>rfl,rfl,fun i o x ho=>by simp at ho⟩
 | o::os,t,t',A,A',(wd,v,A1)::L,.cons (t1:=t1) same want yes no rest=>by
  obtain ⟨h1,h2,h3,h4⟩:=rest.at;have hA1:cond (turns P cfg o (wd,v,A1)) A1 A=A1:=by
   cases ht:turns P cfg o (wd,v,A1) with
   | true=>rfl
   | false=>
    rw [aG];cases wd with
    | false=>exact (no rfl).2.symm
    | true=>exact (Ee (yes rfl) (by simpa [turns] using ht)).symm
  have TN:∀ y,(qA t1 o.dst v).get y=(qA t o.dst v).get y:=fun y=>by rw [vu,vu,same]
  refine ⟨by simp [h1],fun y=>?_,?_,fun i q x hq hx=>?_⟩
  ·rw [h2 y]
   simp only [gR,aj];rw [Ed];exact kN (TN y) fun _ _ _ _=>rfl
  ·rw [h3]
   simp only [nS,CA];rw [Sk,hA1]
  ·cases i with
   | zero=>
    simp at hq hx;subst hq hx;have e0:∀ (os:List Oper) (L:List Out) (k:Nat) (t:bd),gR (fun j=>Nat.blt j 0) os L k t=t:=by
     intro os
     induction os with
     | nil=>intro L k t; cases L <;> rfl
     | cons o os ih=>intro L k t; cases L with
      | nil=>rfl
      | cons x L=>simp only [gR]; exact ih L _ t
    have e1:∀ (os:List Oper) (L:List Out) (k:Nat) (A:ae),nS P cfg (fun j=>Nat.blt j 0) os L k A=A:=by
     intro os
     induction os with
     | nil=>intro L k t; cases L <;> rfl
     | cons o os ih=>intro L k t; cases L with
      | nil=>rfl
      | cons x L=>simp only [nS]; exact ih L _ t
    refine ⟨t1,fun y=>by rw [e0]; exact same y,?_,fun e=>by rw [e1]; exact yes e,fun e=>(no e).1⟩;rcases want with h | ⟨j,wt,d,e2,e3,e4⟩
    ·exact .inl h
    ·exact .inr ⟨j,wt,d,e2,e3,by rw [same]; exact e4⟩
   | succ i=>
    obtain ⟨t2,h5,h6,h7,h8⟩:=h4 i q x (by simpa using hq) (by simpa using hx);have hsh:(fun j=>Nat.blt (j+1) (i+1))=fun j=>Nat.blt j i:=by
     funext j;cases hb:Nat.blt j i with
     | true=>rw [bG] at hb ⊢; omega
     | false=>
      cases hc:Nat.blt (j+1) (i+1) with
      | false=>rfl
      | true=>rw [bG] at hc; rw [show Nat.blt j i=true from by rw [bG]; omega] at hb; simp at hb
    have h01:Nat.blt 0 (i+1)=true:=by rw [bG]; omega
    have gZ:nS P cfg (fun j=>Nat.blt j (i+1)) (o::os) ((wd,v,A1)::L) 0 A=nS P cfg (fun j=>Nat.blt j i) os L 0 A1:=by
     simp only [nS,h01,CA];rw [Sk,hA1,hsh]
    refine ⟨t2,fun y=>?_,h6,fun e=>by rw [gZ]; exact h7 e,h8⟩;rw [h5 y];simp only [gR,h01,aj];rw [Ed,hsh];exact kN (TN y) fun _ _ _ _=>rfl
end Go.K
end
section
namespace Go.K
open Go Go.aI
variable {P:Program} {E:Env}
theorem TP {cfg:dD} {all:List Oper} {b:List Nat} {i:Nat} {y:Oper} : ∀ (xs:List Oper) (k:Nat),Qb P cfg all b i y xs k=true->∀ (j:Nat) (x:Oper),xs[j]? = some x->k+j < i->Kr P cfg all x y=true->ov b i (k+j)=true\/(wz P cfg all x y=false/\(Xc all (k+j) x i y).isSome=true)
 | [],k,_,j,x,hx,_,_=>by simp at hx
 | x0::xs,k,h,0,x,hx,bj,hc=>by
  simp at hx;subst hx;simp only [Qb,ao,uR,lU] at h;rcases h.1 with ((h1 | h1) | h1) | h1
  ·have:=dT h1; omega
  ·rw [hc] at h1; simp at h1
  ·exact .inl h1
  ·exact .inr h1
 | x0::xs,k,h,j+1,x,hx,bj,hc=>by
  simp only [Qb,ao] at h;have:=TP xs (k+1) h.2 j x (by simpa using hx) (by omega) hc;rwa [show k+1+j=k+(j+1) by omega] at this
theorem OZ {cfg:dD} {all:List Oper} {b:List Nat} : ∀ (os:List Oper) (k:Nat),Ln P cfg all b os k=true->∀ (i:Nat) (o:Oper),os[i]? = some o->Qb P cfg all b (k+i) o all 0=true
 | [],k,_,i,o,ho=>by simp at ho
 | o0::os,k,h,0,o,ho=>by
  simp at ho;subst ho;simp only [Ln,ao] at h;exact h.1
 | o0::os,k,h,i+1,o,ho=>by
  simp only [Ln,ao] at h;have:=OZ os (k+1) h.2 i o (by simpa using ho);rwa [show k+1+i=k+(i+1) by omega] at this
theorem TQ {cfg:dD} {all:List Oper} {b:List Nat} {i:Nat} {y:Oper} {p:Option Operand×Operand} : ∀ (xs:List Oper) (k j:Nat) (x:Oper),xs[j]? = some x->k+j < i->Kr P cfg all x y=true->ov b i (k+j)=false->Xc all (k+j) x i y=some p->p∈Ff P cfg all b i y xs k
 | [],k,j,x,hx,_,_,_,_=>by simp at hx
 | x0::xs,k,0,x,hx,bj,hm,hb,he=>by
  simp at hx;subst hx;have h1:(Nat.ble i k||!Kr P cfg all x0 y||ov b i k)=false:=by
   rw [hm,show ov b i k=false from hb];cases h:Nat.ble i k with
   | false=>rfl
   | true=>have:=dT h; omega
  simp only [Ff];rw [h1,aG,show Xc all k x0 i y=some p from he];exact P0
 | x0::xs,k,j+1,x,hx,bj,hm,hb,he=>by
  have e:k+(j+1)=k+1+j:=by omega
  have:=TQ (b:=b) (p:=p) xs (k+1) j x (by simpa using hx) (show k+1+j < i by omega) hm (by rw [<- e]; exact hb) (by rw [<- e]; exact he);simp only [Ff];cases (Nat.ble i k||!Kr P cfg all x0 y||ov b i k) with
  | true=>exact this
  | false=>
   rw [aG];split
   ·exact rR _ this
   ·exact this
theorem Rf {cfg:dD} {all:List Oper} {b:List Nat} {p:Option Operand×Operand} : ∀ (os:List Oper) (k i:Nat) (y:Oper),os[i]? = some y->p∈Ff P cfg all b (k+i) y all 0->p∈VF P cfg all b os k
 | [],k,i,y,hy,_=>by simp at hy
 | o::os,k,0,y,hy,h=>by
  simp at hy;subst hy;exact List.mem_append_left _ h
 | o::os,k,i+1,y,hy,h=>by
  refine List.mem_append_right _ (Rf os (k+1) i y (by simpa using hy) ?_);rwa [show k+1+i=k+(i+1) by omega]
structure Rg (P:Program) (cfg:dD) (all:List Oper):Prop where
 Sm:wo P all
 kind:∀ o∈all,cG (bw P cfg o.op)<=3
 ord:∀ i j x y,all[i]? = some y->all[j]? = some x->j < i->Kr P cfg all x y=true->ov (dE [] all) i j=true\/(wz P cfg all x y=false/\∃ p,Xc all j x i y=some p/\p∈Ks P cfg all)
 plain:∀ p,p∈Ks P cfg all->R3 P cfg all=true
theorem afe {cfg:dD} {all:List Oper} (h:aeP P cfg all=true):Rg P cfg all:=by
 unfold aeP at h;simp only [ao] at h;refine ⟨FO h.1.1.1,fun o ho=>dT (fe.1 h.1.1.2 o ho),fun i j x y hy hx bj hm=>?_,fun p hp=>?_⟩
 ·have:=OZ all 0 h.1.2 i y hy
  rw [ba] at this;have:=TP all 0 this j x hx (by omega) hm;rw [ba] at this;cases hb:ov (dE [] all) i j with
  | true=>exact .inl rfl
  | false=>
   rcases this with h1 | ⟨h1,h2⟩
   ·rw [hb] at h1; simp at h1
   ·obtain ⟨p,hp⟩:=PZ.1 h2
    refine .inr ⟨h1,p,hp,Rf all 0 i y hy ?_⟩;rw [ba];exact TQ all 0 j x hx (by omega) hm (by rw [ba]; exact hb) (by rw [ba]; exact hp)
 ·have h2:=h.2
  simp only [uR] at h2;rcases h2 with h2 | h2
  ·rw [List.isEmpty_iff] at h2
   rw [h2] at hp;simp at hp
  ·exact h2
structure Z5 (P:Program) (cfg:dD) (all:List Oper):Prop where
 Sm:wo P all
 FH:∀ {i j:Nat} {x y:Oper},all[i]? = some y->all[j]? = some x->j < i->wz P cfg all x y=true->ov (dE [] all) i j=true
theorem Rg.toT {cfg:dD} {all:List Oper} (hf:Rg P cfg all):Z5 P cfg all:=⟨hf.Sm,fun {i j x y} hy hx bj hc=>by
 rcases hf.ord i j x y hy hx bj (by unfold Kr; rw [hc]; rfl) with h | ⟨h,_⟩
 ·exact h
 ·rw [hc] at h; simp at h⟩
def TR (P:Program) (cfg:dD) (all:List Oper) (i:Nat):Prop:=∀ j q,all[j]? = some q->Nat.ble 3 (cG (bw P cfg q.op))=true->(j < i->ov (dE [] all) i j=true)/\(i < j->ov (dE [] all) j i=true)
theorem CX {x y:Oper} {p:Option Operand×Operand} (h:Mx x y=some p):(∃ T,y.op = .load T p.2)/\((p.1=none/\Qa x.op=true)\/∃ T a v,p.1=some a/\x.op = .store T a v):=by
 unfold Mx at h;split at h
 ·rename_i a ha
  have hl:∃ T,y.op = .load T a:=by
   unfold GZ at ha;split at ha
   ·rename_i T a' e; simp at ha; subst ha; exact ⟨T,e⟩
   ·simp at ha
  cases hs:Qa x.op with
  | true=>
   rw [hs,aj] at h;simp at h;subst h;exact ⟨hl,.inl ⟨rfl,rfl⟩⟩
  | false=>
   rw [hs,aG] at h;split at h
   ·rename_i a2 Y7
    simp at h;subst h;refine ⟨hl,.inr ?_⟩;unfold TA at Y7;split at Y7
    ·rename_i T a3 v e; simp at Y7; subst Y7; exact ⟨T,_,v,rfl,e⟩
    ·simp at Y7
   ·simp at h
 ·simp at h
theorem Z6 {all:List Oper} {i j:Nat} {x y:Oper} {p:Option Operand×Operand} (h:Xc all j x i y=some p) :
  (Mx x y=some p/\uy i p.2 all 0=true/\Mw j p.1 all=true)\/(Mx y x=some p/\uy j p.2 all 0=true/\Mw i p.1 all=true):=by
 unfold Xc at h;split at h
 ·rename_i q hq
  cases hb:(uy i q.2 all 0&&Mw j q.1 all) with
  | false=>rw [hb] at h; simp at h
  | true=>
   rw [hb,aj] at h;simp at h;subst h;simp only [ao] at hb;exact .inl ⟨hq,hb.1,hb.2⟩
 ·split at h
  ·rename_i q hq
   cases hb:(uy j q.2 all 0&&Mw i q.1 all) with
   | false=>rw [hb] at h; simp at h
   | true=>
    rw [hb,aj] at h;simp at h;subst h;simp only [ao] at hb;exact .inr ⟨hq,hb.1,hb.2⟩
  ·simp at h
theorem H9 {cfg:dD} {o:Oper} {T:TypeId} {a:Operand} (h:o.op = .load T a):cG (bw P cfg o.op)=1:=by rw [h]; rfl
theorem unordered {cfg:dD} {all:List Oper} (hf:Rg P cfg all) {i j:Nat} {o q:Oper} (ho:all[i]? = some o) (hq:all[j]? = some q) (hk:cG (bw P cfg o.op)≠0) (h3:Nat.ble 3 (cG (bw P cfg q.op))=true) :
  ((j < i->ov (dE [] all) i j=true)/\(i < j->ov (dE [] all) j i=true))\/∃ p,p∈Ks P cfg all/\Mx q o=some p/\uy i p.2 all 0=true/\Mw j p.1 all=true:=by
 have mD:Nat.beq (cG (bw P cfg o.op)) 0=false:=by
  cases hb:Nat.beq (cG (bw P cfg o.op)) 0 with
  | false=>rfl
  | true=>exact absurd (aK hb) hk
 have hnl:∀ T a,q.op≠.load T a:=fun T a e=>by rw [H9 e] at h3; simp at h3
 rcases Nat.lt_trichotomy j i with h | h | h
 ·rcases hf.ord i j q o ho hq h (by unfold Kr; rw [h3,mD]; simp) with h1 | ⟨_,p,h1,h2⟩
  ·exact .inl ⟨fun _=>h1,fun h'=>by omega⟩
  ·rcases Z6 h1 with ⟨e1,e2,e3⟩ | ⟨e1,e2,e3⟩
   ·exact .inr ⟨p,h2,e1,e2,e3⟩
   ·obtain ⟨⟨T,e⟩,_⟩:=CX e1
    exact absurd e (hnl _ _)
 ·exact .inl ⟨fun h'=>by omega,fun h'=>by omega⟩
 ·rcases hf.ord j i o q hq ho h (by unfold Kr; rw [h3,mD]; simp) with h1 | ⟨_,p,h1,h2⟩
  ·exact .inl ⟨fun h'=>by omega,fun _=>h1⟩
  ·rcases Z6 h1 with ⟨e1,e2,e3⟩ | ⟨e1,e2,e3⟩
   ·obtain ⟨⟨T,e⟩,_⟩:=CX e1
    exact absurd e (hnl _ _)
   ·exact .inr ⟨p,h2,e1,e2,e3⟩
theorem O0 {cfg:dD} {all:List Oper} (hf:Rg P cfg all) {i:Nat} {o:Oper} (ho:all[i]? = some o) (hk:cG (bw P cfg o.op)≠0) (hn:∀ T a,o.op≠.load T a):TR P cfg all i:=fun j q hq h3=>by
 rcases unordered hf ho hq hk h3 with h | ⟨p,_,h,_⟩
 ·exact h
 ·obtain ⟨⟨T,e⟩,_⟩:=CX h
  exact absurd e (hn _ _)
theorem zk {cfg:dD} {o:Oper} (h:cG (bw P cfg o.op)<=3):∀ f args,bw P cfg o.op≠.call f args:=by
 intro f args e;rw [e] at h;simp [cG] at h
theorem CY {d:Tmp} {l:List Tmp} (h:d∈l):Ol (some d) l=true:=by
 simp only [Ol,List.any_eq_true];exact ⟨d,h,by simp⟩
theorem kz {x:Tmp} : ∀ {xs:List Operand},Operand.tmp x∈xs->x∈tL xs
 | [],h=>by simp at h
 | y::ys,h=>by
  rcases de.1 h with h | h
  ·subst h; simp [tL]
  ·have:=kz h
   cases y <;> simp [tL,this]
section
variable {cfg:dD} {all:List Oper} {L:List Out} {t0:bd} {A0:ae}
theorem Z7 (hf:Z5 P cfg all) {S:Nat->Bool} (hc:uT all S) {i:Nat} {o:Oper} (ho:all[i]? = some o) (r6:S i=false) (uQ:zf all S i) {y:Tmp} (hy:y∈nP P cfg all o) :
  (gR S all L 0 t0).get y=(gR (fun j=>Nat.blt j i) all L 0 t0).get y:=by
 refine kN rfl fun j q hq hd=>?_;rw [ba];rcases Nat.lt_trichotomy j i with h | h | h
 ·have:ov (dE [] all) i j=true:=hf.FH ho hq h (by
   unfold wz;rw [hd,CY hy];rfl)
  rw [hc.ready hf.Sm ho uQ j this]
  symm; rw [bG]; exact h
 ·subst h
  rw [r6]
  symm
  cases hb:Nat.blt j j with
  | false=>rfl
  | true=>rw [bG] at hb; omega
 ·have hb:ov (dE [] all) j i=true:=hf.FH hq ho h (by
   unfold wz;rw [hd,CY hy];simp)
  have:S j=false:=by
   cases hs:S j with
   | false=>rfl
   | true=>have:=hc j i hs hb; rw [r6] at this; simp at this
  rw [this]
  symm
  cases hbb:Nat.blt j i with
  | false=>rfl
  | true=>rw [bG] at hbb; omega
theorem TS (hf:Rg P cfg all) {S:Nat->Bool} (hc:uT all S) {i:Nat} {o:Oper} (ho:all[i]? = some o) (r6:S i=false) (uQ:zf all S i) (gZ:TR P cfg all i) :
  nS P cfg S all L 0 A0=nS P cfg (fun j=>Nat.blt j i) all L 0 A0:=by
 refine JH fun j q x hq hx ht=>?_;rw [ba];have h3:Nat.ble 3 (cG (bw P cfg q.op))=true:=by unfold turns at ht; simp only [ao] at ht; exact ht.2
 rcases Nat.lt_trichotomy j i with h | h | h
 ·have:ov (dE [] all) i j=true:=(gZ j q hq h3).1 h
  rw [hc.ready hf.Sm ho uQ j this]
  symm; rw [bG]; exact h
 ·subst h
  rw [r6]
  symm
  cases hb:Nat.blt j j with
  | false=>rfl
  | true=>rw [bG] at hb; omega
 ·have hb:ov (dE [] all) j i=true:=(gZ j q hq h3).2 h
  have:S j=false:=by
   cases hs:S j with
   | false=>rfl
   | true=>have:=hc j i hs hb; rw [r6] at this; simp at this
  rw [this]
  symm
  cases hbb:Nat.blt j i with
  | false=>rfl
  | true=>rw [bG] at hbb; omega
theorem Ly (hf:Z5 P cfg all) {S:Nat->Bool} (hc:uT all S) {i:Nat} {o:Oper} {x:Out} (ho:all[i]? = some o) (hx:L[i]? = some x) (r6:S i=false) (y:Tmp) :
  (gR (cQ S i) all L 0 t0).get y=(qA (gR S all L 0 t0) o.dst x.2.1).get y:=by
 rw [vu];by_cases hd:o.dst=some y
 ·rw [aE hd]
  have:=Z3 (S:=S) (y:=y) (os:=all) (L:=L) (k:=0) (i:=i) (t:=t0) ho hx hd (fun j q hq Z4 bj=>by
   rw [ba];have hb:ov (dE [] all) j i=true:=hf.FH hq ho bj (by
    unfold wz;rw [Z4,hd];simp [Tg])
   cases hs:S j with
   | false=>rfl
   | true=>have:=hc j i hs hb; rw [r6] at this; simp at this)
  rw [ba] at this;exact this
 ·rw [aa hd]
  refine kN rfl fun j q hq Z4=>?_;rw [ba];have cI:j≠i:=by
   intro e;subst e;rw [ho] at hq;simp at hq;subst hq;exact hd Z4
  unfold cQ;have:Nat.beq j i=false:=by
   cases hb:Nat.beq j i with
   | false=>rfl
   | true=>exact absurd (aK hb) cI
  rw [this,Bool.or_false]
theorem Bl {S:Nat->Bool} {i:Nat} {o:Oper} {x:Out} (ho:all[i]? = some o) (hx:L[i]? = some x) (ht:turns P cfg o x=false):nS P cfg (cQ S i) all L 0 A0=nS P cfg S all L 0 A0:=by
 refine JH fun j q y hq hy hty=>?_;rw [ba];have cI:j≠i:=by
  intro e;subst e;rw [ho] at hq; rw [hx] at hy;simp at hq hy;subst hq hy;rw [ht] at hty; simp at hty
 unfold cQ;have:Nat.beq j i=false:=by
  cases hb:Nat.beq j i with
  | false=>rfl
  | true=>exact absurd (aK hb) cI
 rw [this,Bool.or_false]
theorem aff {i:Nat} {o:Oper} {x:Out} (ho:all[i]? = some o) (hx:L[i]? = some x) (ht:turns P cfg o x=true):nS P cfg (fun j=>Nat.blt j (i+1)) all L 0 A0=x.2.2:=by
 have key:∀ (os:List Oper) (L:List Out) (k i:Nat) (A:ae) (o:Oper) (x:Out),os[i]? = some o->L[i]? = some x->turns P cfg o x=true->nS P cfg (fun j=>Nat.blt j (k+i+1)) os L k A=x.2.2:=by
  intro os
  induction os with
  | nil=>intro L k i A o x ho; simp at ho
  | cons q os ih=>
   intro L k i A o x ho hx ht;cases L with
   | nil=>simp at hx
   | cons u L=>
    simp only [nS];have bj:Nat.blt k (k+i+1)=true:=by rw [bG]; omega
    rw [bj,CA];cases i with
    | zero=>
     simp at ho hx;subst ho hx;rw [ht,aj];have:∀ (os:List Oper) (L:List Out) (m:Nat) (A:ae),k+1<=m->nS P cfg (fun j=>Nat.blt j (k+0+1)) os L m A=A:=by
      intro os
      induction os with
      | nil=>intro L m A _; cases L <;> rfl
      | cons q os ih=>
       intro L m A hm;cases L with
       | nil=>rfl
       | cons u L=>
        simp only [nS];have:Nat.blt m (k+0+1)=false:=by
         cases hb:Nat.blt m (k+0+1) with
         | false=>rfl
         | true=>rw [bG] at hb; omega
        rw [this,Bool.false_and,aG];exact ih L _ A (by omega)
     exact this os L (k+1) _ (aB _)
    | succ i=>
     have:=ih L (k+1) i (cond (turns P cfg q u) u.2.2 A) o x (by simpa using ho) (by simpa using hx) ht;rwa [show k+1+i+1=k+(i+1)+1 by omega] at this
 have:=key all L 0 i A0 o x ho hx ht;rwa [ba] at this
theorem ahm (hf:Rg P cfg all) {S:Nat->Bool} (hc:uT all S) {i:Nat} {o:Oper} {x:Out} (ho:all[i]? = some o) (hx:L[i]? = some x) (r6:S i=false) (uQ:zf all S i) (ht:turns P cfg o x=true) :
  nS P cfg (cQ S i) all L 0 A0=x.2.2:=by
 have h3:Nat.ble 3 (cG (bw P cfg o.op))=true:=by unfold turns at ht; simp only [ao] at ht; exact ht.2
 have hk:cG (bw P cfg o.op)≠0:=by have:=dT h3; omega
 have h1:nS P cfg (cQ S i) all L 0 A0=nS P cfg (fun j=>Nat.blt j (i+1)) all L 0 A0:=by
  refine JH fun j q y hq hy hty=>?_;rw [ba];have hq3:Nat.ble 3 (cG (bw P cfg q.op))=true:=by unfold turns at hty; simp only [ao] at hty; exact hty.2
  have gZ:TR P cfg all i:=O0 hf ho hk fun T a e=>by rw [H9 e] at h3; simp at h3
  rcases Nat.lt_trichotomy j i with h | h | h
  ·have:ov (dE [] all) i j=true:=(gZ j q hq hq3).1 h
   have:=hc.ready hf.Sm ho uQ j this;unfold cQ;rw [this,Bool.true_or]
   symm; rw [bG]; omega
  ·subst h
   have:cQ S j j=true:=by simp [cQ]
   rw [this]
   symm; rw [bG]; omega
  ·have hb:ov (dE [] all) j i=true:=(gZ j q hq hq3).2 h
   have:S j=false:=by
    cases hs:S j with
    | false=>rfl
    | true=>have:=hc j i hs hb; rw [r6] at this; simp at this
   unfold cQ;have cI:Nat.beq j i=false:=by
    cases hb:Nat.beq j i with
    | false=>rfl
    | true=>have:=aK hb; omega
   rw [this,cI]
   symm
   cases hbb:Nat.blt j (i+1) with
   | false=>rfl
   | true=>rw [bG] at hbb; omega
 rw [h1];exact aff ho hx ht
end
theorem abN {all:List Oper} {o:Oper} {j:Nat} {want:Bool} {d:Tmp} (hg:o.guard=some (j,want)) (hd:(all[j]?).bind (·.dst)=some d):d∈Hr all o:=by
 unfold Hr;rw [hg];simp [hd]
theorem yE {all:List Oper} {o:Oper} {t t1:bd} {wd:Bool} {N:Nat} {ρ:Ren} {a:Act} (ht:iW P E ρ t N a) (hl:∀ y∈Hr all o,t1.get y=t.get y) (h:G8 all o t1 wd):Region.wanted o (yielded ⟨all⟩ a.tmps)=wd:=by
 rcases h with ⟨hg,rfl⟩ | ⟨j,want,d,hg,hd,h⟩
 ·unfold Region.wanted
  rw [hg]
 ·have Kg:=hl d (abN hg hd)
  have AP:=ht.val d;unfold Region.wanted;rw [hg];simp only;unfold yielded;have e:(⟨all⟩:Array Oper)[j]? = all[j]?:=by simp
  rw [e,hd];simp only [dK];rcases h with ⟨b,h1,rfl⟩ | ⟨l,h1,rfl⟩
  ·rw [<- Kg,h1] at AP
   have hcv:=AP.eG;cases hc:a.tmps[d]? with
   | none=>simp [kT,hc,undef] at hcv
   | some u=>
    have:u = .bool b:=by rw [<- hcv]; simp [kT,hc]
    subst this;rfl
  ·rw [<- Kg,h1] at AP
   obtain ⟨u,h2,h3⟩:=AP;obtain ⟨m,rfl,_⟩:=h2.OH;obtain ⟨m',h4,_⟩:=h3.RU;cases hc:a.tmps[d]? with
   | none=>rfl
   | some u=>
    have:u = .tuple m':=by rw [<- h4]; simp [kT,hc]
    subst this;rfl
theorem O1 {t t1:bd} {N:Nat} {ρ:Ren} {a:Act} (ht:iW P E ρ t N a) {x:Operand} (h:∀ y,x = .tmp y->t1.get y=t.get y):VC P E ρ (gq t1 x) (a.eval x):=by
 have:=ht.ev x;cases x with
 | tmp y=>simp only [gq] at this ⊢; rw [h y rfl]; exact this
 | const v=>exact this
 | global g=>exact this
 | func f=>exact this
theorem afg {cfg:dD} {o:Oper} {t:bd} {A A1 A' : ae} {v:KV} (h:aH (w5 (bw P cfg o.op) t A) (v,A1)) (hk:cG (bw P cfg o.op)=0):aH (w5 (bw P cfg o.op) t A') (v,A'):=by
 generalize bw P cfg o.op=ins at h hk;cases ins with
 | pure f xs=>obtain ⟨u,h1,h2⟩:=aH.map h; simp at h2; obtain ⟨rfl,_⟩:=h2; exact h1.Bk
 | read f xs=>simp [cG] at hk
 | act f xs=>simp [cG] at hk
 | look f xs=>obtain ⟨u,h1,h2⟩:=aH.map h; simp at h2; obtain ⟨rfl,_⟩:=h2; exact h1.Bk
 | D4 g f xs=>obtain ⟨u,h1,h2⟩:=aH.map h; simp at h2; obtain ⟨rfl,_⟩:=h2; exact h1.Bk
 | HS g f xs=>simp [cG] at hk
 | call f xs=>exact h.elim
 | bad=>exact h.elim
theorem Sn {cfg:dD} {S:Nat->Bool} (h:∀ i,S i=false):∀ {os:List Oper} {L:List Out} {k:Nat} {A:ae},nS P cfg S os L k A=A
 | [],L,k,A=>by cases L <;> rfl
 | o::os,[],k,A=>rfl
 | o::os,x::L,k,A=>by simp only [nS]; rw [h,Bool.false_and,aG]; exact Sn h
theorem MQ {S:Nat->Bool} (h:∀ i,S i=false):∀ {os:List Oper} {L:List Out} {k:Nat} {t:bd},gR S os L k t=t
 | [],L,k,A=>by cases L <;> rfl
 | o::os,[],k,A=>rfl
 | o::os,x::L,k,A=>by simp only [gR]; rw [h,aG]; exact MQ h
theorem alk {A:ae} {o:gU} {b:Nat} (hb:b < A.next) (cs:List KV) (e:Nat):A.get b=some (.row cs e)↔(A.new o).get b=some (.row cs e):=by
 rw [ae.cq,aa (by omega)]
theorem O2 {A:ae} {o:gU} {b c:Nat} (h:b≠c\/((∀ cs e,A.get b≠some (.row cs e))/\∀ cs e,o≠.row cs e)) (cs:List KV) (e:Nat):A.get b=some (.row cs e)↔(A.put c o).get b=some (.row cs e):=by
 rw [ae.bB];by_cases X3:b=c
 ·rw [aE X3]
  rcases h with h | ⟨h1,h2⟩
  ·exact absurd X3 h
  ·exact ⟨fun q=>absurd q (h1 _ _),fun q=>absurd (by simpa using q) (h2 cs e)⟩
 ·rw [aa X3]
def Rh (A A' : ae):Prop:=A.next<=A'.next/\∀ b,b < A.next->∀ cs e,A.get b=some (.row cs e)↔A'.get b=some (.row cs e)
theorem Hv {A:ae} {o:gU} : Rh A (A.new o):=⟨by simp,fun _ hb cs e=>alk hb cs e⟩
theorem Qh {A:ae} {c:Nat} {o o' : gU} (hc:A.get c=some o') (h' : ∀ cs e,o'≠.row cs e) (h:∀ cs e,o≠.row cs e):Rh A (A.put c o):=⟨by simp,fun b _ cs e=>by
 by_cases X3:b=c
 ·subst X3
  exact O2 (.inr ⟨fun cs e q=>by rw [hc] at q; simp at q; exact h' cs e q,h⟩) cs e
 ·exact O2 (.inl X3) cs e⟩
theorem Rh.trans {A B C:ae} (h:Rh A B) (k:Rh B C):Rh A C:=⟨gS h.1 k.1,fun b hb cs e=>(h.2 b hb cs e).trans (k.2 b (eY hb h.1) cs e)⟩
theorem MR {e sz b n f m:Nat} {base new:List KV} {ab an:Nat->KV} {A A' : ae} {v:KV} {more:Bool} (h:aH (Tx e sz b n base ab A f m new an more) (v,A')):A' = A.put f (.aO (n+m) sz):=by
 obtain ⟨_,h⟩:=aH.jN h;simp only [du] at h;exact h.2.symm
theorem TT {e b n m:Nat} {base new:List KV} {ab an:Nat->KV} {A A' : ae} {v:KV} {more:Bool} (h:aH (Yz e b n base ab A m new an more) (v,A')):∃ o,A' = A.new (.arr o):=by
 obtain ⟨_,h⟩:=aH.jN h;simp only [du] at h;exact ⟨_,h.2.symm⟩
theorem adN {e sz b:Nat} {A A' : ae} {xs:List KV} {v:KV} (h:aH (OA e sz b A xs) (v,A')):Rh A A':=by
 unfold OA at h;split at h
 ·obtain ⟨_,h⟩:=aH.cond h
  rw [MR h];exact Hv.trans (Qh (o':=.aO 0 sz) (by simp) (by simp) (by simp))
 ·obtain ⟨_,h⟩:=aH.cond h
  rw [MR h];exact Hv.trans (Qh (o':=.aO 0 sz) (by simp) (by simp) (by simp))
 ·split at h
  ·rename_i hf
   obtain ⟨_,h⟩:=aH.cond h;rw [MR h];exact Qh hf (by simp) (by simp)
  ·exact h.elim
 ·exact h.elim
theorem Ri {e b:Nat} {A A' : ae} {xs:List KV} {v:KV} (h:aH (Ht e b A xs) (v,A')):Rh A A':=by
 unfold Ht at h;split at h
 ·obtain ⟨_,h⟩:=aH.cond h
  obtain ⟨o,rfl⟩:=TT h;exact Hv
 ·split at h
  ·rename_i hf
   obtain ⟨_,h⟩:=aH.cond h;obtain ⟨o,rfl⟩:=TT h;exact (Qh hf (by simp) (by simp)).trans Hv
  ·exact h.elim
 ·exact h.elim
theorem abO {e sz b:Nat} {mt:Bool} {A A' : ae} {xs:List KV} {v:KV} (h:aH (Ll e sz b mt A xs) (v,A')):Rh A A':=by
 unfold Ll at h;split at h
 ·split at h
  ·rename_i y' _
   revert h
   cases ak4 _ with
   | true=>exact fun h=>Ri h
   | false=>
    cases mt with
    | true=>exact fun h=>Ri h
    | false=>exact fun h=>adN h
  ·exact h.elim
 ·exact h.elim
theorem aj1 {c:Bool} {i:rY} {t:bd} {A:ae} {x:KV×ae} (h:aH (w5 (cond c i .bad) t A) x):aH (w5 i t A) x:=by
 cases c with
 | true=>exact h
 | false=>exact h.elim
theorem Z8 {cfg:dD} {o:Oper} {t:bd} {A A' : ae} {v:KV} (hs:Qa o.op=true) (h:aH (w5 (bw P cfg o.op) t A) (v,A')):Rh A A':=by
 revert hs h
 cases hop:o.op <;> intro hs h <;> simp [Qa] at hs
 ·rename_i T
  have h:aH (w5 (rq P T) t A) (v,A'):=h;unfold rq at h;split at h
  ·rename_i z _
   cases hb:(flat z&&z.cells.toList.all scalar&&gC (fy z).cells) with
   | false=>rw [hb] at h; exact h.elim
   | true=>
    rw [hb,aj] at h;have h:(KV.ptr A.next 0,A.new (.row (fy z).cells (oG P T)))=(v,A'):=h;simp only [du] at h;rw [<- h.2];exact Hv
  ·exact h.elim
 ·rename_i T x
  have h:aH (HT (oG P T) A [gq t x]) (v,A'):=h;unfold HT at h;simp only at h;obtain ⟨_,h⟩:=aH.cond h;have h:(KV.ptr A.next 0,A.new (.row (gq t x).cells (oG P T)))=(v,A'):=h;simp only [du] at h;rw [<- h.2];exact Hv
 ·rename_i c
  split at hs
  ·rename_i hc
   have h:aH (w5 (lI P cfg c) t A) (v,A'):=h;unfold lI at h;rw [hc] at h;simp only [CQ] at h;unfold JA at h;split at h
   ·split at h
    ·split at h
     ·split at h
      ·exact abO (aj1 h)
      ·exact h.elim
     ·exact h.elim
    ·exact h.elim
   ·exact h.elim
  ·simp at hs
theorem Xn {cfg:dD} {o:Oper} {T:TypeId} {a x:Operand} {t:bd} {A A' : ae} {v:KV} (ho:o.op = .store T a x) (h:aH (w5 (bw P cfg o.op) t A) (v,A')) :
  A'.next=A.next/\∀ b,((∃ b2 off,gq t a = .ptr b2 off/\b≠b2)\/∃ U Tc c i k,gq t a = .ap U Tc c i k)->∀ cs e,A.get b=some (.row cs e)↔A'.get b=some (.row cs e):=by
 rw [ho] at h;have h:aH (Tw P T A [gq t a,gq t x]) (v,A'):=h;unfold Tw at h;split at h
 ·rename_i c off w heq
  simp only [List.cons.injEq,and_true] at heq;obtain ⟨_,h⟩:=aH.cond h;split at h
  ·split at h
   ·have h:(tP,_)=(v,A'):=h
    simp only [du] at h;rw [<- h.2];refine ⟨rfl,fun b hb cs e=>O2 (.inl ?_) cs e⟩;rcases hb with ⟨b2,alg,h1,h2⟩ | ⟨U,Tc,c',i,k,h1⟩
    ·rw [heq.1] at h1; simp at h1; rw [h1.1]; exact h2
    ·rw [heq.1] at h1; simp at h1
   ·exact h.elim
  ·exact h.elim
 ·rename_i U Tc c i k w heq
  split at h
  ·rename_i hA
   obtain ⟨_,h⟩:=aH.cond h;split at h
   ·have h:(tP,_)=(v,A'):=h
    simp only [du] at h;rw [<- h.2];refine ⟨rfl,fun b _ cs e=>?_⟩;by_cases X3:b=c
    ·subst X3
     exact O2 (.inr ⟨fun cs e q=>by rw [hA] at q; simp at q,by simp⟩) cs e
    ·exact O2 (.inl X3) cs e
   ·exact h.elim
  ·exact h.elim
 ·exact h.elim
theorem Sp {t:bd} {nx:Nat} : ∀ {l:List (Option Operand×Operand)},R2 t nx l=true->∀ p∈l,Lm t nx p=true
 | [],_,p,hp=>by simp at hp
 | q::l,h,p,hp=>by
  have h:Bool.rec (motive:=fun _=>Bool) false (R2 t nx l) (Lm t nx q)=true:=h;cases hq:Lm t nx q with
  | false=>rw [hq] at h; simp at h
  | true=>
   rw [hq] at h;rcases de.1 hp with rfl | hp
   ·exact hq
   ·exact Sp h p hp
theorem O3 {i:Nat} {x:Tmp} : ∀ (os:List Oper) (k:Nat),uy i (.tmp x) os k=true->∀ j o,os[j]? = some o->i<=k+j->o.dst≠some x
 | [],k,_,j,o,ho,_=>by simp at ho
 | q::os,k,h,0,o,ho,hle=>by
  simp at ho;subst ho;simp only [uy,ao,uR,lU] at h;rcases h.1 with h1 | h1
  ·rw [bG] at h1; omega
  ·intro e
   rw [e,CY (by simp [tL])] at h1;simp at h1
 | q::os,k,h,j+1,o,ho,hle=>by
  simp only [uy,ao] at h;exact O3 os (k+1) h.2 j o (by simpa using ho) (by omega)
section
variable {cfg:dD} {all:List Oper} {L:List Out} {t0:bd} {A0:ae}
theorem adO {tn t1:bd} {i:Nat} {x:Operand} (QF:∀ y,tn.get y=(gR (fun _=>true) all L 0 t0).get y) (vr:∀ y,t1.get y=(gR (fun j=>Nat.blt j i) all L 0 t0).get y) (h:uy i x all 0=true):gq tn x=gq t1 x:=by
 cases x with
 | tmp y=>
  simp only [gq];rw [QF y,vr y,kN (S':=fun j=>Nat.blt j i) rfl fun j o ho hd=>?_];rw [ba]
  symm
  rw [bG];refine Nat.lt_of_not_le fun hle=>?_;exact O3 all 0 h j o ho (by omega) hd
 | const v=>rfl
 | global g=>rfl
 | func f=>rfl
theorem afh (j:Nat):(∃ q x,all[j]? = some q/\L[j]? = some x/\turns P cfg q x=true/\nS P cfg (fun k=>Nat.blt k (j+1)) all L 0 A0=x.2.2)\/
  ((∀ q x,all[j]? = some q->L[j]? = some x->turns P cfg q x=false)/\nS P cfg (fun k=>Nat.blt k (j+1)) all L 0 A0=nS P cfg (fun k=>Nat.blt k j) all L 0 A0):=by
 by_cases h:∃ q x,all[j]? = some q/\L[j]? = some x/\turns P cfg q x=true
 ·obtain ⟨q,x,h1,h2,h3⟩:=h
  refine .inl ⟨q,x,h1,h2,h3,?_⟩;have:=aff (A0:=A0) h1 h2 h3;exact this
 ·have hn:∀ q x,all[j]? = some q->L[j]? = some x->turns P cfg q x=false:=fun q x h1 h2=>by
   cases ht:turns P cfg q x with
   | false=>rfl
   | true=>exact absurd ⟨q,x,h1,h2,ht⟩ h
  refine .inr ⟨hn,JH fun k q x hq hx ht=>?_⟩;rw [ba];have cI:k≠j:=fun e=>by subst e; rw [hn q x hq hx] at ht; simp at ht
  cases hb:Nat.blt k j with
  | true=>rw [bG] at hb ⊢; omega
  | false=>
   cases wk:Nat.blt k (j+1) with
   | false=>rfl
   | true=>
    rw [bG] at wk;have : ¬ k < j:=fun h=>by rw [<- bG,hb] at h; simp at h
    omega
theorem Xo (hf:Rg P cfg all) {S:Nat->Bool} (hc:uT all S):∀ n,∃ m,m<=n/\∀ j q x,j < n->all[j]? = some q->L[j]? = some x->turns P cfg q x=true->S j=Nat.blt j m
 | 0=>⟨0,aB 0,fun j q x hj=>by omega⟩
 | n+1=>by
  obtain ⟨m,hm,h⟩:=Xo hf hc n;by_cases hn:∃ q x,all[n]? = some q/\L[n]? = some x/\turns P cfg q x=true/\S n=true
  ·obtain ⟨q,x,h1,h2,h3,h4⟩:=hn
   have hq3:Nat.ble 3 (cG (bw P cfg q.op))=true:=by unfold turns at h3; simp only [ao] at h3; exact h3.2
   have hk:cG (bw P cfg q.op)≠0:=by have:=dT hq3; omega
   have gZ:=O0 hf h1 hk fun T a e=>by rw [H9 e] at hq3; simp at hq3
   refine ⟨n+1,aB _,fun j q' x' hj h5 h6 h7=>?_⟩;have hb:Nat.blt j (n+1)=true:=by rw [bG]; exact hj
   rw [hb];by_cases Z9:j=n
   ·subst Z9; exact h4
   ·have ao4:Nat.ble 3 (cG (bw P cfg q'.op))=true:=by unfold turns at h7; simp only [ao] at h7; exact h7.2
    exact hc n j h4 ((gZ j q' h5 ao4).1 (by omega))
  ·refine ⟨m,by omega,fun j q x hj h5 h6 h7=>?_⟩
   by_cases Z9:j=n
   ·subst Z9
    have hb:Nat.blt j m=false:=by
     cases hb:Nat.blt j m with
     | false=>rfl
     | true=>rw [bG] at hb; omega
    rw [hb];cases hs:S j with
    | false=>rfl
    | true=>exact absurd ⟨q,x,h5,h6,h7,hs⟩ hn
   ·exact h j q x (by omega) h5 h6 h7
theorem aj2 (hf:Rg P cfg all) {S:Nat->Bool} (hc:uT all S):∃ m,(∀ j q x,all[j]? = some q->L[j]? = some x->turns P cfg q x=true->S j=Nat.blt j m)/\nS P cfg S all L 0 A0=nS P cfg (fun j=>Nat.blt j m) all L 0 A0:=by
 obtain ⟨m,_,h⟩:=Xo (L:=L) hf hc all.length;have h' : ∀ j q x,all[j]? = some q->L[j]? = some x->turns P cfg q x=true->S j=Nat.blt j m:=fun j q x h1 h2 h3=>h j q x (cH.1 h1).1 h1 h2 h3;exact ⟨m,h',JH fun j q x h1 h2 h3=>by rw [ba]; exact h' j q x h1 h2 h3⟩
def AtK (P:Program) (cfg:dD) (all:List Oper) (L:List Out) (t0:bd) (A0:ae):Prop:=∀ i o x,all[i]? = some o->L[i]? = some x->∃ t1,(∀ y,t1.get y=(gR (fun j=>Nat.blt j i) all L 0 t0).get y)/\(x.1=true->aH (w5 (bw P cfg o.op) t1 (nS P cfg (fun j=>Nat.blt j i) all L 0 A0)) (x.2.1,x.2.2))
theorem afi (uO:AtK P cfg all L t0 A0) (hpl:R3 P cfg all=true):∀ j,A0.next<=(nS P cfg (fun k=>Nat.blt k j) all L 0 A0).next
 | 0=>by rw [Sn (fun i=>by
   cases hb:Nat.blt i 0 with
   | false=>rfl
   | true=>rw [bG] at hb; omega)]; exact aB _
 | j+1=>by
  have ih:=afi uO hpl j;rcases afh (P:=P) (cfg:=cfg) (all:=all) (L:=L) (A0:=A0) j with ⟨q,x,h1,h2,h3,h4⟩ | ⟨_,h4⟩
  ·rw [h4]
   obtain ⟨t1,_,hg⟩:=uO j q x h1 h2;unfold turns at h3;simp only [ao] at h3;have hg:=hg h3.1;have hp:=fe.1 hpl q (gi h1);simp only [uR,h3.2,Bool.not_true,GN,false_or] at hp;rcases hp with hp | hp
   ·exact gS ih (Z8 hp hg).1
   ·obtain ⟨a2,Y7⟩:=PZ.1 hp
    unfold TA at Y7;split at Y7
    ·rename_i T a3 v e
     rw [(Xn e hg).1]; exact ih
    ·simp at Y7
  ·rw [h4]; exact ih
theorem afj (hf:Rg P cfg all) {S:Nat->Bool} (hc:uT all S) {i:Nat} {o:Oper} {T:TypeId} {a:Operand} (ho:all[i]? = some o) (FN:o.op = .load T a) (r6:S i=false) (uQ:zf all S i) (hns : ¬ TR P cfg all i)
  (uO:AtK P cfg all L t0 A0) {tn:bd} (QF:∀ y,tn.get y=(gR (fun _=>true) all L 0 t0).get y) (aiT:R2 tn A0.next (Ks P cfg all)=true)
  {t1:bd} (vr:∀ y,t1.get y=(gR (fun j=>Nat.blt j i) all L 0 t0).get y) {v:KV} {A1:ae} (hg:aH (w5 (bw P cfg o.op) t1 (nS P cfg (fun j=>Nat.blt j i) all L 0 A0)) (v,A1)) :
  aH (w5 (bw P cfg o.op) t1 (nS P cfg S all L 0 A0)) (v,nS P cfg S all L 0 A0):=by
 have hk:cG (bw P cfg o.op)≠0:=by rw [H9 FN]; simp
 have hex:∃ p,p∈Ks P cfg all/\p.2=a/\uy i a all 0=true:=by
  refine Classical.byContradiction fun cI=>hns fun j q hq h3=>?_;rcases unordered hf ho hq hk h3 with h | ⟨p,h1,h2,h3,_⟩
  ·exact h
  ·obtain ⟨⟨T',e⟩,_⟩:=CX h2
   rw [FN] at e;simp only [Op.load.injEq] at e;exact absurd ⟨p,h1,e.2.symm,by rw [e.2]; exact h3⟩ cI
 obtain ⟨p,hp,hpa,hnd⟩:=hex;have AP:=adO QF vr hnd;have hpd:=Sp aiT p hp;have hpl:=hf.plain p hp;rw [FN] at hg ⊢;have alm:∀ A,w5 (bw P cfg (.load T a)) t1 A=(Ad P T A [gq t1 a]).map fun v=>(v,A):=fun _=>rfl;rw [alm] at hg ⊢;obtain ⟨u,N6,he⟩:=aH.map hg;simp only [du] at he;obtain ⟨rfl,_⟩:=he;clear hg;have hg:=N6;clear N6;refine aH.Bk (f:=fun v=>(v,nS P cfg S all L 0 A0)) ?_;unfold Lm at hpd;rw [hpa,AP] at hpd;cases hv:gq t1 a with
 | tp U Tc m k es acc=>rw [hv] at hg; exact hg
 | ptr b off=>
  rw [hv] at hg hpd;simp only [ao] at hpd;have hb:=hpd.1;rw [bG] at hb;have fk:∃ cs e,(nS P cfg (fun j=>Nat.blt j i) all L 0 A0).get b=some (.row cs e):=by
   have hg:aH (match Ta P T,size? P T with
    | some ag,some n=>match (K.rowAt (nS P cfg (fun j=>Nat.blt j i) all L 0 A0) b).bind fun cs=>yy n (D5 off cs) with
     | some l=>cond ag (.ok (.agg l)) (match l with | [v]=>.ok v | _=>.no)
     | none=>.no
    | _,_=>.no) u:=hg
   split at hg
   ·split at hg
    ·rename_i l hl
     obtain ⟨cs,h1,_⟩:=cE.1 hl;unfold K.rowAt at h1;split at h1
     ·rename_i bM e h2; exact ⟨bM,e,h2⟩
     ·simp at h1
    ·exact hg.elim
   ·exact hg.elim
  obtain ⟨cs,e,fk⟩:=fk;obtain ⟨m,hm,gZ⟩:=aj2 (L:=L) (A0:=A0) hf hc;have step:∀ k,(∀ q x,all[k]? = some q->L[k]? = some x->turns P cfg q x=true->¬ ((k < i->ov (dE [] all) i k=true)/\(i < k->ov (dE [] all) k i=true)))->
    ((nS P cfg (fun j=>Nat.blt j k) all L 0 A0).get b=some (.row cs e)↔(nS P cfg (fun j=>Nat.blt j (k+1)) all L 0 A0).get b=some (.row cs e)):=by
   intro k MS;rcases afh (P:=P) (cfg:=cfg) (all:=all) (L:=L) (A0:=A0) k with ⟨q,x,h1,h2,h3,h4⟩ | ⟨_,h4⟩
   ·rw [h4]
    have h3':=h3;unfold turns at h3';simp only [ao] at h3';rcases unordered hf ho h1 hk h3'.2 with h5 | ⟨p',h5,h6,h7,h8⟩
    ·exact absurd h5 (MS q x h1 h2 h3)
    ·obtain ⟨tk,htk,hgk⟩:=uO k q x h1 h2
     have hgk:=hgk h3'.1;obtain ⟨⟨T',e1⟩,e2⟩:=CX h6;rw [FN] at e1;simp only [Op.load.injEq] at e1;have afk:=Sp aiT p' h5;unfold Lm at afk;rw [<- e1.2,AP,hv] at afk;simp only [ao] at afk;rcases e2 with ⟨e2,e3⟩ | ⟨U,a2,v2,e2,e3⟩
     ·exact (Z8 e3 hgk).2 b (eY hb (afi uO hpl k)) cs e
     ·refine (Xn e3 hgk).2 b ?_ cs e
      rw [e2] at afk h8;have RT:=adO QF htk h8;have h9:=afk.2;simp only at h9;rw [RT] at h9;split at h9
      ·rename_i b2 alg e4
       refine .inl ⟨b2,alg,e4,fun e5=>?_⟩;subst e5;simp at h9
      ·rename_i U' Tc' c' i' k' e4; exact .inr ⟨_,_,_,_,_,e4⟩
      ·simp at h9
   ·rw [h4]
  have aoh:(nS P cfg S all L 0 A0).get b=some (.row cs e):=by
   rw [gZ];rcases Nat.le_total m i with hle | hle
   ·have down:∀ d k,k+d=i->m<=k->(nS P cfg (fun j=>Nat.blt j k) all L 0 A0).get b=some (.row cs e):=by
     intro d
     induction d with
     | zero=>intro k hk _; have:k=i:=by omega
             rw [this]; exact fk
     | succ d ih=>
      intro k hk Se;refine (step k fun q x h1 h2 h3 Lz=>?_).2 (ih (k+1) (by omega) (by omega));have h4:=hm k q x h1 h2 h3;have h5:S k=true:=hc.ready hf.Sm ho uQ k (Lz.1 (by omega));rw [h5] at h4;have h4:=h4.symm;rw [bG] at h4;omega
    exact down (i - m) m (by omega) (aB m)
   ·have up:∀ d,i+d<=m->(nS P cfg (fun j=>Nat.blt j (i+d)) all L 0 A0).get b=some (.row cs e):=by
     intro d
     induction d with
     | zero=>intro _; exact fk
     | succ d ih=>
      intro hd;refine (step (i+d) fun q x h1 h2 h3 Lz=>?_).1 (ih (by omega));have h4:=hm (i+d) q x h1 h2 h3;have h5:Nat.blt (i+d) m=true:=by rw [bG]; omega
      rw [h5] at h4;by_cases hd0:d=0
      ·subst hd0
       rw [ye] at h4;rw [r6] at h4; simp at h4
      ·have:=hc (i+d) i h4 (Lz.2 (by omega))
       rw [r6] at this; simp at this
    have:=up (m - i) (by omega);rwa [show i+(m - i)=m by omega] at this
  have Kg:K.rowAt (nS P cfg S all L 0 A0) b=K.rowAt (nS P cfg (fun j=>Nat.blt j i) all L 0 A0) b:=by
   unfold K.rowAt;rw [fk,aoh]
  show aH (match Ta P T,size? P T with
    | some ag,some n=>match (K.rowAt (nS P cfg S all L 0 A0) b).bind fun cs=>yy n (D5 off cs) with
     | some l=>cond ag (.ok (.agg l)) (match l with | [v]=>.ok v | _=>.no)
     | none=>.no
    | _,_=>.no) u
  rw [Kg];exact hg
 | _=>rw [hv] at hpd; simp at hpd
end
theorem abP {R:Type} {cfg:dD} {aR:kq R} (eT:rf P cfg.pc) (hm:P.follows .mixedOrders=true) {id:Nat} {all:List Oper} {N base:Nat} (hdN:all.all (Kc N)=true) {k:bd->ae->Option R} {r:R} {t:bd} {A:ae} {B:St} {ρ:Ren} {a:Act} {w:World} {Q:Exit->Act->World->Prop}
  (Lz:aeP P cfg all=true) (h:Xb P cfg aR all (fun t' A'=>Bool.rec (motive:=fun _=>Option R) none (k t' A') (R2 t' A.next (Ks P cfg all))) all t A=some r) (ht:iW P E ρ t N a) (hj:KJ P E A B ρ base w)
  (hq:∀ t' E' A' B' aF a' w',k t' A' = some r->iW P E' aF t' N a'->a'.defers=a.defers->Ev P base E A B ρ w E' A' B' aF w'->Q .normal a' w'):(Code.region id ⟨all⟩ true).wp P Q a w:=by
 have hf:=afe Lz;obtain ⟨L,tn,An,lC,hk⟩:=TM (fun o ho f args=>zk (hf.kind o ho) f args) h;obtain ⟨hlen,QF,hAn,uO⟩:=lC.at;have hdk:R2 tn A.next (Ks P cfg all)=true/\k tn An=some r:=by
  cases hd:R2 tn A.next (Ks P cfg all) with
  | false=>simp only [hd] at hk; exact absurd hk (by simp)
  | true=>simp only [hd] at hk; exact ⟨rfl,hk⟩
 obtain ⟨aiT,hk⟩:=hdk;have ao5:AtK P cfg all L t A:=fun i o x ho hx=>by obtain ⟨t1,q1,_,q3,_⟩:=uO i o x ho hx; exact ⟨t1,q1,q3⟩
 have O4:Ev P base E A B ρ w E A B ρ w.drew:=(cO.refl hj.k).ev (iX.drew hj.s);refine wp_region_any hm ?_;show wpAny P .any ⟨all⟩ Q all.length (Array.replicate all.length false) a w.drew;have FX:∀ i,(Array.replicate all.length false).getD i false=false:=by
  intro i;rw [kT,Array.getElem?_replicate];split <;> rfl
 let Inv:(Nat->Bool)->Act->World->Prop:=fun S a' w'=>∃ E' B' aF,a'.defers=a.defers/\Ev P base E A B ρ w.drew E' (nS P cfg S all L 0 A) B' aF w'/\iW P E' aF (gR S all L 0 t) N a'
 refine GY hf.Sm Inv ?_ ?_ ?_ all.length _ a w.drew (by simp) ?_ (fun i j hi _=>by
   have h2:(Array.replicate all.length false).getD i false=true:=hi;rw [FX] at h2; simp at h2) ⟨E,B,ρ,rfl,?_,?_⟩
 ·
  rintro S S' a' w' hSS ⟨E',B',aF,h1,h2,h3⟩;have e1:nS P cfg S all L 0 A=nS P cfg S' all L 0 A:=JH fun i o x ho _ _=>by rw [ba]; exact hSS i (cH.1 ho).1
  refine ⟨E',B',aF,h1,by rw [<- e1]; exact h2,h3.same fun y=>?_⟩;exact kN rfl fun i o ho _=>by rw [ba]; exact (hSS i (cH.1 ho).1).symm
 ·
  rintro S a' w' i o ⟨E',B',aF,h1,h2,h3⟩ hc ho r6 uQ _;have hi:i < L.length:=by rw [hlen]; exact (cH.1 ho).1
  have hx:L[i]? = some L[i]:=cK hi;obtain ⟨t1,vr,hw,afl,MS⟩:=uO i o L[i] ho hx;have Ef:∀ y∈nP P cfg all o,t1.get y=(gR S all L 0 t).get y:=fun y hy=>by rw [vr y,Z7 hf.toT hc ho r6 uQ hy]
  have Eg:=yE h3 (fun y hy=>Ef y (by unfold nP; exact List.mem_append_left _ hy)) hw;have H6:∀ d,o.dst=some d->d < N:=by
   intro d ed;have:=fe.1 hdN o (gi ho);unfold Kc at this;rw [ed] at this;simp only at this;rw [bG] at this;exact this
  have hoA:(⟨all⟩:Array Oper)[i]? = some o:=by simpa using ho
  unfold wpOp;rw [hoA];simp only [Eg];cases DT:L[i].1 with
  | false=>
   simp only [GN,if_false];have hv:=MS DT;refine ⟨E',B',aF,by rw [put_defers]; exact h1,?_,?_⟩
   ·rw [Bl ho hx (by unfold turns; rw [DT]; rfl)]
    exact h2
   ·refine (h3.put H6 VC.undef).same fun y=>?_
    rw [Ly hf.toT hc ho hx r6 y,hv]
  | true=>
   simp only [if_true];refine .inl ?_;have hg:=afl DT;have hgS:∃ A1,aH (w5 (bw P cfg o.op) t1 (nS P cfg S all L 0 A)) (L[i].2.1,A1)/\nS P cfg (cQ S i) all L 0 A=A1:=by
    by_cases wV:cG (bw P cfg o.op)=0
    ·refine ⟨_,afg hg wV,Bl ho hx ?_⟩
     unfold turns;rw [wV,show Nat.ble 3 0=false from rfl,Bool.and_false]
    ·by_cases gZ:TR P cfg all i
     ·rw [TS (L:=L) (A0:=A) hf hc ho r6 uQ gZ]
      refine ⟨_,hg,?_⟩;cases QF:turns P cfg o L[i] with
      | true=>exact ahm hf hc ho hx r6 uQ QF
      | false=>
       have h4:=Ee hg (by simpa [turns,DT] using QF);rw [Bl ho hx QF,TS (L:=L) (A0:=A) hf hc ho r6 uQ gZ,h4]
     ·have hex:∃ T a,o.op = .load T a:=Classical.byContradiction fun cI=>gZ (O0 hf ho wV fun T a e=>cI ⟨T,a,e⟩)
      obtain ⟨T,a',FN⟩:=hex;refine ⟨_,afj hf hc ho FN r6 uQ gZ ao5 QF aiT vr hg,Bl ho hx ?_⟩;unfold turns;rw [H9 FN,show Nat.ble 3 1=false from rfl,Bool.and_false]
   obtain ⟨A1,hg1,hA1⟩:=hgS;refine MP eT hg1 (fun x hxm=>O1 h3 fun y e=>Ef y ?_) h2.kj fun G7 H7 vd v' GU h4 h5=>?_
   ·unfold nP
    subst e;exact List.mem_append_right _ (kz hxm)
   ·refine ⟨G7,H7,vd,by rw [put_defers]; exact h1,?_,?_⟩
    ·rw [hA1]; exact h2.trans h5
    ·refine ((h3.mono h5.le (h5.eE.le h2.eE.fT)).put H6 h4).same fun y=>?_
     rw [Ly hf.toT hc ho hx r6 y]
 ·
  rintro S a' w' qy ⟨E',B',aF,h1,h2,h3⟩;have e1:nS P cfg S all L 0 A=An:=by rw [hAn]; exact JH fun i o x ho _ _=>by rw [ba]; exact qy i (cH.1 ho).1
  rw [e1] at h2;refine hq tn E' An B' aF a' w' hk (h3.same fun y=>?_) h1 (O4.trans h2);rw [QF y];exact kN rfl fun i o ho _=>by rw [ba]; exact (qy i (cH.1 ho).1).symm
 ·simp
 ·rw [Sn FX]
  exact .refl hj.k O4.eE.fT
 ·refine ht.same fun y=>?_
  rw [MQ FX]
end Go.K
end
section
namespace Go.K
open Go Go.aI
variable {P:Program} {E:Env}
theorem ao6 {A:ae} {B:St} {bM:List Value} {bm:Nat} (h:dr P E A B):cO P E A B E A (B.new (.row bM bm true none)):=by
 have BM:∀ x,AR A E x->(B.new (.row bM bm true none)).get x=B.get x:=fun x q=>by have:=h.HX q; rw [St.cq,aa (by omega)]
 refine ⟨⟨?_,?_,?_,h.apart,h.inj,h.gD,h.jM,h.kL,h.live,?_,?_,?_,?_,?_,h.ar.dL (Env.le_refl _) (fun _=>rfl) (fun _ _ e=>e) (fun _ _ e=>e) (aB _) (by simp) BM (fun _ _ e=>.inl e) (fun _ _ e=>.inl e) (fun b g e=>.inl ⟨b,e⟩) (fun _ _=>by simp) h.mem⟩,Env.le_refl _,aB _,?_,fun _ _ e=>.inl e,fun _ _ e=>.inl e,fun _ _ e=>.inl e,fun _ _ _ _=>by simp,fun _ q=>.inl q,fun _ q=>.inl (q.of (fun _=>rfl) (fun _ _ e=>e) BM),fun _ _ q=>.inl (by simpa using q),fun _ q=>.inl (q.of (fun _=>rfl) (fun _ _ e=>e) BM fun _ _=>by simp),mj ZK,fun _ e=>e⟩
 ·intro b lW OP hb
  obtain ⟨x,c,h1,h2,h3⟩:=h.row b lW OP hb;have:=h.eS b x h1;exact ⟨x,c,h1,by rw [St.cq,aa (by omega)]; exact h2,h3⟩
 ·intro b top FU hb
  rcases h.aO b top FU hb with h1 | ⟨g,h1,ZN,h2⟩
  ·exact .inl h1
  ·refine .inr ⟨g,h1,ZN,fun x hx c e own f k hg=>?_⟩
   rw [St.cq] at hg;split at hg
   ·simp at hg
   ·exact h2 x (by simpa using hx) c e own f k hg
 ·intro b r hb
  have:=h.lD b r hb;rw [St.cq,aa (by omega)];exact h.z b r hb
 ·intro b x hb; have:=h.eS b x hb; rw [St.bR]; omega
 ·intro b r hb; have:=h.lD b r hb; rw [St.bR]; omega
 ·intro b g hb; have:=h.il b g hb; rw [St.bR]; omega
 ·intro g hg; rw [St.bR] at hg; rw [St.jm]; exact h.fresh g (by omega)
 ·intro g x hx; rw [St.jm] at hx; rw [St.bR]; have:=h.mem g x hx; omega
 ·intro x hx _ _; rw [St.cq,aa (by omega)]
structure Fr (E:Env) (A:ae) (B:St) (b0 y:Nat):Prop where
 lo:b0<=y
 hi:y < B.next
 un:∀ b,E.κ b≠some y
 z:E.z y=none
 fo : ¬ AT A E B y
theorem Fr.step {A A' : ae} {B B' : St} {E' : Env} {b0 y base:Nat} {ρ aF:Ren} {w w' : World} (h:Fr E A B b0 y) (k:Ev P base E A B ρ w E' A' B' aF w'):Fr E' A' B' b0 y/\B'.get y=B.get y:=by
 have hn:=k.eE.next;refine ⟨⟨h.lo,eY h.hi hn,fun b e=>?_,?_,fun q=>?_⟩,k.dL y h.hi (fun b e=>absurd e (h.un b)) h.fo⟩
 ·rcases k.new b y e with e | e
  ·exact h.un b e
  ·have:=h.hi; omega
 ·cases hz:E'.z y with
  | none=>rfl
  | some r=>
   rcases k.tT y r hz with e | e | e
   ·rw [h.z] at e; simp at e
   ·exact absurd (.inl e) h.fo
   ·have:=h.hi; omega
 ·rcases k.lX y q with e | e
  ·exact h.fo e
  ·have:=h.hi; omega
theorem ao7 {E0:Env} {A0 A:ae} {B0 B:St} {Vv ρ aF:Ren} {w0 w w' : World} {base y bm:Nat} {lW bM:List Value} (h:Ev P base E0 A0 B0 Vv w0 E A B ρ w) (hy:Fr E A B B0.next y) (hold:B.get y=some (.row lW bm true none))
  (g:iX base ρ B w aF (B.put y (.row bM bm true none)) w'):Ev P base E0 A0 B0 Vv w0 E A (B.put y (.row bM bm true none)) aF w':=by
 have hs:=h.fT;have BM:∀ x,AR A E x->(B.put y (.row bM bm true none)).get x=B.get x:=fun x q=>by
  rw [St.bB,aa];intro e;subst e;exact hy.fo (.inl q)
 have Kw:∀ q,AF A E (B.put y (.row bM bm true none)) q->AF A E B q:=fun q r=>r.of (fun _=>rfl) (fun _ _ e=>e) BM;have hAT:∀ q,AT A E (B.put y (.row bM bm true none)) q->AT A E B q:=fun q r=>r.of (fun _=>rfl) (fun _ _ e=>e) BM fun _ _=>by simp
 refine ⟨⟨?_,?_,?_,hs.apart,hs.inj,hs.gD,hs.jM,hs.kL,hs.live,hs.eS,hs.lD,hs.il,?_,?_,hs.ar.dL (Env.le_refl _) (fun _=>rfl) (fun _ _ e=>e) (fun _ _ e=>e) (aB _) (aB _) BM (fun _ _ e=>.inl e) (fun _ _ e=>.inl e) (fun b g e=>.inl ⟨b,e⟩) (fun _ _=>by simp) hs.mem⟩,h.eE.trans g,h.le,h.next,?_,h.new,h.tT,h.rZ,?_,h.kr,fun q r=>h.kM q (Kw q r),?_,fun q r=>h.lX q (hAT q r),?_,h.CR⟩
 ·intro b cs e hb
  obtain ⟨x,c,h1,h2,h3⟩:=hs.row b cs e hb;refine ⟨x,c,h1,?_,h3⟩;rw [St.bB,aa (fun e=>hy.un b (by rw [<- e]; exact h1))];exact h2
 ·intro b top sz hb
  rcases hs.aO b top sz hb with h1 | ⟨q,h1,ZN,h2⟩
  ·exact .inl h1
  ·refine .inr ⟨q,h1,ZN,fun x hx c e own f k hg=>?_⟩
   rw [St.bB] at hg;split at hg
   ·simp at hg
   ·exact h2 x (by simpa using hx) c e own f k hg
 ·intro b r hb
  rw [St.bB,aa]
  ·exact hs.z b r hb
  ·intro e
   subst e;rw [hy.z] at hb;simp at hb
 ·intro q hq; rw [St.wi]; exact hs.fresh q hq
 ·intro q x hx; rw [St.wi] at hx; exact hs.mem q x hx
 ·intro x hx hn ha
  rw [St.bB,aa (fun e=>by have:=hy.lo; omega)];exact h.dL x hx hn ha
 ·intro q hq hn ha; rw [St.wi]; exact h.oK q hq hn ha
 ·intro q x hx; rw [St.wi] at hx; exact h.vp q x hx
 ·intro x hx c e own bL hg
  rw [St.bB,aa (fun e=>by have:=hy.lo; omega)] at hg;exact h.rows x hx c e own bL hg
theorem aoi {E0:Env} {A0 A:ae} {B0 B:St} {Vv ρ:Ren} {w0 w:World} {base y bm:Nat} {cs:List KV} {bM:List Value} (h:Ev P base E0 A0 B0 Vv w0 E A B ρ w) (hy:Fr E A B B0.next y) (hold:B.get y=some (.row bM bm true none)) (hv:aV P E cs bM) :
  E.le (E.lJ A.next y)/\Ev P base E0 A0 B0 Vv w0 (E.lJ A.next y) (A.new (.row cs bm)) B ρ w:=by
 have hs:=h.fT;have hle:E.le (E.lJ A.next y):=⟨fun _ _ e=>e,fun b x e=>by
  have:=hs.jM b x e;simp only [Env.lJ]; rw [aa (by omega)]; exact e,fun _ _ e=>e,fun _ _ e=>e⟩
 have hA:∀ (b:Nat) (v:KV),(A.new (.row cs bm)).get b=some (.arr v)->A.get b=some (.arr v):=fun b v hb=>by
  rw [ae.cq] at hb;split at hb
  ·simp at hb
  ·exact hb
 have VP:∀ (b:Nat) (v:KV),(A.new (.row cs bm)).get b=some (.iC v)->A.get b=some (.iC v):=fun b v hb=>by
  rw [ae.cq] at hb;split at hb
  ·simp at hb
  ·exact hb
 have rX:∀ x,AR (A.new (.row cs bm)) (E.lJ A.next y) x->AR A E x:=fun _ q=>q.of (fun _=>rfl) hA;have Kw:∀ g,AF (A.new (.row cs bm)) (E.lJ A.next y) B g->AF A E B g:=fun _ q=>q.of (fun _=>rfl) hA fun _ _=>rfl;have hAT:∀ x,AT (A.new (.row cs bm)) (E.lJ A.next y) B x->AT A E B x:=fun _ q=>q.of (fun _=>rfl) hA (fun _ _=>rfl) fun _ _=>rfl;refine ⟨hle,⟨⟨?_,?_,hs.z,?_,?_,?_,?_,?_,?_,?_,hs.lD,hs.il,hs.fresh,hs.mem,?_⟩,h.eE,Env.le_trans h.le hle,by have:=h.next; rw [ae.bR]; omega,h.dL,?_,h.tT,h.rZ,h.oK,fun x q=>h.kr x (rX x q),fun g q=>h.kM g (Kw g q),h.vp,fun x q=>h.lX x (hAT x q),h.rows,fun b e=>hs.ZL b (h.CR b e)⟩⟩
 ·intro b lW OP hb
  rw [ae.cq] at hb;split at hb
  ·rename_i e
   simp at hb;obtain ⟨rfl,rfl⟩:=hb;exact ⟨y,bM,by simp [Env.lJ,e],hold,hv.mono hle⟩
  ·obtain ⟨x,c,h1,h2,h3⟩:=hs.row b lW OP hb
   exact ⟨x,c,hle.κ _ _ h1,h2,h3.mono hle⟩
 ·intro b top FU hb
  rw [ae.cq] at hb;split at hb
  ·simp at hb
  ·exact hs.aO b top FU hb
 ·intro b x hb
  simp only [Env.lJ] at hb ⊢;split at hb
  ·simp at hb; subst hb; exact hy.z
  ·exact hs.apart b x hb
 ·intro b c x hb hc
  simp only [Env.lJ] at hb hc;split at hb <;> split at hc
  ·omega
  ·simp at hb; subst hb; exact absurd hc (hy.un c)
  ·simp at hc; subst hc; exact absurd hb (hy.un b)
  ·exact hs.inj b c x hb hc
 ·exact G2.new (E:=E.lJ A.next y) (fun x z g a b c d e f hx hz=>hs.gD x z g a b c d e f hx hz) (.inl fun _ _=>by simp)
 ·intro b x hb
  simp only [Env.lJ] at hb;rw [ae.bR];split at hb
  ·omega
  ·have:=hs.jM b x hb; omega
 ·intro b g hb; have:=hs.kL b g hb; rw [ae.bR]; omega
 ·intro b o hb
  rw [ae.cq] at hb;rw [ae.bR];split at hb
  ·omega
  ·have:=hs.live b o hb; omega
 ·intro b x hb
  simp only [Env.lJ] at hb;split at hb
  ·simp at hb; have:=hy.hi; omega
  ·exact hs.eS b x hb
 ·have tS:∀ b,(E.lJ A.next y).α b=E.α b:=fun _=>rfl
  have Jn:∀ c x,(E.lJ A.next y).κ c=some x->(c=A.next/\x=y)\/E.κ c=some x:=fun c x e=>by
   simp only [Env.lJ] at e;split at e
   ·rename_i e1; simp at e; exact .inl ⟨e1,e.symm⟩
   ·exact .inr e
  refine ⟨fun b v hb=>(hs.ar.arr b v (hA _ _ hb)).mono hle rfl fun _ _ _ _=>rfl,fun b v hb=>(hs.ar.iC b v (VP _ _ hb)).mono hle rfl,fun x q=>?_,fun b c v u x L N L' N' h1 h2 h3 h4=>hs.ar.inj b c v u x L N L' N' (hA _ _ h1) (hA _ _ h2) h3 h4,
   fun b c v u x z L N L' N' cs e own g k bM e' rb k' h1 h2 h3 h4 h5 h6=>hs.ar.wW b c v u x z L N L' N' cs e own g k bM e' rb k' (hA _ _ h1) (hA _ _ h2) h3 h4 h5 h6,fun b x e=>?_,fun b p e=>?_,fun b x L N e=>hs.ar.eS b x L N e,fun b v x L N cs e own g k h1 h2 h3=>?_,fun b v hb=>?_⟩
  ·obtain ⟨h1,h2⟩:=hs.ar.z x (rX x q)
   refine ⟨h1,fun c e=>?_⟩;rcases Jn c x e with ⟨_,rfl⟩ | e
   ·exact hy.fo (.inl (rX _ q))
   ·exact h2 c e
  ·rcases Jn b x e with ⟨rfl,_⟩ | e
   ·cases hb:E.α A.next with
    | none=>exact hb
    | some p=>have:=hs.ar.jM _ p hb; omega
   ·exact hs.ar.ZA b x e
  ·have:=hs.ar.jM b p e; rw [ae.bR]; omega
  ·obtain ⟨h4,h5,h6⟩:=hs.ar.vo b v x L N cs e own g k (hA _ _ h1) h2 h3
   refine ⟨h4,h5,fun z hz cI=>?_⟩;obtain ⟨h7,h8,h9⟩:=h6 z hz cI;refine ⟨h7,fun q=>h8 (rX z q),fun c e'=>?_⟩;rcases Jn c z e' with ⟨_,rfl⟩ | e'
   ·exact hy.fo (.inr ⟨g,⟨b,v,x,L,N,cs,e,own,k,hA _ _ h1,h2,h3⟩,hz⟩)
   ·exact h9 c e'
  ·obtain ⟨h1,h2⟩:=hs.ar.nk b v (hA _ _ hb)
   rw [ae.bR];refine ⟨by omega,?_⟩;cases hk:(E.lJ A.next y).κ b with
   | none=>rfl
   | some x=>
    rcases Jn b x hk with ⟨e,_⟩ | e
    ·omega
    ·rw [h2] at e; simp at e
 ·intro b x hb
  simp only [Env.lJ] at hb;split at hb
  ·rename_i e; simp at hb; subst hb; exact .inr ⟨by have:=h.next; omega,hy.lo⟩
  ·exact h.new b x hb
theorem ahn {cfg:dD} (eT:rf P cfg.pc) {o:Oper} {p:Operand×List Operand} (hp:Lq o=some p) {t:bd} {A A' : ae} {v:KV} {base:Nat} {B:St} {ρ:Ren} {a:Act} {w:World} {next:Act->World->Prop} {Q:Exit->Act->World->Prop}
  (h:aH (w5 (G0 P cfg t p) t A) (v,A')) (hv:∀ x∈p.1::p.2,VC P E ρ (gq t x) (a.eval x)) (hj:KJ P E A B ρ base w)
  (hk:∀ E' B' aF v' w',VC P E' aF v v'->Ev P base E A B ρ w E' A' B' aF w'->next (a.put o.dst v') w'):o.wp P a w next Q:=by
 classical
 have aL:compile P o.op = .call p.1 p.2:=by
  unfold Lq at hp;split at hp
  ·rename_i c ho hg
   split at hp
   ·rename_i d hc
    simp at hp;subst hp;rw [ho];exact Xl (cfg:=dD.none) (show lI P dD.none c=_ by unfold lI; rw [hc])
   ·simp at hp
  ·simp at hp
 unfold G0 at h;split at h
 ·rename_i g hfv
  split at h
  ·rename_i F hF
   obtain ⟨u,h1,h2⟩:=aH.map h;simp only [du] at h2;obtain ⟨rfl,rfl⟩:=h2;obtain ⟨hlen,hf⟩:=aH.cond h1;obtain ⟨hg,lC⟩:=eT g F hF _ _ hf (aK hlen);have cM:=ra P o;rw [aL] at cM;obtain ⟨em,h3,h4⟩:=mid (xs:=p.1::p.2) hv;obtain ⟨y,ys,e,h5,h6⟩:=h3.cons_inv;simp only [List.map_cons,List.cons.injEq] at e;obtain ⟨rfl,rfl⟩:=e;rw [hfv] at h5;obtain ⟨l,m,e5,e6,e7⟩:=h5.JD;have:=e6.bX;subst this;have:=e7.bX;subst this;obtain ⟨b6,h7,h8⟩:=cM.2 ρ em a.eval g (p.2.map em) h4 hg.1 (by rw [e5]; simp only [BG]; rw [hg.1]; simp) hg.2;unfold Oper.wp;rw [h8 w];refine (lC E A B ρ base w b6 ⟨p.2.map em,by rw [vt]; exact h6,h7⟩ hj).mono ?_;rintro e w' ⟨v',E',B',aF,rfl,h9,pd⟩;exact hk E' B' aF v' w' h9 pd
  ·exact h.elim
 ·exact h.elim
inductive Xp (P:Program) (cfg:dD) (all:List Oper) (A:ae):List Oper->bd->List Out->bd->Prop where
 | nil {t:bd} : Xp P cfg all A [] t [] t
 | cons {o:Oper} {os:List Oper} {t t1 t' : bd} {wd:Bool} {v:KV} {L:List Out}
   (same:∀ i,t1.get i=t.get i) (want:G8 all o t wd)
   (yes:wd=true->(r7 all o=true/\v = .bf)\/(r7 all o=false/\(aH (w5 (bw P cfg o.op) t1 A) (v,A)\/∃ p,Lq o=some p/\aH (w5 (G0 P cfg t1 p) t1 A) (v,A)))) (no:wd=false->v=tP/\r7 all o=false)
   (rest:Xp P cfg all A os (qA t1 o.dst v) L t'):Xp P cfg all A (o::os) t ((wd,v,A)::L) t'
theorem tX {o:Oper} {T:TypeId} {d:Tmp} (h:fO o=some (T,d)):o.op = .alloc T/\o.guard=none/\o.dst=some d:=by
 unfold fO at h;split at h
 ·rename_i T' d' h1 h2 h3
  simp at h;obtain ⟨rfl,rfl⟩:=h;exact ⟨h1,h2,h3⟩
 ·simp at h
theorem Fk {all:List Oper} {o:Oper} {T:TypeId} {d:Tmp} {x:Operand} (h:vh all o=some (T,d,x)):o.op = .store T (.tmp d) x/\o.guard=none/\o.dst=none/\zg d all=true:=by
 unfold vh at h;split at h
 ·rename_i T' d' x' h1 h2 h3
  cases hb:zg d' all with
  | false=>rw [hb] at h; simp at h
  | true=>
   rw [hb,aj] at h;simp at h;obtain ⟨rfl,rfl,rfl⟩:=h;exact ⟨h1,h2,h3,hb⟩
 ·simp at h
theorem Sq {all:List Oper} {o:Oper} (h:r7 all o=true):(∃ T d,fO o=some (T,d))\/∃ T d x,vh all o=some (T,d,x):=by
 unfold r7 at h;simp only [uR,PZ] at h;rcases h with ⟨⟨T,d⟩,h⟩ | ⟨⟨T,d,x⟩,h⟩
 ·exact .inl ⟨T,d,h⟩
 ·exact .inr ⟨T,d,x,h⟩
theorem aho {all:List Oper} {o:Oper} (h:r7 all o=true):o.guard=none:=by
 rcases Sq h with ⟨T,d,h⟩ | ⟨T,d,x,h⟩
 ·exact (tX h).2.1
 ·exact (Fk h).2.1
theorem Ia {R:Type} {cfg:dD} {aR:kq R} {all:List Oper} {k:bd->ae->Option R} {r:R} : ∀ {os:List Oper} {t:bd} {A:ae},(∀ o∈os,r7 all o=true\/cG (bw P cfg o.op)<=1\/(Lq o).isSome=true)->Zw P cfg aR all k os t A=some r->
  ∃ L t',Xp P cfg all A os t L t'/\k t' A=some r
 | [],t,A,_,h=>⟨[],t,.nil,h⟩
 | o::os,t,A,hn,h=>by
  have h:ag7 P cfg aR all o (Zw P cfg aR all k os) t A=some r:=h;have Mq:=fun q hq=>hn q (rR o hq);unfold ag7 at h;cases hb:r7 all o with
  | true=>
   rw [hb] at h;have h:Zw P cfg aR all k os (qA t o.dst .bf) A=some r:=h;obtain ⟨L,t',h1,h2⟩:=Ia Mq h;exact ⟨_,t',.cons (fun _=>rfl) (.inl ⟨aho hb,rfl⟩) (fun _=>.inl ⟨hb,rfl⟩) (fun e=>by simp at e) h1,h2⟩
  | false=>
   rw [hb] at h;cases hdy:Lq o with
   | some p=>
    simp only [hdy] at h;have h:JB aR t A (fun v A=>Zw P cfg aR all k os (qA t o.dst v) A) (G0 P cfg t p)=some r:=h;have hg:o.guard=none:=by
     unfold Lq at hdy;split at hdy
     ·assumption
     ·simp at hdy
    have aiU:G0 P cfg t p = .bad\/∃ g f,G0 P cfg t p = .D4 g f p.2:=by
     unfold G0;split
     ·split
      ·exact .inr ⟨_,_,rfl⟩
      ·exact .inl rfl
     ·exact .inl rfl
    obtain ⟨v,A1,h1,h2⟩:=JG (fun f args e=>by
     rcases aiU with h | ⟨g,f',h⟩ <;> rw [h] at e <;> simp at e) h
    have e:A1=A:=by
     rcases aiU with h | ⟨g,f',h⟩
     ·rw [h] at h1; exact h1.elim
     ·rw [h] at h1
      obtain ⟨u,_,h3⟩:=aH.map h1;simp at h3;exact h3.2.symm
    subst e;obtain ⟨L,t',h3,h4⟩:=Ia Mq h2;exact ⟨_,t',.cons (fun _=>rfl) (.inl ⟨hg,rfl⟩) (fun _=>.inr ⟨hb,.inr ⟨p,hdy,h1⟩⟩) (fun e=>by simp at e) h3,h4⟩
   | none=>
   simp only [hdy] at h;have hk:cG (bw P cfg o.op)<=1:=by
    rcases hn o (by simp) with e | e | e
    ·rw [hb] at e; simp at e
    ·exact e
    ·rw [hdy] at e; simp at e
   have hk3:Nat.ble 3 (cG (bw P cfg o.op))=false:=by
    cases hc:Nat.ble 3 (cG (bw P cfg o.op)) with
    | false=>rfl
    | true=>have:=dT hc; omega
   have hnc:=zk (P:=P) (cfg:=cfg) (o:=o) (by omega);have h:Ae P cfg aR all o (Zw P cfg aR all k os) t A=some r:=h;unfold Ae at h;cases hg:o.guard with
   | none=>
    rw [hg] at h;obtain ⟨v,A1,h1,h2⟩:=JG hnc h;have e:=Ee h1 hk3;subst e;obtain ⟨L,t',h3,h4⟩:=Ia Mq h2;exact ⟨_,t',.cons (fun _=>rfl) (.inl ⟨hg,rfl⟩) (fun _=>.inr ⟨hb,.inl h1⟩) (fun e=>by simp at e) h3,h4⟩
   | some p=>
    obtain ⟨j,want⟩:=p;rw [hg] at h;obtain ⟨d,hd,h⟩:=H8 h;rcases h with ⟨b,t1,h1,h2,h3⟩ | ⟨l,h1,h2⟩
    ·rcases h3 with ⟨h3,h4⟩ | ⟨h3,h4⟩
     ·obtain ⟨v,A1,h5,h6⟩:=JG hnc h4
      have e:=Ee h5 hk3;subst e;obtain ⟨L,t',h7,h8⟩:=Ia Mq h6;exact ⟨_,t',.cons h2 (.inr ⟨j,want,d,hg,hd,.inl ⟨b,h1,h3.symm⟩⟩) (fun _=>.inr ⟨hb,.inl h5⟩) (fun e=>by simp at e) h7,h8⟩
     ·obtain ⟨L,t',h7,h8⟩:=Ia Mq h4
      exact ⟨_,t',.cons h2 (.inr ⟨j,want,d,hg,hd,.inl ⟨b,h1,h3.symm⟩⟩) (fun e=>by simp at e) (fun _=>⟨rfl,hb⟩) h7,h8⟩
    ·obtain ⟨L,t',h7,h8⟩:=Ia Mq h2
     exact ⟨_,t',.cons (fun _=>rfl) (.inr ⟨j,want,d,hg,hd,.inr ⟨l,h1,rfl⟩⟩) (fun e=>by simp at e) (fun _=>⟨rfl,hb⟩) h7,h8⟩
theorem Xp.at {cfg:dD} {all:List Oper} {A:ae} : ∀ {os:List Oper} {t t' : bd} {L:List Out},Xp P cfg all A os t L t'->
  L.length=os.length/\(∀ y,t'.get y=(gR (fun _=>true) os L 0 t).get y)/\
  ∀ i o x,os[i]? = some o->L[i]? = some x->∃ t1,(∀ y,t1.get y=(gR (fun j=>Nat.blt j i) os L 0 t).get y)/\G8 all o t1 x.1/\(x.1=true->(r7 all o=true/\x.2.1 = .bf)\/(r7 all o=false/\(aH (w5 (bw P cfg o.op) t1 A) (x.2.1,A)\/∃ p,Lq o=some p/\aH (w5 (G0 P cfg t1 p) t1 A) (x.2.1,A))))/\(x.1=false->x.2.1=tP/\r7 all o=false)
 | _,_,_,_,.nil=>⟨rfl,fun _=>rfl,fun i o x ho=>by simp at ho⟩
 | o::os,t,t',(wd,v,_)::L,.cons (t1:=t1) same want yes no rest=>by
  obtain ⟨h1,h2,h4⟩:=rest.at;have TN:∀ y,(qA t1 o.dst v).get y=(qA t o.dst v).get y:=fun y=>by rw [vu,vu,same]
  refine ⟨by simp [h1],fun y=>?_,fun i q x hq hx=>?_⟩
  ·rw [h2 y]
   simp only [gR,aj];rw [Ed];exact kN (TN y) fun _ _ _ _=>rfl
  ·cases i with
   | zero=>
    simp at hq hx;subst hq hx;have e0:∀ (os:List Oper) (L:List Out) (k:Nat) (t:bd),gR (fun j=>Nat.blt j 0) os L k t=t:=by
     intro os
     induction os with
     | nil=>intro L k t; cases L <;> rfl
     | cons o os ih=>intro L k t; cases L with
      | nil=>rfl
      | cons x L=>simp only [gR]; exact ih L _ t
    refine ⟨t1,fun y=>by rw [e0]; exact same y,?_,yes,no⟩;rcases want with h | ⟨j,wt,d,e2,e3,e4⟩
    ·exact .inl h
    ·exact .inr ⟨j,wt,d,e2,e3,by rw [same]; exact e4⟩
   | succ i=>
    obtain ⟨t2,h5,h6,h7,h8⟩:=h4 i q x (by simpa using hq) (by simpa using hx);have hsh:(fun j=>Nat.blt (j+1) (i+1))=fun j=>Nat.blt j i:=by
     funext j;cases hb:Nat.blt j i with
     | true=>rw [bG] at hb ⊢; omega
     | false=>
      cases hc:Nat.blt (j+1) (i+1) with
      | false=>rfl
      | true=>rw [bG] at hc; rw [show Nat.blt j i=true from by rw [bG]; omega] at hb; simp at hb
    have h01:Nat.blt 0 (i+1)=true:=by rw [bG]; omega
    refine ⟨t2,fun y=>?_,h6,h7,h8⟩;rw [h5 y];simp only [gR,h01,aj];rw [Ed,hsh];exact kN (TN y) fun _ _ _ _=>rfl
theorem Ib {cfg:dD} {all:List Oper} {b:List Nat} {i:Nat} {y:Oper} : ∀ (xs:List Oper) (k:Nat),Hu P cfg all b i y xs k=true->∀ (j:Nat) (x:Oper),xs[j]? = some x->k+j < i->wz P cfg all x y=true->ov b i (k+j)=true
 | [],k,_,j,x,hx,_,_=>by simp at hx
 | x0::xs,k,h,0,x,hx,bj,hc=>by
  simp at hx;subst hx;simp only [Hu,ao,uR,lU] at h;rcases h.1 with (h1 | h1) | h1
  ·have:=dT h1; omega
  ·rw [hc] at h1; simp at h1
  ·exact h1
 | x0::xs,k,h,j+1,x,hx,bj,hc=>by
  simp only [Hu,ao] at h;have:=Ib xs (k+1) h.2 j x (by simpa using hx) (by omega) hc;rwa [show k+1+j=k+(j+1) by omega] at this
theorem Eh {cfg:dD} {all:List Oper} {b:List Nat} : ∀ (os:List Oper) (k:Nat),Cf P cfg all b os k=true->∀ (i:Nat) (o:Oper),os[i]? = some o->Hu P cfg all b (k+i) o all 0=true
 | [],k,_,i,o,ho=>by simp at ho
 | o0::os,k,h,0,o,ho=>by
  simp at ho;subst ho;simp only [Cf,ao] at h;exact h.1
 | o0::os,k,h,i+1,o,ho=>by
  simp only [Cf,ao] at h;have:=Eh os (k+1) h.2 i o (by simpa using ho);rwa [show k+1+i=k+(i+1) by omega] at this
theorem Rj {i:Nat} {d:Tmp} : ∀ (os:List Oper) (k:Nat),Lo i d os k=true->∀ (j:Nat) (o:Oper),os[j]? = some o->k+j≠i->o.dst≠some d
 | [],k,_,j,o,ho,_=>by simp at ho
 | q::os,k,h,0,o,ho,cI=>by
  simp at ho;subst ho;simp only [Lo,ao,uR,lU] at h;rcases h.1 with h1 | h1
  ·exact absurd (aK h1) (by simpa using cI)
  ·intro e
   rw [e,CY (by simp)] at h1;simp at h1
 | q::os,k,h,j+1,o,ho,cI=>by
  simp only [Lo,ao] at h;exact Rj os (k+1) h.2 j o (by simpa using ho) (by omega)
theorem NF {all:List Oper} {i:Nat} {d:Tmp} : ∀ (os:List Oper) (k:Nat),D8 all i d os k=true->∀ (j:Nat) (o:Oper),os[j]? = some o->k+j≠i->∀ T x,vh all o≠some (T,d,x)
 | [],k,_,j,o,ho,_=>by simp at ho
 | q::os,k,h,0,o,ho,cI=>by
  simp at ho;subst ho;simp only [D8,ao,uR] at h;intro T x e;rcases h.1 with h1 | h1
  ·exact absurd (aK h1) (by simpa using cI)
  ·rw [e] at h1
   simp at h1
 | q::os,k,h,j+1,o,ho,cI=>by
  simp only [D8,ao] at h;exact NF os (k+1) h.2 j o (by simpa using ho) (by omega)
theorem O5 {d:Tmp} : ∀ {os:List Oper},zg d os=true->∃ (j:Nat) (o:Oper) (T:TypeId),os[j]? = some o/\fO o=some (T,d)
 | [],h=>by simp [zg] at h
 | o::os,h=>by
  simp only [zg,uR] at h;rcases h with h | h
  ·split at h
   ·rename_i T e he
    have:=aK h;subst this;exact ⟨0,o,T,rfl,he⟩
   ·simp at h
  ·obtain ⟨j,q,T,h1,h2⟩:=O5 h
   exact ⟨j+1,q,T,by simpa using h1,h2⟩
structure aco (P:Program) (cfg:dD) (all:List Oper):Prop where
 ord:Z5 P cfg all
 kind:∀ o∈all,r7 all o=true\/cG (bw P cfg o.op)<=1\/(Lq o).isSome=true
 dst:∀ (i:Nat) (o:Oper) (T:TypeId) (d:Tmp),all[i]? = some o->fO o=some (T,d)->∀ (j:Nat) (q:Oper),all[j]? = some q->j≠i->q.dst≠some d
 st:∀ (i:Nat) (o:Oper) (T:TypeId) (d:Tmp) (x:Operand),all[i]? = some o->vh all o=some (T,d,x)->uy i x all 0=true/\(∀ (j:Nat) (q:Oper),all[j]? = some q->j≠i->∀ T' x',vh all q≠some (T',d,x'))/\(∃ (j:Nat) (q:Oper) (T' : TypeId),j < i/\all[j]? = some q/\fO q=some (T',d))/\x≠.tmp d
theorem O6 {all:List Oper} : ∀ (os:List Oper) (k:Nat),OD all os k=true->∀ (i:Nat) (o:Oper),os[i]? = some o->
  (∀ T d,fO o=some (T,d)->Lo (k+i) d all 0=true)/\∀ T d x,vh all o=some (T,d,x)->uy (k+i) x all 0=true/\D8 all (k+i) d all 0=true/\zg d (all.take (k+i))=true/\x≠.tmp d
 | [],k,_,i,o,ho=>by simp at ho
 | o0::os,k,h,0,o,ho=>by
  simp at ho;subst ho;simp only [OD,ao] at h;refine ⟨fun T d e=>?_,fun T d x e=>?_⟩
  ·have:=h.1.1
   rw [e] at this;exact this
  ·have:=h.1.2
   rw [e] at this;simp only [ao,lU] at this;refine ⟨this.1.1.1,this.1.1.2,this.1.2,fun e2=>?_⟩;have h3:=this.2;rw [e2,CY (by simp [tL])] at h3;simp at h3
 | o0::os,k,h,i+1,o,ho=>by
  simp only [OD,ao] at h;have:=O6 os (k+1) h.2 i o (by simpa using ho);rwa [show k+1+i=k+(i+1) by omega] at this
theorem afm {cfg:dD} {all:List Oper} (h:TB P cfg all=true):aco P cfg all:=by
 unfold TB at h;simp only [ao] at h;obtain ⟨⟨⟨h1,h2⟩,h3⟩,h4⟩:=h;refine ⟨⟨FO h1,fun {i j x y} hy hx bj hc=>?_⟩,fun o ho=>?_,fun i o T d ho he j q hq cI=>?_,fun i o T d x ho he=>?_⟩
 ·have:=Eh all 0 h3 i y hy
  rw [ba] at this;have:=Ib all 0 this j x hx (by omega) hc;rwa [ba] at this
 ·have:=fe.1 h2 o ho
  simp only [uR] at this;rcases this with (h | h) | h
  ·exact .inl h
  ·exact .inr (.inl (dT h))
  ·exact .inr (.inr h)
 ·have:=(O6 all 0 h4 i o ho).1 T d he
  rw [ba] at this;exact Rj all 0 this j q hq (by omega)
 ·have:=(O6 all 0 h4 i o ho).2 T d x he
  rw [ba] at this;refine ⟨this.1,fun j q hq cI T' x'=>NF all 0 this.2.1 j q hq (by omega) T' x',?_,this.2.2.2⟩;obtain ⟨j,q,T',h5,h6⟩:=O5 this.2.2.1;rw [mc] at h5;split at h5
  ·rename_i bj; exact ⟨j,q,T',bj,h5,h6⟩
  ·simp at h5
theorem ES {all:List Oper} {d:Tmp} {T:TypeId} {x:Operand} : ∀ {os:List Oper},vi all d os=some (T,x)->∃ (i:Nat) (o:Oper),os[i]? = some o/\vh all o=some (T,d,x)
 | [],h=>by simp [vi] at h
 | o::os,h=>by
  unfold vi at h;split at h
  ·rename_i T' e x' he
   cases hb:Nat.beq d e with
   | true=>
    rw [hb,aj] at h;have:=aK hb;subst this;simp at h;obtain ⟨rfl,rfl⟩:=h;exact ⟨0,o,rfl,he⟩
   | false=>
    rw [hb,aG] at h;obtain ⟨i,q,h1,h2⟩:=ES h;exact ⟨i+1,q,by simpa using h1,h2⟩
  ·obtain ⟨i,q,h1,h2⟩:=ES h
   exact ⟨i+1,q,by simpa using h1,h2⟩
theorem ET {all:List Oper} {d:Tmp} : ∀ {os:List Oper},vi all d os=none->∀ (i:Nat) (o:Oper),os[i]? = some o->∀ T x,vh all o≠some (T,d,x)
 | [],_,i,o,ho=>by simp at ho
 | q::os,h,i,o,ho=>by
  unfold vi at h;intro T x e;split at h
  ·rename_i T' e' x' he
   cases hb:Nat.beq d e' with
   | true=>rw [hb] at h; simp at h
   | false=>
    rw [hb,aG] at h;cases i with
    | zero=>
     simp at ho;subst ho;rw [he] at e;simp at e;rw [e.2.1,tI] at hb;simp at hb
    | succ i=>exact ET h i o (by simpa using ho) T x e
  ·rename_i hn
   cases i with
   | zero=>simp at ho; subst ho; rw [hn] at e; simp at e
   | succ i=>exact ET h i o (by simpa using ho) T x e
theorem Ic {all:List Oper} {t:bd} {T:TypeId} {d:Tmp} {cs:List KV} (h:zh P all t T d=some cs):∃ z,xR P T=some z/\flat z=true/\z.cells.toList.all scalar=true/\gC (fy z).cells=true/\some (fy z).cells.length=size? P T/\
  (∀ T' x,vi all d all=some (T',x)->T=T'/\some (gq t x).cells.length=size? P T/\gC (gq t x).cells=true/\cs=(gq t x).cells)/\(vi all d all=none->cs=(fy z).cells):=by
 unfold zh at h;split at h
 ·rename_i z hz
  cases hb:(flat z&&z.cells.toList.all scalar&&gC (fy z).cells&&decide (some (fy z).cells.length=size? P T)) with
  | false=>rw [hb] at h; simp at h
  | true=>
   rw [hb,aj] at h;simp only [ao,lT] at hb;refine ⟨z,hz,hb.1.1.1,hb.1.1.2,hb.1.2,hb.2,fun T' x hs=>?_,fun hs=>?_⟩
   ·rw [hs] at h
    simp only at h;cases hc:(Nat.beq T T'&&decide (some (gq t x).cells.length=size? P T)&&gC (gq t x).cells) with
    | false=>rw [hc] at h; simp at h
    | true=>
     rw [hc,aj] at h;simp only [ao,lT] at hc;exact ⟨aK hc.1.1,hc.1.2,hc.2,by simpa using h.symm⟩
   ·rw [hs] at h
    simpa using h.symm
 ·simp at h
theorem Sr {R:Type} {all:List Oper} {t0:bd} {k:bd->ae->Option R} {r:R} : ∀ {os:List Oper} {t:bd} {A:ae},Xd P all t0 k os t A=some r->∀ o∈os,∀ T d,fO o=some (T,d)->∃ cs,zh P all t0 T d=some cs
 | [],_,_,_,o,ho,_,_,_=>by simp at ho
 | q::os,t,A,h,o,ho,T,d,he=>by
  have h:Option.rec (motive:=fun _=>Option R) (Xd P all t0 k os t A) (fun p=>
   Option.rec (motive:=fun _=>Option R) none (fun cs=>Xd P all t0 k os (t.set (.ptr A.next 0) p.2) (A.new (.row cs (oG P p.1)))) (zh P all t0 p.1 p.2)) (fO q)=some r:=h
  cases hq:fO q with
  | none=>
   rw [hq] at h;rcases de.1 ho with rfl | ho
   ·rw [hq] at he; simp at he
   ·exact Sr h o ho T d he
  | some p=>
   rw [hq] at h;cases hc:zh P all t0 p.1 p.2 with
   | none=>simp only [hc] at h; exact absurd h (by simp)
   | some cs=>
    simp only [hc] at h;rcases de.1 ho with rfl | ho
    ·rw [hq] at he
     simp at he;subst he;exact ⟨cs,hc⟩
    ·exact Sr h o ho T d he
end Go.K
end
section
namespace Go.K
open Go Go.aI
variable {P:Program} {E:Env}
theorem Xq:∀ {l vs:List Value},l.length=vs.length->gx 0 l vs=some vs
 | [],[],_=>rfl
 | [],_::_,h=>by simp at h
 | _::_,[],h=>by simp at h
 | x::l,v::vs,h=>by rw [yu,Xq (by simpa using h)]; rfl
theorem YC {a:Act} {d:Tmp} {v:Value} (h:d < a.tmps.size):(a.put (some d) v).tmps.getD d undef=v:=by
 simp [Act.put,kT,h]
theorem YD {a:Act} {dst:Option Tmp} {d:Tmp} {v:Value} (h:dst≠some d):(a.put dst v).tmps.getD d undef=a.tmps.getD d undef:=by
 cases dst with
 | none=>rfl
 | some e=>
  have cI:e≠d:=fun q=>h (by rw [q]);simp [Act.put,kT,Array.getElem?_setIfInBounds_ne cI]
def ao8 (P:Program) (E:Env) (all:List Oper) (tn:bd) (S:Nat->Bool) (T:TypeId) (d:Tmp) (bM:List Value):Prop:=
 some bM.length=size? P T/\(∀ (i:Nat) (o:Oper) T' x,all[i]? = some o->vh all o=some (T',d,x)->S i=true->aV P E (gq tn x).cells bM)/\
  ((∀ (i:Nat) (o:Oper) T' x,all[i]? = some o->vh all o=some (T',d,x)->S i=false)->∃ z,xR P T=some z/\aV P E (fy z).cells bM)
def YE (P:Program) (E:Env) (A:ae) (B:St) (ρ:Ren) (b0:Nat) (all:List Oper) (tn:bd) (S:Nat->Bool) (a:Act) (y:Nat->Nat):Prop:=
 ∀ (j:Nat) (o:Oper) (T:TypeId) (d:Tmp),all[j]? = some o->fO o=some (T,d)->S j=true->
  VR ρ (HF (y j)) (a.tmps.getD d undef)/\Fr E A B b0 (y j)/\(∃ bM,B.get (y j)=some (.row bM (oG P T) true none)/\ao8 P E all tn S T d bM)/\
  ∀ (j' : Nat) (o' : Oper) (T' : TypeId) (d' : Tmp),all[j']? = some o'->fO o' = some (T',d')->S j' = true->y j' = y j->j' = j
theorem Kx {all:List Oper} {o:Oper} {T:TypeId} {d:Tmp} (h:fO o=some (T,d)):vh all o=none:=by
 cases hb:vh all o with
 | none=>rfl
 | some p=>
  obtain ⟨T',d',x⟩:=p;have h1:=(tX h).1;have h2:=(Fk hb).1;rw [h1] at h2;simp at h2
theorem fX {S:Nat->Bool} {i j:Nat} (h:j≠i):cQ S i j=S j:=by
 unfold cQ;cases hb:Nat.beq j i with
 | false=>simp
 | true=>exact absurd (aK hb) h
theorem Cj {S:Nat->Bool} {i:Nat} : cQ S i i=true:=by simp [cQ]
theorem YE.step {E' : Env} {A:ae} {B B' : St} {ρ aF:Ren} {base b0:Nat} {w w' : World} {all:List Oper} {tn:bd} {S:Nat->Bool} {a:Act} {y:Nat->Nat} {i:Nat} {o:Oper} {v' : Value} {cfg:dD} (h:YE P E A B ρ b0 all tn S a y) (hf:aco P cfg all)
  (ho:all[i]? = some o) (hb:r7 all o=false) (k:Ev P base E A B ρ w E' A B' aF w') (kE:ρ.le aF):YE P E' A B' aF b0 all tn (cQ S i) (a.put o.dst v') y:=by
 intro j q T d hq he hS;have cI:∀ (m:Nat) (q:Oper),all[m]? = some q->r7 all q=true->m≠i:=fun m q hm AQ e=>by
  subst e;rw [ho] at hm;simp at hm;subst hm;rw [hb] at AQ;simp at AQ
 have hal:∀ {q:Oper} {T:TypeId} {d:Tmp},fO q=some (T,d)->r7 all q=true:=fun e=>by unfold r7; rw [e]; rfl
 have gZ:∀ {q:Oper} {T:TypeId} {d:Tmp} {x:Operand},vh all q=some (T,d,x)->r7 all q=true:=fun e=>by unfold r7; rw [e]; simp
 have hji:=cI j q hq (hal he);rw [fX hji] at hS;obtain ⟨h1,h2,⟨bM,h3,h4,h5,h6⟩,h7⟩:=h j q T d hq he hS;obtain ⟨h8,h9⟩:=h2.step k;refine ⟨?_,h8,⟨bM,by rw [h9]; exact h3,h4,fun m q' T' x hm Ss VX=>?_,fun hn=>?_⟩,fun j' o' T' d' Ab Kl hS'=>?_⟩
 ·rw [YD (hf.dst j q T d hq he i o ho (Ne.symm hji))]
  exact h1.mono kE
 ·rw [fX (cI m q' hm (gZ Ss))] at VX
  exact (h5 m q' T' x hm Ss VX).mono k.le
 ·obtain ⟨z,pd,FV⟩:=h6 fun m q' T' x hm Ss=>by
   have:=hn m q' T' x hm Ss;rwa [fX (cI m q' hm (gZ Ss))] at this
  exact ⟨z,pd,FV.mono k.le⟩
 ·rw [fX (cI j' o' Ab (hal Kl))] at hS'
  exact h7 j' o' T' d' Ab Kl hS'
theorem Su {R:Type} {all:List Oper} {tn:bd} {k:bd->ae->Option R} {r:R} {E0:Env} {A0:ae} {B0 B:St} {Vv ρ:Ren} {w0 w:World} {base N:Nat} {a:Act} {y:Nat->Nat} : ∀ (os:List Oper) (m:Nat) (t:bd) (E:Env) (A:ae),all.drop m=os->Xd P all tn k os t A=some r->
  Ev P base E0 A0 B0 Vv w0 E A B ρ w->iW P E ρ t N a->(∀ (j:Nat) (o:Oper) T d,m<=j->all[j]? = some o->fO o=some (T,d)->d < N)->
  (∀ (j:Nat) (o:Oper) (T:TypeId) (d:Tmp),m<=j->all[j]? = some o->fO o=some (T,d)->VR ρ (HF (y j)) (a.tmps.getD d undef)/\Fr E A B B0.next (y j)/\(∀ cs,zh P all tn T d=some cs->∃ bM,B.get (y j)=some (.row bM (oG P T) true none)/\aV P E cs bM)/\
   ∀ (j' : Nat) (o' : Oper) (T' : TypeId) (d' : Tmp),m<=j'->all[j']? = some o'->fO o' = some (T',d')->y j' = y j->j' = j)->
  ∃ t' E' A',k t' A' = some r/\iW P E' ρ t' N a/\Ev P base E0 A0 B0 Vv w0 E' A' B ρ w
 | [],m,t,E,A,_,h,se,ht,_,_=>⟨t,E,A,h,ht,se⟩
 | o::os,m,t,E,A,hd,h,se,ht,hN,hb=>by
  have ho:all[m]? = some o:=by
   have:(all.drop m)[0]? = some o:=by rw [hd]; rfl
   rw [oV] at this;simpa using this
  have hd' : all.drop (m+1)=os:=by rw [<- List.drop_drop,hd]; rfl
  have h:Option.rec (motive:=fun _=>Option R) (Xd P all tn k os t A) (fun p=>
   Option.rec (motive:=fun _=>Option R) none (fun cs=>Xd P all tn k os (t.set (.ptr A.next 0) p.2) (A.new (.row cs (oG P p.1)))) (zh P all tn p.1 p.2)) (fO o)=some r:=h
  cases hq:fO o with
  | none=>
   rw [hq] at h;exact Su (y:=y) os (m+1) t E A hd' h se ht (fun j o' T d hj=>hN j o' T d (by omega)) fun j o' T d hj ho' he=>by
    obtain ⟨h1,h2,h3,h4⟩:=hb j o' T d (by omega) ho' he;exact ⟨h1,h2,h3,fun j' o'' T' d' Ab=>h4 j' o'' T' d' (by omega)⟩
  | some p=>
   obtain ⟨T,d⟩:=p;rw [hq] at h;cases hc:zh P all tn T d with
   | none=>simp only [hc] at h; exact absurd h (by simp)
   | some cs=>
    simp only [hc] at h;obtain ⟨h1,h2,h3,h4⟩:=hb m o T d (aB m) ho hq;obtain ⟨bM,h5,h6⟩:=h3 cs hc;obtain ⟨hle,ao9⟩:=aoi (cs:=cs) se h2 h5 h6;have Jn:(E.lJ A.next (y m)).κ A.next=some (y m):=by simp [Env.lJ]
    refine Su (y:=y) os (m+1) _ (E.lJ A.next (y m)) (A.new (.row cs (oG P T))) hd' h ao9 ⟨ht.size,fun i=>?_,fun i hi=>?_⟩ (fun j o' T d hj=>hN j o' T d (by omega)) fun j o' T' d' hj ho' he=>?_
    ·rw [Trie.oE]
     by_cases CR:i=d
     ·subst CR
      rw [aE rfl];exact ⟨_,.BH Jn,h1⟩
     ·rw [aa CR]
      exact (ht.val i).mono hle (fun _ _ e=>e)
    ·rw [Trie.oE,aa]
     ·exact ht.none i hi
     ·intro e
      subst e;exact absurd (hN m o T i (aB m) ho hq) (Nat.not_lt_of_le hi)
    ·obtain ⟨g1,g2,g3,g4⟩:=hb j o' T' d' (by omega) ho' he
     have apa:y j≠y m:=fun e=>by have:=h4 j o' T' d' (by omega) ho' he e; omega
     refine ⟨g1,⟨g2.lo,g2.hi,fun b e=>?_,g2.z,fun q=>?_⟩,fun lW hc0=>?_,fun j' o'' T'' d'' Ab=>g4 j' o'' T'' d'' (by omega)⟩
     ·simp only [Env.lJ] at e
      split at e
      ·simp at e; exact apa e.symm
      ·exact g2.un b e
     ·have hA:∀ (b:Nat) (v:KV),(A.new (.row cs (oG P T))).get b=some (.arr v)->A.get b=some (.arr v):=fun b v hb=>by
       rw [ae.cq] at hb;split at hb
       ·simp at hb
       ·exact hb
      exact g2.fo (q.of (fun _=>rfl) hA (fun _ _=>rfl) fun _ _=>rfl)
     ·obtain ⟨ow,g5,g6⟩:=g3 lW hc0
      exact ⟨ow,g5,g6.mono hle⟩
theorem afn {R:Type} {cfg:dD} {aR:kq R} (eT:rf P cfg.pc) (hm:P.follows .mixedOrders=true) {id:Nat} {all:List Oper} {N base:Nat} (hdN:all.all (Kc N)=true) {k:bd->ae->Option R} {r:R} {t:bd} {A:ae} {B:St} {ρ:Ren} {a:Act} {w:World} {Q:Exit->Act->World->Prop}
  (Lz:TB P cfg all=true) (h:Zw P cfg aR all (fun t A=>Xd P all t k all t A) all t A=some r) (ht:iW P E ρ t N a) (hj:KJ P E A B ρ base w)
  (hq:∀ t' E' A' B' aF a' w',k t' A' = some r->iW P E' aF t' N a'->a'.defers=a.defers->Ev P base E A B ρ w E' A' B' aF w'->Q .normal a' w'):(Code.region id ⟨all⟩ true).wp P Q a w:=by
 classical
 have hf:=afm Lz;obtain ⟨L,tn,lC,hk⟩:=Ia hf.kind h;obtain ⟨hlen,QF,uO⟩:=lC.at;have wm:=Sr hk;have O4:Ev P base E A B ρ w E A B ρ w.drew:=(cO.refl hj.k).ev (iX.drew hj.s);have H6:∀ (i:Nat) (o:Oper),all[i]? = some o->∀ d,o.dst=some d->d < N:=by
  intro i o ho d ed;have:=fe.1 hdN o (gi ho);unfold Kc at this;rw [ed] at this;simp only at this;rw [bG] at this;exact this
 refine wp_region_any hm ?_;show wpAny P .any ⟨all⟩ Q all.length (Array.replicate all.length false) a w.drew;have FX:∀ i,(Array.replicate all.length false).getD i false=false:=by
  intro i;rw [kT,Array.getElem?_replicate];split <;> rfl
 let Inv:(Nat->Bool)->Act->World->Prop:=fun S a' w'=>∃ E' B' aF y,a'.defers=a.defers/\Ev P base E A B ρ w.drew E' A B' aF w'/\iW P E' aF (gR S all L 0 t) N a'/\YE P E' A B' aF B.next all tn S a' y
 refine GY hf.ord.Sm Inv ?_ ?_ ?_ all.length _ a w.drew (by simp) ?_ (fun i j hi _=>by
   have h2:(Array.replicate all.length false).getD i false=true:=hi;rw [FX] at h2; simp at h2) ⟨E,B,ρ,fun _=>0,rfl,.refl hj.k O4.eE.fT,?_,?_⟩
 ·
  rintro S S' a' w' hSS ⟨E',B',aF,y,h1,h2,h3,h4⟩;have hS:∀ (i:Nat) (o:Oper),all[i]? = some o->S i=S' i:=fun i o ho=>hSS i (cH.1 ho).1;refine ⟨E',B',aF,y,h1,h2,h3.same fun z=>kN rfl fun i o ho _=>by rw [ba]; exact (hS i o ho).symm,fun j o T d ho he Ky=>?_⟩;obtain ⟨q1,q2,⟨bM,q3,q4,q5,q6⟩,q7⟩:=h4 j o T d ho he (by rw [hS j o ho]; exact Ky);exact ⟨q1,q2,⟨bM,q3,q4,fun m q T' x hm Ss VX=>q5 m q T' x hm Ss (by rw [hS m q hm]; exact VX),fun hn=>q6 fun m q T' x hm Ss=>by rw [hS m q hm]; exact hn m q T' x hm Ss⟩,fun j' o' T' d' Ab Kl hS'=>q7 j' o' T' d' Ab Kl (by rw [hS j' o' Ab]; exact hS')⟩
 ·
  rintro S a' w' i o ⟨E',B',aF,y,h1,h2,h3,h4⟩ hc ho r6 uQ _;have hi:i < L.length:=by rw [hlen]; exact (cH.1 ho).1
  have hx:L[i]? = some L[i]:=cK hi;obtain ⟨t1,vr,hw,afl,MS⟩:=uO i o L[i] ho hx;have Ef:∀ z∈nP P cfg all o,t1.get z=(gR S all L 0 t).get z:=fun z hz=>by rw [vr z,Z7 hf.ord hc ho r6 uQ hz]
  have Eg:=yE h3 (fun z hz=>Ef z (by unfold nP; exact List.mem_append_left _ hz)) hw;have hoA:(⟨all⟩:Array Oper)[i]? = some o:=by simpa using ho
  unfold wpOp;rw [hoA];simp only [Eg];cases DT:L[i].1 with
  | false=>
   simp only [GN,if_false];obtain ⟨hv,hnb⟩:=MS DT;refine ⟨E',B',aF,y,by rw [put_defers]; exact h1,h2,?_,h4.step hf ho hnb (.refl h2.fT h2.eE.fT) (fun _ _ e=>e)⟩;refine (h3.put (H6 i o ho) VC.undef).same fun z=>?_;rw [Ly hf.ord hc ho hx r6 z,hv]
  | true=>
   simp only [if_true];refine .inl ?_;rcases afl DT with ⟨Ss,hv⟩ | ⟨hnb,hg⟩
   ·rcases Sq Ss with ⟨T,d,he⟩ | ⟨T,d,x,he⟩
    ·
     obtain ⟨e1,e2,e3⟩:=tX he;obtain ⟨cs,Ki⟩:=wm o (gi ho) T d he;obtain ⟨z,Kh,Cu,hz3,hz4,hz5,_⟩:=Ic Ki;have aL:compile P o.op = .make (Mc P T) []:=by rw [e1]; rfl
     obtain ⟨wZ,v',w2,hr1,yr,hr3⟩:=VO (em:=fun _=>undef) (cF:=a'.eval) (obj:=GS (oG P T) z) (mk:=HF) aL h2.eE.fT (fun x hx=>by simp at hx) (by simp only [Mc,Kh,dK,Cu,hz3,cC,aj]);unfold Oper.wp;rw [hr1];have dP:d < a'.tmps.size:=by rw [h3.size]; exact H6 i o ho d e3
     have hnx:=h2.eE.next;have kE:=hr3.le h2.eE.fT;have gZ:=ao6 (bM:=z.cells.toList) (bm:=oG P T) h2.fT;have se:Ev P base E' A B' aF w' E' A (B'.new (GS (oG P T) z)) wZ w2:=gZ.ev hr3;refine ⟨E',B'.new (GS (oG P T) z),wZ,fun m=>if m=i then B'.next else y m,by rw [put_defers]; exact h1,h2.trans se,?_,fun j q U c hq Lh hS=>?_⟩
     ·refine ((h3.mono (Env.le_refl _) kE).put (v:=.bf) (H6 i o ho) ⟨.chan none,.vm,by simp [VR]⟩).same fun z=>?_
      rw [Ly hf.ord hc ho hx r6 z,hv]
     ·have hold:∀ (m:Nat) (q:Oper) (U:TypeId) (c:Tmp),all[m]? = some q->fO q=some (U,c)->cQ S i m=true->m≠i->S m=true:=fun m q U c _ _ hS cI=>by rwa [fX cI] at hS
      have VY:∀ (m:Nat) (q:Oper) (U:TypeId) (c:Tmp) (x:Operand),all[m]? = some q->vh all q=some (U,c,x)->m≠i:=fun m q U c x hm AQ e=>by
       subst e;rw [ho] at hm;simp at hm;subst hm;rw [Kx he] at AQ;simp at AQ
      by_cases hji:j=i
      ·subst hji
       rw [ho] at hq;simp at hq;subst hq;rw [he] at Lh;simp at Lh;obtain ⟨rfl,rfl⟩:=Lh;simp only [if_true];refine ⟨?_,⟨hnx,by simp,fun b e=>?_,?_,fun q=>?_⟩,⟨z.cells.toList,by simp [GS],?_,fun m q T' x hm AQ VX=>?_,fun _=>⟨z,Kh,D9 hz4⟩⟩,fun j' o' T' d' Ab Kl hS' hy=>?_⟩
       ·rw [e3,YC dP]; exact yr
       ·have:=h2.fT.eS b _ e; omega
       ·cases hzz:E'.z B'.next with
        | none=>rfl
        | some r=>have:=h2.fT.lD _ r hzz; omega
       ·rcases q with q | ⟨g,_,q⟩
        ·obtain ⟨b,v,L',N',q1,q2⟩:=q
         have:=h2.fT.ar.eS b _ _ _ q2;omega
        ·rw [GS,St.jm] at q
         have:=h2.fT.mem g _ q;omega
       ·rw [<- (D9 (P:=P) (E:=E') hz4).length] at hz5
        exact hz5
       ·
        exfalso;have hmi:=VY m q T' d x hm AQ;rw [fX hmi] at VX;obtain ⟨_,_,⟨j0,q0,T0,bj,hq0,Zo⟩,_⟩:=hf.st m q T' d x hm AQ;have:j0=j:=by
         by_cases hjj:j0=j
         ·exact hjj
         ·exact absurd (tX Zo).2.2 (hf.dst j o T d ho he j0 q0 hq0 hjj)
        subst this;have hb:ov (dE [] all) m j0=true:=hf.ord.FH hm hq0 bj (by
         unfold wz;rw [(tX Zo).2.2,show Ol (some d) (nP P cfg all q)=true from CY (by
          unfold nP;refine List.mem_append_right _ ?_;rw [(Fk AQ).1];exact kz (show Operand.tmp d∈[Operand.tmp d,x] by simp))]
         rfl)
        have:=hc m j0 VX hb;rw [r6] at this; simp at this
       ·by_cases MK:j' = j
        ·exact MK
        ·exfalso
         rw [aa MK] at hy;have:=(h4 j' o' T' d' Ab Kl (hold j' o' T' d' Ab Kl hS' MK)).2.1.hi;omega
      ·simp only [aa hji]
       obtain ⟨q1,q2,⟨bM,q3,q4,q5,q6⟩,q7⟩:=h4 j q U c hq Lh (hold j q U c hq Lh hS hji);obtain ⟨q8,q9⟩:=q2.step se;refine ⟨?_,q8,⟨bM,by rw [q9]; exact q3,q4,fun m q' T' x hm AQ VX=>?_,fun hn=>?_⟩,fun j' o' T' d' Ab Kl hS' hy=>?_⟩
       ·rw [YD (hf.dst j q U c hq Lh i o ho (Ne.symm hji))]
        exact q1.mono kE
       ·rw [fX (VY m q' T' c x hm AQ)] at VX
        exact q5 m q' T' x hm AQ VX
       ·exact q6 fun m q' T' x hm AQ=>by
         have:=hn m q' T' x hm AQ;rwa [fX (VY m q' T' c x hm AQ)] at this
       ·by_cases MK:j' = i
        ·rw [aE MK] at hy
         have:=q2.hi;omega
        ·rw [aa MK] at hy
         exact q7 j' o' T' d' Ab Kl (hold j' o' T' d' Ab Kl hS' MK) hy
    ·
     obtain ⟨e1,e2,e3,_⟩:=Fk he;obtain ⟨hnd,aaa,⟨j0,q0,T0,bj,hq0,Zo⟩,hxd⟩:=hf.st i o T d x ho he;have hb0:ov (dE [] all) i j0=true:=hf.ord.FH ho hq0 bj (by
      unfold wz;rw [(tX Zo).2.2,show Ol (some d) (nP P cfg all o)=true from CY (by
       unfold nP;refine List.mem_append_right _ ?_;rw [e1];exact kz (show Operand.tmp d∈[Operand.tmp d,x] by simp))]
      rfl)
     have hS0:S j0=true:=hc.ready hf.ord.Sm ho uQ j0 hb0;obtain ⟨q1,q2,⟨lW,q3,q4,_,_⟩,q7⟩:=h4 j0 q0 T0 d hq0 Zo hS0;obtain ⟨cs,Ki⟩:=wm q0 (gi hq0) T0 d Zo;obtain ⟨z,_,_,_,_,_,hz6,hz7⟩:=Ic Ki;have apb:vi all d all=some (T,x):=by
      cases hs:vi all d all with
      | none=>exact absurd he (ET hs i o ho T x)
      | some p=>
       obtain ⟨T2,x2⟩:=p;obtain ⟨i2,o2,h5,h6⟩:=ES hs;by_cases hii:i2=i
       ·subst hii
        rw [ho] at h5;simp at h5;subst h5;rw [he] at h6;simp at h6;rw [h6.1,h6.2]
       ·exact absurd h6 (aaa i2 o2 h5 hii T2 x2)
     obtain ⟨hT,hl,TH,_⟩:=hz6 T x apb;subst hT;have AP:gq tn x=gq t1 x:=adO QF vr hnd;rw [AP] at hl TH;have Zk:VC P E' aF (gq t1 x) (a'.eval x):=O1 h3 fun z e=>Ef z (by
      unfold nP;refine List.mem_append_right _ ?_;rw [e1];subst e;exact kz (show Operand.tmp z∈[Operand.tmp d,Operand.tmp z] by simp))
     obtain ⟨u,hu1,hu2⟩:=Zk;have aln:=hu1.cells (AK TH);have qy:u.cells.toList.all scalar=true:=fe.2 (aln.scalar TH);have alo:some u.cells.size=size? P T0:=by
      rw [<- hl];have:=aln.length;simp only [Array.length_toList] at this;rw [this]
     have aL:compile P o.op = .act (Jt P T0) [.tmp d,x]:=by rw [e1]; rfl
     have cM:=ra P o;rw [aL] at cM
     let em:Operand->Value:=fun q=>if q = .tmp d then HF (y j0) else u
     have hw:gx 0 lW u.cells.toList=some u.cells.toList:=Xq (by
      rw [<- alo] at q4;simp only [bN] at q4;rw [q4]; simp)
     obtain ⟨wZ,v',nx,w2,hr1,yr,hr3,hr4⟩:=cM aF B' (B'.put (y j0) (.row u.cells.toList (oG P T0) true none)) base w' em a'.eval undef h2.eE.fT (fun q hq=>by
       rcases de.1 hq with rfl | hq
       ·show VR aF (em (.tmp d)) (a'.tmps.getD d undef)
        simp only [em,if_true];exact q1
       ·simp only [List.mem_singleton] at hq
        subst hq;simp only [em,aa hxd];exact hu2) (by
       have h1:em (.tmp d)=HF (y j0):=by simp [em]
       have h2:em x=u:=by simp [em,hxd]
       simp [h1,h2,Jt,aI.storeAt,HF,alo,St.Bg,cL,qy,q3,hw,St.fj])
     have apc:=ao7 h2 q2 q3 hr4;have kE:=hr4.le h2.eE.fT;have BM:∀ x,AR A E' x->(B'.put (y j0) (.row u.cells.toList (oG P T0) true none)).get x=B'.get x:=fun x q=>by
      rw [St.bB,aa];intro e;subst e;exact q2.fo (.inl q)
     have hAT:∀ q,AT A E' (B'.put (y j0) (.row u.cells.toList (oG P T0) true none)) q->AT A E' B' q:=fun q r=>r.of (fun _=>rfl) (fun _ _ e=>e) BM fun _ _=>by simp
     have hFr:∀ q,Fr E' A B' B.next q->Fr E' A (B'.put (y j0) (.row u.cells.toList (oG P T0) true none)) B.next q:=fun q f=>⟨f.lo,f.hi,f.un,f.z,fun r=>f.fo (hAT q r)⟩
     have aoj:∀ v:Value,a'.put o.dst v=a':=fun v=>by rw [e3]; rfl
     have aab:Inv (cQ S i) (a'.put o.dst v') w2:=by
      rw [aoj];refine ⟨E',_,wZ,y,h1,apc,(h3.mono (Env.le_refl _) kE).same fun z=>?_,fun j q U c hq Lh hS=>?_⟩
      ·rw [Ly hf.ord hc ho hx r6 z,e3]; rfl
      ·have hji:j≠i:=fun e=>by
        subst e;rw [ho] at hq;simp at hq;subst hq;rw [Kx Lh] at he;simp at he
       have hold:∀ (m:Nat) (q:Oper) (U:TypeId) (c:Tmp),all[m]? = some q->fO q=some (U,c)->cQ S i m=true->S m=true:=fun m q U c hm Lh hS=>by
        have:m≠i:=fun e=>by
         subst e;rw [ho] at hm;simp at hm;subst hm;rw [Kx Lh] at he;simp at he
        rwa [fX this] at hS
       rw [fX hji] at hS;obtain ⟨p1,p2,⟨bM,p3,p4,p5,p6⟩,p7⟩:=h4 j q U c hq Lh hS;refine ⟨p1.mono kE,hFr _ p2,?_,fun j' o' T' d' Ab Kl hS'=>p7 j' o' T' d' Ab Kl (hold j' o' T' d' Ab Kl hS')⟩;by_cases Jq:j=j0
       ·subst Jq
        rw [hq0] at hq;simp at hq;subst hq;rw [Zo] at Lh;simp at Lh;obtain ⟨rfl,rfl⟩:=Lh;refine ⟨u.cells.toList,by simp,by simpa using alo,fun m q' T' x' hm AQ _=>?_,fun hn=>?_⟩
        ·have hmi:m=i:=by
          by_cases hmi:m=i
          ·exact hmi
          ·exact absurd AQ (aaa m q' hm hmi T' x')
         subst hmi;rw [ho] at hm;simp at hm;subst hm;rw [he] at AQ;simp at AQ;rw [<- AQ.2,AP];exact aln
        ·have:=hn i o T0 x ho he
         rw [Cj] at this;simp at this
       ·have hcd:c≠d:=fun e=>by
         subst e;exact absurd (tX Zo).2.2 (hf.dst j q U c hq Lh j0 q0 hq0 (Ne.symm Jq))
        have VY:∀ (m:Nat) (q:Oper) (U:TypeId) (x:Operand),all[m]? = some q->vh all q=some (U,c,x)->m≠i:=fun m q U x hm AQ e=>by
         subst e;rw [ho] at hm;simp at hm;subst hm;rw [he] at AQ;simp at AQ;exact hcd AQ.2.1.symm
        refine ⟨bM,?_,p4,fun m q' T' x' hm AQ VX=>?_,fun hn=>?_⟩
        ·rw [St.bB,aa]
         ·exact p3
         ·intro e
          exact Jq ((p7 j0 q0 T0 d hq0 Zo hS0 e.symm).symm)
        ·rw [fX (VY m q' T' x' hm AQ)] at VX
         exact p5 m q' T' x' hm AQ VX
        ·exact p6 fun m q' T' x' hm AQ=>by
          have:=hn m q' T' x' hm AQ;rwa [fX (VY m q' T' x' hm AQ)] at this
     unfold Oper.wp;rw [hr1];cases nx with
     | value u'=>have:u' = v':=yr; subst this; exact aab
     | skip=>have:v' = undef:=yr; subst this; exact aab
     | _=>exact yr.elim
   ·
    have HM:∀ G7 H7 vd v' GU,VC P G7 vd L[i].2.1 v'->Ev P base E' A B' aF w' G7 A H7 vd GU->Inv (cQ S i) (a'.put o.dst v') GU:=fun G7 H7 vd v' GU h5 h6=>by
     have kE:=h6.eE.le h2.eE.fT;refine ⟨G7,H7,vd,y,by rw [put_defers]; exact h1,h2.trans h6,?_,h4.step hf ho hnb h6 kE⟩;refine ((h3.mono h6.le kE).put (H6 i o ho) h5).same fun z=>?_;rw [Ly hf.ord hc ho hx r6 z]
    rcases hg with hg | ⟨p,hp,hg⟩
    ·refine MP eT hg (fun x hxm=>O1 h3 fun z e=>Ef z ?_) h2.kj HM
     unfold nP;subst e;exact List.mem_append_right _ (kz hxm)
    ·refine ahn eT hp hg (fun x hxm=>O1 h3 fun z e=>Ef z ?_) h2.kj HM
     unfold nP;subst e;refine List.mem_append_right _ (kz ?_);unfold Lq at hp;split at hp
     ·rename_i c FM _
      split at hp
      ·rename_i d vf
       simp at hp;subst hp;rw [FM];show Operand.tmp z∈Tz (lI P cfg c);unfold lI;rw [vf];exact hxm
      ·simp at hp
     ·simp at hp
 ·
  rintro S a' w' qy ⟨E',B',aF,y,h1,h2,h3,h4⟩;have hS:∀ (i:Nat) (o:Oper),all[i]? = some o->S i=true:=fun i o ho=>qy i (cH.1 ho).1;have apd:iW P E' aF tn N a':=h3.same fun z=>by
   rw [QF z];exact kN rfl fun i o ho _=>by rw [ba]; exact (hS i o ho).symm
  obtain ⟨t',E2,A2,f1,f2,f3⟩:=Su (y:=y) all 0 tn E' A rfl hk h2 apd (fun j o T d _ ho he=>H6 j o ho d (tX he).2.2) fun j o T d _ ho he=>by
   obtain ⟨q1,q2,⟨bM,q3,q4,q5,q6⟩,q7⟩:=h4 j o T d ho he (hS j o ho);refine ⟨q1,q2,fun cs Ki=>⟨bM,q3,?_⟩,fun j' o' T' d' _ Ab Kl hy=>q7 j' o' T' d' Ab Kl (hS j' o' Ab) hy⟩;obtain ⟨z,Kh,_,_,_,_,hz6,hz7⟩:=Ic Ki;cases hs:vi all d all with
   | some p=>
    obtain ⟨T2,x2⟩:=p;obtain ⟨i2,o2,h5,h6⟩:=ES hs;rw [(hz6 T2 x2 hs).2.2.2];exact q5 i2 o2 T2 x2 h5 h6 (hS i2 o2 h5)
   | none=>
    rw [hz7 hs];obtain ⟨z',g1,g2⟩:=q6 fun m q' T' x hm AQ=>absurd AQ (ET hs m q' hm T' x);rw [Kh] at g1;simp at g1;subst g1;exact g2
  exact hq t' E2 A2 B' aF a' w' f1 f2 h1 (O4.trans f3)
 ·simp
 ·refine ht.same fun z=>?_
  rw [MQ FX]
 ·intro j o T d ho he Ky
  have Ky:(Array.replicate all.length false).getD j false=true:=Ky;rw [FX] at Ky;simp at Ky
end Go.K
end
section
namespace Go.K
open Go Go.aI
variable {P:Program} {E:Env}
theorem TU {R:Type} {cfg:dD} {aR:kq R} {all:List Oper} {k:bd->ae->Option R} : ∀ (a b:List Oper) (i:Nat),AJ P cfg aR all k (a++b) i=AJ P cfg aR all (AJ P cfg aR all k b (i+a.length)) a i
 | [],b,i=>rfl
 | o::a,b,i=>by
  show OE P cfg aR all i o (AJ P cfg aR all k (a++b) (i+1))=OE P cfg aR all i o (AJ P cfg aR all (AJ P cfg aR all k b (i+(a.length+1))) a (i+1));rw [TU a b,show i+1+a.length=i+(a.length+1) by omega]
theorem afo {cfg:dD} {o:Oper} (h:cG (bw P cfg o.op)<=3):wY P cfg o=false:=by
 unfold wY;split
 ·rename_i f args e
  exact absurd e (zk h f args)
 ·rfl
theorem acp {R:Type} {cfg:dD} {aR:kq R} {all:List Oper} {i:Nat} {o:Oper} {k:bd->ae->Option R} {t:bd} {A:ae} (h:wY P cfg o=false):OE P cfg aR all i o k t A=Ae P cfg aR all o k t A:=by
 unfold OE;rw [h]
theorem acq {cfg:dD} {all:List Oper} {o:Oper} (h:cG (bw P cfg o.op)<=1):r7 all o=false:=by
 cases hb:r7 all o with
 | false=>rfl
 | true=>
  exfalso;rcases Sq hb with ⟨T,d,e⟩ | ⟨T,d,x,e⟩
  ·rw [(tX e).1] at h
   have h:cG (rq P T)<=1:=h;unfold rq at h;split at h
   ·rename_i z _
    cases hc:(flat z&&z.cells.toList.all scalar&&gC (fy z).cells) <;> rw [hc] at h <;> simp [cG] at h
   ·simp [cG] at h
  ·rw [(Fk e).1] at h
   have h:(3:Nat)<=1:=h;omega
theorem O7 {R:Type} {cfg:dD} {aR:kq R} {all:List Oper} {k:bd->ae->Option R} {r:R} : ∀ {os:List Oper} {i:Nat} {t:bd} {A:ae},(∀ o∈os,cG (bw P cfg o.op)<=1)->AJ P cfg aR all k os i t A=some r->
  ∃ L t',Xp P cfg all A os t L t'/\k t' A=some r
 | [],i,t,A,_,h=>⟨[],t,.nil,h⟩
 | o::os,i,t,A,hn,h=>by
  have Mq:=fun q hq=>hn q (rR o hq);have hk:=hn o (by simp);have hb:=acq (all:=all) hk;have hk3:Nat.ble 3 (cG (bw P cfg o.op))=false:=by
   cases hc:Nat.ble 3 (cG (bw P cfg o.op)) with
   | false=>rfl
   | true=>have:=dT hc; omega
  have hnc:=zk (P:=P) (cfg:=cfg) (o:=o) (by omega);have h:OE P cfg aR all i o (AJ P cfg aR all k os (i+1)) t A=some r:=h;rw [acp (afo (by omega))] at h;unfold Ae at h;cases hg:o.guard with
  | none=>
   rw [hg] at h;obtain ⟨v,A1,h1,h2⟩:=JG hnc h;have e:=Ee h1 hk3;subst e;obtain ⟨L,t',h3,h4⟩:=O7 Mq h2;exact ⟨_,t',.cons (fun _=>rfl) (.inl ⟨hg,rfl⟩) (fun _=>.inr ⟨hb,.inl h1⟩) (fun e=>by simp at e) h3,h4⟩
  | some p=>
   obtain ⟨j,want⟩:=p;rw [hg] at h;obtain ⟨d,hd,h⟩:=H8 h;rcases h with ⟨b,t1,h1,h2,h3⟩ | ⟨l,h1,h2⟩
   ·rcases h3 with ⟨h3,h4⟩ | ⟨h3,h4⟩
    ·obtain ⟨v,A1,h5,h6⟩:=JG hnc h4
     have e:=Ee h5 hk3;subst e;obtain ⟨L,t',h7,h8⟩:=O7 Mq h6;exact ⟨_,t',.cons h2 (.inr ⟨j,want,d,hg,hd,.inl ⟨b,h1,h3.symm⟩⟩) (fun _=>.inr ⟨hb,.inl h5⟩) (fun e=>by simp at e) h7,h8⟩
    ·obtain ⟨L,t',h7,h8⟩:=O7 Mq h4
     exact ⟨_,t',.cons h2 (.inr ⟨j,want,d,hg,hd,.inl ⟨b,h1,h3.symm⟩⟩) (fun e=>by simp at e) (fun _=>⟨rfl,hb⟩) h7,h8⟩
   ·obtain ⟨L,t',h7,h8⟩:=O7 Mq h2
    exact ⟨_,t',.cons (fun _=>rfl) (.inr ⟨j,want,d,hg,hd,.inr ⟨l,h1,rfl⟩⟩) (fun e=>by simp at e) (fun _=>⟨rfl,hb⟩) h7,h8⟩
section
variable {cfg:dD} {all os:List Oper} {L:List Out} {t0:bd} {m:Nat}
theorem aac (hf:Z5 P cfg all) (hos:∀ j q,os[j]? = some q->all[m+j]? = some q) {S:Nat->Bool} (hc:uT all S) {i:Nat} {o:Oper} (ho:os[i]? = some o) (r6:S (m+i)=false) (uQ:zf all S (m+i)) {y:Tmp} (hy:y∈nP P cfg all o) :
  (gR (fun j=>S (m+j)) os L 0 t0).get y=(gR (fun j=>Nat.blt j i) os L 0 t0).get y:=by
 refine kN rfl fun j q hq hd=>?_;rw [ba];have ho':=hos i o ho;have hq':=hos j q hq;rcases Nat.lt_trichotomy j i with h | h | h
 ·have:ov (dE [] all) (m+i) (m+j)=true:=hf.FH ho' hq' (by omega) (by
   unfold wz;rw [hd,CY hy];rfl)
  rw [hc.ready hf.Sm ho' uQ (m+j) this]
  symm; rw [bG]; exact h
 ·subst h
  rw [r6]
  symm
  cases hb:Nat.blt j j with
  | false=>rfl
  | true=>rw [bG] at hb; omega
 ·have hb:ov (dE [] all) (m+j) (m+i)=true:=hf.FH hq' ho' (by omega) (by
   unfold wz;rw [hd,CY hy];simp)
  have:S (m+j)=false:=by
   cases hs:S (m+j) with
   | false=>rfl
   | true=>have:=hc (m+j) (m+i) hs hb; rw [r6] at this; simp at this
  rw [this]
  symm
  cases hbb:Nat.blt j i with
  | false=>rfl
  | true=>rw [bG] at hbb; omega
theorem alp (hf:Z5 P cfg all) (hos:∀ j q,os[j]? = some q->all[m+j]? = some q) {S:Nat->Bool} (hc:uT all S) {i:Nat} {o:Oper} {x:Out} (ho:os[i]? = some o) (hx:L[i]? = some x) (r6:S (m+i)=false) (y:Tmp) :
  (gR (fun j=>cQ S (m+i) (m+j)) os L 0 t0).get y=(qA (gR (fun j=>S (m+j)) os L 0 t0) o.dst x.2.1).get y:=by
 have aad:(fun j=>cQ S (m+i) (m+j))=cQ (fun j=>S (m+j)) i:=by
  funext j;unfold cQ;cases hb:Nat.beq j i with
  | true=>have:=aK hb; subst this; simp
  | false=>
   have cI:=Nat.ne_of_beq_eq_false hb;cases wk:Nat.beq (m+j) (m+i) with
   | false=>rfl
   | true=>have:=aK wk; omega
 rw [aad,vu];by_cases hd:o.dst=some y
 ·rw [aE hd]
  have:=Z3 (S:=fun j=>S (m+j)) (y:=y) (os:=os) (L:=L) (k:=0) (i:=i) (t:=t0) ho hx hd (fun j q hq Z4 bj=>by
   rw [ba];have hb:ov (dE [] all) (m+j) (m+i)=true:=hf.FH (hos j q hq) (hos i o ho) (by omega) (by
    unfold wz;rw [Z4,hd];simp [Tg])
   cases hs:S (m+j) with
   | false=>rfl
   | true=>have:=hc (m+j) (m+i) hs hb; rw [r6] at this; simp at this)
  rw [ba] at this;exact this
 ·rw [aa hd]
  refine kN rfl fun j q hq Z4=>?_;rw [ba];have cI:j≠i:=by
   intro e;subst e;rw [ho] at hq;simp at hq;subst hq;exact hd Z4
  unfold cQ;have:Nat.beq j i=false:=by
   cases hb:Nat.beq j i with
   | false=>rfl
   | true=>exact absurd (aK hb) cI
  rw [this,Bool.or_false]
end
theorem Rl {cfg:dD} {b:List Nat} {i:Nat} {hd:Bool} {all:List Oper} : ∀ (os:List Oper) (k:Nat),Lr P cfg b i hd all os k=true->∀ (j:Nat) (o:Oper),os[j]? = some o->(k+j < i->cG (bw P cfg o.op)=0\/ov b i (k+j)=true\/(hd=true/\YA o (k+j) all=true))/\(i < k+j->ov b (k+j) i=true)
 | [],k,_,j,o,ho=>by simp at ho
 | q::os,k,h,0,o,ho=>by
  simp at ho;subst ho;simp only [Lr,ao] at h;rw [ye];have h2:=h.1;cases hb:Nat.beq k i with
  | true=>have:=aK hb; exact ⟨fun e=>by omega,fun e=>by omega⟩
  | false=>
   rw [hb,aG] at h2;refine ⟨fun bj=>?_,fun bj=>?_⟩
   ·rw [show Nat.blt k i=true from by rw [bG]; exact bj,aj] at h2
    cases hz:Nat.beq (cG (bw P cfg q.op)) 0 with
    | true=>exact .inl (aK hz)
    | false=>
     rw [hz,aG] at h2;cases Fh:ov b i k with
     | true=>exact .inr (.inl rfl)
     | false=>
      rw [Fh,aG,ao] at h2;exact .inr (.inr h2)
   ·have:Nat.blt k i=false:=by
     cases wk:Nat.blt k i with
     | false=>rfl
     | true=>rw [bG] at wk; omega
    rwa [this,aG] at h2
 | q::os,k,h,j+1,o,ho=>by
  simp only [Lr,ao] at h;have:=Rl os (k+1) h.2 j o (by simpa using ho);rwa [show k+1+j=k+(j+1) by omega] at this
theorem O8 {cfg:dD} {b:List Nat} {all:List Oper} : ∀ (os:List Oper) (k:Nat),Ls P cfg b all os k=true->∀ (i:Nat) (o:Oper),os[i]? = some o->¬ cG (bw P cfg o.op)<=1->Lr P cfg b (k+i) (wY P cfg o) all all 0=true
 | [],k,_,i,o,ho,_=>by simp at ho
 | q::os,k,h,0,o,ho,hk=>by
  simp at ho;subst ho;simp only [Ls,ao] at h;have h2:=h.1;have:Nat.ble (cG (bw P cfg q.op)) 1=false:=by
   cases hb:Nat.ble (cG (bw P cfg q.op)) 1 with
   | false=>rfl
   | true=>exact absurd (dT hb) hk
  rw [this,aG] at h2;exact h2
 | q::os,k,h,i+1,o,ho,hk=>by
  simp only [Ls,ao] at h;have:=O8 os (k+1) h.2 i o (by simpa using ho) hk;rwa [show k+1+i=k+(i+1) by omega] at this
theorem dr.anA {A:ae} {B:St} (h:dr P E A B) {b x:Nat} (hx:E.κ b=some x) : ¬ AT A E B x:=by
 rintro (q | ⟨g,⟨c,v,y,L,N,cs,e,own,k,h1,h2,h3⟩,hm⟩)
 ·exact (h.ar.z x q).2 b hx
 ·by_cases CI:x=y
  ·subst CI
   exact (h.ar.z x ⟨c,v,L,N,h1,h2⟩).2 b hx
  ·exact ((h.ar.vo c v y L N cs e own g k h1 h2 h3).2.2 x hm CI).2.2 b hx
theorem JI {A:ae} : ∀ {hs:List Nat} {Ah:ae},R4 hs A=some Ah->Ah.next=A.next/\(∀ c,c ∉ hs->Ah.get c=A.get c)/\∀ c,c∈hs->Ah.get c=some wg/\((∃ cs e,A.get c=some (.row cs e))\/A.get c=some wg)
 | [],Ah,h=>by
  have h:some A=some Ah:=h;simp only [bN] at h;subst h;exact ⟨rfl,fun _ _=>rfl,fun c hc=>by simp at hc⟩
 | b::hs,Ah,h=>by
  have h:Option.rec (motive:=fun _=>Option ae) none (fun A'=>match ae.get A' b with
   | some (.row _ _)=>some (A'.put b (.map []))
   | some (.map [])=>some A'
   | _=>none) (R4 hs A)=some Ah:=h
  cases hh:R4 hs A with
  | none=>rw [hh] at h; exact absurd h (by simp)
  | some A1=>
   rw [hh] at h;obtain ⟨h1,h2,h3⟩:=JI hh;have h:(match A1.get b with
    | some (.row _ _)=>some (A1.put b (.map []))
    | some (.map [])=>some A1
    | _=>none)=some Ah:=h
   split at h
   ·rename_i cs e hb
    simp only [bN] at h;subst h;have Km:b ∉ hs:=fun hm=>by rw [(h3 b hm).1] at hb; simp at hb
    refine ⟨h1,fun c hc=>?_,fun c hc=>?_⟩
    ·rw [de,not_or] at hc
     rw [ae.bB,aa hc.1];exact h2 c hc.2
    ·rw [ae.bB]
     by_cases Ct:c=b
     ·subst Ct
      exact ⟨aE rfl,.inl ⟨cs,e,by rw [<- h2 c Km]; exact hb⟩⟩
     ·rw [aa Ct]
      exact h3 c ((de.1 hc).resolve_left Ct)
   ·rename_i hb
    simp only [bN] at h;subst h;refine ⟨h1,fun c hc=>?_,fun c hc=>?_⟩
    ·rw [de,not_or] at hc
     exact h2 c hc.2
    ·by_cases Ct:c=b
     ·subst Ct
      refine ⟨hb,?_⟩;by_cases hm:c∈hs
      ·exact (h3 c hm).2
      ·exact .inr (by rw [<- h2 c hm]; exact hb)
     ·exact h3 c ((de.1 hc).resolve_left Ct)
   ·exact absurd h (by simp)
theorem JJ {A A' : ae} : ∀ (hs:List Nat),(yC hs A A').next=A'.next/\(∀ c,c ∉ hs->(yC hs A A').get c=A'.get c)/\∀ c o,c∈hs->A.get c=some o->(yC hs A A').get c=some o
 | []=>⟨rfl,fun _ _=>rfl,fun c _ hc=>by simp at hc⟩
 | b::hs=>by
  obtain ⟨h1,h2,h3⟩:=JJ (A:=A) (A':=A') hs;have e0:yC (b::hs) A A' = match A.get b with
   | some o=>(yC hs A A').put b o
   | none=>yC hs A A':=rfl
  rw [e0];cases hb:A.get b with
  | none=>
   refine ⟨h1,fun c hc=>?_,fun c o hc ho=>?_⟩
   ·rw [de,not_or] at hc
    exact h2 c hc.2
   ·rcases de.1 hc with rfl | hc
    ·rw [hb] at ho; simp at ho
    ·exact h3 c o hc ho
  | some o1=>
   refine ⟨by rw [ae.ss]; exact h1,fun c hc=>?_,fun c o hc ho=>?_⟩
   ·rw [de,not_or] at hc
    simp only [ae.bB];rw [aa hc.1];exact h2 c hc.2
   ·simp only [ae.bB]
    by_cases Ct:c=b
    ·subst Ct
     rw [aE rfl,<- hb];exact ho
    ·rw [aa Ct]
     exact h3 c o ((de.1 hc).resolve_left Ct) ho
theorem dr.anB {hs:List Nat} {A Ah:ae} {B:St} (h:dr P E A B) (hh:R4 hs A=some Ah):dr P E Ah B:=by
 obtain ⟨h1,h2,h3⟩:=JI hh;have fI:∀ c o,Ah.get c=some o->A.get c=some o\/(o=wg/\c < A.next):=fun c o hc=>by
  by_cases hm:c∈hs
  ·obtain ⟨h4,h5⟩:=h3 c hm
   rw [h4] at hc;simp only [bN] at hc;refine .inr ⟨hc.symm,?_⟩;rcases h5 with ⟨cs,e,h5⟩ | h5
   ·exact h.live c _ h5
   ·exact h.live c _ h5
  ·exact .inl (by rw [<- h2 c hm]; exact hc)
 have MS:∀ c o,o≠wg->Ah.get c=some o->A.get c=some o:=fun c o ho hc=>(fI c o hc).resolve_right fun q=>ho q.1;refine ⟨fun c cs e hc=>h.row c cs e (MS c _ (by simp) hc),fun c t sz hc=>h.aO c t sz (MS c _ (by simp) hc),h.z,h.apart,h.inj,fun b c g tb sb tc sc q1 q2=>h.gD b c g tb sb tc sc (MS b _ (by simp) q1) (MS c _ (by simp) q2),fun b x e=>by rw [h1]; exact h.jM b x e,fun b g e=>by rw [h1]; exact h.kL b g e,fun c o hc=>?_,h.eS,h.lD,h.il,h.fresh,h.mem,
  h.ar.dL (Env.le_refl _) (fun _=>rfl) (fun b v q=>MS b _ (by simp) q) (fun b v q=>MS b _ (by simp) q) (by rw [h1]; exact aB _) (aB _) (fun _ _=>rfl) (fun _ _ e=>.inl e) (fun _ _ e=>.inl e) (fun b g e=>.inl ⟨b,e⟩) (fun _ _=>rfl) h.mem⟩
 rw [h1];rcases fI c o hc with q | ⟨_,q⟩
 ·exact h.live c o q
 ·exact q
theorem Ev.show {hs:List Nat} {base:Nat} {A Ah A' : ae} {B B' : St} {ρ aF:Ren} {w w' : World} {E' : Env} (hk:dr P E A B) (hh:R4 hs A=some Ah) (h:Ev P base E Ah B ρ w E' A' B' aF w'):Ev P base E A B ρ w E' (yC hs A A') B' aF w':=by
 obtain ⟨h1,h2,h3⟩:=JI hh;obtain ⟨s1,s2,s3⟩:=JJ (A:=A) (A':=A') hs;have hhs:=hk.anB hh;have N4:=h.fT;have fI:∀ c o,(yC hs A A').get c=some o->(c∈hs/\A.get c=some o/\((∃ cs e,o = .row cs e)\/o=wg))\/(c ∉ hs/\A'.get c=some o):=fun c o hc=>by
  by_cases hm:c∈hs
  ·rcases (h3 c hm).2 with ⟨cs,e,q⟩ | q
   ·rw [s3 c _ hm q] at hc
    simp only [bN] at hc;subst hc;exact .inl ⟨hm,q,.inl ⟨_,_,rfl⟩⟩
   ·rw [s3 c _ hm q] at hc
    simp only [bN] at hc;subst hc;exact .inl ⟨hm,q,.inr rfl⟩
  ·exact .inr ⟨hm,by rw [<- s2 c hm]; exact hc⟩
 have vg:∀ c t s,(yC hs A A').get c=some (.aO t s)->A'.get c=some (.aO t s):=fun c t s hc=>by
  rcases fI c _ hc with ⟨_,_,⟨_,_,e⟩ | e⟩ | ⟨_,q⟩
  ·simp at e
  ·simp at e
  ·exact q
 have rD:∀ c v,(yC hs A A').get c=some (.arr v)->A'.get c=some (.arr v):=fun c v hc=>by
  rcases fI c _ hc with ⟨_,_,⟨_,_,e⟩ | e⟩ | ⟨_,q⟩
  ·simp at e
  ·simp at e
  ·exact q
 have alj:∀ c v,(yC hs A A').get c=some (.iC v)->A'.get c=some (.iC v):=fun c v hc=>by
  rcases fI c _ hc with ⟨_,_,⟨_,_,e⟩ | e⟩ | ⟨_,q⟩
  ·simp at e
  ·simp at e
  ·exact q
 have alq:∀ c v,Ah.get c=some (.arr v)->A.get c=some (.arr v):=fun c v hc=>by
  by_cases hm:c∈hs
  ·rw [(h3 c hm).1] at hc; simp at hc
  ·rw [<- h2 c hm]; exact hc
 have hAarr' : ∀ c v,A.get c=some (.arr v)->Ah.get c=some (.arr v):=fun c v hc=>by
  by_cases hm:c∈hs
  ·rcases (h3 c hm).2 with ⟨cs,e,q⟩ | q <;> (rw [q] at hc; simp at hc)
  ·rw [h2 c hm]; exact hc
 have eAR:∀ x,AR (yC hs A A') E' x->AR A' E' x:=fun x ⟨c,v,L,N,q1,q2⟩=>⟨c,v,L,N,rD c v q1,q2⟩
 have eAF:∀ g,AF (yC hs A A') E' B' g->AF A' E' B' g:=fun g ⟨c,v,x,L,N,cs,e,own,k,q1,q2,q3⟩=>⟨c,v,x,L,N,cs,e,own,k,rD c v q1,q2,q3⟩
 have fAR:∀ x,AR Ah E x->AR A E x:=fun x ⟨c,v,L,N,q1,q2⟩=>⟨c,v,L,N,alq c v q1,q2⟩
 have fAF:∀ g,AF Ah E B g->AF A E B g:=fun g ⟨c,v,x,L,N,cs,e,own,k,q1,q2,q3⟩=>⟨c,v,x,L,N,cs,e,own,k,alq c v q1,q2,q3⟩
 have fAT:∀ y,AT Ah E B y->AT A E B y:=fun y q=>q.imp (fAR y) fun ⟨g,q1,q2⟩=>⟨g,fAF g q1,q2⟩
 have fU:=h.next;refine ⟨⟨fun c cs e hc=>?_,fun c t sz hc=>N4.aO c t sz (vg c t sz hc),N4.z,N4.apart,N4.inj,fun b c g tb sb tc sc q1 q2=>N4.gD b c g tb sb tc sc (vg _ _ _ q1) (vg _ _ _ q2),fun b x e=>by rw [s1]; exact N4.jM b x e,fun b g e=>by rw [s1]; exact N4.kL b g e,fun c o hc=>?_,N4.eS,N4.lD,N4.il,N4.fresh,N4.mem,
  N4.ar.dL (Env.le_refl _) (fun _=>rfl) rD alj (by rw [s1]; exact aB _) (aB _) (fun _ _=>rfl) (fun _ _ e=>.inl e) (fun _ _ e=>.inl e) (fun b g e=>.inl ⟨b,e⟩) (fun _ _=>rfl) N4.mem⟩,
  h.eE,h.le,by rw [s1,<- h1]; exact fU,fun x hx hn ha=>h.dL x hx (fun b e=>?_) (fun q=>ha (fAT x q)),fun b x e=>by rw [<- h1]; exact h.new b x e,fun b r e=>(h.tT b r e).imp id (fun q=>q.imp (fAR b) id),h.rZ,fun g hg hn ha=>h.oK g hg hn fun q=>ha (fAF g q),fun x q=>(h.kr x (eAR x q)).imp (fAR x) id,fun g q=>(h.kM g (eAF g q)).imp (fAF g) id,h.vp,fun y q=>(h.lX y (q.imp (eAR y) fun ⟨g,q1,q2⟩=>⟨g,eAF g q1,q2⟩)).imp (fAT y) id,h.rows,fun b q=>?_⟩
 ·rcases fI c _ hc with ⟨hm,q,_⟩ | ⟨_,q⟩
  ·obtain ⟨x,bM,q1,q2,q3⟩:=hk.row c cs e q
   refine ⟨x,bM,h.le.κ _ _ q1,?_,q3.mono h.le⟩;rw [h.dL x (hk.eS c x q1) (fun b e2=>?_) fun q4=>dr.anA hhs q1 q4]
   ·exact q2
   ·rw [hk.inj b c x e2 q1]
    exact (h3 c hm).1
  ·exact N4.row c cs e q
 ·rw [s1]
  rcases fI c o hc with ⟨_,q,_⟩ | ⟨_,q⟩
  ·have:=hk.live c o q; rw [h1] at fU; omega
  ·exact N4.live c o q
 ·by_cases hm:b∈hs
  ·exact (h3 b hm).1
  ·rw [h2 b hm]; exact hn b e
 ·by_cases hm:b∈hs
  ·exact s3 b _ hm q
  ·rw [s2 b hm]
   exact h.CR b (by rw [h2 b hm]; exact q)
theorem afp {R:Type} {cfg:dD} {aR:kq R} (eT:rf P cfg.pc) (tW:H4 P aR) {hs:List Nat} {o:Oper} {t:bd} {A:ae} {k:KV->ae->Option R} {r:R} {N base:Nat} {B:St} {ρ:Ren} {a:Act} {w:World} {next:Act->World->Prop} {Q:Exit->Act->World->Prop}
  (yF:wY P cfg o=true) (h:JB (TC hs aR) t A k (bw P cfg o.op)=some r) (ht:iW P E ρ t N a) (hj:KJ P E A B ρ base w)
  (hk:∀ E' A' B' aF v v' w',k v A' = some r->(∀ c∈hs,A'.get c=A.get c)->VC P E' aF v v'->Ev P base E A B ρ w E' A' B' aF w'->next (a.put o.dst v') w'):o.wp P a w next Q:=by
 unfold wY at yF;split at yF
 ·rename_i f args hc
  rw [hc] at h;have h:Option.rec (motive:=fun _=>Option R) none (fun p=>TC hs aR p.1 p.2 A k) (yA (jY t args) (gq t f))=some r:=h;cases hh:R4 hs A with
  | none=>
   exfalso;cases Ot:yA (jY t args) (gq t f) with
   | none=>rw [Ot] at h; exact absurd h (by simp)
   | some p=>
    rw [Ot] at h;have h:TC hs aR p.1 p.2 A k=some r:=h;unfold TC at h;rw [hh] at h;simp at h
  | some Ah=>
   have h' : JB aR t Ah (fun v A'=>k v (yC hs A A')) (bw P cfg o.op)=some r:=by
    rw [hc];show Option.rec (motive:=fun _=>Option R) none (fun p=>aR p.1 p.2 Ah (fun v A'=>k v (yC hs A A'))) (yA (jY t args) (gq t f))=some r;cases Ot:yA (jY t args) (gq t f) with
    | none=>rw [Ot] at h; exact absurd h (by simp)
    | some p=>
     rw [Ot] at h;have h:TC hs aR p.1 p.2 A k=some r:=h;unfold TC at h;rw [hh] at h;exact h
   refine OX eT tW h' ht ⟨hj.k.anB hh,hj.s⟩ fun E' A' B' aF v v' w' q1 q2 q3=>hk E' (yC hs A A') B' aF v v' w' q1 (fun c hc=>?_) q2 (q3.show hj.k hh);rcases ((JI hh).2.2 c hc).2 with ⟨cs,e,q⟩ | q
   ·rw [q]; exact (JJ hs).2.2 c _ hc q
   ·rw [q]; exact (JJ hs).2.2 c _ hc q
 ·simp at yF
theorem TV {cfg:dD} {b:List Nat} {i:Nat} {t:bd} : ∀ (os:List Oper) (k:Nat) (hs:List Nat),Qc P cfg b i t os k=some hs->∀ (j:Nat) (q:Oper),os[j]? = some q->k+j < i->cG (bw P cfg q.op)≠0->ov b i (k+j)=false->
  ∃ a,GZ q.op=some a/\((∃ c off,gq t a = .ptr c off/\c∈hs)\/∃ T Tc n m es acc,gq t a = .tp T Tc n m es acc)
 | [],k,hs,_,j,q,ho=>by simp at ho
 | p::os,k,hs,h,j,q,ho=>by
  intro bj hk Fh;simp only [Qc] at h;cases hr:Qc P cfg b i t os (Nat.succ k) with
  | none=>rw [hr] at h; simp at h
  | some l=>
   rw [hr] at h;simp only at h;have ape:∀ c∈l,c∈hs:=fun c hc=>by
    cases hcd:(Nat.blt k i&&!(Nat.beq (cG (bw P cfg p.op)) 0)&&!(ov b i k)) with
    | false=>rw [hcd,aG] at h; simp at h; subst h; exact hc
    | true=>
     rw [hcd,aj] at h;split at h
     ·split at h
      ·simp at h; subst h; exact rR _ hc
      ·simp at h; subst h; exact hc
      ·simp at h
     ·simp at h
   cases j with
   | succ j=>
    obtain ⟨a,h1,h2⟩:=TV os (k+1) l hr j q (by simpa using ho) (by omega) hk (by rw [show k+1+j=k+(j+1) by omega]; exact Fh);exact ⟨a,h1,h2.imp (fun ⟨c,off,q1,q2⟩=>⟨c,off,q1,ape c q2⟩) id⟩
   | zero=>
    simp at ho;subst ho;rw [ye] at bj Fh;have hcd:(Nat.blt k i&&!(Nat.beq (cG (bw P cfg p.op)) 0)&&!(ov b i k))=true:=by
     rw [show Nat.blt k i=true from by rw [bG]; exact bj,Fh];cases hz:Nat.beq (cG (bw P cfg p.op)) 0 with
     | true=>exact absurd (aK hz) hk
     | false=>rfl
    rw [hcd,aj] at h;split at h
    ·rename_i a ha
     refine ⟨a,ha,?_⟩;split at h
     ·rename_i c off se
      simp at h;subst h;exact .inl ⟨c,off,se,P0 ..⟩
     ·rename_i se
      exact .inr ⟨_,_,_,_,_,_,se⟩
     ·simp at h
    ·simp at h
theorem ahp {A A' : ae} {T:TypeId} {v:KV} (h:(∃ c off,v = .ptr c off/\A'.get c=A.get c)\/∃ T1 Tc n m es acc,v = .tp T1 Tc n m es acc):Ad P T A' [v] = Ad P T A [v]:=by
 rcases h with ⟨c,off,rfl,e⟩ | ⟨T1,Tc,n,m,es,acc,rfl⟩
 ·simp only [Ad,rowAt,e]
 ·rfl
theorem aae {cfg:dD} : ∀ (os:List Oper),∃ n,n<=os.length/\(∀ o∈os.take n,cG (bw P cfg o.op)<=1)/\(n=os.length\/∃ o,os[n]? = some o/\¬ cG (bw P cfg o.op)<=1)
 | []=>⟨0,by simp,by simp,by simp⟩
 | o::os=>by
  by_cases hk:cG (bw P cfg o.op)<=1
  ·obtain ⟨n,h1,h2,h3⟩:=aae (cfg:=cfg) os
   refine ⟨n+1,by simpa using h1,fun q hq=>?_,?_⟩
   ·simp only [List.take_succ_cons,de] at hq
    rcases hq with rfl | hq
    ·exact hk
    ·exact h2 q hq
   ·rcases h3 with h3 | ⟨q,h3,h4⟩
    ·exact .inl (by simp [h3])
    ·exact .inr ⟨q,by simpa using h3,h4⟩
  ·exact ⟨0,by simp,by simp,.inr ⟨o,by simp,hk⟩⟩
theorem aj3 {R:Type} {cfg:dD} {aR:kq R} {all os:List Oper} {m:Nat} {k:bd->ae->Option R} {r:R} {t:bd} {A:ae} (h:AJ P cfg aR all k os m t A=some r) :
  ∃ n L tn,n<=os.length/\(∀ o∈os.take n,cG (bw P cfg o.op)<=1)/\(n=os.length\/∃ o,os[n]? = some o/\¬ cG (bw P cfg o.op)<=1)/\Xp P cfg all A (os.take n) t L tn/\AJ P cfg aR all k (os.drop n) (m+n) tn A=some r:=by
 obtain ⟨n,h1,h2,h3⟩:=aae (P:=P) (cfg:=cfg) os;rw [<- List.take_append_drop n os,TU,kU,Nat.min_eq_left h1] at h;obtain ⟨L,tn,h4,h5⟩:=O7 h2 h;exact ⟨n,L,tn,h1,h2,h3,h4,h5⟩
theorem afq (S:Nat->Bool) (os:List Oper) (L:List Out) (t:bd):∀ (m:Nat),gR S os L m t=gR (fun j=>S (m+j)) os L 0 t:=by
 intro m
 induction m generalizing S with
 | zero=>simp only [ba]
 | succ m ih=>
  rw [Ed,ih];congr 1;funext j;rw [show m+j+1=m+1+j by omega]
theorem MT (S:Nat->Bool):∀ (os:List Oper) (L L2:List Out) (k:Nat) (t:bd),L.length<=os.length->gR S os (L++L2) k t=gR S (os.drop L.length) L2 (k+L.length) (gR S os L k t)
 | [],[],L2,k,t,_=>rfl
 | [],x::L,L2,k,t,h=>by simp at h
 | o::os,[],L2,k,t,_=>rfl
 | o::os,x::L,L2,k,t,h=>by
  simp only [List.cons_append,gR,qI,List.drop_succ_cons];rw [MT S os L L2 (k+1) _ (by simpa using h),show k+1+L.length=k+(L.length+1) by omega]
theorem VZ {S:Nat->Bool} {os:List Oper} {L L2:List Out} {t:bd} (h:L.length<=os.length) (hS:∀ j,L.length<=j->j < os.length->S j=false) (y:Tmp):(gR S os (L++L2) 0 t).get y=(gR S os L 0 t).get y:=by
 rw [MT S os L L2 0 t h,ba,afq];refine (kN (S':=fun _=>false) rfl fun i o ho _=>?_).trans (by rw [MQ fun _=>rfl]);rw [ba];rw [oV] at ho;exact hS _ (by omega) (cH.1 ho).1
theorem TW {S S' : Nat->Bool} : ∀ {os:List Oper} {L:List Out} {k:Nat} {t:bd},(∀ j,j < L.length->S (k+j)=S' (k+j))->gR S os L k t=gR S' os L k t
 | [],L,k,t,_=>by cases L <;> rfl
 | o::os,[],k,t,_=>rfl
 | o::os,x::L,k,t,h=>by
  simp only [gR];rw [show S k=S' k from by have:=h 0 (by simp); simpa using this];exact TW fun j hj=>by have:=h (j+1) (by simpa using hj); rwa [show k+(j+1)=k+1+j by omega] at this
theorem afr {S:Nat->Bool} : ∀ {os:List Oper} {L:List Out} {n k:Nat} {t:bd},L.length<=n->gR S (os.take n) L k t=gR S os L k t
 | [],L,n,k,t,_=>by simp
 | o::os,[],n,k,t,_=>by cases n <;> rfl
 | o::os,x::L,0,k,t,h=>by simp at h
 | o::os,x::L,n+1,k,t,h=>by
  simp only [List.take_succ_cons,gR];exact afr (by simpa using h)
theorem ahq {cfg:dD} {o:Oper} {p:Operand×List Operand} (h:Lq o=some p) : ¬ cG (bw P cfg o.op)<=1:=by
 unfold Lq at h;split at h
 ·rename_i c' apf _
  split at h
  ·rename_i d vf
   rw [apf];show ¬ cG (lI P cfg c')<=1;unfold lI;rw [vf];show ¬ (9:Nat)<=1;omega
  ·simp at h
 ·simp at h
theorem yG {t t' : bd} : ∀ {xs:List Operand},(∀ x∈xs,gq t x=gq t' x)->jY t xs=jY t' xs:=fun {xs} h=>by
 rw [vt,vt];exact List.map_congr_left h
theorem Xr {R:Type} {aR:kq R} {t t' : bd} {A:ae} {k:KV->ae->Option R} {ins:rY} (h:∀ x∈Tz ins,gq t x=gq t' x):JB aR t A k ins=JB aR t' A k ins:=by
 cases ins with
 | pure f xs=>show (f (jY t xs)).run _=(f (jY t' xs)).run _; rw [yG (xs:=xs) h]
 | read f xs=>show (f A (jY t xs)).run _=(f A (jY t' xs)).run _; rw [yG (xs:=xs) h]
 | act f xs=>show (f A (jY t xs)).run _=(f A (jY t' xs)).run _; rw [yG (xs:=xs) h]
 | look f xs=>show (f (jY t xs)).run _=(f (jY t' xs)).run _; rw [yG (xs:=xs) h]
 | D4 g f xs=>show (f (jY t xs)).run _=(f (jY t' xs)).run _; rw [yG (xs:=xs) h]
 | HS g f xs=>show (f (zZ A (jY t xs)).1).run (fun v=>k v (zZ A (jY t xs)).2)=(f (zZ A (jY t' xs)).1).run (fun v=>k v (zZ A (jY t' xs)).2); rw [yG (xs:=xs) h]
 | call f xs=>
  show Option.rec (motive:=fun _=>Option R) none (fun p=>aR p.1 p.2 A k) (yA (jY t xs) (gq t f))=Option.rec (motive:=fun _=>Option R) none (fun p=>aR p.1 p.2 A k) (yA (jY t' xs) (gq t' f));rw [yG fun x hx=>h x (rR f hx),h f (P0 ..)]
 | bad=>rfl
theorem adP {R:Type} {cfg:dD} {aR:kq R} (eT:rf P cfg.pc) (tW:H4 P aR) (hm:P.follows .mixedOrders=true) {id:Nat} {all:List Oper} {N base:Nat} (hdN:all.all (Kc N)=true) {k:bd->ae->Option R} {r:R} {t:bd} {A:ae} {B:St} {ρ:Ren} {a:Act} {w:World} {Q:Exit->Act->World->Prop}
  (Lz:Mz P cfg all=true) (h:AJ P cfg aR all k all 0 t A=some r) (ht:iW P E ρ t N a) (hj:KJ P E A B ρ base w)
  (hq:∀ t' E' A' B' aF a' w',k t' A' = some r->iW P E' aF t' N a'->a'.defers=a.defers->Ev P base E A B ρ w E' A' B' aF w'->Q .normal a' w'):(Code.region id ⟨all⟩ true).wp P Q a w:=by
 unfold Mz at Lz;split at Lz
 ·simp only [ao] at Lz
  obtain ⟨⟨apg,hcl⟩,har⟩:=Lz;have hf:Z5 P cfg all:=⟨FO apg,fun {i j x y} hy hx bj vf=>by
   have:=Eh all 0 hcl i y hy;rw [ba] at this;have:=Ib all 0 this j x hx (by omega) vf;rwa [ba] at this⟩
  have piv:∀ (i:Nat) (o:Oper),all[i]? = some o->¬ cG (bw P cfg o.op)<=1->∀ j q,all[j]? = some q->(j < i->cG (bw P cfg q.op)=0\/ov (dE [] all) i j=true\/(wY P cfg o=true/\YA q j all=true))/\(i < j->ov (dE [] all) j i=true):=fun i o ho hk j q hq=>by
   have h1:=O8 all 0 har i o ho hk;have h2:=Rl all 0 h1 j q hq;simpa only [ba] using h2
  have O4:Ev P base E A B ρ w E A B ρ w.drew:=(cO.refl hj.k).ev (iX.drew hj.s);have H6:∀ (i:Nat) (o:Oper),all[i]? = some o->∀ d,o.dst=some d->d < N:=by
   intro i o ho d ed;have:=fe.1 hdN o (gi ho);unfold Kc at this;rw [ed] at this;simp only at this;rw [bG] at this;exact this
  refine wp_region_any hm ?_;show wpAny P .any ⟨all⟩ Q all.length (Array.replicate all.length false) a w.drew;have FX:∀ i,(Array.replicate all.length false).getD i false=false:=by
   intro i;rw [kT,Array.getElem?_replicate];split <;> rfl
  have e0:∀ (S:Nat->Bool),(fun j=>S (0+j))=S:=fun S=>by funext j; rw [ba]
  have hos:∀ j q,all[j]? = some q->all[0+j]? = some q:=fun j q QG=>by rwa [ba]
  let anC:List Out->ae->Nat->Oper->Out->Prop:=fun L A2 i o x=>∃ t1,(∀ y,t1.get y=(gR (fun j=>Nat.blt j i) all L 0 t).get y)/\G8 all o t1 x.1/\(x.1=true->aH (w5 (bw P cfg o.op) t1 A2) (x.2.1,A2))/\(x.1=false->x.2.1=tP)
  let Inv:(Nat->Bool)->Act->World->Prop:=fun S a' w'=>∃ n L A2 tn E' B' aF,n<=all.length/\L.length=n/\(∀ j,n<=j->j < all.length->S j=false)/\(n=all.length\/∃ o,all[n]? = some o/\¬ cG (bw P cfg o.op)<=1)/\
   (∀ j o,j < n->all[j]? = some o->¬ cG (bw P cfg o.op)<=1->S j=true)/\(∀ i o x,i < n->S i=false->all[i]? = some o->L[i]? = some x->anC L A2 i o x)/\
   (∀ y,tn.get y=(gR (fun _=>true) all L 0 t).get y)/\AJ P cfg aR all k (all.drop n) n tn A2=some r/\a'.defers=a.defers/\Ev P base E A B ρ w.drew E' A2 B' aF w'/\iW P E' aF (gR S all L 0 t) N a'
  have begin:∀ (m:Nat) (S:Nat->Bool) (L:List Out) (A2:ae) (t2:bd) (a' : Act) (w' : World) (E' : Env) (B' : St) (aF:Ren),m<=all.length->L.length=m->(∀ j,m<=j->j < all.length->S j=false)->
    (∀ j o,j < m->all[j]? = some o->¬ cG (bw P cfg o.op)<=1->S j=true)->(∀ i o x,i < m->S i=false->all[i]? = some o->L[i]? = some x->anC L A2 i o x)->
    (∀ y,t2.get y=(gR (fun _=>true) all L 0 t).get y)->AJ P cfg aR all k (all.drop m) m t2 A2=some r->a'.defers=a.defers->Ev P base E A B ρ w.drew E' A2 B' aF w'->iW P E' aF (gR S all L 0 t) N a'->Inv S a' w':=by
   intro m S L A2 t2 a' w' E' B' aF Vo hL h1 h2 h3 h4 h5 h6 h7 h8;obtain ⟨n,L2,tn,g1,g2,g3,g4,g5⟩:=aj3 h5;rw [List.length_drop] at g1 g3;obtain ⟨k1,k2,k3⟩:=g4.at;rw [kU,List.length_drop,Nat.min_eq_left g1] at k1;have hLa:L.length<=all.length:=by omega
   have tail:∀ (S:Nat->Bool) (y:Tmp),(∀ j,j < m->S j=true)->(gR S all (L++L2) 0 t).get y=(gR (fun j=>S (m+j)) ((all.drop m).take n) L2 0 t2).get y:=fun S y hS=>by
    rw [MT S all L L2 0 t hLa,ba,afq,afr (by omega),hL];refine kN ?_ fun _ _ _ _=>rfl;rw [h4 y,TW (S:=S) (S':=fun _=>true) fun j hj=>by rw [ba]; exact hS j (by omega)]
   refine ⟨m+n,L++L2,A2,tn,E',B',aF,by omega,by rw [kx]; omega,fun j hj1 MK=>h1 j (by omega) MK,?_,fun j o hj ho hk=>?_,fun i o x hi r6 ho hx=>?_,fun y=>?_,by rwa [List.drop_drop] at g5,h6,h7,h8.same fun y=>VZ hLa (fun j hj1 MK=>h1 j (by omega) MK) y⟩
   ·rcases g3 with g3 | ⟨o,g3,g6⟩
    ·exact .inl (by omega)
    ·exact .inr ⟨o,by rwa [oV] at g3,g6⟩
   ·by_cases hjm:j < m
    ·exact h2 j o hjm ho hk
    ·exfalso
     refine hk (g2 o (gi (i:=j - m) ?_));rw [mc,aE (by omega),oV,show m+(j - m)=j by omega];exact ho
   ·by_cases him:i < m
    ·rw [qH (by omega)] at hx
     obtain ⟨t1,q1,q2⟩:=h3 i o x him r6 ho hx;exact ⟨t1,fun y=>by rw [q1 y]; exact (VZ hLa (fun j hj1 _=>by
      cases hb:Nat.blt j i with
      | false=>rfl
      | true=>rw [bG] at hb; omega) y).symm,q2⟩
    ·rw [tH (by omega),hL] at hx
     have hoi:((all.drop m).take n)[i - m]? = some o:=by rw [mc,aE (by omega),oV,show m+(i - m)=i by omega]; exact ho
     obtain ⟨t1,q1,q2,q3,q4⟩:=k3 (i - m) o x hoi hx;have hk:=g2 o (gi hoi);refine ⟨t1,fun y=>?_,q2,fun DT=>?_,fun DT=>(q4 DT).1⟩
     ·rw [q1 y,tail _ y fun j hj=>by rw [bG]; omega]
      refine kN rfl fun j q _ _=>?_;rw [ba];cases hb:Nat.blt (m+j) i with
      | true=>rw [bG] at hb ⊢; omega
      | false=>
       cases wk:Nat.blt j (i - m) with
       | false=>rfl
       | true=>
        rw [bG] at wk;have:Nat.blt (m+j) i=true:=by rw [bG]; omega
        rw [hb] at this; simp at this
     ·rcases q3 DT with ⟨Ss,_⟩ | ⟨_,hg⟩
      ·rw [acq hk] at Ss; simp at Ss
      ·rcases hg with hg | ⟨p,hp,_⟩
       ·exact hg
       ·exact absurd hk (ahq hp)
   ·rw [k2 y,tail _ y fun _ _=>rfl]
  refine GY hf.Sm Inv ?_ ?_ ?_ all.length _ a w.drew (by simp) ?_ (fun i j hi _=>by
    have h2:(Array.replicate all.length false).getD i false=true:=hi;rw [FX] at h2; simp at h2) (begin 0 _ [] A t a w.drew E B ρ (by omega) rfl (fun j _ _=>FX j) (fun j _ hj=>by omega) (fun i _ _ hi=>by omega) (fun y=>by cases all <;> rfl) (by simpa using h) rfl (.refl hj.k O4.eE.fT) (ht.same fun y=>by cases all <;> rfl))
  ·
   rintro S S' a' w' hSS ⟨n,L,A2,tn,E',B',aF,h1,h2,h3,h4,h5,h6,h7,h8,h9,pd,FV⟩;refine ⟨n,L,A2,tn,E',B',aF,h1,h2,fun j hj1 MK=>by rw [<- hSS j MK]; exact h3 j hj1 MK,h4,fun j o hj ho hk=>by rw [<- hSS j (by omega)]; exact h5 j o hj ho hk,fun i o x hi r6 ho hx=>h6 i o x hi (by rw [hSS i (by omega)]; exact r6) ho hx,h7,h8,h9,pd,FV.same fun z=>kN rfl fun i o ho _=>?_⟩;rw [ba];exact (hSS _ (cH.1 ho).1).symm
  ·
   rintro S a' w' i o ⟨n,L,A2,tn,E',B',aF,h1,h2,h3,h4,h5,h6,h7,h8,h9,pd,FV⟩ hcS ho r6 uQ _;have hil:i < all.length:=(cH.1 ho).1;have hoA:(⟨all⟩:Array Oper)[i]? = some o:=by simpa using ho
   rcases Nat.lt_trichotomy i n with tW | tW | tW
   ·
    have hkd:cG (bw P cfg o.op)<=1:=by
     by_cases hk:cG (bw P cfg o.op)<=1
     ·exact hk
     ·have:=h5 i o tW ho hk
      rw [r6] at this; simp at this
    have hi:i < L.length:=by omega
    have hx:L[i]? = some L[i]:=cK hi;obtain ⟨t1,vr,hw,afl,MS⟩:=h6 i o L[i] tW r6 ho hx;have Ef:∀ z∈nP P cfg all o,t1.get z=(gR S all L 0 t).get z:=fun z hz=>by
     have:=aac (m:=0) (L:=L) (t0:=t) hf hos hcS ho (by rw [ba]; exact r6) (by rw [ba]; exact uQ) hz;rw [e0] at this;rw [vr z,this]
    have TN:∀ z,(gR (cQ S i) all L 0 t).get z=(qA (gR S all L 0 t) o.dst L[i].2.1).get z:=fun z=>by
     have:=alp (m:=0) (L:=L) (t0:=t) hf hos hcS ho hx (by rw [ba]; exact r6) z;rw [ba,e0,e0] at this;exact this
    have Eg:=yE FV (fun z hz=>Ef z (by unfold nP; exact List.mem_append_left _ hz)) hw;have fin:∀ E2 B2 wZ a2 w2,a2.defers=a'.defers->Ev P base E A B ρ w.drew E2 A2 B2 wZ w2->iW P E2 wZ (gR (cQ S i) all L 0 t) N a2->Inv (cQ S i) a2 w2:=fun E2 B2 wZ a2 w2 q1 q2 q3=>
     ⟨n,L,A2,tn,E2,B2,wZ,h1,h2,fun j hj1 MK=>by rw [fX (by omega)]; exact h3 j hj1 MK,h4,fun j q hj QG hk=>by
      by_cases he:j=i
      ·subst he; exact Cj
      ·rw [fX he]; exact h5 j q hj QG hk,fun j q x hj Ky QG hxj=>h6 j q x hj (by
       by_cases he:j=i
       ·subst he; rw [Cj] at Ky; simp at Ky
       ·rwa [fX he] at Ky) QG hxj,h7,h8,q1.trans h9,q2,q3⟩
    unfold wpOp;rw [hoA];simp only [Eg];cases DT:L[i].1 with
    | false=>
     simp only [GN,if_false];refine fin E' B' aF _ _ (by rw [put_defers]) pd ?_;refine (FV.put (H6 i o ho) VC.undef).same fun z=>?_;rw [TN z,MS DT]
    | true=>
     simp only [if_true];refine .inl (MP eT (afl DT) (fun x hxm=>O1 FV fun z e=>Ef z ?_) pd.kj fun G7 H7 vd v' GU h5 h6=>?_)
     ·unfold nP
      subst e;exact List.mem_append_right _ (kz hxm)
     ·have kE:=h6.eE.le pd.eE.fT
      refine fin G7 H7 vd _ _ (by rw [put_defers]) (pd.trans h6) ?_;refine ((FV.mono h6.le kE).put (H6 i o ho) h5).same fun z=>?_;rw [TN z]
   ·
    subst tW;rcases h4 with h4 | ⟨oc,FM,afs⟩
    ·omega
    rw [FM] at ho;simp at ho;subst ho;have Ef:∀ z∈nP P cfg all oc,tn.get z=(gR S all L 0 t).get z:=fun z hz=>by
     have:=aac (m:=0) (L:=L) (t0:=t) hf hos hcS FM (by rw [ba]; exact r6) (by rw [ba]; exact uQ) hz;rw [e0] at this;rw [this,h7 z,TW (S:=fun _=>true) (S':=fun j=>Nat.blt j i) fun j hj=>by rw [ba]; symm; rw [bG]; omega]
    have mD:OE P cfg aR all i oc (AJ P cfg aR all k (all.drop (i+1)) (i+1)) tn A2=some r:=by
     have:all.drop i=oc::all.drop (i+1):=by
      rw [List.drop_eq_getElem_cons hil];rw [cK hil] at FM;simp at FM;rw [FM]
     rw [this] at h8;exact h8
    have hLa:L.length<=all.length:=by omega
    have hdr:all.drop i=oc::all.drop (i+1):=by
     rw [List.drop_eq_getElem_cons hil];rw [cK hil] at FM;simp at FM;rw [FM]
    have one:∀ (S:Nat->Bool) (x:Out),S i=true->gR S all (L++[x]) 0 t=qA (gR S all L 0 t) oc.dst x.2.1:=fun S x hS=>by
     rw [MT S all L [x] 0 t hLa,ba,h2,hdr];simp only [gR,hS,aj];cases all.drop (i+1) <;> rfl
    have TX:∀ {t1:bd} {v:KV} {v' : Value} {E2:Env} {A3:ae} {B2:St} {wZ:Ren} {w2:World},(∀ y,t1.get y=tn.get y)->AJ P cfg aR all k (all.drop (i+1)) (i+1) (qA t1 oc.dst v) A3=some r->(∀ j q,j < i->all[j]? = some q->S j=false->cG (bw P cfg q.op)≠0->∃ a,GZ q.op=some a/\uy j a all 0=true/\∀ T,Ad P T A3 [gq tn a] = Ad P T A2 [gq tn a])->VC P E2 wZ v v'->Ev P base E' A2 B' aF w' E2 A3 B2 wZ w2->Inv (cQ S i) (a'.put oc.dst v') w2:=by
     intro t1 v v' E2 A3 B2 wZ w2 vr q1 hld q2 q3;have kE:=q3.eE.le pd.eE.fT;have e1:gR (cQ S i) all L 0 t=gR S all L 0 t:=TW fun j hj=>by rw [ba]; exact fX (by omega)
     refine begin (i+1) _ (L++[(true,v,A3)]) A3 _ _ w2 E2 B2 wZ (by omega) (by simp [h2]) (fun j g1 g2=>by rw [fX (by omega)]; exact h3 j (by omega) g2) (fun j q hj QG hk=>?_) (fun j q x hj Ky QG hxj=>?_) (fun y=>?_) q1 (by rw [put_defers]; exact h9) (pd.trans q3) ?_
     ·by_cases he:j=i
      ·subst he; exact Cj
      ·rw [fX he]; exact h5 j q (by omega) QG hk
     ·have he:j≠i:=by
       intro he;subst he;rw [Cj] at Ky; simp at Ky
      rw [fX he] at Ky;rw [qH (by omega)] at hxj;obtain ⟨t3,p1,p2,p3,p4⟩:=h6 j q x (by omega) Ky QG hxj;refine ⟨t3,fun y=>by rw [p1 y]; exact (VZ hLa (fun j' hj1 _=>by
       cases hb:Nat.blt j' j with
       | false=>rfl
       | true=>rw [bG] at hb; omega) y).symm,p2,fun DT=>?_,p4⟩
      by_cases hz:cG (bw P cfg q.op)=0
      ·exact afg (p3 DT) hz
      ·obtain ⟨ad,r1,r2,r3⟩:=hld j q (by omega) QG Ky hz
       have se:gq t3 ad=gq tn ad:=by
        cases ad with
        | tmp y=>
         simp only [gq];rw [p1 y,h7 y];congr 1;refine kN rfl fun j' q' hq' hd=>?_;rw [ba];have Tu:j' < j:=by
          apply Nat.lt_of_not_le;intro hle;exact O3 all 0 r2 j' q' hq' (by omega) hd
         rw [bG]; exact Tu
        | const v=>rfl
        | global g=>rfl
        | func f=>rfl
       have hp3:=p3 DT;obtain ⟨T,hop⟩:∃ T,q.op = .load T ad:=by
        unfold GZ at r1;split at r1
        ·rename_i T a' hq'
         simp only [bN] at r1;subst r1;exact ⟨T,hq'⟩
        ·simp at r1
       rw [hop] at hp3 ⊢;have alm:∀ A,w5 (bw P cfg (.load T ad)) t3 A=(Ad P T A [gq t3 ad]).map fun v=>(v,A):=fun _=>rfl;rw [alm] at hp3 ⊢;obtain ⟨u,u1,u2⟩:=aH.map hp3;rw [se,<- r3 T,<- se] at u1;simp only [du] at u2;rw [<- u2.1];exact u1.Bk
     ·rw [one _ _ rfl,vu,vu,vr y,h7 y]
     ·refine ((FV.mono q3.le kE).put (H6 i oc FM) q2).same fun z=>?_
      rw [one _ _ Cj,e1]
    have G9:∀ z∈Hr all oc,tn.get z=(gR S all L 0 t).get z:=fun z hz=>Ef z (by unfold nP; exact List.mem_append_left _ hz);have hzero:wY P cfg oc=false->∀ {A3:ae},∀ j q,j < i->all[j]? = some q->S j=false->cG (bw P cfg q.op)≠0->∃ a,GZ q.op=some a/\uy j a all 0=true/\∀ T,Ad P T A3 [gq tn a] = Ad P T A2 [gq tn a]:=fun MS A3 j q hj QG Ky hz=>by
     exfalso;rcases (piv i oc FM afs j q QG).1 hj with e | e | ⟨e,_⟩
     ·exact hz e
     ·have:=hcS.ready hf.Sm FM uQ j e
      rw [Ky] at this; simp at this
     ·rw [MS] at e; simp at e
    have alr:∀ {t1:bd},(∀ y,t1.get y=tn.get y)->∀ x∈Tz (bw P cfg oc.op),gq t1 x=gq (gR S all L 0 t) x:=fun {t1} vr x hx=>by
     cases x with
     | tmp z=>
      have:=Ef z (by unfold nP; exact List.mem_append_right _ (kz hx));simp only [gq];rw [vr z,this]
     | const v=>rfl
     | global g=>rfl
     | func f=>rfl
    cases yF:wY P cfg oc with
    | false=>
     rw [acp yF] at mD;have run:∀ {t1:bd},(∀ y,t1.get y=tn.get y)->G8 all oc tn true->JB aR t1 A2 (fun v A=>AJ P cfg aR all k (all.drop (i+1)) (i+1) (qA t1 oc.dst v) A) (bw P cfg oc.op)=some r->wpOp P ⟨all⟩ Q i (Inv (cQ S i)) a' w':=by
      intro t1 vr hw aad;have Eg:=yE FV G9 hw;unfold wpOp;rw [hoA];simp only [Eg,if_true];rw [Xr (t':=gR S all L 0 t) (alr vr)] at aad;exact .inl (OX eT tW aad FV pd.kj fun E2 A2 B2 wZ v v' w2 q1 q2 q3=>TX vr q1 (hzero yF) q2 q3)
     have skip:∀ {t1:bd},(∀ y,t1.get y=tn.get y)->G8 all oc tn false->AJ P cfg aR all k (all.drop (i+1)) (i+1) (qA t1 oc.dst tP) A2=some r->wpOp P ⟨all⟩ Q i (Inv (cQ S i)) a' w':=by
      intro t1 vr hw hop;have Eg:=yE FV G9 hw;unfold wpOp;rw [hoA];simp only [Eg,GN,if_false];exact TX vr hop (hzero yF) VC.undef (.refl pd.fT pd.eE.fT)
     unfold Ae at mD;cases V1:oc.guard with
     | none=>
      rw [V1] at mD;exact run (fun _=>rfl) (.inl ⟨V1,rfl⟩) mD
     | some p=>
      obtain ⟨j,want⟩:=p;rw [V1] at mD;obtain ⟨d,hd,mD⟩:=H8 mD;rcases mD with ⟨b,t1,h4,h5,h6⟩ | ⟨l,h4,h5⟩
      ·rcases h6 with ⟨h6,h7⟩ | ⟨h6,h7⟩
       ·exact run h5 (.inr ⟨j,want,d,V1,hd,.inl ⟨b,h4,h6.symm⟩⟩) h7
       ·exact skip h5 (.inr ⟨j,want,d,V1,hd,.inl ⟨b,h4,h6.symm⟩⟩) h7
      ·exact skip (fun _=>rfl) (.inr ⟨j,want,d,V1,hd,.inr ⟨l,h4,rfl⟩⟩) h5
    | true=>
     unfold OE at mD;rw [yF] at mD;cases hha:Qc P cfg (dE [] all) i tn all 0 with
     | none=>rw [hha] at mD; exact absurd mD (by simp)
     | some hs=>
      rw [hha] at mD;have mD:Ae P cfg (TC hs aR) all oc (AJ P cfg aR all k (all.drop (i+1)) (i+1)) tn A2=some r:=mD;have als:∀ {A3:ae},(∀ c∈hs,A3.get c=A2.get c)->∀ j q,j < i->all[j]? = some q->S j=false->cG (bw P cfg q.op)≠0->∃ a,GZ q.op=some a/\uy j a all 0=true/\∀ T,Ad P T A3 [gq tn a] = Ad P T A2 [gq tn a]:=fun {A3} hA3 j q hj QG Ky hz=>by
       rcases (piv i oc FM afs j q QG).1 hj with e | e | ⟨_,e⟩
       ·exact absurd e hz
       ·have:=hcS.ready hf.Sm FM uQ j e
        rw [Ky] at this; simp at this
       ·have Fh:ov (dE [] all) i j=false:=by
         cases hb:ov (dE [] all) i j with
         | false=>rfl
         | true=>have:=hcS.ready hf.Sm FM uQ j hb; rw [Ky] at this; simp at this
        obtain ⟨a,r1,r2⟩:=TV all 0 hs hha j q QG (by omega) hz (by rw [ba]; exact Fh);refine ⟨a,r1,?_,fun T=>ahp (r2.imp (fun ⟨c,off,u1,u2⟩=>⟨c,off,u1,hA3 c u2⟩) fun e=>e)⟩;unfold YA at e;rw [r1] at e;split at e
        ·rename_i a' _ e2
         simp only [bN] at e2;subst e2;exact e
        ·simp at e
      have run:∀ {t1:bd},(∀ y,t1.get y=tn.get y)->G8 all oc tn true->JB (TC hs aR) t1 A2 (fun v A=>AJ P cfg aR all k (all.drop (i+1)) (i+1) (qA t1 oc.dst v) A) (bw P cfg oc.op)=some r->wpOp P ⟨all⟩ Q i (Inv (cQ S i)) a' w':=by
       intro t1 vr hw aad;have Eg:=yE FV G9 hw;unfold wpOp;rw [hoA];simp only [Eg,if_true];rw [Xr (t':=gR S all L 0 t) (alr vr)] at aad;exact .inl (afp eT tW yF aad FV pd.kj fun E2 A2 B2 wZ v v' w2 q1 q0 q2 q3=>TX vr q1 (als q0) q2 q3)
      have skip:∀ {t1:bd},(∀ y,t1.get y=tn.get y)->G8 all oc tn false->AJ P cfg aR all k (all.drop (i+1)) (i+1) (qA t1 oc.dst tP) A2=some r->wpOp P ⟨all⟩ Q i (Inv (cQ S i)) a' w':=by
       intro t1 vr hw hop;have Eg:=yE FV G9 hw;unfold wpOp;rw [hoA];simp only [Eg,GN,if_false];exact TX vr hop (als fun _ _=>rfl) VC.undef (.refl pd.fT pd.eE.fT)
      unfold Ae at mD;cases V1:oc.guard with
      | none=>
       rw [V1] at mD;exact run (fun _=>rfl) (.inl ⟨V1,rfl⟩) mD
      | some p=>
       obtain ⟨j,want⟩:=p;rw [V1] at mD;obtain ⟨d,hd,mD⟩:=H8 mD;rcases mD with ⟨b,t1,h4,h5,h6⟩ | ⟨l,h4,h5⟩
       ·rcases h6 with ⟨h6,h7⟩ | ⟨h6,h7⟩
        ·exact run h5 (.inr ⟨j,want,d,V1,hd,.inl ⟨b,h4,h6.symm⟩⟩) h7
        ·exact skip h5 (.inr ⟨j,want,d,V1,hd,.inl ⟨b,h4,h6.symm⟩⟩) h7
       ·exact skip (fun _=>rfl) (.inr ⟨j,want,d,V1,hd,.inr ⟨l,h4,rfl⟩⟩) h5
   ·
    rcases h4 with h4 | ⟨oc,FM,afs⟩
    ·omega
    have bj:n < all.length:=(cH.1 FM).1;have h1':=hcS.ready hf.Sm ho uQ n ((piv n oc FM afs i o ho).2 tW);have Ke:=h3 n (by omega) bj;rw [h1'] at Ke; simp at Ke
  ·
   rintro S a' w' qy ⟨n,L,A2,tn,E',B',aF,h1,h2,h3,h4,h5,h6,h7,h8,h9,pd,FV⟩;have hmn:n=all.length:=by
    rcases h4 with h4 | ⟨oc,FM,afs⟩
    ·exact h4
    ·have bj:n < all.length:=(cH.1 FM).1
     have:=h3 n (by omega) bj;rw [qy _ bj] at this; simp at this
   rw [hmn,List.drop_length] at h8;refine hq tn E' A2 B' aF a' w' h8 (FV.same fun z=>?_) h9 (O4.trans pd);rw [h7 z];exact kN rfl fun j q QG _=>by rw [ba]; exact (qy _ (cH.1 QG).1).symm
  ·simp
 ·simp at Lz
end Go.K
end
