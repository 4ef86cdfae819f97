/- Part of the proof of WorldIn: the machine, shown to be the model's, and plain models. No conditions. -/
import Derived.Test.YtckbdndhmcoihaaDq
set_option linter.unusedSimpArgs false
set_option linter.unusedVariables false
section
namespace Go.K
open Go Go.aG
variable {P:Program} {E:Env}
theorem P1 {R:Type} {cfg:dF} {aR:kz R} (eW:rD P cfg.pc) (ug:I9 P aR) {o:Oper} {t:bf} {A:ae} {k:KV->ae->Option R} {r:R} {N base:Nat} {B:St} {ρ:Ren} {a:Act} {w:World} {next:Act->World->Prop} {Q:Exit->Act->World->Prop}
  (h:Ky aR t A k (bw P cfg o.op)=some r) (ht:iZ P E ρ t N a) (hj:KJ P E A B ρ base w)
  (hk:∀ E' A' B' aF v v' w',k v A' = some r->VC P E' aF v v'->Ev P base E A B ρ w E' A' B' aF w'->next (a.put o.dst v') w'):o.wp P a w next Q:=by
 by_cases hc:∃ f args,bw P cfg o.op = .call f args
 ·obtain ⟨f,args,hc⟩:=hc
  rw [hc] at h;have h:Option.rec (motive:=fun _=>Option R) none (fun p=>aR p.1 p.2 A k) (yZ (j3 t args) (gD t f))=some r:=h;cases Py:yZ (j3 t args) (gD t f) with
  | none=>rw [Py] at h; exact absurd h (by simp)
  | some p=>
   obtain ⟨g,vs⟩:=p;rw [Py] at h;have h:aR g vs A k=some r:=h;obtain ⟨hg,lI⟩:=ug g vs A k r h;obtain ⟨b7,h1,h2⟩:=ae7 (YV hc) ht Py hg;unfold Oper.wp;rw [h2 w];refine (lI E B ρ base w b7 h1 hj).mono ?_;rintro e w' ⟨v,v',E',A',B',aF,rfl,h3,h4,h5⟩;exact hk E' A' B' aF v v' w' h5 h3 h4
 ·obtain ⟨v,A',h1,h2⟩:=KF (fun f args e=>hc ⟨f,args,e⟩) h
  exact NQ eW h1 (fun x _=>ht.ev x) hj fun E' B' aF v' w' h3 h4=>hk E' A' B' aF v v' w' h2 h3 h4
theorem agA {R:Type} {cfg:dF} {aR:kz R} {all:List Oper} {o:Oper} {k:bf->ae->Option R} {t:bf} {A:ae} {r:R} {N:Nat} {ρ:Ren} {a:Act} (ht:iZ P E ρ t N a) (h:AK P cfg aR all o k t A=some r) :
  ∃ t1,(∀ i,t1.get i=t.get i)/\((Region.wanted o (yielded ⟨all⟩ a.tmps)=true/\Ky aR t1 A (fun v A=>k (qO t1 o.dst v) A) (bw P cfg o.op)=some r)\/
   (Region.wanted o (yielded ⟨all⟩ a.tmps)=false/\k (qO t1 o.dst tZ) A=some r)):=by
 unfold AK at h;cases hg:o.guard with
 | none=>
  rw [hg] at h;refine ⟨t,fun _=>rfl,.inl ⟨?_,h⟩⟩;unfold Region.wanted;rw [hg]
 | some p=>
  obtain ⟨j,want⟩:=p;rw [hg] at h;exact ae6 hg ht h
theorem P2 {R:Type} {cfg:dF} {aR:kz R} (eW:rD P cfg.pc) (ug:I9 P aR) {N base:Nat} {Q:Exit->Act->World->Prop} {all:List Oper} (hd:all.all (Ll N)=true) {k:bf->ae->Option R} {r:R} :
  ∀ (os:List Oper) (j:Nat) (t:bf) (E:Env) (A:ae) (B:St) (ρ:Ren) (a:Act) (w:World),all.drop j=os->YL P cfg aR all k os t A=some r->iZ P E ρ t N a->KJ P E A B ρ base w->
   (∀ t' E' A' B' aF a' w',k t' A' = some r->iZ P E' aF t' N a'->a'.defers=a.defers->Ev P base E A B ρ w E' A' B' aF w'->Q .normal a' w')->wpOps P ⟨all⟩ Q (List.range' j os.length) a w
 | [],j,t,E,A,B,ρ,a,w,_,h,ht,hj,hq=>hq t E A B ρ a w h ht rfl (.refl hj.k hj.s)
 | o::os,j,t,E,A,B,ρ,a,w,hk,h,ht,hj,hq=>by
  have ho:(⟨all⟩:Array Oper)[j]? = some o:=by
   have:(all.drop j)[0]? = some o:=by rw [hk]; rfl
   rw [pf] at this;simpa using this
  have mO:all.drop (j+1)=os:=by rw [<- List.drop_drop,hk]; rfl
  have Jb:∀ d,o.dst=some d->d < N:=by
   intro d e;have hm:o∈all:=gu (by simpa using ho);have:=fk.1 hd o hm;unfold Ll at this;rw [e] at this;simp only at this;rw [bI] at this;exact this
  rw [qT,List.range'_succ];simp only [wpOps,ho];have h:AK P cfg aR all o (YL P cfg aR all k os) t A=some r:=h;obtain ⟨t1,Lq,h⟩:=agA ht h;have vG:=ht.same Lq;rcases h with ⟨hw,h⟩ | ⟨hw,h⟩
  ·rw [hw]
   refine .inl (P1 eW ug h vG hj fun E' A' B' aF v v' w' h1 h2 h3=>?_);refine P2 eW ug hd os (j+1) _ E' A' B' aF _ w' mO h1 ((vG.mono h3.le (h3.eJ.le hj.s)).put Jb h2) h3.kj fun t' H6 A'' Jc vv TK HQ h4 h5 h6 h7=>?_;exact hq t' H6 A'' Jc vv TK HQ h4 h5 (by rw [h6,put_defers]) (h3.trans h7)
  ·rw [hw]
   refine P2 eW ug hd os (j+1) _ E A B ρ _ w mO h (vG.put Jb .undef) hj fun t' H6 A'' Jc vv TK HQ h4 h5 h6 h7=>?_;exact hq t' H6 A'' Jc vv TK HQ h4 h5 (by rw [h6,put_defers]) h7
abbrev Out:=Bool×KV×ae
inductive Run (P:Program) (cfg:dF) (all:List Oper):List Oper->bf->ae->List Out->bf->ae->Prop where
 | nil {t:bf} {A:ae} : Run P cfg all [] t A [] t A
 | cons {o:Oper} {os:List Oper} {t t1 t' : bf} {A A1 A' : ae} {wd:Bool} {v:KV} {L:List Out}
   (same:∀ i,t1.get i=t.get i)
   (want:(o.guard=none/\wd=true)\/∃ j want d,o.guard=some (j,want)/\(all[j]?).bind (·.dst)=some d/\((∃ b,t.get d=some (.bool b)/\wd=(b==want))\/(∃ l,t.get d=some (.kL l)/\wd=false)))
   (yes:wd=true->aI (xE (bw P cfg o.op) t1 A) (v,A1)) (no:wd=false->v=tZ/\A1=A)
   (rest:Run P cfg all os (qO t1 o.dst v) A1 L t' A'):Run P cfg all (o::os) t A ((wd,v,A1)::L) t' A'
theorem Jd {R:Type} {t:bf} {d:Option Tmp} {want:Bool} {yes no:bf->Option R} {r:R} (h:aga t d want yes no=some r) :
  ∃ d',d=some d'/\((∃ b t',t.get d' = some (.bool b)/\(∀ i,t'.get i=t.get i)/\((b==want)=true/\yes t' = some r\/(b==want)=false/\no t' = some r))\/∃ l,t.get d' = some (.kL l)/\no t=some r):=by
 unfold aga at h;cases d with
 | none=>exact absurd h (by simp)
 | some d=>
  refine ⟨d,rfl,?_⟩;have h:BK.rec (motive:=fun _=>Option R)
   (fun b=>Bool.rec (motive:=fun _=>Option R)
    (Bool.rec (motive:=fun _=>Option R) (yes (t.set (.bool false) d)) (no (t.set (.bool false) d)) want)
    (Bool.rec (motive:=fun _=>Option R) (no (t.set (.bool true) d)) (yes (t.set (.bool true) d)) want) b)
   (no t) none (yr ((t.get d).getD .bh))=some r:=h
  have n5:∀ v,(t.get d).getD .bh=v->v≠.bh->t.get d=some v:=by
   intro v e cD;cases hg:t.get d with
   | none=>rw [hg] at e; exact absurd e.symm cD
   | some u=>rw [hg] at e; simp at e; rw [e]
  cases hb:yr ((t.get d).getD .bh) with
  | no=>rw [hb] at h; exact absurd h (by simp)
  | kL=>
   rw [hb] at h;obtain ⟨l,hl⟩:=abr hb;exact .inr ⟨l,n5 _ hl (by simp),h⟩
  | bool b=>
   rw [hb] at h;refine .inl ⟨b,t.set (.bool b) d,n5 _ (F5 hb) (by simp),NP hb,?_⟩;cases b <;> cases want
   ·exact .inl ⟨rfl,h⟩
   ·exact .inr ⟨rfl,h⟩
   ·exact .inr ⟨rfl,h⟩
   ·exact .inl ⟨rfl,h⟩
theorem Vg {R:Type} {cfg:dF} {aR:kz R} {all:List Oper} {k:bf->ae->Option R} {r:R} : ∀ {os:List Oper} {t:bf} {A:ae},(∀ o∈os,∀ f args,bw P cfg o.op≠.call f args)->YL P cfg aR all k os t A=some r->
  ∃ L t' A',Run P cfg all os t A L t' A'/\k t' A' = some r
 | [],t,A,_,h=>⟨[],t,A,.nil,h⟩
 | o::os,t,A,hn,h=>by
  have h:AK P cfg aR all o (YL P cfg aR all k os) t A=some r:=h;have Nr:=fun q hq=>hn q (r7 o hq);unfold AK at h;cases hg:o.guard with
  | none=>
   rw [hg] at h;obtain ⟨v,A1,h1,h2⟩:=KF (hn o (by simp)) h;obtain ⟨L,t',A',h3,h4⟩:=Vg Nr h2;exact ⟨_,t',A',.cons (fun _=>rfl) (.inl ⟨hg,rfl⟩) (fun _=>h1) (fun e=>by simp at e) h3,h4⟩
  | some p=>
   obtain ⟨j,want⟩:=p;rw [hg] at h;obtain ⟨d,hd,h⟩:=Jd h;rcases h with ⟨b,t1,h1,h2,h3⟩ | ⟨l,h1,h2⟩
   ·rcases h3 with ⟨h3,h4⟩ | ⟨h3,h4⟩
    ·obtain ⟨v,A1,h5,h6⟩:=KF (hn o (by simp)) h4
     obtain ⟨L,t',A',h7,h8⟩:=Vg Nr h6;exact ⟨_,t',A',.cons h2 (.inr ⟨j,want,d,hg,hd,.inl ⟨b,h1,h3.symm⟩⟩) (fun _=>h5) (fun e=>by simp at e) h7,h8⟩
    ·obtain ⟨L,t',A',h7,h8⟩:=Vg Nr h4
     exact ⟨_,t',A',.cons h2 (.inr ⟨j,want,d,hg,hd,.inl ⟨b,h1,h3.symm⟩⟩) (fun e=>by simp at e) (fun _=>⟨rfl,rfl⟩) h7,h8⟩
   ·obtain ⟨L,t',A',h7,h8⟩:=Vg Nr h2
    exact ⟨_,t',A',.cons (fun _=>rfl) (.inr ⟨j,want,d,hg,hd,.inr ⟨l,h1,rfl⟩⟩) (fun e=>by simp at e) (fun _=>⟨rfl,rfl⟩) h7,h8⟩
noncomputable def turns (P:Program) (cfg:dF) (o:Oper) (x:Out):Bool:=x.1&&Nat.ble 3 (cG (bw P cfg o.op))
noncomputable def gZ (S:Nat->Bool):List Oper->List Out->Nat->bf->bf
 | o::os,x::L,i,t=>gZ S os L (i+1) (cond (S i) (qO t o.dst x.2.1) t)
 | _,_,_,t=>t
noncomputable def oa (P:Program) (cfg:dF) (S:Nat->Bool):List Oper->List Out->Nat->ae->ae
 | o::os,x::L,i,A=>oa P cfg S os L (i+1) (cond (S i&&turns P cfg o x) x.2.2 A)
 | _,_,_,A=>A
theorem vI (t:bf) (dst:Option Tmp) (v:KV) (x:Tmp):(qO t dst v).get x=if dst=some x then some v else t.get x:=by
 cases dst with
 | none=>rfl
 | some d=>
  simp only [qO,Trie.oX,bQ];by_cases h:x=d
  ·rw [aD h,aD h.symm]
  ·rw [aa h,aa (Ne.symm h)]
theorem ET (S:Nat->Bool):∀ (os:List Oper) (L:List Out) (k:Nat) (t:bf),gZ S os L (k+1) t=gZ (fun i=>S (i+1)) os L k t
 | [],L,k,t=>by cases L <;> rfl
 | o::os,[],k,t=>rfl
 | o::os,x::L,k,t=>by simp only [gZ]; exact ET S os L (k+1) _
theorem TL {cfg:dF} (S:Nat->Bool):∀ (os:List Oper) (L:List Out) (k:Nat) (A:ae),oa P cfg S os L (k+1) A=oa P cfg (fun i=>S (i+1)) os L k A
 | [],L,k,t=>by cases L <;> rfl
 | o::os,[],k,t=>rfl
 | o::os,x::L,k,t=>by simp only [oa]; exact TL S os L (k+1) _
theorem kT {S S' : Nat->Bool} {y:Tmp} : ∀ {os:List Oper} {L:List Out} {k:Nat} {t t' : bf},t.get y=t'.get y->(∀ i o,os[i]? = some o->o.dst=some y->S (k+i)=S' (k+i))->(gZ S os L k t).get y=(gZ S' os L k t').get y
 | [],L,k,t,t',h,_=>by cases L <;> exact h
 | o::os,[],k,t,t',h,_=>h
 | o::os,x::L,k,t,t',h,hs=>by
  simp only [gZ];refine kT ?_ fun i o' ho hd=>by have:=hs (i+1) o' (by simpa using ho) hd; rwa [show k+(i+1)=k+1+i by omega] at this
  by_cases hd:o.dst=some y
  ·have:=hs 0 o rfl hd
   rw [yI] at this;rw [this];cases S' k with
   | true=>simp only [aj,vI,aD hd]
   | false=>exact h
  ·have e:∀ (b:Bool) (u:bf),(cond b (qO u o.dst x.2.1) u).get y=u.get y:=by
    intro b u;cases b with
    | true=>rw [aj,vI,aa hd]
    | false=>rfl
   rw [e,e]; exact h
theorem abt {S:Nat->Bool} {y:Tmp} : ∀ {os:List Oper} {L:List Out} {k i:Nat} {t:bf} {o:Oper} {x:Out},os[i]? = some o->L[i]? = some x->o.dst=some y->(∀ j q,os[j]? = some q->q.dst=some y->i < j->S (k+j)=false)->
  (gZ (cP S (k+i)) os L k t).get y=some x.2.1
 | [],L,k,i,t,o,x,ho,_,_,_=>by simp at ho
 | q::os,[],k,i,t,o,x,_,hx,_,_=>by simp at hx
 | q::os,u::L,k,0,t,o,x,ho,hx,hd,hs=>by
  simp at ho hx;subst ho hx;simp only [gZ,yI];have hk:cP S k k=true:=by simp [cP]
  rw [hk,aj];have:=kT (S:=cP S k) (S':=fun _=>false) (y:=y) (os:=os) (L:=L) (k:=k+1) (t:=qO t q.dst u.2.1) (t':=qO t q.dst u.2.1) rfl (fun j q' hq hqd=>by
   have h1:=hs (j+1) q' (by simpa using hq) hqd (by omega);rw [show k+(j+1)=k+1+j by omega] at h1;simp only [cP,h1,Bool.false_or];cases hb:Nat.beq (k+1+j) k with
   | false=>rfl
   | true=>have:=aL hb; omega)
  rw [this];have GG:∀ (os:List Oper) (L:List Out) (k:Nat) (t:bf),gZ (fun _=>false) os L k t=t:=by
   intro os
   induction os with
   | nil=>intro L k t; cases L <;> rfl
   | cons o os ih=>intro L k t; cases L with
    | nil=>rfl
    | cons x L=>simp only [gZ,aH]; exact ih L _ t
  rw [GG,vI,aD hd]
 | q::os,u::L,k,i+1,t,o,x,ho,hx,hd,hs=>by
  simp only [gZ];rw [show k+(i+1)=k+1+i by omega];exact abt (by simpa using ho) (by simpa using hx) hd fun j q' hq hqd bm=>by
   have:=hs (j+1) q' (by simpa using hq) hqd (by omega);rwa [show k+(j+1)=k+1+j by omega] at this
theorem KG {cfg:dF} {S S' : Nat->Bool} : ∀ {os:List Oper} {L:List Out} {k:Nat} {A:ae},(∀ i o x,os[i]? = some o->L[i]? = some x->turns P cfg o x=true->S (k+i)=S' (k+i))->oa P cfg S os L k A=oa P cfg S' os L k A
 | [],L,k,A,_=>by cases L <;> rfl
 | o::os,[],k,A,_=>rfl
 | o::os,x::L,k,A,h=>by
  simp only [oa];have h0:(S k&&turns P cfg o x)=(S' k&&turns P cfg o x):=by
   cases ht:turns P cfg o x with
   | false=>simp
   | true=>have:=h 0 o x rfl rfl ht; rw [yI] at this; rw [this]
  rw [h0];exact KG fun i o' x' ho hx ht=>by have:=h (i+1) o' x' (by simpa using ho) (by simpa using hx) ht; rwa [show k+(i+1)=k+1+i by omega] at this
def H7 (all:List Oper) (o:Oper) (t:bf) (wd:Bool):Prop:=(o.guard=none/\wd=true)\/∃ j want d,o.guard=some (j,want)/\(all[j]?).bind (·.dst)=some d/\((∃ b,t.get d=some (.bool b)/\wd=(b==want))\/(∃ l,t.get d=some (.kL l)/\wd=false))
theorem EU {cfg:dF} {o:Oper} {t:bf} {A A1:ae} {v:KV} (h:aI (xE (bw P cfg o.op) t A) (v,A1)) (hk:Nat.ble 3 (cG (bw P cfg o.op))=false):A1=A:=by
 generalize bw P cfg o.op=ins at h hk;cases ins with
 | pure f xs=>obtain ⟨u,_,h2⟩:=aI.map h; simp at h2; exact h2.2.symm
 | read f xs=>obtain ⟨u,_,h2⟩:=aI.map h; simp at h2; exact h2.2.symm
 | act f xs=>exact absurd hk (by simp [cG])
 | look f xs=>obtain ⟨u,_,h2⟩:=aI.map h; simp at h2; exact h2.2.symm
 | EI g f xs=>obtain ⟨u,_,h2⟩:=aI.map h; simp at h2; exact h2.2.symm
 | I1 g f xs=>exact absurd hk (by simp [cG])
 | call f xs=>exact h.elim
 | bad=>exact h.elim
theorem Run.at {cfg:dF} {all:List Oper} : ∀ {os:List Oper} {t t' : bf} {A A' : ae} {L:List Out},Run P cfg all os t A L t' A'->
  L.length=os.length/\(∀ y,t'.get y=(gZ (fun _=>true) os L 0 t).get y)/\A' = oa P cfg (fun _=>true) os L 0 A/\
  ∀ i o x,os[i]? = some o->L[i]? = some x->∃ t1,(∀ y,t1.get y=(gZ (fun j=>Nat.blt j i) os L 0 t).get y)/\H7 all o t1 x.1/\(x.1=true->aI (xE (bw P cfg o.op) t1 (oa P cfg (fun j=>Nat.blt j i) os L 0 A)) (x.2.1,x.2.2))/\(x.1=false->x.2.1=tZ)
 | _,_,_,_,_,_,.nil=>⟨rfl,fun _=>rfl,rfl,fun i o x ho=>by simp at ho⟩
 | o::os,t,t',A,A',(wd,v,A1)::L,.cons (t1:=t1) same want yes no rest=>by
  obtain ⟨h1,h2,h3,h4⟩:=rest.at;have hA1:cond (turns P cfg o (wd,v,A1)) A1 A=A1:=by
   cases ht:turns P cfg o (wd,v,A1) with
   | true=>rfl
   | false=>
    rw [aH];cases wd with
    | false=>exact (no rfl).2.symm
    | true=>exact (EU (yes rfl) (by simpa [turns] using ht)).symm
  have Vh:∀ y,(qO t1 o.dst v).get y=(qO t o.dst v).get y:=fun y=>by rw [vI,vI,same]
  refine ⟨by simp [h1],fun y=>?_,?_,fun i q x hq hx=>?_⟩
  ·rw [h2 y]
   simp only [gZ,aj];rw [ET];exact kT (Vh y) fun _ _ _ _=>rfl
  ·rw [h3]
   simp only [oa,BN];rw [TL,hA1]
  ·cases i with
   | zero=>
    simp at hq hx;subst hq hx;have e0:∀ (os:List Oper) (L:List Out) (k:Nat) (t:bf),gZ (fun j=>Nat.blt j 0) os L k t=t:=by
     intro os
     induction os with
     | nil=>intro L k t; cases L <;> rfl
     | cons o os ih=>intro L k t; cases L with
      | nil=>rfl
      | cons x L=>simp only [gZ]; exact ih L _ t
    have e1:∀ (os:List Oper) (L:List Out) (k:Nat) (A:ae),oa P cfg (fun j=>Nat.blt j 0) os L k A=A:=by
     intro os
     induction os with
     | nil=>intro L k t; cases L <;> rfl
     | cons o os ih=>intro L k t; cases L with
      | nil=>rfl
      | cons x L=>simp only [oa]; exact ih L _ t
    refine ⟨t1,fun y=>by rw [e0]; exact same y,?_,fun e=>by rw [e1]; exact yes e,fun e=>(no e).1⟩;rcases want with h | ⟨j,wt,d,e2,e3,e4⟩
    ·exact .inl h
    ·exact .inr ⟨j,wt,d,e2,e3,by rw [same]; exact e4⟩
   | succ i=>
    obtain ⟨t2,h5,h6,h7,h8⟩:=h4 i q x (by simpa using hq) (by simpa using hx);have hsh:(fun j=>Nat.blt (j+1) (i+1))=fun j=>Nat.blt j i:=by
     funext j;cases hb:Nat.blt j i with
     | true=>rw [bI] at hb ⊢; omega
     | false=>
      cases hc:Nat.blt (j+1) (i+1) with
      | false=>rfl
      | true=>rw [bI] at hc; rw [show Nat.blt j i=true from by rw [bI]; omega] at hb; simp at hb
    have h01:Nat.blt 0 (i+1)=true:=by rw [bI]; omega
    have gz:oa P cfg (fun j=>Nat.blt j (i+1)) (o::os) ((wd,v,A1)::L) 0 A=oa P cfg (fun j=>Nat.blt j i) os L 0 A1:=by
     simp only [oa,h01,BN];rw [TL,hA1,hsh]
    refine ⟨t2,fun y=>?_,h6,fun e=>by rw [gz]; exact h7 e,h8⟩;rw [h5 y];simp only [gZ,h01,aj];rw [ET,hsh];exact kT (Vh y) fun _ _ _ _=>rfl
end Go.K
end
section
namespace Go.K
open Go Go.aG
variable {P:Program} {E:Env}
theorem Vi {cfg:dF} {all:List Oper} {b:List Nat} {i:Nat} {y:Oper} : ∀ (xs:List Oper) (k:Nat),Rl P cfg all b i y xs k=true->∀ (j:Nat) (x:Oper),xs[j]? = some x->k+j < i->Lz P cfg all x y=true->oM b i (k+j)=true\/(wT P cfg all x y=false/\(YM all (k+j) x i y).isSome=true)
 | [],k,_,j,x,hx,_,_=>by simp at hx
 | x0::xs,k,h,0,x,hx,bm,hc=>by
  simp at hx;subst hx;simp only [Rl,ao,ve,ma] at h;rcases h.1 with ((h1 | h1) | h1) | h1
  ·have:=dX h1; omega
  ·rw [hc] at h1; simp at h1
  ·exact .inl h1
  ·exact .inr h1
 | x0::xs,k,h,j+1,x,hx,bm,hc=>by
  simp only [Rl,ao] at h;have:=Vi xs (k+1) h.2 j x (by simpa using hx) (by omega) hc;rwa [show k+1+j=k+(j+1) by omega] at this
theorem P3 {cfg:dF} {all:List Oper} {b:List Nat} : ∀ (os:List Oper) (k:Nat),Ms P cfg all b os k=true->∀ (i:Nat) (o:Oper),os[i]? = some o->Rl P cfg all b (k+i) o all 0=true
 | [],k,_,i,o,ho=>by simp at ho
 | o0::os,k,h,0,o,ho=>by
  simp at ho;subst ho;simp only [Ms,ao] at h;exact h.1
 | o0::os,k,h,i+1,o,ho=>by
  simp only [Ms,ao] at h;have:=P3 os (k+1) h.2 i o (by simpa using ho);rwa [show k+1+i=k+(i+1) by omega] at this
theorem Vj {cfg:dF} {all:List Oper} {b:List Nat} {i:Nat} {y:Oper} {p:Option Operand×Operand} : ∀ (xs:List Oper) (k j:Nat) (x:Oper),xs[j]? = some x->k+j < i->Lz P cfg all x y=true->oM b i (k+j)=false->YM all (k+j) x i y=some p->p∈F1 P cfg all b i y xs k
 | [],k,j,x,hx,_,_,_,_=>by simp at hx
 | x0::xs,k,0,x,hx,bm,hm,hb,he=>by
  simp at hx;subst hx;have h1:(Nat.ble i k||!Lz P cfg all x0 y||oM b i k)=false:=by
   rw [hm,show oM b i k=false from hb];cases h:Nat.ble i k with
   | false=>rfl
   | true=>have:=dX h; omega
  simp only [F1];rw [h1,aH,show YM all k x0 i y=some p from he];exact Q9
 | x0::xs,k,j+1,x,hx,bm,hm,hb,he=>by
  have e:k+(j+1)=k+1+j:=by omega
  have:=Vj (b:=b) (p:=p) xs (k+1) j x (by simpa using hx) (show k+1+j < i by omega) hm (by rw [<- e]; exact hb) (by rw [<- e]; exact he);simp only [F1];cases (Nat.ble i k||!Lz P cfg all x0 y||oM b i k) with
  | true=>exact this
  | false=>
   rw [aH];split
   ·exact r7 _ this
   ·exact this
theorem Sy {cfg:dF} {all:List Oper} {b:List Nat} {p:Option Operand×Operand} : ∀ (os:List Oper) (k i:Nat) (y:Oper),os[i]? = some y->p∈F1 P cfg all b (k+i) y all 0->p∈Xl P cfg all b os k
 | [],k,i,y,hy,_=>by simp at hy
 | o::os,k,0,y,hy,h=>by
  simp at hy;subst hy;exact List.mem_append_left _ h
 | o::os,k,i+1,y,hy,h=>by
  refine List.mem_append_right _ (Sy os (k+1) i y (by simpa using hy) ?_);rwa [show k+1+i=k+(i+1) by omega]
structure Sz (P:Program) (cfg:dF) (all:List Oper):Prop where
 TM:wO P all
 kind:∀ o∈all,cG (bw P cfg o.op)<=3
 ord:∀ i j x y,all[i]? = some y->all[j]? = some x->j < i->Lz P cfg all x y=true->oM (dG [] all) i j=true\/(wT P cfg all x y=false/\∃ p,YM all j x i y=some p/\p∈LB P cfg all)
 plain:∀ p,p∈LB P cfg all->Tu P cfg all=true
theorem agB {cfg:dF} {all:List Oper} (h:agb P cfg all=true):Sz P cfg all:=by
 unfold agb at h;simp only [ao] at h;refine ⟨GA h.1.1.1,fun o ho=>dX (fk.1 h.1.1.2 o ho),fun i j x y hy hx bm hm=>?_,fun p hp=>?_⟩
 ·have:=P3 all 0 h.1.2 i y hy
  rw [bd] at this;have:=Vi all 0 this j x hx (by omega) hm;rw [bd] at this;cases hb:oM (dG [] all) i j with
  | true=>exact .inl rfl
  | false=>
   rcases this with h1 | ⟨h1,h2⟩
   ·rw [hb] at h1; simp at h1
   ·obtain ⟨p,hp⟩:=Q8.1 h2
    refine .inr ⟨h1,p,hp,Sy all 0 i y hy ?_⟩;rw [bd];exact Vj all 0 j x hx (by omega) hm (by rw [bd]; exact hb) (by rw [bd]; exact hp)
 ·have h2:=h.2
  simp only [ve] at h2;rcases h2 with h2 | h2
  ·rw [List.isEmpty_iff] at h2
   rw [h2] at hp;simp at hp
  ·exact h2
structure abu (P:Program) (cfg:dF) (all:List Oper):Prop where
 TM:wO P all
 Gu:∀ {i j:Nat} {x y:Oper},all[i]? = some y->all[j]? = some x->j < i->wT P cfg all x y=true->oM (dG [] all) i j=true
theorem Sz.toT {cfg:dF} {all:List Oper} (hf:Sz P cfg all):abu P cfg all:=⟨hf.TM,fun {i j x y} hy hx bm hc=>by
 rcases hf.ord i j x y hy hx bm (by unfold Lz; rw [hc]; rfl) with h | ⟨h,_⟩
 ·exact h
 ·rw [hc] at h; simp at h⟩
def Vk (P:Program) (cfg:dF) (all:List Oper) (i:Nat):Prop:=∀ j q,all[j]? = some q->Nat.ble 3 (cG (bw P cfg q.op))=true->(j < i->oM (dG [] all) i j=true)/\(i < j->oM (dG [] all) j i=true)
theorem Dw {x y:Oper} {p:Option Operand×Operand} (h:Ny x y=some p):(∃ T,y.op = .load T p.2)/\((p.1=none/\Rj x.op=true)\/∃ T a v,p.1=some a/\x.op = .store T a v):=by
 unfold Ny at h;split at h
 ·rename_i a ha
  have hl:∃ T,y.op = .load T a:=by
   unfold HV at ha;split at ha
   ·rename_i T a' e; simp at ha; subst ha; exact ⟨T,e⟩
   ·simp at ha
  cases hs:Rj x.op with
  | true=>
   rw [hs,aj] at h;simp at h;subst h;exact ⟨hl,.inl ⟨rfl,rfl⟩⟩
  | false=>
   rw [hs,aH] at h;split at h
   ·rename_i a2 ha2
    simp at h;subst h;refine ⟨hl,.inr ?_⟩;unfold U4 at ha2;split at ha2
    ·rename_i T a3 v e; simp at ha2; subst ha2; exact ⟨T,_,v,rfl,e⟩
    ·simp at ha2
   ·simp at h
 ·simp at h
theorem abv {all:List Oper} {i j:Nat} {x y:Oper} {p:Option Operand×Operand} (h:YM all j x i y=some p) :
  (Ny x y=some p/\uJ i p.2 all 0=true/\Nx j p.1 all=true)\/(Ny y x=some p/\uJ j p.2 all 0=true/\Nx i p.1 all=true):=by
 unfold YM at h;split at h
 ·rename_i q hq
  cases hb:(uJ i q.2 all 0&&Nx j q.1 all) with
  | false=>rw [hb] at h; simp at h
  | true=>
   rw [hb,aj] at h;simp at h;subst h;simp only [ao] at hb;exact .inl ⟨hq,hb.1,hb.2⟩
 ·split at h
  ·rename_i q hq
   cases hb:(uJ j q.2 all 0&&Nx i q.1 all) with
   | false=>rw [hb] at h; simp at h
   | true=>
    rw [hb,aj] at h;simp at h;subst h;simp only [ao] at hb;exact .inr ⟨hq,hb.1,hb.2⟩
  ·simp at h
theorem Je {cfg:dF} {o:Oper} {T:TypeId} {a:Operand} (h:o.op = .load T a):cG (bw P cfg o.op)=1:=by rw [h]; rfl
theorem unordered {cfg:dF} {all:List Oper} (hf:Sz P cfg all) {i j:Nat} {o q:Oper} (ho:all[i]? = some o) (hq:all[j]? = some q) (hk:cG (bw P cfg o.op)≠0) (h3:Nat.ble 3 (cG (bw P cfg q.op))=true) :
  ((j < i->oM (dG [] all) i j=true)/\(i < j->oM (dG [] all) j i=true))\/∃ p,p∈LB P cfg all/\Ny q o=some p/\uJ i p.2 all 0=true/\Nx j p.1 all=true:=by
 have mO:Nat.beq (cG (bw P cfg o.op)) 0=false:=by
  cases hb:Nat.beq (cG (bw P cfg o.op)) 0 with
  | false=>rfl
  | true=>exact absurd (aL hb) hk
 have hnl:∀ T a,q.op≠.load T a:=fun T a e=>by rw [Je e] at h3; simp at h3
 rcases Nat.lt_trichotomy j i with h | h | h
 ·rcases hf.ord i j q o ho hq h (by unfold Lz; rw [h3,mO]; simp) with h1 | ⟨_,p,h1,h2⟩
  ·exact .inl ⟨fun _=>h1,fun h'=>by omega⟩
  ·rcases abv h1 with ⟨e1,e2,e3⟩ | ⟨e1,e2,e3⟩
   ·exact .inr ⟨p,h2,e1,e2,e3⟩
   ·obtain ⟨⟨T,e⟩,_⟩:=Dw e1
    exact absurd e (hnl _ _)
 ·exact .inl ⟨fun h'=>by omega,fun h'=>by omega⟩
 ·rcases hf.ord j i o q hq ho h (by unfold Lz; rw [h3,mO]; simp) with h1 | ⟨_,p,h1,h2⟩
  ·exact .inl ⟨fun h'=>by omega,fun _=>h1⟩
  ·rcases abv h1 with ⟨e1,e2,e3⟩ | ⟨e1,e2,e3⟩
   ·obtain ⟨⟨T,e⟩,_⟩:=Dw e1
    exact absurd e (hnl _ _)
   ·exact .inr ⟨p,h2,e1,e2,e3⟩
theorem P4 {cfg:dF} {all:List Oper} (hf:Sz P cfg all) {i:Nat} {o:Oper} (ho:all[i]? = some o) (hk:cG (bw P cfg o.op)≠0) (hn:∀ T a,o.op≠.load T a):Vk P cfg all i:=fun j q hq h3=>by
 rcases unordered hf ho hq hk h3 with h | ⟨p,_,h,_⟩
 ·exact h
 ·obtain ⟨⟨T,e⟩,_⟩:=Dw h
  exact absurd e (hn _ _)
theorem zN {cfg:dF} {o:Oper} (h:cG (bw P cfg o.op)<=3):∀ f args,bw P cfg o.op≠.call f args:=by
 intro f args e;rw [e] at h;simp [cG] at h
theorem Dx {d:Tmp} {l:List Tmp} (h:d∈l):Pu (some d) l=true:=by
 simp only [Pu,List.any_eq_true];exact ⟨d,h,by simp⟩
theorem kH {x:Tmp} : ∀ {xs:List Operand},Operand.tmp x∈xs->x∈tW xs
 | [],h=>by simp at h
 | y::ys,h=>by
  rcases de.1 h with h | h
  ·subst h; simp [tW]
  ·have:=kH h
   cases y <;> simp [tW,this]
section
variable {cfg:dF} {all:List Oper} {L:List Out} {t0:bf} {A0:ae}
theorem abw (hf:abu P cfg all) {S:Nat->Bool} (hc:vg all S) {i:Nat} {o:Oper} (ho:all[i]? = some o) (sA:S i=false) (vd:zH all S i) {y:Tmp} (hy:y∈nZ P cfg all o) :
  (gZ S all L 0 t0).get y=(gZ (fun j=>Nat.blt j i) all L 0 t0).get y:=by
 refine kT rfl fun j q hq hd=>?_;rw [bd];rcases Nat.lt_trichotomy j i with h | h | h
 ·have:oM (dG [] all) i j=true:=hf.Gu ho hq h (by
   unfold wT;rw [hd,Dx hy];rfl)
  rw [hc.ready hf.TM ho vd j this]
  symm; rw [bI]; exact h
 ·subst h
  rw [sA]
  symm
  cases hb:Nat.blt j j with
  | false=>rfl
  | true=>rw [bI] at hb; omega
 ·have hb:oM (dG [] all) j i=true:=hf.Gu hq ho h (by
   unfold wT;rw [hd,Dx hy];simp)
  have:S j=false:=by
   cases hs:S j with
   | false=>rfl
   | true=>have:=hc j i hs hb; rw [sA] at this; simp at this
  rw [this]
  symm
  cases hbb:Nat.blt j i with
  | false=>rfl
  | true=>rw [bI] at hbb; omega
theorem Vl (hf:Sz P cfg all) {S:Nat->Bool} (hc:vg all S) {i:Nat} {o:Oper} (ho:all[i]? = some o) (sA:S i=false) (vd:zH all S i) (gz:Vk P cfg all i) :
  oa P cfg S all L 0 A0=oa P cfg (fun j=>Nat.blt j i) all L 0 A0:=by
 refine KG fun j q x hq hx ht=>?_;rw [bd];have h3:Nat.ble 3 (cG (bw P cfg q.op))=true:=by unfold turns at ht; simp only [ao] at ht; exact ht.2
 rcases Nat.lt_trichotomy j i with h | h | h
 ·have:oM (dG [] all) i j=true:=(gz j q hq h3).1 h
  rw [hc.ready hf.TM ho vd j this]
  symm; rw [bI]; exact h
 ·subst h
  rw [sA]
  symm
  cases hb:Nat.blt j j with
  | false=>rfl
  | true=>rw [bI] at hb; omega
 ·have hb:oM (dG [] all) j i=true:=(gz j q hq h3).2 h
  have:S j=false:=by
   cases hs:S j with
   | false=>rfl
   | true=>have:=hc j i hs hb; rw [sA] at this; simp at this
  rw [this]
  symm
  cases hbb:Nat.blt j i with
  | false=>rfl
  | true=>rw [bI] at hbb; omega
theorem MD (hf:abu P cfg all) {S:Nat->Bool} (hc:vg all S) {i:Nat} {o:Oper} {x:Out} (ho:all[i]? = some o) (hx:L[i]? = some x) (sA:S i=false) (y:Tmp) :
  (gZ (cP S i) all L 0 t0).get y=(qO (gZ S all L 0 t0) o.dst x.2.1).get y:=by
 rw [vI];by_cases hd:o.dst=some y
 ·rw [aD hd]
  have:=abt (S:=S) (y:=y) (os:=all) (L:=L) (k:=0) (i:=i) (t:=t0) ho hx hd (fun j q hq hqd bm=>by
   rw [bd];have hb:oM (dG [] all) j i=true:=hf.Gu hq ho bm (by
    unfold wT;rw [hqd,hd];simp [UJ])
   cases hs:S j with
   | false=>rfl
   | true=>have:=hc j i hs hb; rw [sA] at this; simp at this)
  rw [bd] at this;exact this
 ·rw [aa hd]
  refine kT rfl fun j q hq hqd=>?_;rw [bd];have cD:j≠i:=by
   intro e;subst e;rw [ho] at hq;simp at hq;subst hq;exact hd hqd
  unfold cP;have:Nat.beq j i=false:=by
   cases hb:Nat.beq j i with
   | false=>rfl
   | true=>exact absurd (aL hb) cD
  rw [this,Bool.or_false]
theorem BT {S:Nat->Bool} {i:Nat} {o:Oper} {x:Out} (ho:all[i]? = some o) (hx:L[i]? = some x) (ht:turns P cfg o x=false):oa P cfg (cP S i) all L 0 A0=oa P cfg S all L 0 A0:=by
 refine KG fun j q y hq hy hty=>?_;rw [bd];have cD:j≠i:=by
  intro e;subst e;rw [ho] at hq; rw [hx] at hy;simp at hq hy;subst hq hy;rw [ht] at hty; simp at hty
 unfold cP;have:Nat.beq j i=false:=by
  cases hb:Nat.beq j i with
  | false=>rfl
  | true=>exact absurd (aL hb) cD
 rw [this,Bool.or_false]
theorem agC {i:Nat} {o:Oper} {x:Out} (ho:all[i]? = some o) (hx:L[i]? = some x) (ht:turns P cfg o x=true):oa P cfg (fun j=>Nat.blt j (i+1)) all L 0 A0=x.2.2:=by
 have key:∀ (os:List Oper) (L:List Out) (k i:Nat) (A:ae) (o:Oper) (x:Out),os[i]? = some o->L[i]? = some x->turns P cfg o x=true->oa P cfg (fun j=>Nat.blt j (k+i+1)) os L k A=x.2.2:=by
  intro os
  induction os with
  | nil=>intro L k i A o x ho; simp at ho
  | cons q os ih=>
   intro L k i A o x ho hx ht;cases L with
   | nil=>simp at hx
   | cons u L=>
    simp only [oa];have bm:Nat.blt k (k+i+1)=true:=by rw [bI]; omega
    rw [bm,BN];cases i with
    | zero=>
     simp at ho hx;subst ho hx;rw [ht,aj];have:∀ (os:List Oper) (L:List Out) (m:Nat) (A:ae),k+1<=m->oa P cfg (fun j=>Nat.blt j (k+0+1)) os L m A=A:=by
      intro os
      induction os with
      | nil=>intro L m A _; cases L <;> rfl
      | cons q os ih=>
       intro L m A hm;cases L with
       | nil=>rfl
       | cons u L=>
        simp only [oa];have:Nat.blt m (k+0+1)=false:=by
         cases hb:Nat.blt m (k+0+1) with
         | false=>rfl
         | true=>rw [bI] at hb; omega
        rw [this,Bool.false_and,aH];exact ih L _ A (by omega)
     exact this os L (k+1) _ (aC _)
    | succ i=>
     have:=ih L (k+1) i (cond (turns P cfg q u) u.2.2 A) o x (by simpa using ho) (by simpa using hx) ht;rwa [show k+1+i+1=k+(i+1)+1 by omega] at this
 have:=key all L 0 i A0 o x ho hx ht;rwa [bd] at this
theorem aiF (hf:Sz P cfg all) {S:Nat->Bool} (hc:vg all S) {i:Nat} {o:Oper} {x:Out} (ho:all[i]? = some o) (hx:L[i]? = some x) (sA:S i=false) (vd:zH all S i) (ht:turns P cfg o x=true) :
  oa P cfg (cP S i) all L 0 A0=x.2.2:=by
 have h3:Nat.ble 3 (cG (bw P cfg o.op))=true:=by unfold turns at ht; simp only [ao] at ht; exact ht.2
 have hk:cG (bw P cfg o.op)≠0:=by have:=dX h3; omega
 have h1:oa P cfg (cP S i) all L 0 A0=oa P cfg (fun j=>Nat.blt j (i+1)) all L 0 A0:=by
  refine KG fun j q y hq hy hty=>?_;rw [bd];have hq3:Nat.ble 3 (cG (bw P cfg q.op))=true:=by unfold turns at hty; simp only [ao] at hty; exact hty.2
  have gz:Vk P cfg all i:=P4 hf ho hk fun T a e=>by rw [Je e] at h3; simp at h3
  rcases Nat.lt_trichotomy j i with h | h | h
  ·have:oM (dG [] all) i j=true:=(gz j q hq hq3).1 h
   have:=hc.ready hf.TM ho vd j this;unfold cP;rw [this,Bool.true_or]
   symm; rw [bI]; omega
  ·subst h
   have:cP S j j=true:=by simp [cP]
   rw [this]
   symm; rw [bI]; omega
  ·have hb:oM (dG [] all) j i=true:=(gz j q hq hq3).2 h
   have:S j=false:=by
    cases hs:S j with
    | false=>rfl
    | true=>have:=hc j i hs hb; rw [sA] at this; simp at this
   unfold cP;have cD:Nat.beq j i=false:=by
    cases hb:Nat.beq j i with
    | false=>rfl
    | true=>have:=aL hb; omega
   rw [this,cD]
   symm
   cases hbb:Nat.blt j (i+1) with
   | false=>rfl
   | true=>rw [bI] at hbb; omega
 rw [h1];exact agC ho hx ht
end
theorem ade {all:List Oper} {o:Oper} {j:Nat} {want:Bool} {d:Tmp} (hg:o.guard=some (j,want)) (hd:(all[j]?).bind (·.dst)=some d):d∈Iw all o:=by
 unfold Iw;rw [hg];simp [hd]
theorem y7 {all:List Oper} {o:Oper} {t t1:bf} {wd:Bool} {N:Nat} {ρ:Ren} {a:Act} (ht:iZ P E ρ t N a) (hl:∀ y∈Iw all o,t1.get y=t.get y) (h:H7 all o t1 wd):Region.wanted o (yielded ⟨all⟩ a.tmps)=wd:=by
 rcases h with ⟨hg,rfl⟩ | ⟨j,want,d,hg,hd,h⟩
 ·unfold Region.wanted
  rw [hg]
 ·have Lq:=hl d (ade hg hd)
  have Bo:=ht.val d;unfold Region.wanted;rw [hg];simp only;unfold yielded;have e:(⟨all⟩:Array Oper)[j]? = all[j]?:=by simp
  rw [e,hd];simp only [dQ];rcases h with ⟨b,h1,rfl⟩ | ⟨l,h1,rfl⟩
  ·rw [<- Lq,h1] at Bo
   have hcv:=Bo.eK;cases hc:a.tmps[d]? with
   | none=>simp [kY,hc,undef] at hcv
   | some u=>
    have:u = .bool b:=by rw [<- hcv]; simp [kY,hc]
    subst this;rfl
  ·rw [<- Lq,h1] at Bo
   obtain ⟨u,h2,h3⟩:=Bo;obtain ⟨m,rfl,_⟩:=h2.PM;obtain ⟨m',h4,_⟩:=h3.Tj;cases hc:a.tmps[d]? with
   | none=>rfl
   | some u=>
    have:u = .tuple m':=by rw [<- h4]; simp [kY,hc]
    subst this;rfl
theorem P5 {t t1:bf} {N:Nat} {ρ:Ren} {a:Act} (ht:iZ P E ρ t N a) {x:Operand} (h:∀ y,x = .tmp y->t1.get y=t.get y):VC P E ρ (gD t1 x) (a.eval x):=by
 have:=ht.ev x;cases x with
 | tmp y=>simp only [gD] at this ⊢; rw [h y rfl]; exact this
 | const v=>exact this
 | global g=>exact this
 | func f=>exact this
theorem agD {cfg:dF} {o:Oper} {t:bf} {A A1 A' : ae} {v:KV} (h:aI (xE (bw P cfg o.op) t A) (v,A1)) (hk:cG (bw P cfg o.op)=0):aI (xE (bw P cfg o.op) t A') (v,A'):=by
 generalize bw P cfg o.op=ins at h hk;cases ins with
 | pure f xs=>obtain ⟨u,h1,h2⟩:=aI.map h; simp at h2; obtain ⟨rfl,_⟩:=h2; exact h1.BS
 | read f xs=>simp [cG] at hk
 | act f xs=>simp [cG] at hk
 | look f xs=>obtain ⟨u,h1,h2⟩:=aI.map h; simp at h2; obtain ⟨rfl,_⟩:=h2; exact h1.BS
 | EI g f xs=>obtain ⟨u,h1,h2⟩:=aI.map h; simp at h2; obtain ⟨rfl,_⟩:=h2; exact h1.BS
 | I1 g f xs=>simp [cG] at hk
 | call f xs=>exact h.elim
 | bad=>exact h.elim
theorem TN {cfg:dF} {S:Nat->Bool} (h:∀ i,S i=false):∀ {os:List Oper} {L:List Out} {k:Nat} {A:ae},oa P cfg S os L k A=A
 | [],L,k,A=>by cases L <;> rfl
 | o::os,[],k,A=>rfl
 | o::os,x::L,k,A=>by simp only [oa]; rw [h,Bool.false_and,aH]; exact TN h
theorem NR {S:Nat->Bool} (h:∀ i,S i=false):∀ {os:List Oper} {L:List Out} {k:Nat} {t:bf},gZ S os L k t=t
 | [],L,k,A=>by cases L <;> rfl
 | o::os,[],k,A=>rfl
 | o::os,x::L,k,A=>by simp only [gZ]; rw [h,aH]; exact NR h
theorem amH {A:ae} {o:hO} {b:Nat} (hb:b < A.next) (cs:List KV) (e:Nat):A.get b=some (.row cs e)↔(A.new o).get b=some (.row cs e):=by
 rw [ae.cp,aa (by omega)]
theorem P6 {A:ae} {o:hO} {b c:Nat} (h:b≠c\/((∀ cs e,A.get b≠some (.row cs e))/\∀ cs e,o≠.row cs e)) (cs:List KV) (e:Nat):A.get b=some (.row cs e)↔(A.put c o).get b=some (.row cs e):=by
 rw [ae.bA];by_cases ZC:b=c
 ·rw [aD ZC]
  rcases h with h | ⟨h1,h2⟩
  ·exact absurd ZC h
  ·exact ⟨fun q=>absurd q (h1 _ _),fun q=>absurd (by simpa using q) (h2 cs e)⟩
 ·rw [aa ZC]
def SA (A A' : ae):Prop:=A.next<=A'.next/\∀ b,b < A.next->∀ cs e,A.get b=some (.row cs e)↔A'.get b=some (.row cs e)
theorem IA {A:ae} {o:hO} : SA A (A.new o):=⟨by simp,fun _ hb cs e=>amH hb cs e⟩
theorem Rr {A:ae} {c:Nat} {o o' : hO} (hc:A.get c=some o') (h' : ∀ cs e,o'≠.row cs e) (h:∀ cs e,o≠.row cs e):SA A (A.put c o):=⟨by simp,fun b _ cs e=>by
 by_cases ZC:b=c
 ·subst ZC
  exact P6 (.inr ⟨fun cs e q=>by rw [hc] at q; simp at q; exact h' cs e q,h⟩) cs e
 ·exact P6 (.inl ZC) cs e⟩
theorem SA.trans {A B C:ae} (h:SA A B) (k:SA B C):SA A C:=⟨hD h.1 k.1,fun b hb cs e=>(h.2 b hb cs e).trans (k.2 b (fa hb h.1) cs e)⟩
theorem NS {e sz b n f m:Nat} {base new:List KV} {ab an:Nat->KV} {A A' : ae} {v:KV} {more:Bool} (h:aI (U1 e sz b n base ab A f m new an more) (v,A')):A' = A.put f (.aP (n+m) sz):=by
 obtain ⟨_,h⟩:=aI.jQ h;simp only [dt] at h;exact h.2.symm
theorem Vm {e b n m:Nat} {base new:List KV} {ab an:Nat->KV} {A A' : ae} {v:KV} {more:Bool} (h:aI (aaa e b n base ab A m new an more) (v,A')):∃ o,A' = A.new (.arr o):=by
 obtain ⟨_,h⟩:=aI.jQ h;simp only [dt] at h;exact ⟨_,h.2.symm⟩
theorem afa {e sz b:Nat} {A A' : ae} {xs:List KV} {v:KV} (h:aI (PF e sz b A xs) (v,A')):SA A A':=by
 unfold PF at h;split at h
 ·obtain ⟨_,h⟩:=aI.cond h
  rw [NS h];exact IA.trans (Rr (o':=.aP 0 sz) (by simp) (by simp) (by simp))
 ·obtain ⟨_,h⟩:=aI.cond h
  rw [NS h];exact IA.trans (Rr (o':=.aP 0 sz) (by simp) (by simp) (by simp))
 ·split at h
  ·rename_i hf
   obtain ⟨_,h⟩:=aI.cond h;rw [NS h];exact Rr hf (by simp) (by simp)
  ·exact h.elim
 ·exact h.elim
theorem SB {e b:Nat} {A A' : ae} {xs:List KV} {v:KV} (h:aI (Iy e b A xs) (v,A')):SA A A':=by
 unfold Iy at h;split at h
 ·obtain ⟨_,h⟩:=aI.cond h
  obtain ⟨o,rfl⟩:=Vm h;exact IA
 ·split at h
  ·rename_i hf
   obtain ⟨_,h⟩:=aI.cond h;obtain ⟨o,rfl⟩:=Vm h;exact (Rr hf (by simp) (by simp)).trans IA
  ·exact h.elim
 ·exact h.elim
theorem adf {e sz b:Nat} {mt:Bool} {A A' : ae} {xs:List KV} {v:KV} (h:aI (Mq e sz b mt A xs) (v,A')):SA A A':=by
 unfold Mq at h;split at h
 ·split at h
  ·rename_i y' _
   revert h
   cases amr _ with
   | true=>exact fun h=>SB h
   | false=>
    cases mt with
    | true=>exact fun h=>SB h
    | false=>exact fun h=>afa h
  ·exact h.elim
 ·exact h.elim
theorem alm {c:Bool} {i:ss} {t:bf} {A:ae} {x:KV×ae} (h:aI (xE (cond c i .bad) t A) x):aI (xE i t A) x:=by
 cases c with
 | true=>exact h
 | false=>exact h.elim
theorem abx {cfg:dF} {o:Oper} {t:bf} {A A' : ae} {v:KV} (hs:Rj o.op=true) (h:aI (xE (bw P cfg o.op) t A) (v,A')):SA A A':=by
 revert hs h
 cases hop:o.op <;> intro hs h <;> simp [Rj] at hs
 ·rename_i T
  have h:aI (xE (rJ P T) t A) (v,A'):=h;unfold rJ at h;split at h
  ·rename_i z _
   cases hb:(flat z&&z.cells.toList.all scalar&&gJ (fE z).cells) with
   | false=>rw [hb] at h; exact h.elim
   | true=>
    rw [hb,aj] at h;have h:(KV.ptr A.next 0,A.new (.row (fE z).cells (oY P T)))=(v,A'):=h;simp only [dt] at h;rw [<- h.2];exact IA
  ·exact h.elim
 ·rename_i T x
  have h:aI (Et (oY P T) A [gD t x]) (v,A'):=h;unfold Et at h;simp only at h;obtain ⟨_,h⟩:=aI.cond h;have h:(KV.ptr A.next 0,A.new (.row (gD t x).cells (oY P T)))=(v,A'):=h;simp only [dt] at h;rw [<- h.2];exact IA
 ·rename_i c
  split at hs
  ·rename_i hc
   have h:aI (xE (lO P cfg c) t A) (v,A'):=h;unfold lO at h;rw [hc] at h;simp only [Dp] at h;unfold Kx at h;split at h
   ·split at h
    ·split at h
     ·split at h
      ·exact adf (alm h)
      ·exact h.elim
     ·exact h.elim
    ·exact h.elim
   ·exact h.elim
  ·simp at hs
theorem YX {cfg:dF} {o:Oper} {T:TypeId} {a x:Operand} {t:bf} {A A' : ae} {v:KV} (ho:o.op = .store T a x) (h:aI (xE (bw P cfg o.op) t A) (v,A')) :
  A'.next=A.next/\∀ b,((∃ b2 off,gD t a = .ptr b2 off/\b≠b2)\/∃ U Tc c i k,gD t a = .ap U Tc c i k)->∀ cs e,A.get b=some (.row cs e)↔A'.get b=some (.row cs e):=by
 rw [ho] at h;have h:aI (U0 P T A [gD t a,gD t x]) (v,A'):=h;unfold U0 at h;split at h
 ·rename_i c off w heq
  simp only [List.cons.injEq,and_true] at heq;obtain ⟨_,h⟩:=aI.cond h;split at h
  ·split at h
   ·have h:(tZ,_)=(v,A'):=h
    simp only [dt] at h;rw [<- h.2];refine ⟨rfl,fun b hb cs e=>P6 (.inl ?_) cs e⟩;rcases hb with ⟨b2,amD,h1,h2⟩ | ⟨U,Tc,c',i,k,h1⟩
    ·rw [heq.1] at h1; simp at h1; rw [h1.1]; exact h2
    ·rw [heq.1] at h1; simp at h1
   ·exact h.elim
  ·exact h.elim
 ·rename_i U Tc c i k w heq
  split at h
  ·rename_i hA
   obtain ⟨_,h⟩:=aI.cond h;split at h
   ·have h:(tZ,_)=(v,A'):=h
    simp only [dt] at h;rw [<- h.2];refine ⟨rfl,fun b _ cs e=>?_⟩;by_cases ZC:b=c
    ·subst ZC
     exact P6 (.inr ⟨fun cs e q=>by rw [hA] at q; simp at q,by simp⟩) cs e
    ·exact P6 (.inl ZC) cs e
   ·exact h.elim
  ·exact h.elim
 ·exact h.elim
theorem TP {t:bf} {nx:Nat} : ∀ {l:List (Option Operand×Operand)},Tt t nx l=true->∀ p∈l,Mr t nx p=true
 | [],_,p,hp=>by simp at hp
 | q::l,h,p,hp=>by
  have h:Bool.rec (motive:=fun _=>Bool) false (Tt t nx l) (Mr t nx q)=true:=h;cases hq:Mr t nx q with
  | false=>rw [hq] at h; simp at h
  | true=>
   rw [hq] at h;rcases de.1 hp with rfl | hp
   ·exact hq
   ·exact TP h p hp
theorem P7 {i:Nat} {x:Tmp} : ∀ (os:List Oper) (k:Nat),uJ i (.tmp x) os k=true->∀ j o,os[j]? = some o->i<=k+j->o.dst≠some x
 | [],k,_,j,o,ho,_=>by simp at ho
 | q::os,k,h,0,o,ho,hle=>by
  simp at ho;subst ho;simp only [uJ,ao,ve,ma] at h;rcases h.1 with h1 | h1
  ·rw [bI] at h1; omega
  ·intro e
   rw [e,Dx (by simp [tW])] at h1;simp at h1
 | q::os,k,h,j+1,o,ho,hle=>by
  simp only [uJ,ao] at h;exact P7 os (k+1) h.2 j o (by simpa using ho) (by omega)
section
variable {cfg:dF} {all:List Oper} {L:List Out} {t0:bf} {A0:ae}
theorem afb {tn t1:bf} {i:Nat} {x:Operand} (RR:∀ y,tn.get y=(gZ (fun _=>true) all L 0 t0).get y) (vG:∀ y,t1.get y=(gZ (fun j=>Nat.blt j i) all L 0 t0).get y) (h:uJ i x all 0=true):gD tn x=gD t1 x:=by
 cases x with
 | tmp y=>
  simp only [gD];rw [RR y,vG y,kT (S':=fun j=>Nat.blt j i) rfl fun j o ho hd=>?_];rw [bd]
  symm
  rw [bI];refine Nat.lt_of_not_le fun hle=>?_;exact P7 all 0 h j o ho (by omega) hd
 | const v=>rfl
 | global g=>rfl
 | func f=>rfl
theorem agE (j:Nat):(∃ q x,all[j]? = some q/\L[j]? = some x/\turns P cfg q x=true/\oa P cfg (fun k=>Nat.blt k (j+1)) all L 0 A0=x.2.2)\/
  ((∀ q x,all[j]? = some q->L[j]? = some x->turns P cfg q x=false)/\oa P cfg (fun k=>Nat.blt k (j+1)) all L 0 A0=oa P cfg (fun k=>Nat.blt k j) all L 0 A0):=by
 by_cases h:∃ q x,all[j]? = some q/\L[j]? = some x/\turns P cfg q x=true
 ·obtain ⟨q,x,h1,h2,h3⟩:=h
  refine .inl ⟨q,x,h1,h2,h3,?_⟩;have:=agC (A0:=A0) h1 h2 h3;exact this
 ·have hn:∀ q x,all[j]? = some q->L[j]? = some x->turns P cfg q x=false:=fun q x h1 h2=>by
   cases ht:turns P cfg q x with
   | false=>rfl
   | true=>exact absurd ⟨q,x,h1,h2,ht⟩ h
  refine .inr ⟨hn,KG fun k q x hq hx ht=>?_⟩;rw [bd];have cD:k≠j:=fun e=>by subst e; rw [hn q x hq hx] at ht; simp at ht
  cases hb:Nat.blt k j with
  | true=>rw [bI] at hb ⊢; omega
  | false=>
   cases wM:Nat.blt k (j+1) with
   | false=>rfl
   | true=>
    rw [bI] at wM;have : ¬ k < j:=fun h=>by rw [<- bI,hb] at h; simp at h
    omega
theorem YY (hf:Sz P cfg all) {S:Nat->Bool} (hc:vg all S):∀ n,∃ m,m<=n/\∀ j q x,j < n->all[j]? = some q->L[j]? = some x->turns P cfg q x=true->S j=Nat.blt j m
 | 0=>⟨0,aC 0,fun j q x hj=>by omega⟩
 | n+1=>by
  obtain ⟨m,hm,h⟩:=YY hf hc n;by_cases hn:∃ q x,all[n]? = some q/\L[n]? = some x/\turns P cfg q x=true/\S n=true
  ·obtain ⟨q,x,h1,h2,h3,h4⟩:=hn
   have hq3:Nat.ble 3 (cG (bw P cfg q.op))=true:=by unfold turns at h3; simp only [ao] at h3; exact h3.2
   have hk:cG (bw P cfg q.op)≠0:=by have:=dX hq3; omega
   have gz:=P4 hf h1 hk fun T a e=>by rw [Je e] at hq3; simp at hq3
   refine ⟨n+1,aC _,fun j q' x' hj h5 h6 h7=>?_⟩;have hb:Nat.blt j (n+1)=true:=by rw [bI]; exact hj
   rw [hb];by_cases hjn:j=n
   ·subst hjn; exact h4
   ·have aqs:Nat.ble 3 (cG (bw P cfg q'.op))=true:=by unfold turns at h7; simp only [ao] at h7; exact h7.2
    exact hc n j h4 ((gz j q' h5 aqs).1 (by omega))
  ·refine ⟨m,by omega,fun j q x hj h5 h6 h7=>?_⟩
   by_cases hjn:j=n
   ·subst hjn
    have hb:Nat.blt j m=false:=by
     cases hb:Nat.blt j m with
     | false=>rfl
     | true=>rw [bI] at hb; omega
    rw [hb];cases hs:S j with
    | false=>rfl
    | true=>exact absurd ⟨q,x,h5,h6,h7,hs⟩ hn
   ·exact h j q x (by omega) h5 h6 h7
theorem aln (hf:Sz P cfg all) {S:Nat->Bool} (hc:vg all S):∃ m,(∀ j q x,all[j]? = some q->L[j]? = some x->turns P cfg q x=true->S j=Nat.blt j m)/\oa P cfg S all L 0 A0=oa P cfg (fun j=>Nat.blt j m) all L 0 A0:=by
 obtain ⟨m,_,h⟩:=YY (L:=L) hf hc all.length;have h' : ∀ j q x,all[j]? = some q->L[j]? = some x->turns P cfg q x=true->S j=Nat.blt j m:=fun j q x h1 h2 h3=>h j q x (cH.1 h1).1 h1 h2 h3;exact ⟨m,h',KG fun j q x h1 h2 h3=>by rw [bd]; exact h' j q x h1 h2 h3⟩
def AtK (P:Program) (cfg:dF) (all:List Oper) (L:List Out) (t0:bf) (A0:ae):Prop:=∀ i o x,all[i]? = some o->L[i]? = some x->∃ t1,(∀ y,t1.get y=(gZ (fun j=>Nat.blt j i) all L 0 t0).get y)/\(x.1=true->aI (xE (bw P cfg o.op) t1 (oa P cfg (fun j=>Nat.blt j i) all L 0 A0)) (x.2.1,x.2.2))
theorem agF (vc:AtK P cfg all L t0 A0) (hpl:Tu P cfg all=true):∀ j,A0.next<=(oa P cfg (fun k=>Nat.blt k j) all L 0 A0).next
 | 0=>by rw [TN (fun i=>by
   cases hb:Nat.blt i 0 with
   | false=>rfl
   | true=>rw [bI] at hb; omega)]; exact aC _
 | j+1=>by
  have ih:=agF vc hpl j;rcases agE (P:=P) (cfg:=cfg) (all:=all) (L:=L) (A0:=A0) j with ⟨q,x,h1,h2,h3,h4⟩ | ⟨_,h4⟩
  ·rw [h4]
   obtain ⟨t1,_,hg⟩:=vc j q x h1 h2;unfold turns at h3;simp only [ao] at h3;have hg:=hg h3.1;have hp:=fk.1 hpl q (gu h1);simp only [ve,h3.2,Bool.not_true,HL,false_or] at hp;rcases hp with hp | hp
   ·exact hD ih (abx hp hg).1
   ·obtain ⟨a2,ha2⟩:=Q8.1 hp
    unfold U4 at ha2;split at ha2
    ·rename_i T a3 v e
     rw [(YX e hg).1]; exact ih
    ·simp at ha2
  ·rw [h4]; exact ih
theorem agG (hf:Sz P cfg all) {S:Nat->Bool} (hc:vg all S) {i:Nat} {o:Oper} {T:TypeId} {a:Operand} (ho:all[i]? = some o) (Gz:o.op = .load T a) (sA:S i=false) (vd:zH all S i) (hns : ¬ Vk P cfg all i)
  (vc:AtK P cfg all L t0 A0) {tn:bf} (RR:∀ y,tn.get y=(gZ (fun _=>true) all L 0 t0).get y) (akf:Tt tn A0.next (LB P cfg all)=true)
  {t1:bf} (vG:∀ y,t1.get y=(gZ (fun j=>Nat.blt j i) all L 0 t0).get y) {v:KV} {A1:ae} (hg:aI (xE (bw P cfg o.op) t1 (oa P cfg (fun j=>Nat.blt j i) all L 0 A0)) (v,A1)) :
  aI (xE (bw P cfg o.op) t1 (oa P cfg S all L 0 A0)) (v,oa P cfg S all L 0 A0):=by
 have hk:cG (bw P cfg o.op)≠0:=by rw [Je Gz]; simp
 have hex:∃ p,p∈LB P cfg all/\p.2=a/\uJ i a all 0=true:=by
  refine Classical.byContradiction fun cD=>hns fun j q hq h3=>?_;rcases unordered hf ho hq hk h3 with h | ⟨p,h1,h2,h3,_⟩
  ·exact h
  ·obtain ⟨⟨T',e⟩,_⟩:=Dw h2
   rw [Gz] at e;simp only [Op.load.injEq] at e;exact absurd ⟨p,h1,e.2.symm,by rw [e.2]; exact h3⟩ cD
 obtain ⟨p,hp,hpa,hnd⟩:=hex;have Bo:=afb RR vG hnd;have hpd:=TP akf p hp;have hpl:=hf.plain p hp;rw [Gz] at hg ⊢;have amI:∀ A,xE (bw P cfg (.load T a)) t1 A=(AJ P T A [gD t1 a]).map fun v=>(v,A):=fun _=>rfl;rw [amI] at hg ⊢;obtain ⟨u,Pf,he⟩:=aI.map hg;simp only [dt] at he;obtain ⟨rfl,_⟩:=he;clear hg;have hg:=Pf;clear Pf;refine aI.BS (f:=fun v=>(v,oa P cfg S all L 0 A0)) ?_;unfold Mr at hpd;rw [hpa,Bo] at hpd;cases hv:gD t1 a with
 | tp U Tc m k es acc=>rw [hv] at hg; exact hg
 | ptr b off=>
  rw [hv] at hg hpd;simp only [ao] at hpd;have hb:=hpd.1;rw [bI] at hb;have fv:∃ cs e,(oa P cfg (fun j=>Nat.blt j i) all L 0 A0).get b=some (.row cs e):=by
   have hg:aI (match UE P T,size? P T with
    | some ag,some n=>match (K.rowAt (oa P cfg (fun j=>Nat.blt j i) all L 0 A0) b).bind fun cs=>yX n (EJ off cs) with
     | some l=>cond ag (.ok (.agg l)) (match l with | [v]=>.ok v | _=>.no)
     | none=>.no
    | _,_=>.no) u:=hg
   split at hg
   ·split at hg
    ·rename_i l hl
     obtain ⟨cs,h1,_⟩:=cE.1 hl;unfold K.rowAt at h1;split at h1
     ·rename_i bP e h2; exact ⟨bP,e,h2⟩
     ·simp at h1
    ·exact hg.elim
   ·exact hg.elim
  obtain ⟨cs,e,fv⟩:=fv;obtain ⟨m,hm,gz⟩:=aln (L:=L) (A0:=A0) hf hc;have step:∀ k,(∀ q x,all[k]? = some q->L[k]? = some x->turns P cfg q x=true->¬ ((k < i->oM (dG [] all) i k=true)/\(i < k->oM (dG [] all) k i=true)))->
    ((oa P cfg (fun j=>Nat.blt j k) all L 0 A0).get b=some (.row cs e)↔(oa P cfg (fun j=>Nat.blt j (k+1)) all L 0 A0).get b=some (.row cs e)):=by
   intro k NT;rcases agE (P:=P) (cfg:=cfg) (all:=all) (L:=L) (A0:=A0) k with ⟨q,x,h1,h2,h3,h4⟩ | ⟨_,h4⟩
   ·rw [h4]
    have h3':=h3;unfold turns at h3';simp only [ao] at h3';rcases unordered hf ho h1 hk h3'.2 with h5 | ⟨p',h5,h6,h7,h8⟩
    ·exact absurd h5 (NT q x h1 h2 h3)
    ·obtain ⟨tk,htk,hgk⟩:=vc k q x h1 h2
     have hgk:=hgk h3'.1;obtain ⟨⟨T',e1⟩,e2⟩:=Dw h6;rw [Gz] at e1;simp only [Op.load.injEq] at e1;have agH:=TP akf p' h5;unfold Mr at agH;rw [<- e1.2,Bo,hv] at agH;simp only [ao] at agH;rcases e2 with ⟨e2,e3⟩ | ⟨U,a2,v2,e2,e3⟩
     ·exact (abx e3 hgk).2 b (fa hb (agF vc hpl k)) cs e
     ·refine (YX e3 hgk).2 b ?_ cs e
      rw [e2] at agH h8;have Ti:=afb RR htk h8;have h9:=agH.2;simp only at h9;rw [Ti] at h9;split at h9
      ·rename_i b2 amD e4
       refine .inl ⟨b2,amD,e4,fun e5=>?_⟩;subst e5;simp at h9
      ·rename_i U' Tc' c' i' k' e4; exact .inr ⟨_,_,_,_,_,e4⟩
      ·simp at h9
   ·rw [h4]
  have apE:(oa P cfg S all L 0 A0).get b=some (.row cs e):=by
   rw [gz];rcases Nat.le_total m i with hle | hle
   ·have down:∀ d k,k+d=i->m<=k->(oa P cfg (fun j=>Nat.blt j k) all L 0 A0).get b=some (.row cs e):=by
     intro d
     induction d with
     | zero=>intro k hk _; have:k=i:=by omega
             rw [this]; exact fv
     | succ d ih=>
      intro k hk TF;refine (step k fun q x h1 h2 h3 MF=>?_).2 (ih (k+1) (by omega) (by omega));have h4:=hm k q x h1 h2 h3;have h5:S k=true:=hc.ready hf.TM ho vd k (MF.1 (by omega));rw [h5] at h4;have h4:=h4.symm;rw [bI] at h4;omega
    exact down (i - m) m (by omega) (aC m)
   ·have up:∀ d,i+d<=m->(oa P cfg (fun j=>Nat.blt j (i+d)) all L 0 A0).get b=some (.row cs e):=by
     intro d
     induction d with
     | zero=>intro _; exact fv
     | succ d ih=>
      intro hd;refine (step (i+d) fun q x h1 h2 h3 MF=>?_).1 (ih (by omega));have h4:=hm (i+d) q x h1 h2 h3;have h5:Nat.blt (i+d) m=true:=by rw [bI]; omega
      rw [h5] at h4;by_cases hd0:d=0
      ·subst hd0
       rw [yI] at h4;rw [sA] at h4; simp at h4
      ·have:=hc (i+d) i h4 (MF.2 (by omega))
       rw [sA] at this; simp at this
    have:=up (m - i) (by omega);rwa [show i+(m - i)=m by omega] at this
  have Lq:K.rowAt (oa P cfg S all L 0 A0) b=K.rowAt (oa P cfg (fun j=>Nat.blt j i) all L 0 A0) b:=by
   unfold K.rowAt;rw [fv,apE]
  show aI (match UE P T,size? P T with
    | some ag,some n=>match (K.rowAt (oa P cfg S all L 0 A0) b).bind fun cs=>yX n (EJ off cs) with
     | some l=>cond ag (.ok (.agg l)) (match l with | [v]=>.ok v | _=>.no)
     | none=>.no
    | _,_=>.no) u
  rw [Lq];exact hg
 | _=>rw [hv] at hpd; simp at hpd
end
theorem adg {R:Type} {cfg:dF} {aR:kz R} (eW:rD P cfg.pc) (hm:P.follows .mixedOrders=true) {id:Nat} {all:List Oper} {N base:Nat} (hdN:all.all (Ll N)=true) {k:bf->ae->Option R} {r:R} {t:bf} {A:ae} {B:St} {ρ:Ren} {a:Act} {w:World} {Q:Exit->Act->World->Prop}
  (MF:agb P cfg all=true) (h:YL P cfg aR all (fun t' A'=>Bool.rec (motive:=fun _=>Option R) none (k t' A') (Tt t' A.next (LB P cfg all))) all t A=some r) (ht:iZ P E ρ t N a) (hj:KJ P E A B ρ base w)
  (hq:∀ t' E' A' B' aF a' w',k t' A' = some r->iZ P E' aF t' N a'->a'.defers=a.defers->Ev P base E A B ρ w E' A' B' aF w'->Q .normal a' w'):(Code.region id ⟨all⟩ true).wp P Q a w:=by
 have hf:=agB MF;obtain ⟨L,tn,An,lI,hk⟩:=Vg (fun o ho f args=>zN (hf.kind o ho) f args) h;obtain ⟨hlen,RR,hAn,vc⟩:=lI.at;have hdk:Tt tn A.next (LB P cfg all)=true/\k tn An=some r:=by
  cases hd:Tt tn A.next (LB P cfg all) with
  | false=>simp only [hd] at hk; exact absurd hk (by simp)
  | true=>simp only [hd] at hk; exact ⟨rfl,hk⟩
 obtain ⟨akf,hk⟩:=hdk;have aqt:AtK P cfg all L t A:=fun i o x ho hx=>by obtain ⟨t1,q1,_,q3,_⟩:=vc i o x ho hx; exact ⟨t1,q1,q3⟩
 have P8:Ev P base E A B ρ w E A B ρ w.drew:=(cN.refl hj.k).ev (jb.drew hj.s);refine wp_region_any hm ?_;show wpAny P .any ⟨all⟩ Q all.length (Array.replicate all.length false) a w.drew;have GG:∀ i,(Array.replicate all.length false).getD i false=false:=by
  intro i;rw [kY,Array.getElem?_replicate];split <;> rfl
 let Inv:(Nat->Bool)->Act->World->Prop:=fun S a' w'=>∃ E' B' aF,a'.defers=a.defers/\Ev P base E A B ρ w.drew E' (oa P cfg S all L 0 A) B' aF w'/\iZ P E' aF (gZ S all L 0 t) N a'
 refine HU hf.TM Inv ?_ ?_ ?_ all.length _ a w.drew (by simp) ?_ (fun i j hi _=>by
   have h2:(Array.replicate all.length false).getD i false=true:=hi;rw [GG] at h2; simp at h2) ⟨E,B,ρ,rfl,?_,?_⟩
 ·
  rintro S S' a' w' hSS ⟨E',B',aF,h1,h2,h3⟩;have e1:oa P cfg S all L 0 A=oa P cfg S' all L 0 A:=KG fun i o x ho _ _=>by rw [bd]; exact hSS i (cH.1 ho).1
  refine ⟨E',B',aF,h1,by rw [<- e1]; exact h2,h3.same fun y=>?_⟩;exact kT rfl fun i o ho _=>by rw [bd]; exact (hSS i (cH.1 ho).1).symm
 ·
  rintro S a' w' i o ⟨E',B',aF,h1,h2,h3⟩ hc ho sA vd _;have hi:i < L.length:=by rw [hlen]; exact (cH.1 ho).1
  have hx:L[i]? = some L[i]:=cJ hi;obtain ⟨t1,vG,hw,agI,NT⟩:=vc i o L[i] ho hx;have EV:∀ y∈nZ P cfg all o,t1.get y=(gZ S all L 0 t).get y:=fun y hy=>by rw [vG y,abw hf.toT hc ho sA vd hy]
  have EW:=y7 h3 (fun y hy=>EV y (by unfold nZ; exact List.mem_append_left _ hy)) hw;have Jb:∀ d,o.dst=some d->d < N:=by
   intro d ed;have:=fk.1 hdN o (gu ho);unfold Ll at this;rw [ed] at this;simp only at this;rw [bI] at this;exact this
  have hoA:(⟨all⟩:Array Oper)[i]? = some o:=by simpa using ho
  unfold wpOp;rw [hoA];simp only [EW];cases Es:L[i].1 with
  | false=>
   simp only [HL,if_false];have hv:=NT Es;refine ⟨E',B',aF,by rw [put_defers]; exact h1,?_,?_⟩
   ·rw [BT ho hx (by unfold turns; rw [Es]; rfl)]
    exact h2
   ·refine (h3.put Jb VC.undef).same fun y=>?_
    rw [MD hf.toT hc ho hx sA y,hv]
  | true=>
   simp only [if_true];refine .inl ?_;have hg:=agI Es;have hgS:∃ A1,aI (xE (bw P cfg o.op) t1 (oa P cfg S all L 0 A)) (L[i].2.1,A1)/\oa P cfg (cP S i) all L 0 A=A1:=by
    by_cases xy:cG (bw P cfg o.op)=0
    ·refine ⟨_,agD hg xy,BT ho hx ?_⟩
     unfold turns;rw [xy,show Nat.ble 3 0=false from rfl,Bool.and_false]
    ·by_cases gz:Vk P cfg all i
     ·rw [Vl (L:=L) (A0:=A) hf hc ho sA vd gz]
      refine ⟨_,hg,?_⟩;cases RR:turns P cfg o L[i] with
      | true=>exact aiF hf hc ho hx sA vd RR
      | false=>
       have h4:=EU hg (by simpa [turns,Es] using RR);rw [BT ho hx RR,Vl (L:=L) (A0:=A) hf hc ho sA vd gz,h4]
     ·have hex:∃ T a,o.op = .load T a:=Classical.byContradiction fun cD=>gz (P4 hf ho xy fun T a e=>cD ⟨T,a,e⟩)
      obtain ⟨T,a',Gz⟩:=hex;refine ⟨_,agG hf hc ho Gz sA vd gz aqt RR akf vG hg,BT ho hx ?_⟩;unfold turns;rw [Je Gz,show Nat.ble 3 1=false from rfl,Bool.and_false]
   obtain ⟨A1,hg1,hA1⟩:=hgS;refine NQ eW hg1 (fun x hxm=>P5 h3 fun y e=>EV y ?_) h2.kj fun H6 Jc vv v' HQ h4 h5=>?_
   ·unfold nZ
    subst e;exact List.mem_append_right _ (kH hxm)
   ·refine ⟨H6,Jc,vv,by rw [put_defers]; exact h1,?_,?_⟩
    ·rw [hA1]; exact h2.trans h5
    ·refine ((h3.mono h5.le (h5.eJ.le h2.eJ.fY)).put Jb h4).same fun y=>?_
     rw [MD hf.toT hc ho hx sA y]
 ·
  rintro S a' w' qM ⟨E',B',aF,h1,h2,h3⟩;have e1:oa P cfg S all L 0 A=An:=by rw [hAn]; exact KG fun i o x ho _ _=>by rw [bd]; exact qM i (cH.1 ho).1
  rw [e1] at h2;refine hq tn E' An B' aF a' w' hk (h3.same fun y=>?_) h1 (P8.trans h2);rw [RR y];exact kT rfl fun i o ho _=>by rw [bd]; exact (qM i (cH.1 ho).1).symm
 ·simp
 ·rw [TN GG]
  exact .refl hj.k P8.eJ.fY
 ·refine ht.same fun y=>?_
  rw [NR GG]
end Go.K
end
section
namespace Go.K
open Go Go.aG
variable {P:Program} {E:Env}
theorem aqu {A:ae} {B:St} {bP:List Value} {bp:Nat} (h:dr P E A B):cN P E A B E A (B.new (.row bP bp true none)):=by
 have Cj:∀ x,AR A E x->(B.new (.row bP bp true none)).get x=B.get x:=fun x q=>by have:=h.I5 q; rw [St.cp,aa (by omega)]
 refine ⟨⟨?_,?_,?_,h.apart,h.inj,h.gK,h.jP,h.kR,h.live,?_,?_,?_,?_,?_,h.ar.dR (Env.le_refl _) (fun _=>rfl) (fun _ _ e=>e) (fun _ _ e=>e) (aC _) (by simp) Cj (fun _ _ e=>.inl e) (fun _ _ e=>.inl e) (fun b g e=>.inl ⟨b,e⟩) (fun _ _=>by simp) h.mem⟩,Env.le_refl _,aC _,?_,fun _ _ e=>.inl e,fun _ _ e=>.inl e,fun _ _ e=>.inl e,fun _ _ _ _=>by simp,fun _ q=>.inl q,fun _ q=>.inl (q.of (fun _=>rfl) (fun _ _ e=>e) Cj),fun _ _ q=>.inl (by simpa using q),fun _ q=>.inl (q.of (fun _=>rfl) (fun _ _ e=>e) Cj fun _ _=>by simp),mv aba,fun _ e=>e⟩
 ·intro b mg PU hb
  obtain ⟨x,c,h1,h2,h3⟩:=h.row b mg PU hb;have:=h.eV b x h1;exact ⟨x,c,h1,by rw [St.cp,aa (by omega)]; exact h2,h3⟩
 ·intro b top GC hb
  rcases h.aP b top GC hb with h1 | ⟨g,h1,hp0,h2⟩
  ·exact .inl h1
  ·refine .inr ⟨g,h1,hp0,fun x hx c e own f k hg=>?_⟩
   rw [St.cp] at hg;split at hg
   ·simp at hg
   ·exact h2 x (by simpa using hx) c e own f k hg
 ·intro b r hb
  have:=h.lJ b r hb;rw [St.cp,aa (by omega)];exact h.z b r hb
 ·intro b x hb; have:=h.eV b x hb; rw [St.bX]; omega
 ·intro b r hb; have:=h.lJ b r hb; rw [St.bX]; omega
 ·intro b g hb; have:=h.iv b g hb; rw [St.bX]; omega
 ·intro g hg; rw [St.bX] at hg; rw [St.jq]; exact h.fresh g (by omega)
 ·intro g x hx; rw [St.jq] at hx; rw [St.bX]; have:=h.mem g x hx; omega
 ·intro x hx _ _; rw [St.cp,aa (by omega)]
structure Fr (E:Env) (A:ae) (B:St) (b0 y:Nat):Prop where
 lo:b0<=y
 hi:y < B.next
 un:∀ b,E.κ b≠some y
 z:E.z y=none
 fw : ¬ AT A E B y
theorem Fr.step {A A' : ae} {B B' : St} {E' : Env} {b0 y base:Nat} {ρ aF:Ren} {w w' : World} (h:Fr E A B b0 y) (k:Ev P base E A B ρ w E' A' B' aF w'):Fr E' A' B' b0 y/\B'.get y=B.get y:=by
 have hn:=k.eJ.next;refine ⟨⟨h.lo,fa h.hi hn,fun b e=>?_,?_,fun q=>?_⟩,k.dR y h.hi (fun b e=>absurd e (h.un b)) h.fw⟩
 ·rcases k.new b y e with e | e
  ·exact h.un b e
  ·have:=h.hi; omega
 ·cases hz:E'.z y with
  | none=>rfl
  | some r=>
   rcases k.ud y r hz with e | e | e
   ·rw [h.z] at e; simp at e
   ·exact absurd (.inl e) h.fw
   ·have:=h.hi; omega
 ·rcases k.mh y q with e | e
  ·exact h.fw e
  ·have:=h.hi; omega
theorem aqv {E0:Env} {A0 A:ae} {B0 B:St} {Xd ρ aF:Ren} {w0 w w' : World} {base y bp:Nat} {mg bP:List Value} (h:Ev P base E0 A0 B0 Xd w0 E A B ρ w) (hy:Fr E A B B0.next y) (hold:B.get y=some (.row mg bp true none))
  (g:jb base ρ B w aF (B.put y (.row bP bp true none)) w'):Ev P base E0 A0 B0 Xd w0 E A (B.put y (.row bP bp true none)) aF w':=by
 have hs:=h.fY;have Cj:∀ x,AR A E x->(B.put y (.row bP bp true none)).get x=B.get x:=fun x q=>by
  rw [St.bA,aa];intro e;subst e;exact hy.fw (.inl q)
 have LG:∀ q,AF A E (B.put y (.row bP bp true none)) q->AF A E B q:=fun q r=>r.of (fun _=>rfl) (fun _ _ e=>e) Cj;have hAT:∀ q,AT A E (B.put y (.row bP bp true none)) q->AT A E B q:=fun q r=>r.of (fun _=>rfl) (fun _ _ e=>e) Cj fun _ _=>by simp
 refine ⟨⟨?_,?_,?_,hs.apart,hs.inj,hs.gK,hs.jP,hs.kR,hs.live,hs.eV,hs.lJ,hs.iv,?_,?_,hs.ar.dR (Env.le_refl _) (fun _=>rfl) (fun _ _ e=>e) (fun _ _ e=>e) (aC _) (aC _) Cj (fun _ _ e=>.inl e) (fun _ _ e=>.inl e) (fun b g e=>.inl ⟨b,e⟩) (fun _ _=>by simp) hs.mem⟩,h.eJ.trans g,h.le,h.next,?_,h.new,h.ud,h.su,?_,h.kA,fun q r=>h.kS q (LG q r),?_,fun q r=>h.mh q (hAT q r),?_,h.Dq⟩
 ·intro b cs e hb
  obtain ⟨x,c,h1,h2,h3⟩:=hs.row b cs e hb;refine ⟨x,c,h1,?_,h3⟩;rw [St.bA,aa (fun e=>hy.un b (by rw [<- e]; exact h1))];exact h2
 ·intro b top sz hb
  rcases hs.aP b top sz hb with h1 | ⟨q,h1,hp0,h2⟩
  ·exact .inl h1
  ·refine .inr ⟨q,h1,hp0,fun x hx c e own f k hg=>?_⟩
   rw [St.bA] at hg;split at hg
   ·simp at hg
   ·exact h2 x (by simpa using hx) c e own f k hg
 ·intro b r hb
  rw [St.bA,aa]
  ·exact hs.z b r hb
  ·intro e
   subst e;rw [hy.z] at hb;simp at hb
 ·intro q hq; rw [St.wK]; exact hs.fresh q hq
 ·intro q x hx; rw [St.wK] at hx; exact hs.mem q x hx
 ·intro x hx hn ha
  rw [St.bA,aa (fun e=>by have:=hy.lo; omega)];exact h.dR x hx hn ha
 ·intro q hq hn ha; rw [St.wK]; exact h.o5 q hq hn ha
 ·intro q x hx; rw [St.wK] at hx; exact h.vE q x hx
 ·intro x hx c e own bN hg
  rw [St.bA,aa (fun e=>by have:=hy.lo; omega)] at hg;exact h.rows x hx c e own bN hg
theorem apF {E0:Env} {A0 A:ae} {B0 B:St} {Xd ρ:Ren} {w0 w:World} {base y bp:Nat} {cs:List KV} {bP:List Value} (h:Ev P base E0 A0 B0 Xd w0 E A B ρ w) (hy:Fr E A B B0.next y) (hold:B.get y=some (.row bP bp true none)) (hv:aV P E cs bP) :
  E.le (E.lP A.next y)/\Ev P base E0 A0 B0 Xd w0 (E.lP A.next y) (A.new (.row cs bp)) B ρ w:=by
 have hs:=h.fY;have hle:E.le (E.lP A.next y):=⟨fun _ _ e=>e,fun b x e=>by
  have:=hs.jP b x e;simp only [Env.lP]; rw [aa (by omega)]; exact e,fun _ _ e=>e,fun _ _ e=>e⟩
 have hA:∀ (b:Nat) (v:KV),(A.new (.row cs bp)).get b=some (.arr v)->A.get b=some (.arr v):=fun b v hb=>by
  rw [ae.cp] at hb;split at hb
  ·simp at hb
  ·exact hb
 have Xu:∀ (b:Nat) (v:KV),(A.new (.row cs bp)).get b=some (.iG v)->A.get b=some (.iG v):=fun b v hb=>by
  rw [ae.cp] at hb;split at hb
  ·simp at hb
  ·exact hb
 have sq:∀ x,AR (A.new (.row cs bp)) (E.lP A.next y) x->AR A E x:=fun _ q=>q.of (fun _=>rfl) hA;have LG:∀ g,AF (A.new (.row cs bp)) (E.lP A.next y) B g->AF A E B g:=fun _ q=>q.of (fun _=>rfl) hA fun _ _=>rfl;have hAT:∀ x,AT (A.new (.row cs bp)) (E.lP A.next y) B x->AT A E B x:=fun _ q=>q.of (fun _=>rfl) hA (fun _ _=>rfl) fun _ _=>rfl;refine ⟨hle,⟨⟨?_,?_,hs.z,?_,?_,?_,?_,?_,?_,?_,hs.lJ,hs.iv,hs.fresh,hs.mem,?_⟩,h.eJ,Env.le_trans h.le hle,by have:=h.next; rw [ae.bX]; omega,h.dR,?_,h.ud,h.su,h.o5,fun x q=>h.kA x (sq x q),fun g q=>h.kS g (LG g q),h.vE,fun x q=>h.mh x (hAT x q),h.rows,fun b e=>hs.abb b (h.Dq b e)⟩⟩
 ·intro b mg PU hb
  rw [ae.cp] at hb;split at hb
  ·rename_i e
   simp at hb;obtain ⟨rfl,rfl⟩:=hb;exact ⟨y,bP,by simp [Env.lP,e],hold,hv.mono hle⟩
  ·obtain ⟨x,c,h1,h2,h3⟩:=hs.row b mg PU hb
   exact ⟨x,c,hle.κ _ _ h1,h2,h3.mono hle⟩
 ·intro b top GC hb
  rw [ae.cp] at hb;split at hb
  ·simp at hb
  ·exact hs.aP b top GC hb
 ·intro b x hb
  simp only [Env.lP] at hb ⊢;split at hb
  ·simp at hb; subst hb; exact hy.z
  ·exact hs.apart b x hb
 ·intro b c x hb hc
  simp only [Env.lP] at hb hc;split at hb <;> split at hc
  ·omega
  ·simp at hb; subst hb; exact absurd hc (hy.un c)
  ·simp at hc; subst hc; exact absurd hb (hy.un b)
  ·exact hs.inj b c x hb hc
 ·exact HY.new (E:=E.lP A.next y) (fun x z g a b c d e f hx hz=>hs.gK x z g a b c d e f hx hz) (.inl fun _ _=>by simp)
 ·intro b x hb
  simp only [Env.lP] at hb;rw [ae.bX];split at hb
  ·omega
  ·have:=hs.jP b x hb; omega
 ·intro b g hb; have:=hs.kR b g hb; rw [ae.bX]; omega
 ·intro b o hb
  rw [ae.cp] at hb;rw [ae.bX];split at hb
  ·omega
  ·have:=hs.live b o hb; omega
 ·intro b x hb
  simp only [Env.lP] at hb;split at hb
  ·simp at hb; have:=hy.hi; omega
  ·exact hs.eV b x hb
 ·have uc:∀ b,(E.lP A.next y).α b=E.α b:=fun _=>rfl
  have Kj:∀ c x,(E.lP A.next y).κ c=some x->(c=A.next/\x=y)\/E.κ c=some x:=fun c x e=>by
   simp only [Env.lP] at e;split at e
   ·rename_i e1; simp at e; exact .inl ⟨e1,e.symm⟩
   ·exact .inr e
  refine ⟨fun b v hb=>(hs.ar.arr b v (hA _ _ hb)).mono hle rfl fun _ _ _ _=>rfl,fun b v hb=>(hs.ar.iG b v (Xu _ _ hb)).mono hle rfl,fun x q=>?_,fun b c v u x L N L' N' h1 h2 h3 h4=>hs.ar.inj b c v u x L N L' N' (hA _ _ h1) (hA _ _ h2) h3 h4,
   fun b c v u x z L N L' N' cs e own g k bP e' rC k' h1 h2 h3 h4 h5 h6=>hs.ar.xz b c v u x z L N L' N' cs e own g k bP e' rC k' (hA _ _ h1) (hA _ _ h2) h3 h4 h5 h6,fun b x e=>?_,fun b p e=>?_,fun b x L N e=>hs.ar.eV b x L N e,fun b v x L N cs e own g k h1 h2 h3=>?_,fun b v hb=>?_⟩
  ·obtain ⟨h1,h2⟩:=hs.ar.z x (sq x q)
   refine ⟨h1,fun c e=>?_⟩;rcases Kj c x e with ⟨_,rfl⟩ | e
   ·exact hy.fw (.inl (sq _ q))
   ·exact h2 c e
  ·rcases Kj b x e with ⟨rfl,_⟩ | e
   ·cases hb:E.α A.next with
    | none=>exact hb
    | some p=>have:=hs.ar.jP _ p hb; omega
   ·exact hs.ar.dis b x e
  ·have:=hs.ar.jP b p e; rw [ae.bX]; omega
  ·obtain ⟨h4,h5,h6⟩:=hs.ar.vD b v x L N cs e own g k (hA _ _ h1) h2 h3
   refine ⟨h4,h5,fun z hz cD=>?_⟩;obtain ⟨h7,h8,h9⟩:=h6 z hz cD;refine ⟨h7,fun q=>h8 (sq z q),fun c e'=>?_⟩;rcases Kj c z e' with ⟨_,rfl⟩ | e'
   ·exact hy.fw (.inr ⟨g,⟨b,v,x,L,N,cs,e,own,k,hA _ _ h1,h2,h3⟩,hz⟩)
   ·exact h9 c e'
  ·obtain ⟨h1,h2⟩:=hs.ar.nk b v (hA _ _ hb)
   rw [ae.bX];refine ⟨by omega,?_⟩;cases hk:(E.lP A.next y).κ b with
   | none=>rfl
   | some x=>
    rcases Kj b x hk with ⟨e,_⟩ | e
    ·omega
    ·rw [h2] at e; simp at e
 ·intro b x hb
  simp only [Env.lP] at hb;split at hb
  ·rename_i e; simp at hb; subst hb; exact .inr ⟨by have:=h.next; omega,hy.lo⟩
  ·exact h.new b x hb
theorem aiG {cfg:dF} (eW:rD P cfg.pc) {o:Oper} {p:Operand×List Operand} (hp:Mu o=some p) {t:bf} {A A' : ae} {v:KV} {base:Nat} {B:St} {ρ:Ren} {a:Act} {w:World} {next:Act->World->Prop} {Q:Exit->Act->World->Prop}
  (h:aI (xE (HW P cfg t p) t A) (v,A')) (hv:∀ x∈p.1::p.2,VC P E ρ (gD t x) (a.eval x)) (hj:KJ P E A B ρ base w)
  (hk:∀ E' B' aF v' w',VC P E' aF v v'->Ev P base E A B ρ w E' A' B' aF w'->next (a.put o.dst v') w'):o.wp P a w next Q:=by
 classical
 have aO:compile P o.op = .call p.1 p.2:=by
  unfold Mu at hp;split at hp
  ·rename_i c ho hg
   split at hp
   ·rename_i d hc
    simp at hp;subst hp;rw [ho];exact YV (cfg:=dF.none) (show lO P dF.none c=_ by unfold lO; rw [hc])
   ·simp at hp
  ·simp at hp
 unfold HW at h;split at h
 ·rename_i g hfv
  split at h
  ·rename_i F hF
   obtain ⟨u,h1,h2⟩:=aI.map h;simp only [dt] at h2;obtain ⟨rfl,rfl⟩:=h2;obtain ⟨hlen,hf⟩:=aI.cond h1;obtain ⟨hg,lI⟩:=eW g F hF _ _ hf (aL hlen);have cI:=rB P o;rw [aO] at cI;obtain ⟨em,h3,h4⟩:=mid (xs:=p.1::p.2) hv;obtain ⟨y,ys,e,h5,h6⟩:=h3.cons_inv;simp only [List.map_cons,List.cons.injEq] at e;obtain ⟨rfl,rfl⟩:=e;rw [hfv] at h5;obtain ⟨l,m,e5,e6,e7⟩:=h5.KB;have:=e6.b6;subst this;have:=e7.b6;subst this;obtain ⟨b7,h7,h8⟩:=cI.2 ρ em a.eval g (p.2.map em) h4 hg.1 (by rw [e5]; simp only [Cf]; rw [hg.1]; simp) hg.2;unfold Oper.wp;rw [h8 w];refine (lI E A B ρ base w b7 ⟨p.2.map em,by rw [vH]; exact h6,h7⟩ hj).mono ?_;rintro e w' ⟨v',E',B',aF,rfl,h9,px⟩;exact hk E' B' aF v' w' h9 px
  ·exact h.elim
 ·exact h.elim
inductive YZ (P:Program) (cfg:dF) (all:List Oper) (A:ae):List Oper->bf->List Out->bf->Prop where
 | nil {t:bf} : YZ P cfg all A [] t [] t
 | cons {o:Oper} {os:List Oper} {t t1 t' : bf} {wd:Bool} {v:KV} {L:List Out}
   (same:∀ i,t1.get i=t.get i) (want:H7 all o t wd)
   (yes:wd=true->(sB all o=true/\v = .bh)\/(sB all o=false/\(aI (xE (bw P cfg o.op) t1 A) (v,A)\/∃ p,Mu o=some p/\aI (xE (HW P cfg t1 p) t1 A) (v,A)))) (no:wd=false->v=tZ/\sB all o=false)
   (rest:YZ P cfg all A os (qO t1 o.dst v) L t'):YZ P cfg all A (o::os) t ((wd,v,A)::L) t'
theorem uh {o:Oper} {T:TypeId} {d:Tmp} (h:fQ o=some (T,d)):o.op = .alloc T/\o.guard=none/\o.dst=some d:=by
 unfold fQ at h;split at h
 ·rename_i T' d' h1 h2 h3
  simp at h;obtain ⟨rfl,rfl⟩:=h;exact ⟨h1,h2,h3⟩
 ·simp at h
theorem F6 {all:List Oper} {o:Oper} {T:TypeId} {d:Tmp} {x:Operand} (h:vy all o=some (T,d,x)):o.op = .store T (.tmp d) x/\o.guard=none/\o.dst=none/\zI d all=true:=by
 unfold vy at h;split at h
 ·rename_i T' d' x' h1 h2 h3
  cases hb:zI d' all with
  | false=>rw [hb] at h; simp at h
  | true=>
   rw [hb,aj] at h;simp at h;obtain ⟨rfl,rfl,rfl⟩:=h;exact ⟨h1,h2,h3,hb⟩
 ·simp at h
theorem TQ {all:List Oper} {o:Oper} (h:sB all o=true):(∃ T d,fQ o=some (T,d))\/∃ T d x,vy all o=some (T,d,x):=by
 unfold sB at h;simp only [ve,Q8] at h;rcases h with ⟨⟨T,d⟩,h⟩ | ⟨⟨T,d,x⟩,h⟩
 ·exact .inl ⟨T,d,h⟩
 ·exact .inr ⟨T,d,x,h⟩
theorem aiH {all:List Oper} {o:Oper} (h:sB all o=true):o.guard=none:=by
 rcases TQ h with ⟨T,d,h⟩ | ⟨T,d,x,h⟩
 ·exact (uh h).2.1
 ·exact (F6 h).2.1
theorem Jf {R:Type} {cfg:dF} {aR:kz R} {all:List Oper} {k:bf->ae->Option R} {r:R} : ∀ {os:List Oper} {t:bf} {A:ae},(∀ o∈os,sB all o=true\/cG (bw P cfg o.op)<=1\/(Mu o).isSome=true)->aaX P cfg aR all k os t A=some r->
  ∃ L t',YZ P cfg all A os t L t'/\k t' A=some r
 | [],t,A,_,h=>⟨[],t,.nil,h⟩
 | o::os,t,A,hn,h=>by
  have h:aiq P cfg aR all o (aaX P cfg aR all k os) t A=some r:=h;have Nr:=fun q hq=>hn q (r7 o hq);unfold aiq at h;cases hb:sB all o with
  | true=>
   rw [hb] at h;have h:aaX P cfg aR all k os (qO t o.dst .bh) A=some r:=h;obtain ⟨L,t',h1,h2⟩:=Jf Nr h;exact ⟨_,t',.cons (fun _=>rfl) (.inl ⟨aiH hb,rfl⟩) (fun _=>.inl ⟨hb,rfl⟩) (fun e=>by simp at e) h1,h2⟩
  | false=>
   rw [hb] at h;cases hdy:Mu o with
   | some p=>
    simp only [hdy] at h;have h:Ky aR t A (fun v A=>aaX P cfg aR all k os (qO t o.dst v) A) (HW P cfg t p)=some r:=h;have hg:o.guard=none:=by
     unfold Mu at hdy;split at hdy
     ·assumption
     ·simp at hdy
    have akg:HW P cfg t p = .bad\/∃ g f,HW P cfg t p = .EI g f p.2:=by
     unfold HW;split
     ·split
      ·exact .inr ⟨_,_,rfl⟩
      ·exact .inl rfl
     ·exact .inl rfl
    obtain ⟨v,A1,h1,h2⟩:=KF (fun f args e=>by
     rcases akg with h | ⟨g,f',h⟩ <;> rw [h] at e <;> simp at e) h
    have e:A1=A:=by
     rcases akg with h | ⟨g,f',h⟩
     ·rw [h] at h1; exact h1.elim
     ·rw [h] at h1
      obtain ⟨u,_,h3⟩:=aI.map h1;simp at h3;exact h3.2.symm
    subst e;obtain ⟨L,t',h3,h4⟩:=Jf Nr h2;exact ⟨_,t',.cons (fun _=>rfl) (.inl ⟨hg,rfl⟩) (fun _=>.inr ⟨hb,.inr ⟨p,hdy,h1⟩⟩) (fun e=>by simp at e) h3,h4⟩
   | none=>
   simp only [hdy] at h;have hk:cG (bw P cfg o.op)<=1:=by
    rcases hn o (by simp) with e | e | e
    ·rw [hb] at e; simp at e
    ·exact e
    ·rw [hdy] at e; simp at e
   have hk3:Nat.ble 3 (cG (bw P cfg o.op))=false:=by
    cases hc:Nat.ble 3 (cG (bw P cfg o.op)) with
    | false=>rfl
    | true=>have:=dX hc; omega
   have hnc:=zN (P:=P) (cfg:=cfg) (o:=o) (by omega);have h:AK P cfg aR all o (aaX P cfg aR all k os) t A=some r:=h;unfold AK at h;cases hg:o.guard with
   | none=>
    rw [hg] at h;obtain ⟨v,A1,h1,h2⟩:=KF hnc h;have e:=EU h1 hk3;subst e;obtain ⟨L,t',h3,h4⟩:=Jf Nr h2;exact ⟨_,t',.cons (fun _=>rfl) (.inl ⟨hg,rfl⟩) (fun _=>.inr ⟨hb,.inl h1⟩) (fun e=>by simp at e) h3,h4⟩
   | some p=>
    obtain ⟨j,want⟩:=p;rw [hg] at h;obtain ⟨d,hd,h⟩:=Jd h;rcases h with ⟨b,t1,h1,h2,h3⟩ | ⟨l,h1,h2⟩
    ·rcases h3 with ⟨h3,h4⟩ | ⟨h3,h4⟩
     ·obtain ⟨v,A1,h5,h6⟩:=KF hnc h4
      have e:=EU h5 hk3;subst e;obtain ⟨L,t',h7,h8⟩:=Jf Nr h6;exact ⟨_,t',.cons h2 (.inr ⟨j,want,d,hg,hd,.inl ⟨b,h1,h3.symm⟩⟩) (fun _=>.inr ⟨hb,.inl h5⟩) (fun e=>by simp at e) h7,h8⟩
     ·obtain ⟨L,t',h7,h8⟩:=Jf Nr h4
      exact ⟨_,t',.cons h2 (.inr ⟨j,want,d,hg,hd,.inl ⟨b,h1,h3.symm⟩⟩) (fun e=>by simp at e) (fun _=>⟨rfl,hb⟩) h7,h8⟩
    ·obtain ⟨L,t',h7,h8⟩:=Jf Nr h2
     exact ⟨_,t',.cons (fun _=>rfl) (.inr ⟨j,want,d,hg,hd,.inr ⟨l,h1,rfl⟩⟩) (fun e=>by simp at e) (fun _=>⟨rfl,hb⟩) h7,h8⟩
theorem YZ.at {cfg:dF} {all:List Oper} {A:ae} : ∀ {os:List Oper} {t t' : bf} {L:List Out},YZ P cfg all A os t L t'->
  L.length=os.length/\(∀ y,t'.get y=(gZ (fun _=>true) os L 0 t).get y)/\
  ∀ i o x,os[i]? = some o->L[i]? = some x->∃ t1,(∀ y,t1.get y=(gZ (fun j=>Nat.blt j i) os L 0 t).get y)/\H7 all o t1 x.1/\(x.1=true->(sB all o=true/\x.2.1 = .bh)\/(sB all o=false/\(aI (xE (bw P cfg o.op) t1 A) (x.2.1,A)\/∃ p,Mu o=some p/\aI (xE (HW P cfg t1 p) t1 A) (x.2.1,A))))/\(x.1=false->x.2.1=tZ/\sB all o=false)
 | _,_,_,_,.nil=>⟨rfl,fun _=>rfl,fun i o x ho=>by simp at ho⟩
 | o::os,t,t',(wd,v,_)::L,.cons (t1:=t1) same want yes no rest=>by
  obtain ⟨h1,h2,h4⟩:=rest.at;have Vh:∀ y,(qO t1 o.dst v).get y=(qO t o.dst v).get y:=fun y=>by rw [vI,vI,same]
  refine ⟨by simp [h1],fun y=>?_,fun i q x hq hx=>?_⟩
  ·rw [h2 y]
   simp only [gZ,aj];rw [ET];exact kT (Vh y) fun _ _ _ _=>rfl
  ·cases i with
   | zero=>
    simp at hq hx;subst hq hx;have e0:∀ (os:List Oper) (L:List Out) (k:Nat) (t:bf),gZ (fun j=>Nat.blt j 0) os L k t=t:=by
     intro os
     induction os with
     | nil=>intro L k t; cases L <;> rfl
     | cons o os ih=>intro L k t; cases L with
      | nil=>rfl
      | cons x L=>simp only [gZ]; exact ih L _ t
    refine ⟨t1,fun y=>by rw [e0]; exact same y,?_,yes,no⟩;rcases want with h | ⟨j,wt,d,e2,e3,e4⟩
    ·exact .inl h
    ·exact .inr ⟨j,wt,d,e2,e3,by rw [same]; exact e4⟩
   | succ i=>
    obtain ⟨t2,h5,h6,h7,h8⟩:=h4 i q x (by simpa using hq) (by simpa using hx);have hsh:(fun j=>Nat.blt (j+1) (i+1))=fun j=>Nat.blt j i:=by
     funext j;cases hb:Nat.blt j i with
     | true=>rw [bI] at hb ⊢; omega
     | false=>
      cases hc:Nat.blt (j+1) (i+1) with
      | false=>rfl
      | true=>rw [bI] at hc; rw [show Nat.blt j i=true from by rw [bI]; omega] at hb; simp at hb
    have h01:Nat.blt 0 (i+1)=true:=by rw [bI]; omega
    refine ⟨t2,fun y=>?_,h6,h7,h8⟩;rw [h5 y];simp only [gZ,h01,aj];rw [ET,hsh];exact kT (Vh y) fun _ _ _ _=>rfl
theorem Jg {cfg:dF} {all:List Oper} {b:List Nat} {i:Nat} {y:Oper} : ∀ (xs:List Oper) (k:Nat),Iz P cfg all b i y xs k=true->∀ (j:Nat) (x:Oper),xs[j]? = some x->k+j < i->wT P cfg all x y=true->oM b i (k+j)=true
 | [],k,_,j,x,hx,_,_=>by simp at hx
 | x0::xs,k,h,0,x,hx,bm,hc=>by
  simp at hx;subst hx;simp only [Iz,ao,ve,ma] at h;rcases h.1 with (h1 | h1) | h1
  ·have:=dX h1; omega
  ·rw [hc] at h1; simp at h1
  ·exact h1
 | x0::xs,k,h,j+1,x,hx,bm,hc=>by
  simp only [Iz,ao] at h;have:=Jg xs (k+1) h.2 j x (by simpa using hx) (by omega) hc;rwa [show k+1+j=k+(j+1) by omega] at this
theorem EX {cfg:dF} {all:List Oper} {b:List Nat} : ∀ (os:List Oper) (k:Nat),CM P cfg all b os k=true->∀ (i:Nat) (o:Oper),os[i]? = some o->Iz P cfg all b (k+i) o all 0=true
 | [],k,_,i,o,ho=>by simp at ho
 | o0::os,k,h,0,o,ho=>by
  simp at ho;subst ho;simp only [CM,ao] at h;exact h.1
 | o0::os,k,h,i+1,o,ho=>by
  simp only [CM,ao] at h;have:=EX os (k+1) h.2 i o (by simpa using ho);rwa [show k+1+i=k+(i+1) by omega] at this
theorem SC {i:Nat} {d:Tmp} : ∀ (os:List Oper) (k:Nat),Mt i d os k=true->∀ (j:Nat) (o:Oper),os[j]? = some o->k+j≠i->o.dst≠some d
 | [],k,_,j,o,ho,_=>by simp at ho
 | q::os,k,h,0,o,ho,cD=>by
  simp at ho;subst ho;simp only [Mt,ao,ve,ma] at h;rcases h.1 with h1 | h1
  ·exact absurd (aL h1) (by simpa using cD)
  ·intro e
   rw [e,Dx (by simp)] at h1;simp at h1
 | q::os,k,h,j+1,o,ho,cD=>by
  simp only [Mt,ao] at h;exact SC os (k+1) h.2 j o (by simpa using ho) (by omega)
theorem OL {all:List Oper} {i:Nat} {d:Tmp} : ∀ (os:List Oper) (k:Nat),EM all i d os k=true->∀ (j:Nat) (o:Oper),os[j]? = some o->k+j≠i->∀ T x,vy all o≠some (T,d,x)
 | [],k,_,j,o,ho,_=>by simp at ho
 | q::os,k,h,0,o,ho,cD=>by
  simp at ho;subst ho;simp only [EM,ao,ve] at h;intro T x e;rcases h.1 with h1 | h1
  ·exact absurd (aL h1) (by simpa using cD)
  ·rw [e] at h1
   simp at h1
 | q::os,k,h,j+1,o,ho,cD=>by
  simp only [EM,ao] at h;exact OL os (k+1) h.2 j o (by simpa using ho) (by omega)
theorem P9 {d:Tmp} : ∀ {os:List Oper},zI d os=true->∃ (j:Nat) (o:Oper) (T:TypeId),os[j]? = some o/\fQ o=some (T,d)
 | [],h=>by simp [zI] at h
 | o::os,h=>by
  simp only [zI,ve] at h;rcases h with h | h
  ·split at h
   ·rename_i T e he
    have:=aL h;subst this;exact ⟨0,o,T,rfl,he⟩
   ·simp at h
  ·obtain ⟨j,q,T,h1,h2⟩:=P9 h
   exact ⟨j+1,q,T,by simpa using h1,h2⟩
structure adO (P:Program) (cfg:dF) (all:List Oper):Prop where
 ord:abu P cfg all
 kind:∀ o∈all,sB all o=true\/cG (bw P cfg o.op)<=1\/(Mu o).isSome=true
 dst:∀ (i:Nat) (o:Oper) (T:TypeId) (d:Tmp),all[i]? = some o->fQ o=some (T,d)->∀ (j:Nat) (q:Oper),all[j]? = some q->j≠i->q.dst≠some d
 st:∀ (i:Nat) (o:Oper) (T:TypeId) (d:Tmp) (x:Operand),all[i]? = some o->vy all o=some (T,d,x)->uJ i x all 0=true/\(∀ (j:Nat) (q:Oper),all[j]? = some q->j≠i->∀ T' x',vy all q≠some (T',d,x'))/\(∃ (j:Nat) (q:Oper) (T' : TypeId),j < i/\all[j]? = some q/\fQ q=some (T',d))/\x≠.tmp d
theorem Qa {all:List Oper} : ∀ (os:List Oper) (k:Nat),PJ all os k=true->∀ (i:Nat) (o:Oper),os[i]? = some o->
  (∀ T d,fQ o=some (T,d)->Mt (k+i) d all 0=true)/\∀ T d x,vy all o=some (T,d,x)->uJ (k+i) x all 0=true/\EM all (k+i) d all 0=true/\zI d (all.take (k+i))=true/\x≠.tmp d
 | [],k,_,i,o,ho=>by simp at ho
 | o0::os,k,h,0,o,ho=>by
  simp at ho;subst ho;simp only [PJ,ao] at h;refine ⟨fun T d e=>?_,fun T d x e=>?_⟩
  ·have:=h.1.1
   rw [e] at this;exact this
  ·have:=h.1.2
   rw [e] at this;simp only [ao,ma] at this;refine ⟨this.1.1.1,this.1.1.2,this.1.2,fun e2=>?_⟩;have h3:=this.2;rw [e2,Dx (by simp [tW])] at h3;simp at h3
 | o0::os,k,h,i+1,o,ho=>by
  simp only [PJ,ao] at h;have:=Qa os (k+1) h.2 i o (by simpa using ho);rwa [show k+1+i=k+(i+1) by omega] at this
theorem agJ {cfg:dF} {all:List Oper} (h:U5 P cfg all=true):adO P cfg all:=by
 unfold U5 at h;simp only [ao] at h;obtain ⟨⟨⟨h1,h2⟩,h3⟩,h4⟩:=h;refine ⟨⟨GA h1,fun {i j x y} hy hx bm hc=>?_⟩,fun o ho=>?_,fun i o T d ho he j q hq cD=>?_,fun i o T d x ho he=>?_⟩
 ·have:=EX all 0 h3 i y hy
  rw [bd] at this;have:=Jg all 0 this j x hx (by omega) hc;rwa [bd] at this
 ·have:=fk.1 h2 o ho
  simp only [ve] at this;rcases this with (h | h) | h
  ·exact .inl h
  ·exact .inr (.inl (dX h))
  ·exact .inr (.inr h)
 ·have:=(Qa all 0 h4 i o ho).1 T d he
  rw [bd] at this;exact SC all 0 this j q hq (by omega)
 ·have:=(Qa all 0 h4 i o ho).2 T d x he
  rw [bd] at this;refine ⟨this.1,fun j q hq cD T' x'=>OL all 0 this.2.1 j q hq (by omega) T' x',?_,this.2.2.2⟩;obtain ⟨j,q,T',h5,h6⟩:=P9 this.2.2.1;rw [mn] at h5;split at h5
  ·rename_i bm; exact ⟨j,q,T',bm,h5,h6⟩
  ·simp at h5
theorem FG {all:List Oper} {d:Tmp} {T:TypeId} {x:Operand} : ∀ {os:List Oper},vz all d os=some (T,x)->∃ (i:Nat) (o:Oper),os[i]? = some o/\vy all o=some (T,d,x)
 | [],h=>by simp [vz] at h
 | o::os,h=>by
  unfold vz at h;split at h
  ·rename_i T' e x' he
   cases hb:Nat.beq d e with
   | true=>
    rw [hb,aj] at h;have:=aL hb;subst this;simp at h;obtain ⟨rfl,rfl⟩:=h;exact ⟨0,o,rfl,he⟩
   | false=>
    rw [hb,aH] at h;obtain ⟨i,q,h1,h2⟩:=FG h;exact ⟨i+1,q,by simpa using h1,h2⟩
  ·obtain ⟨i,q,h1,h2⟩:=FG h
   exact ⟨i+1,q,by simpa using h1,h2⟩
theorem FH {all:List Oper} {d:Tmp} : ∀ {os:List Oper},vz all d os=none->∀ (i:Nat) (o:Oper),os[i]? = some o->∀ T x,vy all o≠some (T,d,x)
 | [],_,i,o,ho=>by simp at ho
 | q::os,h,i,o,ho=>by
  unfold vz at h;intro T x e;split at h
  ·rename_i T' e' x' he
   cases hb:Nat.beq d e' with
   | true=>rw [hb] at h; simp at h
   | false=>
    rw [hb,aH] at h;cases i with
    | zero=>
     simp at ho;subst ho;rw [he] at e;simp at e;rw [e.2.1,tT] at hb;simp at hb
    | succ i=>exact FH h i o (by simpa using ho) T x e
  ·rename_i hn
   cases i with
   | zero=>simp at ho; subst ho; rw [hn] at e; simp at e
   | succ i=>exact FH h i o (by simpa using ho) T x e
theorem Jh {all:List Oper} {t:bf} {T:TypeId} {d:Tmp} {cs:List KV} (h:zJ P all t T d=some cs):∃ z,yp P T=some z/\flat z=true/\z.cells.toList.all scalar=true/\gJ (fE z).cells=true/\some (fE z).cells.length=size? P T/\
  (∀ T' x,vz all d all=some (T',x)->T=T'/\some (gD t x).cells.length=size? P T/\gJ (gD t x).cells=true/\cs=(gD t x).cells)/\(vz all d all=none->cs=(fE z).cells):=by
 unfold zJ at h;split at h
 ·rename_i z hz
  cases hb:(flat z&&z.cells.toList.all scalar&&gJ (fE z).cells&&decide (some (fE z).cells.length=size? P T)) with
  | false=>rw [hb] at h; simp at h
  | true=>
   rw [hb,aj] at h;simp only [ao,l9] at hb;refine ⟨z,hz,hb.1.1.1,hb.1.1.2,hb.1.2,hb.2,fun T' x hs=>?_,fun hs=>?_⟩
   ·rw [hs] at h
    simp only at h;cases hc:(Nat.beq T T'&&decide (some (gD t x).cells.length=size? P T)&&gJ (gD t x).cells) with
    | false=>rw [hc] at h; simp at h
    | true=>
     rw [hc,aj] at h;simp only [ao,l9] at hc;exact ⟨aL hc.1.1,hc.1.2,hc.2,by simpa using h.symm⟩
   ·rw [hs] at h
    simpa using h.symm
 ·simp at h
theorem TR {R:Type} {all:List Oper} {t0:bf} {k:bf->ae->Option R} {r:R} : ∀ {os:List Oper} {t:bf} {A:ae},YN P all t0 k os t A=some r->∀ o∈os,∀ T d,fQ o=some (T,d)->∃ cs,zJ P all t0 T d=some cs
 | [],_,_,_,o,ho,_,_,_=>by simp at ho
 | q::os,t,A,h,o,ho,T,d,he=>by
  have h:Option.rec (motive:=fun _=>Option R) (YN P all t0 k os t A) (fun p=>
   Option.rec (motive:=fun _=>Option R) none (fun cs=>YN P all t0 k os (t.set (.ptr A.next 0) p.2) (A.new (.row cs (oY P p.1)))) (zJ P all t0 p.1 p.2)) (fQ q)=some r:=h
  cases hq:fQ q with
  | none=>
   rw [hq] at h;rcases de.1 ho with rfl | ho
   ·rw [hq] at he; simp at he
   ·exact TR h o ho T d he
  | some p=>
   rw [hq] at h;cases hc:zJ P all t0 p.1 p.2 with
   | none=>simp only [hc] at h; exact absurd h (by simp)
   | some cs=>
    simp only [hc] at h;rcases de.1 ho with rfl | ho
    ·rw [hq] at he
     simp at he;subst he;exact ⟨cs,hc⟩
    ·exact TR h o ho T d he
end Go.K
end
section
namespace Go.K
open Go Go.aG
variable {P:Program} {E:Env}
theorem Y0:∀ {l vs:List Value},l.length=vs.length->gH 0 l vs=some vs
 | [],[],_=>rfl
 | [],_::_,h=>by simp at h
 | _::_,[],h=>by simp at h
 | x::l,v::vs,h=>by rw [yT,Y0 (by simpa using h)]; rfl
theorem aad {a:Act} {d:Tmp} {v:Value} (h:d < a.tmps.size):(a.put (some d) v).tmps.getD d undef=v:=by
 simp [Act.put,kY,h]
theorem aae {a:Act} {dst:Option Tmp} {d:Tmp} {v:Value} (h:dst≠some d):(a.put dst v).tmps.getD d undef=a.tmps.getD d undef:=by
 cases dst with
 | none=>rfl
 | some e=>
  have cD:e≠d:=fun q=>h (by rw [q]);simp [Act.put,kY,Array.getElem?_setIfInBounds_ne cD]
def aqw (P:Program) (E:Env) (all:List Oper) (tn:bf) (S:Nat->Bool) (T:TypeId) (d:Tmp) (bP:List Value):Prop:=
 some bP.length=size? P T/\(∀ (i:Nat) (o:Oper) T' x,all[i]? = some o->vy all o=some (T',d,x)->S i=true->aV P E (gD tn x).cells bP)/\
  ((∀ (i:Nat) (o:Oper) T' x,all[i]? = some o->vy all o=some (T',d,x)->S i=false)->∃ z,yp P T=some z/\aV P E (fE z).cells bP)
def aaf (P:Program) (E:Env) (A:ae) (B:St) (ρ:Ren) (b0:Nat) (all:List Oper) (tn:bf) (S:Nat->Bool) (a:Act) (y:Nat->Nat):Prop:=
 ∀ (j:Nat) (o:Oper) (T:TypeId) (d:Tmp),all[j]? = some o->fQ o=some (T,d)->S j=true->
  VR ρ (IK (y j)) (a.tmps.getD d undef)/\Fr E A B b0 (y j)/\(∃ bP,B.get (y j)=some (.row bP (oY P T) true none)/\aqw P E all tn S T d bP)/\
  ∀ (j' : Nat) (o' : Oper) (T' : TypeId) (d' : Tmp),all[j']? = some o'->fQ o' = some (T',d')->S j' = true->y j' = y j->j' = j
theorem LH {all:List Oper} {o:Oper} {T:TypeId} {d:Tmp} (h:fQ o=some (T,d)):vy all o=none:=by
 cases hb:vy all o with
 | none=>rfl
 | some p=>
  obtain ⟨T',d',x⟩:=p;have h1:=(uh h).1;have h2:=(F6 hb).1;rw [h1] at h2;simp at h2
theorem gb {S:Nat->Bool} {i j:Nat} (h:j≠i):cP S i j=S j:=by
 unfold cP;cases hb:Nat.beq j i with
 | false=>simp
 | true=>exact absurd (aL hb) h
theorem CQ {S:Nat->Bool} {i:Nat} : cP S i i=true:=by simp [cP]
theorem aaf.step {E' : Env} {A:ae} {B B' : St} {ρ aF:Ren} {base b0:Nat} {w w' : World} {all:List Oper} {tn:bf} {S:Nat->Bool} {a:Act} {y:Nat->Nat} {i:Nat} {o:Oper} {v' : Value} {cfg:dF} (h:aaf P E A B ρ b0 all tn S a y) (hf:adO P cfg all)
  (ho:all[i]? = some o) (hb:sB all o=false) (k:Ev P base E A B ρ w E' A B' aF w') (kK:ρ.le aF):aaf P E' A B' aF b0 all tn (cP S i) (a.put o.dst v') y:=by
 intro j q T d hq he hS;have cD:∀ (m:Nat) (q:Oper),all[m]? = some q->sB all q=true->m≠i:=fun m q hm Bp e=>by
  subst e;rw [ho] at hm;simp at hm;subst hm;rw [hb] at Bp;simp at Bp
 have hal:∀ {q:Oper} {T:TypeId} {d:Tmp},fQ q=some (T,d)->sB all q=true:=fun e=>by unfold sB; rw [e]; rfl
 have gz:∀ {q:Oper} {T:TypeId} {d:Tmp} {x:Operand},vy all q=some (T,d,x)->sB all q=true:=fun e=>by unfold sB; rw [e]; simp
 have hji:=cD j q hq (hal he);rw [gb hji] at hS;obtain ⟨h1,h2,⟨bP,h3,h4,h5,h6⟩,h7⟩:=h j q T d hq he hS;obtain ⟨h8,h9⟩:=h2.step k;refine ⟨?_,h8,⟨bP,by rw [h9]; exact h3,h4,fun m q' T' x hm TS XC=>?_,fun hn=>?_⟩,fun j' o' T' d' AH Lv hS'=>?_⟩
 ·rw [aae (hf.dst j q T d hq he i o ho (Ne.symm hji))]
  exact h1.mono kK
 ·rw [gb (cD m q' hm (gz TS))] at XC
  exact (h5 m q' T' x hm TS XC).mono k.le
 ·obtain ⟨z,px,GD⟩:=h6 fun m q' T' x hm TS=>by
   have:=hn m q' T' x hm TS;rwa [gb (cD m q' hm (gz TS))] at this
  exact ⟨z,px,GD.mono k.le⟩
 ·rw [gb (cD j' o' AH (hal Lv))] at hS'
  exact h7 j' o' T' d' AH Lv hS'
theorem TT {R:Type} {all:List Oper} {tn:bf} {k:bf->ae->Option R} {r:R} {E0:Env} {A0:ae} {B0 B:St} {Xd ρ:Ren} {w0 w:World} {base N:Nat} {a:Act} {y:Nat->Nat} : ∀ (os:List Oper) (m:Nat) (t:bf) (E:Env) (A:ae),all.drop m=os->YN P all tn k os t A=some r->
  Ev P base E0 A0 B0 Xd w0 E A B ρ w->iZ P E ρ t N a->(∀ (j:Nat) (o:Oper) T d,m<=j->all[j]? = some o->fQ o=some (T,d)->d < N)->
  (∀ (j:Nat) (o:Oper) (T:TypeId) (d:Tmp),m<=j->all[j]? = some o->fQ o=some (T,d)->VR ρ (IK (y j)) (a.tmps.getD d undef)/\Fr E A B B0.next (y j)/\(∀ cs,zJ P all tn T d=some cs->∃ bP,B.get (y j)=some (.row bP (oY P T) true none)/\aV P E cs bP)/\
   ∀ (j' : Nat) (o' : Oper) (T' : TypeId) (d' : Tmp),m<=j'->all[j']? = some o'->fQ o' = some (T',d')->y j' = y j->j' = j)->
  ∃ t' E' A',k t' A' = some r/\iZ P E' ρ t' N a/\Ev P base E0 A0 B0 Xd w0 E' A' B ρ w
 | [],m,t,E,A,_,h,sD,ht,_,_=>⟨t,E,A,h,ht,sD⟩
 | o::os,m,t,E,A,hd,h,sD,ht,hN,hb=>by
  have ho:all[m]? = some o:=by
   have:(all.drop m)[0]? = some o:=by rw [hd]; rfl
   rw [pf] at this;simpa using this
  have hd' : all.drop (m+1)=os:=by rw [<- List.drop_drop,hd]; rfl
  have h:Option.rec (motive:=fun _=>Option R) (YN P all tn k os t A) (fun p=>
   Option.rec (motive:=fun _=>Option R) none (fun cs=>YN P all tn k os (t.set (.ptr A.next 0) p.2) (A.new (.row cs (oY P p.1)))) (zJ P all tn p.1 p.2)) (fQ o)=some r:=h
  cases hq:fQ o with
  | none=>
   rw [hq] at h;exact TT (y:=y) os (m+1) t E A hd' h sD ht (fun j o' T d hj=>hN j o' T d (by omega)) fun j o' T d hj ho' he=>by
    obtain ⟨h1,h2,h3,h4⟩:=hb j o' T d (by omega) ho' he;exact ⟨h1,h2,h3,fun j' o'' T' d' AH=>h4 j' o'' T' d' (by omega)⟩
  | some p=>
   obtain ⟨T,d⟩:=p;rw [hq] at h;cases hc:zJ P all tn T d with
   | none=>simp only [hc] at h; exact absurd h (by simp)
   | some cs=>
    simp only [hc] at h;obtain ⟨h1,h2,h3,h4⟩:=hb m o T d (aC m) ho hq;obtain ⟨bP,h5,h6⟩:=h3 cs hc;obtain ⟨hle,aqx⟩:=apF (cs:=cs) sD h2 h5 h6;have Kj:(E.lP A.next (y m)).κ A.next=some (y m):=by simp [Env.lP]
    refine TT (y:=y) os (m+1) _ (E.lP A.next (y m)) (A.new (.row cs (oY P T))) hd' h aqx ⟨ht.size,fun i=>?_,fun i hi=>?_⟩ (fun j o' T d hj=>hN j o' T d (by omega)) fun j o' T' d' hj ho' he=>?_
    ·rw [Trie.oX]
     by_cases Dq:i=d
     ·subst Dq
      rw [aD rfl];exact ⟨_,.Cg Kj,h1⟩
     ·rw [aa Dq]
      exact (ht.val i).mono hle (fun _ _ e=>e)
    ·rw [Trie.oX,aa]
     ·exact ht.none i hi
     ·intro e
      subst e;exact absurd (hN m o T i (aC m) ho hq) (Nat.not_lt_of_le hi)
    ·obtain ⟨g1,g2,g3,g4⟩:=hb j o' T' d' (by omega) ho' he
     have aqy:y j≠y m:=fun e=>by have:=h4 j o' T' d' (by omega) ho' he e; omega
     refine ⟨g1,⟨g2.lo,g2.hi,fun b e=>?_,g2.z,fun q=>?_⟩,fun mg hc0=>?_,fun j' o'' T'' d'' AH=>g4 j' o'' T'' d'' (by omega)⟩
     ·simp only [Env.lP] at e
      split at e
      ·simp at e; exact aqy e.symm
      ·exact g2.un b e
     ·have hA:∀ (b:Nat) (v:KV),(A.new (.row cs (oY P T))).get b=some (.arr v)->A.get b=some (.arr v):=fun b v hb=>by
       rw [ae.cp] at hb;split at hb
       ·simp at hb
       ·exact hb
      exact g2.fw (q.of (fun _=>rfl) hA (fun _ _=>rfl) fun _ _=>rfl)
     ·obtain ⟨oO,g5,g6⟩:=g3 mg hc0
      exact ⟨oO,g5,g6.mono hle⟩
theorem agK {R:Type} {cfg:dF} {aR:kz R} (eW:rD P cfg.pc) (hm:P.follows .mixedOrders=true) {id:Nat} {all:List Oper} {N base:Nat} (hdN:all.all (Ll N)=true) {k:bf->ae->Option R} {r:R} {t:bf} {A:ae} {B:St} {ρ:Ren} {a:Act} {w:World} {Q:Exit->Act->World->Prop}
  (MF:U5 P cfg all=true) (h:aaX P cfg aR all (fun t A=>YN P all t k all t A) all t A=some r) (ht:iZ P E ρ t N a) (hj:KJ P E A B ρ base w)
  (hq:∀ t' E' A' B' aF a' w',k t' A' = some r->iZ P E' aF t' N a'->a'.defers=a.defers->Ev P base E A B ρ w E' A' B' aF w'->Q .normal a' w'):(Code.region id ⟨all⟩ true).wp P Q a w:=by
 classical
 have hf:=agJ MF;obtain ⟨L,tn,lI,hk⟩:=Jf hf.kind h;obtain ⟨hlen,RR,vc⟩:=lI.at;have wN:=TR hk;have P8:Ev P base E A B ρ w E A B ρ w.drew:=(cN.refl hj.k).ev (jb.drew hj.s);have Jb:∀ (i:Nat) (o:Oper),all[i]? = some o->∀ d,o.dst=some d->d < N:=by
  intro i o ho d ed;have:=fk.1 hdN o (gu ho);unfold Ll at this;rw [ed] at this;simp only at this;rw [bI] at this;exact this
 refine wp_region_any hm ?_;show wpAny P .any ⟨all⟩ Q all.length (Array.replicate all.length false) a w.drew;have GG:∀ i,(Array.replicate all.length false).getD i false=false:=by
  intro i;rw [kY,Array.getElem?_replicate];split <;> rfl
 let Inv:(Nat->Bool)->Act->World->Prop:=fun S a' w'=>∃ E' B' aF y,a'.defers=a.defers/\Ev P base E A B ρ w.drew E' A B' aF w'/\iZ P E' aF (gZ S all L 0 t) N a'/\aaf P E' A B' aF B.next all tn S a' y
 refine HU hf.ord.TM Inv ?_ ?_ ?_ all.length _ a w.drew (by simp) ?_ (fun i j hi _=>by
   have h2:(Array.replicate all.length false).getD i false=true:=hi;rw [GG] at h2; simp at h2) ⟨E,B,ρ,fun _=>0,rfl,.refl hj.k P8.eJ.fY,?_,?_⟩
 ·
  rintro S S' a' w' hSS ⟨E',B',aF,y,h1,h2,h3,h4⟩;have hS:∀ (i:Nat) (o:Oper),all[i]? = some o->S i=S' i:=fun i o ho=>hSS i (cH.1 ho).1;refine ⟨E',B',aF,y,h1,h2,h3.same fun z=>kT rfl fun i o ho _=>by rw [bd]; exact (hS i o ho).symm,fun j o T d ho he LI=>?_⟩;obtain ⟨q1,q2,⟨bP,q3,q4,q5,q6⟩,q7⟩:=h4 j o T d ho he (by rw [hS j o ho]; exact LI);exact ⟨q1,q2,⟨bP,q3,q4,fun m q T' x hm TS XC=>q5 m q T' x hm TS (by rw [hS m q hm]; exact XC),fun hn=>q6 fun m q T' x hm TS=>by rw [hS m q hm]; exact hn m q T' x hm TS⟩,fun j' o' T' d' AH Lv hS'=>q7 j' o' T' d' AH Lv (by rw [hS j' o' AH]; exact hS')⟩
 ·
  rintro S a' w' i o ⟨E',B',aF,y,h1,h2,h3,h4⟩ hc ho sA vd _;have hi:i < L.length:=by rw [hlen]; exact (cH.1 ho).1
  have hx:L[i]? = some L[i]:=cJ hi;obtain ⟨t1,vG,hw,agI,NT⟩:=vc i o L[i] ho hx;have EV:∀ z∈nZ P cfg all o,t1.get z=(gZ S all L 0 t).get z:=fun z hz=>by rw [vG z,abw hf.ord hc ho sA vd hz]
  have EW:=y7 h3 (fun z hz=>EV z (by unfold nZ; exact List.mem_append_left _ hz)) hw;have hoA:(⟨all⟩:Array Oper)[i]? = some o:=by simpa using ho
  unfold wpOp;rw [hoA];simp only [EW];cases Es:L[i].1 with
  | false=>
   simp only [HL,if_false];obtain ⟨hv,hnb⟩:=NT Es;refine ⟨E',B',aF,y,by rw [put_defers]; exact h1,h2,?_,h4.step hf ho hnb (.refl h2.fY h2.eJ.fY) (fun _ _ e=>e)⟩;refine (h3.put (Jb i o ho) VC.undef).same fun z=>?_;rw [MD hf.ord hc ho hx sA z,hv]
  | true=>
   simp only [if_true];refine .inl ?_;rcases agI Es with ⟨TS,hv⟩ | ⟨hnb,hg⟩
   ·rcases TQ TS with ⟨T,d,he⟩ | ⟨T,d,x,he⟩
    ·
     obtain ⟨e1,e2,e3⟩:=uh he;obtain ⟨cs,Ls⟩:=wN o (gu ho) T d he;obtain ⟨z,Lr,C5,hz3,hz4,hz5,_⟩:=Jh Ls;have aO:compile P o.op = .make (Nc P T) []:=by rw [e1]; rfl
     obtain ⟨xC,v',w2,hr1,yS,hr3⟩:=Xt (em:=fun _=>undef) (cF:=a'.eval) (obj:=HP (oY P T) z) (mk:=IK) aO h2.eJ.fY (fun x hx=>by simp at hx) (by simp only [Nc,Lr,dQ,C5,hz3,cz,aj]);unfold Oper.wp;rw [hr1];have dT:d < a'.tmps.size:=by rw [h3.size]; exact Jb i o ho d e3
     have hnx:=h2.eJ.next;have kK:=hr3.le h2.eJ.fY;have gz:=aqu (bP:=z.cells.toList) (bp:=oY P T) h2.fY;have sD:Ev P base E' A B' aF w' E' A (B'.new (HP (oY P T) z)) xC w2:=gz.ev hr3;refine ⟨E',B'.new (HP (oY P T) z),xC,fun m=>if m=i then B'.next else y m,by rw [put_defers]; exact h1,h2.trans sD,?_,fun j q U c hq Mn hS=>?_⟩
     ·refine ((h3.mono (Env.le_refl _) kK).put (v:=.bh) (Jb i o ho) ⟨.chan none,.vC,by simp [VR]⟩).same fun z=>?_
      rw [MD hf.ord hc ho hx sA z,hv]
     ·have hold:∀ (m:Nat) (q:Oper) (U:TypeId) (c:Tmp),all[m]? = some q->fQ q=some (U,c)->cP S i m=true->m≠i->S m=true:=fun m q U c _ _ hS cD=>by rwa [gb cD] at hS
      have XD:∀ (m:Nat) (q:Oper) (U:TypeId) (c:Tmp) (x:Operand),all[m]? = some q->vy all q=some (U,c,x)->m≠i:=fun m q U c x hm Bp e=>by
       subst e;rw [ho] at hm;simp at hm;subst hm;rw [LH he] at Bp;simp at Bp
      by_cases hji:j=i
      ·subst hji
       rw [ho] at hq;simp at hq;subst hq;rw [he] at Mn;simp at Mn;obtain ⟨rfl,rfl⟩:=Mn;simp only [if_true];refine ⟨?_,⟨hnx,by simp,fun b e=>?_,?_,fun q=>?_⟩,⟨z.cells.toList,by simp [HP],?_,fun m q T' x hm Bp XC=>?_,fun _=>⟨z,Lr,EO hz4⟩⟩,fun j' o' T' d' AH Lv hS' hy=>?_⟩
       ·rw [e3,aad dT]; exact yS
       ·have:=h2.fY.eV b _ e; omega
       ·cases hzz:E'.z B'.next with
        | none=>rfl
        | some r=>have:=h2.fY.lJ _ r hzz; omega
       ·rcases q with q | ⟨g,_,q⟩
        ·obtain ⟨b,v,L',N',q1,q2⟩:=q
         have:=h2.fY.ar.eV b _ _ _ q2;omega
        ·rw [HP,St.jq] at q
         have:=h2.fY.mem g _ q;omega
       ·rw [<- (EO (P:=P) (E:=E') hz4).length] at hz5
        exact hz5
       ·
        exfalso;have hmi:=XD m q T' d x hm Bp;rw [gb hmi] at XC;obtain ⟨_,_,⟨j0,q0,T0,bm,hq0,he0⟩,_⟩:=hf.st m q T' d x hm Bp;have:j0=j:=by
         by_cases hjj:j0=j
         ·exact hjj
         ·exact absurd (uh he0).2.2 (hf.dst j o T d ho he j0 q0 hq0 hjj)
        subst this;have hb:oM (dG [] all) m j0=true:=hf.ord.Gu hm hq0 bm (by
         unfold wT;rw [(uh he0).2.2,show Pu (some d) (nZ P cfg all q)=true from Dx (by
          unfold nZ;refine List.mem_append_right _ ?_;rw [(F6 Bp).1];exact kH (show Operand.tmp d∈[Operand.tmp d,x] by simp))]
         rfl)
        have:=hc m j0 XC hb;rw [sA] at this; simp at this
       ·by_cases NK:j' = j
        ·exact NK
        ·exfalso
         rw [aa NK] at hy;have:=(h4 j' o' T' d' AH Lv (hold j' o' T' d' AH Lv hS' NK)).2.1.hi;omega
      ·simp only [aa hji]
       obtain ⟨q1,q2,⟨bP,q3,q4,q5,q6⟩,q7⟩:=h4 j q U c hq Mn (hold j q U c hq Mn hS hji);obtain ⟨q8,q9⟩:=q2.step sD;refine ⟨?_,q8,⟨bP,by rw [q9]; exact q3,q4,fun m q' T' x hm Bp XC=>?_,fun hn=>?_⟩,fun j' o' T' d' AH Lv hS' hy=>?_⟩
       ·rw [aae (hf.dst j q U c hq Mn i o ho (Ne.symm hji))]
        exact q1.mono kK
       ·rw [gb (XD m q' T' c x hm Bp)] at XC
        exact q5 m q' T' x hm Bp XC
       ·exact q6 fun m q' T' x hm Bp=>by
         have:=hn m q' T' x hm Bp;rwa [gb (XD m q' T' c x hm Bp)] at this
       ·by_cases NK:j' = i
        ·rw [aD NK] at hy
         have:=q2.hi;omega
        ·rw [aa NK] at hy
         exact q7 j' o' T' d' AH Lv (hold j' o' T' d' AH Lv hS' NK) hy
    ·
     obtain ⟨e1,e2,e3,_⟩:=F6 he;obtain ⟨hnd,aby,⟨j0,q0,T0,bm,hq0,he0⟩,hxd⟩:=hf.st i o T d x ho he;have hb0:oM (dG [] all) i j0=true:=hf.ord.Gu ho hq0 bm (by
      unfold wT;rw [(uh he0).2.2,show Pu (some d) (nZ P cfg all o)=true from Dx (by
       unfold nZ;refine List.mem_append_right _ ?_;rw [e1];exact kH (show Operand.tmp d∈[Operand.tmp d,x] by simp))]
      rfl)
     have hS0:S j0=true:=hc.ready hf.ord.TM ho vd j0 hb0;obtain ⟨q1,q2,⟨mg,q3,q4,_,_⟩,q7⟩:=h4 j0 q0 T0 d hq0 he0 hS0;obtain ⟨cs,Ls⟩:=wN q0 (gu hq0) T0 d he0;obtain ⟨z,_,_,_,_,_,hz6,hz7⟩:=Jh Ls;have aqz:vz all d all=some (T,x):=by
      cases hs:vz all d all with
      | none=>exact absurd he (FH hs i o ho T x)
      | some p=>
       obtain ⟨T2,x2⟩:=p;obtain ⟨i2,o2,h5,h6⟩:=FG hs;by_cases hii:i2=i
       ·subst hii
        rw [ho] at h5;simp at h5;subst h5;rw [he] at h6;simp at h6;rw [h6.1,h6.2]
       ·exact absurd h6 (aby i2 o2 h5 hii T2 x2)
     obtain ⟨hT,hl,Vb,_⟩:=hz6 T x aqz;subst hT;have Bo:gD tn x=gD t1 x:=afb RR vG hnd;rw [Bo] at hl Vb;have hxv:VC P E' aF (gD t1 x) (a'.eval x):=P5 h3 fun z e=>EV z (by
      unfold nZ;refine List.mem_append_right _ ?_;rw [e1];subst e;exact kH (show Operand.tmp z∈[Operand.tmp d,Operand.tmp z] by simp))
     obtain ⟨u,hu1,hu2⟩:=hxv;have amJ:=hu1.cells (Bl Vb);have qM:u.cells.toList.all scalar=true:=fk.2 (amJ.scalar Vb);have amK:some u.cells.size=size? P T0:=by
      rw [<- hl];have:=amJ.length;simp only [Array.length_toList] at this;rw [this]
     have aO:compile P o.op = .act (Kq P T0) [.tmp d,x]:=by rw [e1]; rfl
     have cI:=rB P o;rw [aO] at cI
     let em:Operand->Value:=fun q=>if q = .tmp d then IK (y j0) else u
     have hw:gH 0 mg u.cells.toList=some u.cells.toList:=Y0 (by
      rw [<- amK] at q4;simp only [bQ] at q4;rw [q4]; simp)
     obtain ⟨xC,v',nx,w2,hr1,yS,hr3,hr4⟩:=cI aF B' (B'.put (y j0) (.row u.cells.toList (oY P T0) true none)) base w' em a'.eval undef h2.eJ.fY (fun q hq=>by
       rcases de.1 hq with rfl | hq
       ·show VR aF (em (.tmp d)) (a'.tmps.getD d undef)
        simp only [em,if_true];exact q1
       ·simp only [List.mem_singleton] at hq
        subst hq;simp only [em,aa hxd];exact hu2) (by
       have h1:em (.tmp d)=IK (y j0):=by simp [em]
       have h2:em x=u:=by simp [em,hxd]
       simp [h1,h2,Kq,aG.storeAt,IK,amK,St.BO,cK,qM,q3,hw,St.fq])
     have aqA:=aqv h2 q2 q3 hr4;have kK:=hr4.le h2.eJ.fY;have Cj:∀ x,AR A E' x->(B'.put (y j0) (.row u.cells.toList (oY P T0) true none)).get x=B'.get x:=fun x q=>by
      rw [St.bA,aa];intro e;subst e;exact q2.fw (.inl q)
     have hAT:∀ q,AT A E' (B'.put (y j0) (.row u.cells.toList (oY P T0) true none)) q->AT A E' B' q:=fun q r=>r.of (fun _=>rfl) (fun _ _ e=>e) Cj fun _ _=>by simp
     have hFr:∀ q,Fr E' A B' B.next q->Fr E' A (B'.put (y j0) (.row u.cells.toList (oY P T0) true none)) B.next q:=fun q f=>⟨f.lo,f.hi,f.un,f.z,fun r=>f.fw (hAT q r)⟩
     have apG:∀ v:Value,a'.put o.dst v=a':=fun v=>by rw [e3]; rfl
     have abz:Inv (cP S i) (a'.put o.dst v') w2:=by
      rw [apG];refine ⟨E',_,xC,y,h1,aqA,(h3.mono (Env.le_refl _) kK).same fun z=>?_,fun j q U c hq Mn hS=>?_⟩
      ·rw [MD hf.ord hc ho hx sA z,e3]; rfl
      ·have hji:j≠i:=fun e=>by
        subst e;rw [ho] at hq;simp at hq;subst hq;rw [LH Mn] at he;simp at he
       have hold:∀ (m:Nat) (q:Oper) (U:TypeId) (c:Tmp),all[m]? = some q->fQ q=some (U,c)->cP S i m=true->S m=true:=fun m q U c hm Mn hS=>by
        have:m≠i:=fun e=>by
         subst e;rw [ho] at hm;simp at hm;subst hm;rw [LH Mn] at he;simp at he
        rwa [gb this] at hS
       rw [gb hji] at hS;obtain ⟨p1,p2,⟨bP,p3,p4,p5,p6⟩,p7⟩:=h4 j q U c hq Mn hS;refine ⟨p1.mono kK,hFr _ p2,?_,fun j' o' T' d' AH Lv hS'=>p7 j' o' T' d' AH Lv (hold j' o' T' d' AH Lv hS')⟩;by_cases Km:j=j0
       ·subst Km
        rw [hq0] at hq;simp at hq;subst hq;rw [he0] at Mn;simp at Mn;obtain ⟨rfl,rfl⟩:=Mn;refine ⟨u.cells.toList,by simp,by simpa using amK,fun m q' T' x' hm Bp _=>?_,fun hn=>?_⟩
        ·have hmi:m=i:=by
          by_cases hmi:m=i
          ·exact hmi
          ·exact absurd Bp (aby m q' hm hmi T' x')
         subst hmi;rw [ho] at hm;simp at hm;subst hm;rw [he] at Bp;simp at Bp;rw [<- Bp.2,Bo];exact amJ
        ·have:=hn i o T0 x ho he
         rw [CQ] at this;simp at this
       ·have hcd:c≠d:=fun e=>by
         subst e;exact absurd (uh he0).2.2 (hf.dst j q U c hq Mn j0 q0 hq0 (Ne.symm Km))
        have XD:∀ (m:Nat) (q:Oper) (U:TypeId) (x:Operand),all[m]? = some q->vy all q=some (U,c,x)->m≠i:=fun m q U x hm Bp e=>by
         subst e;rw [ho] at hm;simp at hm;subst hm;rw [he] at Bp;simp at Bp;exact hcd Bp.2.1.symm
        refine ⟨bP,?_,p4,fun m q' T' x' hm Bp XC=>?_,fun hn=>?_⟩
        ·rw [St.bA,aa]
         ·exact p3
         ·intro e
          exact Km ((p7 j0 q0 T0 d hq0 he0 hS0 e.symm).symm)
        ·rw [gb (XD m q' T' x' hm Bp)] at XC
         exact p5 m q' T' x' hm Bp XC
        ·exact p6 fun m q' T' x' hm Bp=>by
          have:=hn m q' T' x' hm Bp;rwa [gb (XD m q' T' x' hm Bp)] at this
     unfold Oper.wp;rw [hr1];cases nx with
     | value u'=>have:u' = v':=yS; subst this; exact abz
     | skip=>have:v' = undef:=yS; subst this; exact abz
     | _=>exact yS.elim
   ·
    have IW:∀ H6 Jc vv v' HQ,VC P H6 vv L[i].2.1 v'->Ev P base E' A B' aF w' H6 A Jc vv HQ->Inv (cP S i) (a'.put o.dst v') HQ:=fun H6 Jc vv v' HQ h5 h6=>by
     have kK:=h6.eJ.le h2.eJ.fY;refine ⟨H6,Jc,vv,y,by rw [put_defers]; exact h1,h2.trans h6,?_,h4.step hf ho hnb h6 kK⟩;refine ((h3.mono h6.le kK).put (Jb i o ho) h5).same fun z=>?_;rw [MD hf.ord hc ho hx sA z]
    rcases hg with hg | ⟨p,hp,hg⟩
    ·refine NQ eW hg (fun x hxm=>P5 h3 fun z e=>EV z ?_) h2.kj IW
     unfold nZ;subst e;exact List.mem_append_right _ (kH hxm)
    ·refine aiG eW hp hg (fun x hxm=>P5 h3 fun z e=>EV z ?_) h2.kj IW
     unfold nZ;subst e;refine List.mem_append_right _ (kH ?_);unfold Mu at hp;split at hp
     ·rename_i c Gy _
      split at hp
      ·rename_i d vw
       simp at hp;subst hp;rw [Gy];show Operand.tmp z∈U3 (lO P cfg c);unfold lO;rw [vw];exact hxm
      ·simp at hp
     ·simp at hp
 ·
  rintro S a' w' qM ⟨E',B',aF,y,h1,h2,h3,h4⟩;have hS:∀ (i:Nat) (o:Oper),all[i]? = some o->S i=true:=fun i o ho=>qM i (cH.1 ho).1;have aqB:iZ P E' aF tn N a':=h3.same fun z=>by
   rw [RR z];exact kT rfl fun i o ho _=>by rw [bd]; exact (hS i o ho).symm
  obtain ⟨t',E2,A2,f1,f2,f3⟩:=TT (y:=y) all 0 tn E' A rfl hk h2 aqB (fun j o T d _ ho he=>Jb j o ho d (uh he).2.2) fun j o T d _ ho he=>by
   obtain ⟨q1,q2,⟨bP,q3,q4,q5,q6⟩,q7⟩:=h4 j o T d ho he (hS j o ho);refine ⟨q1,q2,fun cs Ls=>⟨bP,q3,?_⟩,fun j' o' T' d' _ AH Lv hy=>q7 j' o' T' d' AH Lv (hS j' o' AH) hy⟩;obtain ⟨z,Lr,_,_,_,_,hz6,hz7⟩:=Jh Ls;cases hs:vz all d all with
   | some p=>
    obtain ⟨T2,x2⟩:=p;obtain ⟨i2,o2,h5,h6⟩:=FG hs;rw [(hz6 T2 x2 hs).2.2.2];exact q5 i2 o2 T2 x2 h5 h6 (hS i2 o2 h5)
   | none=>
    rw [hz7 hs];obtain ⟨z',g1,g2⟩:=q6 fun m q' T' x hm Bp=>absurd Bp (FH hs m q' hm T' x);rw [Lr] at g1;simp at g1;subst g1;exact g2
  exact hq t' E2 A2 B' aF a' w' f1 f2 h1 (P8.trans f3)
 ·simp
 ·refine ht.same fun z=>?_
  rw [NR GG]
 ·intro j o T d ho he LI
  have LI:(Array.replicate all.length false).getD j false=true:=LI;rw [GG] at LI;simp at LI
end Go.K
end
section
namespace Go.K
open Go Go.aG
variable {P:Program} {E:Env}
theorem Vn {R:Type} {cfg:dF} {aR:kz R} {all:List Oper} {k:bf->ae->Option R} : ∀ (a b:List Oper) (i:Nat),Bk P cfg aR all k (a++b) i=Bk P cfg aR all (Bk P cfg aR all k b (i+a.length)) a i
 | [],b,i=>rfl
 | o::a,b,i=>by
  show PK P cfg aR all i o (Bk P cfg aR all k (a++b) (i+1))=PK P cfg aR all i o (Bk P cfg aR all (Bk P cfg aR all k b (i+(a.length+1))) a (i+1));rw [Vn a b,show i+1+a.length=i+(a.length+1) by omega]
theorem agL {cfg:dF} {o:Oper} (h:cG (bw P cfg o.op)<=3):xB P cfg o=false:=by
 unfold xB;split
 ·rename_i f args e
  exact absurd e (zN h f args)
 ·rfl
theorem adP {R:Type} {cfg:dF} {aR:kz R} {all:List Oper} {i:Nat} {o:Oper} {k:bf->ae->Option R} {t:bf} {A:ae} (h:xB P cfg o=false):PK P cfg aR all i o k t A=AK P cfg aR all o k t A:=by
 unfold PK;rw [h]
theorem adQ {cfg:dF} {all:List Oper} {o:Oper} (h:cG (bw P cfg o.op)<=1):sB all o=false:=by
 cases hb:sB all o with
 | false=>rfl
 | true=>
  exfalso;rcases TQ hb with ⟨T,d,e⟩ | ⟨T,d,x,e⟩
  ·rw [(uh e).1] at h
   have h:cG (rJ P T)<=1:=h;unfold rJ at h;split at h
   ·rename_i z _
    cases hc:(flat z&&z.cells.toList.all scalar&&gJ (fE z).cells) <;> rw [hc] at h <;> simp [cG] at h
   ·simp [cG] at h
  ·rw [(F6 e).1] at h
   have h:(3:Nat)<=1:=h;omega
theorem Qb {R:Type} {cfg:dF} {aR:kz R} {all:List Oper} {k:bf->ae->Option R} {r:R} : ∀ {os:List Oper} {i:Nat} {t:bf} {A:ae},(∀ o∈os,cG (bw P cfg o.op)<=1)->Bk P cfg aR all k os i t A=some r->
  ∃ L t',YZ P cfg all A os t L t'/\k t' A=some r
 | [],i,t,A,_,h=>⟨[],t,.nil,h⟩
 | o::os,i,t,A,hn,h=>by
  have Nr:=fun q hq=>hn q (r7 o hq);have hk:=hn o (by simp);have hb:=adQ (all:=all) hk;have hk3:Nat.ble 3 (cG (bw P cfg o.op))=false:=by
   cases hc:Nat.ble 3 (cG (bw P cfg o.op)) with
   | false=>rfl
   | true=>have:=dX hc; omega
  have hnc:=zN (P:=P) (cfg:=cfg) (o:=o) (by omega);have h:PK P cfg aR all i o (Bk P cfg aR all k os (i+1)) t A=some r:=h;rw [adP (agL (by omega))] at h;unfold AK at h;cases hg:o.guard with
  | none=>
   rw [hg] at h;obtain ⟨v,A1,h1,h2⟩:=KF hnc h;have e:=EU h1 hk3;subst e;obtain ⟨L,t',h3,h4⟩:=Qb Nr h2;exact ⟨_,t',.cons (fun _=>rfl) (.inl ⟨hg,rfl⟩) (fun _=>.inr ⟨hb,.inl h1⟩) (fun e=>by simp at e) h3,h4⟩
  | some p=>
   obtain ⟨j,want⟩:=p;rw [hg] at h;obtain ⟨d,hd,h⟩:=Jd h;rcases h with ⟨b,t1,h1,h2,h3⟩ | ⟨l,h1,h2⟩
   ·rcases h3 with ⟨h3,h4⟩ | ⟨h3,h4⟩
    ·obtain ⟨v,A1,h5,h6⟩:=KF hnc h4
     have e:=EU h5 hk3;subst e;obtain ⟨L,t',h7,h8⟩:=Qb Nr h6;exact ⟨_,t',.cons h2 (.inr ⟨j,want,d,hg,hd,.inl ⟨b,h1,h3.symm⟩⟩) (fun _=>.inr ⟨hb,.inl h5⟩) (fun e=>by simp at e) h7,h8⟩
    ·obtain ⟨L,t',h7,h8⟩:=Qb Nr h4
     exact ⟨_,t',.cons h2 (.inr ⟨j,want,d,hg,hd,.inl ⟨b,h1,h3.symm⟩⟩) (fun e=>by simp at e) (fun _=>⟨rfl,hb⟩) h7,h8⟩
   ·obtain ⟨L,t',h7,h8⟩:=Qb Nr h2
    exact ⟨_,t',.cons (fun _=>rfl) (.inr ⟨j,want,d,hg,hd,.inr ⟨l,h1,rfl⟩⟩) (fun e=>by simp at e) (fun _=>⟨rfl,hb⟩) h7,h8⟩
section
variable {cfg:dF} {all os:List Oper} {L:List Out} {t0:bf} {m:Nat}
theorem abA (hf:abu P cfg all) (hos:∀ j q,os[j]? = some q->all[m+j]? = some q) {S:Nat->Bool} (hc:vg all S) {i:Nat} {o:Oper} (ho:os[i]? = some o) (sA:S (m+i)=false) (vd:zH all S (m+i)) {y:Tmp} (hy:y∈nZ P cfg all o) :
  (gZ (fun j=>S (m+j)) os L 0 t0).get y=(gZ (fun j=>Nat.blt j i) os L 0 t0).get y:=by
 refine kT rfl fun j q hq hd=>?_;rw [bd];have ho':=hos i o ho;have hq':=hos j q hq;rcases Nat.lt_trichotomy j i with h | h | h
 ·have:oM (dG [] all) (m+i) (m+j)=true:=hf.Gu ho' hq' (by omega) (by
   unfold wT;rw [hd,Dx hy];rfl)
  rw [hc.ready hf.TM ho' vd (m+j) this]
  symm; rw [bI]; exact h
 ·subst h
  rw [sA]
  symm
  cases hb:Nat.blt j j with
  | false=>rfl
  | true=>rw [bI] at hb; omega
 ·have hb:oM (dG [] all) (m+j) (m+i)=true:=hf.Gu hq' ho' (by omega) (by
   unfold wT;rw [hd,Dx hy];simp)
  have:S (m+j)=false:=by
   cases hs:S (m+j) with
   | false=>rfl
   | true=>have:=hc (m+j) (m+i) hs hb; rw [sA] at this; simp at this
  rw [this]
  symm
  cases hbb:Nat.blt j i with
  | false=>rfl
  | true=>rw [bI] at hbb; omega
theorem amL (hf:abu P cfg all) (hos:∀ j q,os[j]? = some q->all[m+j]? = some q) {S:Nat->Bool} (hc:vg all S) {i:Nat} {o:Oper} {x:Out} (ho:os[i]? = some o) (hx:L[i]? = some x) (sA:S (m+i)=false) (y:Tmp) :
  (gZ (fun j=>cP S (m+i) (m+j)) os L 0 t0).get y=(qO (gZ (fun j=>S (m+j)) os L 0 t0) o.dst x.2.1).get y:=by
 have abB:(fun j=>cP S (m+i) (m+j))=cP (fun j=>S (m+j)) i:=by
  funext j;unfold cP;cases hb:Nat.beq j i with
  | true=>have:=aL hb; subst this; simp
  | false=>
   have cD:=Nat.ne_of_beq_eq_false hb;cases wM:Nat.beq (m+j) (m+i) with
   | false=>rfl
   | true=>have:=aL wM; omega
 rw [abB,vI];by_cases hd:o.dst=some y
 ·rw [aD hd]
  have:=abt (S:=fun j=>S (m+j)) (y:=y) (os:=os) (L:=L) (k:=0) (i:=i) (t:=t0) ho hx hd (fun j q hq hqd bm=>by
   rw [bd];have hb:oM (dG [] all) (m+j) (m+i)=true:=hf.Gu (hos j q hq) (hos i o ho) (by omega) (by
    unfold wT;rw [hqd,hd];simp [UJ])
   cases hs:S (m+j) with
   | false=>rfl
   | true=>have:=hc (m+j) (m+i) hs hb; rw [sA] at this; simp at this)
  rw [bd] at this;exact this
 ·rw [aa hd]
  refine kT rfl fun j q hq hqd=>?_;rw [bd];have cD:j≠i:=by
   intro e;subst e;rw [ho] at hq;simp at hq;subst hq;exact hd hqd
  unfold cP;have:Nat.beq j i=false:=by
   cases hb:Nat.beq j i with
   | false=>rfl
   | true=>exact absurd (aL hb) cD
  rw [this,Bool.or_false]
end
theorem SD {cfg:dF} {b:List Nat} {i:Nat} {hd:Bool} {all:List Oper} : ∀ (os:List Oper) (k:Nat),Mv P cfg b i hd all os k=true->∀ (j:Nat) (o:Oper),os[j]? = some o->(k+j < i->cG (bw P cfg o.op)=0\/oM b i (k+j)=true\/(hd=true/\aab o (k+j) all=true))/\(i < k+j->oM b (k+j) i=true)
 | [],k,_,j,o,ho=>by simp at ho
 | q::os,k,h,0,o,ho=>by
  simp at ho;subst ho;simp only [Mv,ao] at h;rw [yI];have h2:=h.1;cases hb:Nat.beq k i with
  | true=>have:=aL hb; exact ⟨fun e=>by omega,fun e=>by omega⟩
  | false=>
   rw [hb,aH] at h2;refine ⟨fun bm=>?_,fun bm=>?_⟩
   ·rw [show Nat.blt k i=true from by rw [bI]; exact bm,aj] at h2
    cases hz:Nat.beq (cG (bw P cfg q.op)) 0 with
    | true=>exact .inl (aL hz)
    | false=>
     rw [hz,aH] at h2;cases F3:oM b i k with
     | true=>exact .inr (.inl rfl)
     | false=>
      rw [F3,aH,ao] at h2;exact .inr (.inr h2)
   ·have:Nat.blt k i=false:=by
     cases wM:Nat.blt k i with
     | false=>rfl
     | true=>rw [bI] at wM; omega
    rwa [this,aH] at h2
 | q::os,k,h,j+1,o,ho=>by
  simp only [Mv,ao] at h;have:=SD os (k+1) h.2 j o (by simpa using ho);rwa [show k+1+j=k+(j+1) by omega] at this
theorem Qc {cfg:dF} {b:List Nat} {all:List Oper} : ∀ (os:List Oper) (k:Nat),Mw P cfg b all os k=true->∀ (i:Nat) (o:Oper),os[i]? = some o->¬ cG (bw P cfg o.op)<=1->Mv P cfg b (k+i) (xB P cfg o) all all 0=true
 | [],k,_,i,o,ho,_=>by simp at ho
 | q::os,k,h,0,o,ho,hk=>by
  simp at ho;subst ho;simp only [Mw,ao] at h;have h2:=h.1;have:Nat.ble (cG (bw P cfg q.op)) 1=false:=by
   cases hb:Nat.ble (cG (bw P cfg q.op)) 1 with
   | false=>rfl
   | true=>exact absurd (dX hb) hk
  rw [this,aH] at h2;exact h2
 | q::os,k,h,i+1,o,ho,hk=>by
  simp only [Mw,ao] at h;have:=Qc os (k+1) h.2 i o (by simpa using ho) hk;rwa [show k+1+i=k+(i+1) by omega] at this
theorem dr.aoX {A:ae} {B:St} (h:dr P E A B) {b x:Nat} (hx:E.κ b=some x) : ¬ AT A E B x:=by
 rintro (q | ⟨g,⟨c,v,y,L,N,cs,e,own,k,h1,h2,h3⟩,hm⟩)
 ·exact (h.ar.z x q).2 b hx
 ·by_cases Dg:x=y
  ·subst Dg
   exact (h.ar.z x ⟨c,v,L,N,h1,h2⟩).2 b hx
  ·exact ((h.ar.vD c v y L N cs e own g k h1 h2 h3).2.2 x hm Dg).2.2 b hx
theorem KH {A:ae} : ∀ {hs:List Nat} {Ah:ae},Tv hs A=some Ah->Ah.next=A.next/\(∀ c,c ∉ hs->Ah.get c=A.get c)/\∀ c,c∈hs->Ah.get c=some wH/\((∃ cs e,A.get c=some (.row cs e))\/A.get c=some wH)
 | [],Ah,h=>by
  have h:some A=some Ah:=h;simp only [bQ] at h;subst h;exact ⟨rfl,fun _ _=>rfl,fun c hc=>by simp at hc⟩
 | b::hs,Ah,h=>by
  have h:Option.rec (motive:=fun _=>Option ae) none (fun A'=>match ae.get A' b with
   | some (.row _ _)=>some (A'.put b (.map []))
   | some (.map [])=>some A'
   | _=>none) (Tv hs A)=some Ah:=h
  cases hh:Tv hs A with
  | none=>rw [hh] at h; exact absurd h (by simp)
  | some A1=>
   rw [hh] at h;obtain ⟨h1,h2,h3⟩:=KH hh;have h:(match A1.get b with
    | some (.row _ _)=>some (A1.put b (.map []))
    | some (.map [])=>some A1
    | _=>none)=some Ah:=h
   split at h
   ·rename_i cs e hb
    simp only [bQ] at h;subst h;have Lw:b ∉ hs:=fun hm=>by rw [(h3 b hm).1] at hb; simp at hb
    refine ⟨h1,fun c hc=>?_,fun c hc=>?_⟩
    ·rw [de,not_or] at hc
     rw [ae.bA,aa hc.1];exact h2 c hc.2
    ·rw [ae.bA]
     by_cases C4:c=b
     ·subst C4
      exact ⟨aD rfl,.inl ⟨cs,e,by rw [<- h2 c Lw]; exact hb⟩⟩
     ·rw [aa C4]
      exact h3 c ((de.1 hc).resolve_left C4)
   ·rename_i hb
    simp only [bQ] at h;subst h;refine ⟨h1,fun c hc=>?_,fun c hc=>?_⟩
    ·rw [de,not_or] at hc
     exact h2 c hc.2
    ·by_cases C4:c=b
     ·subst C4
      refine ⟨hb,?_⟩;by_cases hm:c∈hs
      ·exact (h3 c hm).2
      ·exact .inr (by rw [<- h2 c hm]; exact hb)
     ·exact h3 c ((de.1 hc).resolve_left C4)
   ·exact absurd h (by simp)
theorem KI {A A' : ae} : ∀ (hs:List Nat),(y4 hs A A').next=A'.next/\(∀ c,c ∉ hs->(y4 hs A A').get c=A'.get c)/\∀ c o,c∈hs->A.get c=some o->(y4 hs A A').get c=some o
 | []=>⟨rfl,fun _ _=>rfl,fun c _ hc=>by simp at hc⟩
 | b::hs=>by
  obtain ⟨h1,h2,h3⟩:=KI (A:=A) (A':=A') hs;have e0:y4 (b::hs) A A' = match A.get b with
   | some o=>(y4 hs A A').put b o
   | none=>y4 hs A A':=rfl
  rw [e0];cases hb:A.get b with
  | none=>
   refine ⟨h1,fun c hc=>?_,fun c o hc ho=>?_⟩
   ·rw [de,not_or] at hc
    exact h2 c hc.2
   ·rcases de.1 hc with rfl | hc
    ·rw [hb] at ho; simp at ho
    ·exact h3 c o hc ho
  | some o1=>
   refine ⟨by rw [ae.sF]; exact h1,fun c hc=>?_,fun c o hc ho=>?_⟩
   ·rw [de,not_or] at hc
    simp only [ae.bA];rw [aa hc.1];exact h2 c hc.2
   ·simp only [ae.bA]
    by_cases C4:c=b
    ·subst C4
     rw [aD rfl,<- hb];exact ho
    ·rw [aa C4]
     exact h3 c o ((de.1 hc).resolve_left C4) ho
theorem dr.aoY {hs:List Nat} {A Ah:ae} {B:St} (h:dr P E A B) (hh:Tv hs A=some Ah):dr P E Ah B:=by
 obtain ⟨h1,h2,h3⟩:=KH hh;have fM:∀ c o,Ah.get c=some o->A.get c=some o\/(o=wH/\c < A.next):=fun c o hc=>by
  by_cases hm:c∈hs
  ·obtain ⟨h4,h5⟩:=h3 c hm
   rw [h4] at hc;simp only [bQ] at hc;refine .inr ⟨hc.symm,?_⟩;rcases h5 with ⟨cs,e,h5⟩ | h5
   ·exact h.live c _ h5
   ·exact h.live c _ h5
  ·exact .inl (by rw [<- h2 c hm]; exact hc)
 have NT:∀ c o,o≠wH->Ah.get c=some o->A.get c=some o:=fun c o ho hc=>(fM c o hc).resolve_right fun q=>ho q.1;refine ⟨fun c cs e hc=>h.row c cs e (NT c _ (by simp) hc),fun c t sz hc=>h.aP c t sz (NT c _ (by simp) hc),h.z,h.apart,h.inj,fun b c g tb sb tc sc q1 q2=>h.gK b c g tb sb tc sc (NT b _ (by simp) q1) (NT c _ (by simp) q2),fun b x e=>by rw [h1]; exact h.jP b x e,fun b g e=>by rw [h1]; exact h.kR b g e,fun c o hc=>?_,h.eV,h.lJ,h.iv,h.fresh,h.mem,
  h.ar.dR (Env.le_refl _) (fun _=>rfl) (fun b v q=>NT b _ (by simp) q) (fun b v q=>NT b _ (by simp) q) (by rw [h1]; exact aC _) (aC _) (fun _ _=>rfl) (fun _ _ e=>.inl e) (fun _ _ e=>.inl e) (fun b g e=>.inl ⟨b,e⟩) (fun _ _=>rfl) h.mem⟩
 rw [h1];rcases fM c o hc with q | ⟨_,q⟩
 ·exact h.live c o q
 ·exact q
theorem Ev.show {hs:List Nat} {base:Nat} {A Ah A' : ae} {B B' : St} {ρ aF:Ren} {w w' : World} {E' : Env} (hk:dr P E A B) (hh:Tv hs A=some Ah) (h:Ev P base E Ah B ρ w E' A' B' aF w'):Ev P base E A B ρ w E' (y4 hs A A') B' aF w':=by
 obtain ⟨h1,h2,h3⟩:=KH hh;obtain ⟨s1,s2,s3⟩:=KI (A:=A) (A':=A') hs;have hhs:=hk.aoY hh;have Pd:=h.fY;have fM:∀ c o,(y4 hs A A').get c=some o->(c∈hs/\A.get c=some o/\((∃ cs e,o = .row cs e)\/o=wH))\/(c ∉ hs/\A'.get c=some o):=fun c o hc=>by
  by_cases hm:c∈hs
  ·rcases (h3 c hm).2 with ⟨cs,e,q⟩ | q
   ·rw [s3 c _ hm q] at hc
    simp only [bQ] at hc;subst hc;exact .inl ⟨hm,q,.inl ⟨_,_,rfl⟩⟩
   ·rw [s3 c _ hm q] at hc
    simp only [bQ] at hc;subst hc;exact .inl ⟨hm,q,.inr rfl⟩
  ·exact .inr ⟨hm,by rw [<- s2 c hm]; exact hc⟩
 have vx:∀ c t s,(y4 hs A A').get c=some (.aP t s)->A'.get c=some (.aP t s):=fun c t s hc=>by
  rcases fM c _ hc with ⟨_,_,⟨_,_,e⟩ | e⟩ | ⟨_,q⟩
  ·simp at e
  ·simp at e
  ·exact q
 have rT:∀ c v,(y4 hs A A').get c=some (.arr v)->A'.get c=some (.arr v):=fun c v hc=>by
  rcases fM c _ hc with ⟨_,_,⟨_,_,e⟩ | e⟩ | ⟨_,q⟩
  ·simp at e
  ·simp at e
  ·exact q
 have amG:∀ c v,(y4 hs A A').get c=some (.iG v)->A'.get c=some (.iG v):=fun c v hc=>by
  rcases fM c _ hc with ⟨_,_,⟨_,_,e⟩ | e⟩ | ⟨_,q⟩
  ·simp at e
  ·simp at e
  ·exact q
 have amM:∀ c v,Ah.get c=some (.arr v)->A.get c=some (.arr v):=fun c v hc=>by
  by_cases hm:c∈hs
  ·rw [(h3 c hm).1] at hc; simp at hc
  ·rw [<- h2 c hm]; exact hc
 have hAarr' : ∀ c v,A.get c=some (.arr v)->Ah.get c=some (.arr v):=fun c v hc=>by
  by_cases hm:c∈hs
  ·rcases (h3 c hm).2 with ⟨cs,e,q⟩ | q <;> (rw [q] at hc; simp at hc)
  ·rw [h2 c hm]; exact hc
 have eAR:∀ x,AR (y4 hs A A') E' x->AR A' E' x:=fun x ⟨c,v,L,N,q1,q2⟩=>⟨c,v,L,N,rT c v q1,q2⟩
 have eAF:∀ g,AF (y4 hs A A') E' B' g->AF A' E' B' g:=fun g ⟨c,v,x,L,N,cs,e,own,k,q1,q2,q3⟩=>⟨c,v,x,L,N,cs,e,own,k,rT c v q1,q2,q3⟩
 have fAR:∀ x,AR Ah E x->AR A E x:=fun x ⟨c,v,L,N,q1,q2⟩=>⟨c,v,L,N,amM c v q1,q2⟩
 have fAF:∀ g,AF Ah E B g->AF A E B g:=fun g ⟨c,v,x,L,N,cs,e,own,k,q1,q2,q3⟩=>⟨c,v,x,L,N,cs,e,own,k,amM c v q1,q2,q3⟩
 have fAT:∀ y,AT Ah E B y->AT A E B y:=fun y q=>q.imp (fAR y) fun ⟨g,q1,q2⟩=>⟨g,fAF g q1,q2⟩
 have fZ:=h.next;refine ⟨⟨fun c cs e hc=>?_,fun c t sz hc=>Pd.aP c t sz (vx c t sz hc),Pd.z,Pd.apart,Pd.inj,fun b c g tb sb tc sc q1 q2=>Pd.gK b c g tb sb tc sc (vx _ _ _ q1) (vx _ _ _ q2),fun b x e=>by rw [s1]; exact Pd.jP b x e,fun b g e=>by rw [s1]; exact Pd.kR b g e,fun c o hc=>?_,Pd.eV,Pd.lJ,Pd.iv,Pd.fresh,Pd.mem,
  Pd.ar.dR (Env.le_refl _) (fun _=>rfl) rT amG (by rw [s1]; exact aC _) (aC _) (fun _ _=>rfl) (fun _ _ e=>.inl e) (fun _ _ e=>.inl e) (fun b g e=>.inl ⟨b,e⟩) (fun _ _=>rfl) Pd.mem⟩,
  h.eJ,h.le,by rw [s1,<- h1]; exact fZ,fun x hx hn ha=>h.dR x hx (fun b e=>?_) (fun q=>ha (fAT x q)),fun b x e=>by rw [<- h1]; exact h.new b x e,fun b r e=>(h.ud b r e).imp id (fun q=>q.imp (fAR b) id),h.su,fun g hg hn ha=>h.o5 g hg hn fun q=>ha (fAF g q),fun x q=>(h.kA x (eAR x q)).imp (fAR x) id,fun g q=>(h.kS g (eAF g q)).imp (fAF g) id,h.vE,fun y q=>(h.mh y (q.imp (eAR y) fun ⟨g,q1,q2⟩=>⟨g,eAF g q1,q2⟩)).imp (fAT y) id,h.rows,fun b q=>?_⟩
 ·rcases fM c _ hc with ⟨hm,q,_⟩ | ⟨_,q⟩
  ·obtain ⟨x,bP,q1,q2,q3⟩:=hk.row c cs e q
   refine ⟨x,bP,h.le.κ _ _ q1,?_,q3.mono h.le⟩;rw [h.dR x (hk.eV c x q1) (fun b e2=>?_) fun q4=>dr.aoX hhs q1 q4]
   ·exact q2
   ·rw [hk.inj b c x e2 q1]
    exact (h3 c hm).1
  ·exact Pd.row c cs e q
 ·rw [s1]
  rcases fM c o hc with ⟨_,q,_⟩ | ⟨_,q⟩
  ·have:=hk.live c o q; rw [h1] at fZ; omega
  ·exact Pd.live c o q
 ·by_cases hm:b∈hs
  ·exact (h3 b hm).1
  ·rw [h2 b hm]; exact hn b e
 ·by_cases hm:b∈hs
  ·exact s3 b _ hm q
  ·rw [s2 b hm]
   exact h.Dq b (by rw [h2 b hm]; exact q)
theorem agM {R:Type} {cfg:dF} {aR:kz R} (eW:rD P cfg.pc) (ug:I9 P aR) {hs:List Nat} {o:Oper} {t:bf} {A:ae} {k:KV->ae->Option R} {r:R} {N base:Nat} {B:St} {ρ:Ren} {a:Act} {w:World} {next:Act->World->Prop} {Q:Exit->Act->World->Prop}
  (y8:xB P cfg o=true) (h:Ky (U6 hs aR) t A k (bw P cfg o.op)=some r) (ht:iZ P E ρ t N a) (hj:KJ P E A B ρ base w)
  (hk:∀ E' A' B' aF v v' w',k v A' = some r->(∀ c∈hs,A'.get c=A.get c)->VC P E' aF v v'->Ev P base E A B ρ w E' A' B' aF w'->next (a.put o.dst v') w'):o.wp P a w next Q:=by
 unfold xB at y8;split at y8
 ·rename_i f args hc
  rw [hc] at h;have h:Option.rec (motive:=fun _=>Option R) none (fun p=>U6 hs aR p.1 p.2 A k) (yZ (j3 t args) (gD t f))=some r:=h;cases hh:Tv hs A with
  | none=>
   exfalso;cases Py:yZ (j3 t args) (gD t f) with
   | none=>rw [Py] at h; exact absurd h (by simp)
   | some p=>
    rw [Py] at h;have h:U6 hs aR p.1 p.2 A k=some r:=h;unfold U6 at h;rw [hh] at h;simp at h
  | some Ah=>
   have h' : Ky aR t Ah (fun v A'=>k v (y4 hs A A')) (bw P cfg o.op)=some r:=by
    rw [hc];show Option.rec (motive:=fun _=>Option R) none (fun p=>aR p.1 p.2 Ah (fun v A'=>k v (y4 hs A A'))) (yZ (j3 t args) (gD t f))=some r;cases Py:yZ (j3 t args) (gD t f) with
    | none=>rw [Py] at h; exact absurd h (by simp)
    | some p=>
     rw [Py] at h;have h:U6 hs aR p.1 p.2 A k=some r:=h;unfold U6 at h;rw [hh] at h;exact h
   refine P1 eW ug h' ht ⟨hj.k.aoY hh,hj.s⟩ fun E' A' B' aF v v' w' q1 q2 q3=>hk E' (y4 hs A A') B' aF v v' w' q1 (fun c hc=>?_) q2 (q3.show hj.k hh);rcases ((KH hh).2.2 c hc).2 with ⟨cs,e,q⟩ | q
   ·rw [q]; exact (KI hs).2.2 c _ hc q
   ·rw [q]; exact (KI hs).2.2 c _ hc q
 ·simp at y8
theorem Vo {cfg:dF} {b:List Nat} {i:Nat} {t:bf} : ∀ (os:List Oper) (k:Nat) (hs:List Nat),Rm P cfg b i t os k=some hs->∀ (j:Nat) (q:Oper),os[j]? = some q->k+j < i->cG (bw P cfg q.op)≠0->oM b i (k+j)=false->
  ∃ a,HV q.op=some a/\((∃ c off,gD t a = .ptr c off/\c∈hs)\/∃ T Tc n m es acc,gD t a = .tp T Tc n m es acc)
 | [],k,hs,_,j,q,ho=>by simp at ho
 | p::os,k,hs,h,j,q,ho=>by
  intro bm hk F3;simp only [Rm] at h;cases hr:Rm P cfg b i t os (Nat.succ k) with
  | none=>rw [hr] at h; simp at h
  | some l=>
   rw [hr] at h;simp only at h;have aqC:∀ c∈l,c∈hs:=fun c hc=>by
    cases hcd:(Nat.blt k i&&!(Nat.beq (cG (bw P cfg p.op)) 0)&&!(oM b i k)) with
    | false=>rw [hcd,aH] at h; simp at h; subst h; exact hc
    | true=>
     rw [hcd,aj] at h;split at h
     ·split at h
      ·simp at h; subst h; exact r7 _ hc
      ·simp at h; subst h; exact hc
      ·simp at h
     ·simp at h
   cases j with
   | succ j=>
    obtain ⟨a,h1,h2⟩:=Vo os (k+1) l hr j q (by simpa using ho) (by omega) hk (by rw [show k+1+j=k+(j+1) by omega]; exact F3);exact ⟨a,h1,h2.imp (fun ⟨c,off,q1,q2⟩=>⟨c,off,q1,aqC c q2⟩) id⟩
   | zero=>
    simp at ho;subst ho;rw [yI] at bm F3;have hcd:(Nat.blt k i&&!(Nat.beq (cG (bw P cfg p.op)) 0)&&!(oM b i k))=true:=by
     rw [show Nat.blt k i=true from by rw [bI]; exact bm,F3];cases hz:Nat.beq (cG (bw P cfg p.op)) 0 with
     | true=>exact absurd (aL hz) hk
     | false=>rfl
    rw [hcd,aj] at h;split at h
    ·rename_i a ha
     refine ⟨a,ha,?_⟩;split at h
     ·rename_i c off sD
      simp at h;subst h;exact .inl ⟨c,off,sD,Q9 ..⟩
     ·rename_i sD
      exact .inr ⟨_,_,_,_,_,_,sD⟩
     ·simp at h
    ·simp at h
theorem aiI {A A' : ae} {T:TypeId} {v:KV} (h:(∃ c off,v = .ptr c off/\A'.get c=A.get c)\/∃ T1 Tc n m es acc,v = .tp T1 Tc n m es acc):AJ P T A' [v] = AJ P T A [v]:=by
 rcases h with ⟨c,off,rfl,e⟩ | ⟨T1,Tc,n,m,es,acc,rfl⟩
 ·simp only [AJ,rowAt,e]
 ·rfl
theorem abC {cfg:dF} : ∀ (os:List Oper),∃ n,n<=os.length/\(∀ o∈os.take n,cG (bw P cfg o.op)<=1)/\(n=os.length\/∃ o,os[n]? = some o/\¬ cG (bw P cfg o.op)<=1)
 | []=>⟨0,by simp,by simp,by simp⟩
 | o::os=>by
  by_cases hk:cG (bw P cfg o.op)<=1
  ·obtain ⟨n,h1,h2,h3⟩:=abC (cfg:=cfg) os
   refine ⟨n+1,by simpa using h1,fun q hq=>?_,?_⟩
   ·simp only [List.take_succ_cons,de] at hq
    rcases hq with rfl | hq
    ·exact hk
    ·exact h2 q hq
   ·rcases h3 with h3 | ⟨q,h3,h4⟩
    ·exact .inl (by simp [h3])
    ·exact .inr ⟨q,by simpa using h3,h4⟩
  ·exact ⟨0,by simp,by simp,.inr ⟨o,by simp,hk⟩⟩
theorem alo {R:Type} {cfg:dF} {aR:kz R} {all os:List Oper} {m:Nat} {k:bf->ae->Option R} {r:R} {t:bf} {A:ae} (h:Bk P cfg aR all k os m t A=some r) :
  ∃ n L tn,n<=os.length/\(∀ o∈os.take n,cG (bw P cfg o.op)<=1)/\(n=os.length\/∃ o,os[n]? = some o/\¬ cG (bw P cfg o.op)<=1)/\YZ P cfg all A (os.take n) t L tn/\Bk P cfg aR all k (os.drop n) (m+n) tn A=some r:=by
 obtain ⟨n,h1,h2,h3⟩:=abC (P:=P) (cfg:=cfg) os;rw [<- List.take_append_drop n os,Vn,kZ,Nat.min_eq_left h1] at h;obtain ⟨L,tn,h4,h5⟩:=Qb h2 h;exact ⟨n,L,tn,h1,h2,h3,h4,h5⟩
theorem agN (S:Nat->Bool) (os:List Oper) (L:List Out) (t:bf):∀ (m:Nat),gZ S os L m t=gZ (fun j=>S (m+j)) os L 0 t:=by
 intro m
 induction m generalizing S with
 | zero=>simp only [bd]
 | succ m ih=>
  rw [ET,ih];congr 1;funext j;rw [show m+j+1=m+1+j by omega]
theorem NU (S:Nat->Bool):∀ (os:List Oper) (L L2:List Out) (k:Nat) (t:bf),L.length<=os.length->gZ S os (L++L2) k t=gZ S (os.drop L.length) L2 (k+L.length) (gZ S os L k t)
 | [],[],L2,k,t,_=>rfl
 | [],x::L,L2,k,t,h=>by simp at h
 | o::os,[],L2,k,t,_=>rfl
 | o::os,x::L,L2,k,t,h=>by
  simp only [List.cons_append,gZ,qT,List.drop_succ_cons];rw [NU S os L L2 (k+1) _ (by simpa using h),show k+1+L.length=k+(L.length+1) by omega]
theorem XE {S:Nat->Bool} {os:List Oper} {L L2:List Out} {t:bf} (h:L.length<=os.length) (hS:∀ j,L.length<=j->j < os.length->S j=false) (y:Tmp):(gZ S os (L++L2) 0 t).get y=(gZ S os L 0 t).get y:=by
 rw [NU S os L L2 0 t h,bd,agN];refine (kT (S':=fun _=>false) rfl fun i o ho _=>?_).trans (by rw [NR fun _=>rfl]);rw [bd];rw [pf] at ho;exact hS _ (by omega) (cH.1 ho).1
theorem Vp {S S' : Nat->Bool} : ∀ {os:List Oper} {L:List Out} {k:Nat} {t:bf},(∀ j,j < L.length->S (k+j)=S' (k+j))->gZ S os L k t=gZ S' os L k t
 | [],L,k,t,_=>by cases L <;> rfl
 | o::os,[],k,t,_=>rfl
 | o::os,x::L,k,t,h=>by
  simp only [gZ];rw [show S k=S' k from by have:=h 0 (by simp); simpa using this];exact Vp fun j hj=>by have:=h (j+1) (by simpa using hj); rwa [show k+(j+1)=k+1+j by omega] at this
theorem agO {S:Nat->Bool} : ∀ {os:List Oper} {L:List Out} {n k:Nat} {t:bf},L.length<=n->gZ S (os.take n) L k t=gZ S os L k t
 | [],L,n,k,t,_=>by simp
 | o::os,[],n,k,t,_=>by cases n <;> rfl
 | o::os,x::L,0,k,t,h=>by simp at h
 | o::os,x::L,n+1,k,t,h=>by
  simp only [List.take_succ_cons,gZ];exact agO (by simpa using h)
theorem aiJ {cfg:dF} {o:Oper} {p:Operand×List Operand} (h:Mu o=some p) : ¬ cG (bw P cfg o.op)<=1:=by
 unfold Mu at h;split at h
 ·rename_i c' aqD _
  split at h
  ·rename_i d vw
   rw [aqD];show ¬ cG (lO P cfg c')<=1;unfold lO;rw [vw];show ¬ (9:Nat)<=1;omega
  ·simp at h
 ·simp at h
theorem y9 {t t' : bf} : ∀ {xs:List Operand},(∀ x∈xs,gD t x=gD t' x)->j3 t xs=j3 t' xs:=fun {xs} h=>by
 rw [vH,vH];exact List.map_congr_left h
theorem Y1 {R:Type} {aR:kz R} {t t' : bf} {A:ae} {k:KV->ae->Option R} {ins:ss} (h:∀ x∈U3 ins,gD t x=gD t' x):Ky aR t A k ins=Ky aR t' A k ins:=by
 cases ins with
 | pure f xs=>show (f (j3 t xs)).run _=(f (j3 t' xs)).run _; rw [y9 (xs:=xs) h]
 | read f xs=>show (f A (j3 t xs)).run _=(f A (j3 t' xs)).run _; rw [y9 (xs:=xs) h]
 | act f xs=>show (f A (j3 t xs)).run _=(f A (j3 t' xs)).run _; rw [y9 (xs:=xs) h]
 | look f xs=>show (f (j3 t xs)).run _=(f (j3 t' xs)).run _; rw [y9 (xs:=xs) h]
 | EI g f xs=>show (f (j3 t xs)).run _=(f (j3 t' xs)).run _; rw [y9 (xs:=xs) h]
 | I1 g f xs=>show (f (AE A (j3 t xs)).1).run (fun v=>k v (AE A (j3 t xs)).2)=(f (AE A (j3 t' xs)).1).run (fun v=>k v (AE A (j3 t' xs)).2); rw [y9 (xs:=xs) h]
 | call f xs=>
  show Option.rec (motive:=fun _=>Option R) none (fun p=>aR p.1 p.2 A k) (yZ (j3 t xs) (gD t f))=Option.rec (motive:=fun _=>Option R) none (fun p=>aR p.1 p.2 A k) (yZ (j3 t' xs) (gD t' f));rw [y9 fun x hx=>h x (r7 f hx),h f (Q9 ..)]
 | bad=>rfl
theorem afc {R:Type} {cfg:dF} {aR:kz R} (eW:rD P cfg.pc) (ug:I9 P aR) (hm:P.follows .mixedOrders=true) {id:Nat} {all:List Oper} {N base:Nat} (hdN:all.all (Ll N)=true) {k:bf->ae->Option R} {r:R} {t:bf} {A:ae} {B:St} {ρ:Ren} {a:Act} {w:World} {Q:Exit->Act->World->Prop}
  (MF:Nz P cfg all=true) (h:Bk P cfg aR all k all 0 t A=some r) (ht:iZ P E ρ t N a) (hj:KJ P E A B ρ base w)
  (hq:∀ t' E' A' B' aF a' w',k t' A' = some r->iZ P E' aF t' N a'->a'.defers=a.defers->Ev P base E A B ρ w E' A' B' aF w'->Q .normal a' w'):(Code.region id ⟨all⟩ true).wp P Q a w:=by
 unfold Nz at MF;split at MF
 ·simp only [ao] at MF
  obtain ⟨⟨aqE,hcl⟩,har⟩:=MF;have hf:abu P cfg all:=⟨GA aqE,fun {i j x y} hy hx bm vw=>by
   have:=EX all 0 hcl i y hy;rw [bd] at this;have:=Jg all 0 this j x hx (by omega) vw;rwa [bd] at this⟩
  have piv:∀ (i:Nat) (o:Oper),all[i]? = some o->¬ cG (bw P cfg o.op)<=1->∀ j q,all[j]? = some q->(j < i->cG (bw P cfg q.op)=0\/oM (dG [] all) i j=true\/(xB P cfg o=true/\aab q j all=true))/\(i < j->oM (dG [] all) j i=true):=fun i o ho hk j q hq=>by
   have h1:=Qc all 0 har i o ho hk;have h2:=SD all 0 h1 j q hq;simpa only [bd] using h2
  have P8:Ev P base E A B ρ w E A B ρ w.drew:=(cN.refl hj.k).ev (jb.drew hj.s);have Jb:∀ (i:Nat) (o:Oper),all[i]? = some o->∀ d,o.dst=some d->d < N:=by
   intro i o ho d ed;have:=fk.1 hdN o (gu ho);unfold Ll at this;rw [ed] at this;simp only at this;rw [bI] at this;exact this
  refine wp_region_any hm ?_;show wpAny P .any ⟨all⟩ Q all.length (Array.replicate all.length false) a w.drew;have GG:∀ i,(Array.replicate all.length false).getD i false=false:=by
   intro i;rw [kY,Array.getElem?_replicate];split <;> rfl
  have e0:∀ (S:Nat->Bool),(fun j=>S (0+j))=S:=fun S=>by funext j; rw [bd]
  have hos:∀ j q,all[j]? = some q->all[0+j]? = some q:=fun j q RS=>by rwa [bd]
  let aoZ:List Out->ae->Nat->Oper->Out->Prop:=fun L A2 i o x=>∃ t1,(∀ y,t1.get y=(gZ (fun j=>Nat.blt j i) all L 0 t).get y)/\H7 all o t1 x.1/\(x.1=true->aI (xE (bw P cfg o.op) t1 A2) (x.2.1,A2))/\(x.1=false->x.2.1=tZ)
  let Inv:(Nat->Bool)->Act->World->Prop:=fun S a' w'=>∃ n L A2 tn E' B' aF,n<=all.length/\L.length=n/\(∀ j,n<=j->j < all.length->S j=false)/\(n=all.length\/∃ o,all[n]? = some o/\¬ cG (bw P cfg o.op)<=1)/\
   (∀ j o,j < n->all[j]? = some o->¬ cG (bw P cfg o.op)<=1->S j=true)/\(∀ i o x,i < n->S i=false->all[i]? = some o->L[i]? = some x->aoZ L A2 i o x)/\
   (∀ y,tn.get y=(gZ (fun _=>true) all L 0 t).get y)/\Bk P cfg aR all k (all.drop n) n tn A2=some r/\a'.defers=a.defers/\Ev P base E A B ρ w.drew E' A2 B' aF w'/\iZ P E' aF (gZ S all L 0 t) N a'
  have begin:∀ (m:Nat) (S:Nat->Bool) (L:List Out) (A2:ae) (t2:bf) (a' : Act) (w' : World) (E' : Env) (B' : St) (aF:Ren),m<=all.length->L.length=m->(∀ j,m<=j->j < all.length->S j=false)->
    (∀ j o,j < m->all[j]? = some o->¬ cG (bw P cfg o.op)<=1->S j=true)->(∀ i o x,i < m->S i=false->all[i]? = some o->L[i]? = some x->aoZ L A2 i o x)->
    (∀ y,t2.get y=(gZ (fun _=>true) all L 0 t).get y)->Bk P cfg aR all k (all.drop m) m t2 A2=some r->a'.defers=a.defers->Ev P base E A B ρ w.drew E' A2 B' aF w'->iZ P E' aF (gZ S all L 0 t) N a'->Inv S a' w':=by
   intro m S L A2 t2 a' w' E' B' aF W6 hL h1 h2 h3 h4 h5 h6 h7 h8;obtain ⟨n,L2,tn,g1,g2,g3,g4,g5⟩:=alo h5;rw [List.length_drop] at g1 g3;obtain ⟨k1,k2,k3⟩:=g4.at;rw [kZ,List.length_drop,Nat.min_eq_left g1] at k1;have hLa:L.length<=all.length:=by omega
   have tail:∀ (S:Nat->Bool) (y:Tmp),(∀ j,j < m->S j=true)->(gZ S all (L++L2) 0 t).get y=(gZ (fun j=>S (m+j)) ((all.drop m).take n) L2 0 t2).get y:=fun S y hS=>by
    rw [NU S all L L2 0 t hLa,bd,agN,agO (by omega),hL];refine kT ?_ fun _ _ _ _=>rfl;rw [h4 y,Vp (S:=S) (S':=fun _=>true) fun j hj=>by rw [bd]; exact hS j (by omega)]
   refine ⟨m+n,L++L2,A2,tn,E',B',aF,by omega,by rw [kF]; omega,fun j hj1 NK=>h1 j (by omega) NK,?_,fun j o hj ho hk=>?_,fun i o x hi sA ho hx=>?_,fun y=>?_,by rwa [List.drop_drop] at g5,h6,h7,h8.same fun y=>XE hLa (fun j hj1 NK=>h1 j (by omega) NK) y⟩
   ·rcases g3 with g3 | ⟨o,g3,g6⟩
    ·exact .inl (by omega)
    ·exact .inr ⟨o,by rwa [pf] at g3,g6⟩
   ·by_cases hjm:j < m
    ·exact h2 j o hjm ho hk
    ·exfalso
     refine hk (g2 o (gu (i:=j - m) ?_));rw [mn,aD (by omega),pf,show m+(j - m)=j by omega];exact ho
   ·by_cases him:i < m
    ·rw [qS (by omega)] at hx
     obtain ⟨t1,q1,q2⟩:=h3 i o x him sA ho hx;exact ⟨t1,fun y=>by rw [q1 y]; exact (XE hLa (fun j hj1 _=>by
      cases hb:Nat.blt j i with
      | false=>rfl
      | true=>rw [bI] at hb; omega) y).symm,q2⟩
    ·rw [tS (by omega),hL] at hx
     have hoi:((all.drop m).take n)[i - m]? = some o:=by rw [mn,aD (by omega),pf,show m+(i - m)=i by omega]; exact ho
     obtain ⟨t1,q1,q2,q3,q4⟩:=k3 (i - m) o x hoi hx;have hk:=g2 o (gu hoi);refine ⟨t1,fun y=>?_,q2,fun Es=>?_,fun Es=>(q4 Es).1⟩
     ·rw [q1 y,tail _ y fun j hj=>by rw [bI]; omega]
      refine kT rfl fun j q _ _=>?_;rw [bd];cases hb:Nat.blt (m+j) i with
      | true=>rw [bI] at hb ⊢; omega
      | false=>
       cases wM:Nat.blt j (i - m) with
       | false=>rfl
       | true=>
        rw [bI] at wM;have:Nat.blt (m+j) i=true:=by rw [bI]; omega
        rw [hb] at this; simp at this
     ·rcases q3 Es with ⟨TS,_⟩ | ⟨_,hg⟩
      ·rw [adQ hk] at TS; simp at TS
      ·rcases hg with hg | ⟨p,hp,_⟩
       ·exact hg
       ·exact absurd hk (aiJ hp)
   ·rw [k2 y,tail _ y fun _ _=>rfl]
  refine HU hf.TM Inv ?_ ?_ ?_ all.length _ a w.drew (by simp) ?_ (fun i j hi _=>by
    have h2:(Array.replicate all.length false).getD i false=true:=hi;rw [GG] at h2; simp at h2) (begin 0 _ [] A t a w.drew E B ρ (by omega) rfl (fun j _ _=>GG j) (fun j _ hj=>by omega) (fun i _ _ hi=>by omega) (fun y=>by cases all <;> rfl) (by simpa using h) rfl (.refl hj.k P8.eJ.fY) (ht.same fun y=>by cases all <;> rfl))
  ·
   rintro S S' a' w' hSS ⟨n,L,A2,tn,E',B',aF,h1,h2,h3,h4,h5,h6,h7,h8,h9,px,GD⟩;refine ⟨n,L,A2,tn,E',B',aF,h1,h2,fun j hj1 NK=>by rw [<- hSS j NK]; exact h3 j hj1 NK,h4,fun j o hj ho hk=>by rw [<- hSS j (by omega)]; exact h5 j o hj ho hk,fun i o x hi sA ho hx=>h6 i o x hi (by rw [hSS i (by omega)]; exact sA) ho hx,h7,h8,h9,px,GD.same fun z=>kT rfl fun i o ho _=>?_⟩;rw [bd];exact (hSS _ (cH.1 ho).1).symm
  ·
   rintro S a' w' i o ⟨n,L,A2,tn,E',B',aF,h1,h2,h3,h4,h5,h6,h7,h8,h9,px,GD⟩ hcS ho sA vd _;have hil:i < all.length:=(cH.1 ho).1;have hoA:(⟨all⟩:Array Oper)[i]? = some o:=by simpa using ho
   rcases Nat.lt_trichotomy i n with ug | ug | ug
   ·
    have hkd:cG (bw P cfg o.op)<=1:=by
     by_cases hk:cG (bw P cfg o.op)<=1
     ·exact hk
     ·have:=h5 i o ug ho hk
      rw [sA] at this; simp at this
    have hi:i < L.length:=by omega
    have hx:L[i]? = some L[i]:=cJ hi;obtain ⟨t1,vG,hw,agI,NT⟩:=h6 i o L[i] ug sA ho hx;have EV:∀ z∈nZ P cfg all o,t1.get z=(gZ S all L 0 t).get z:=fun z hz=>by
     have:=abA (m:=0) (L:=L) (t0:=t) hf hos hcS ho (by rw [bd]; exact sA) (by rw [bd]; exact vd) hz;rw [e0] at this;rw [vG z,this]
    have Vh:∀ z,(gZ (cP S i) all L 0 t).get z=(qO (gZ S all L 0 t) o.dst L[i].2.1).get z:=fun z=>by
     have:=amL (m:=0) (L:=L) (t0:=t) hf hos hcS ho hx (by rw [bd]; exact sA) z;rw [bd,e0,e0] at this;exact this
    have EW:=y7 GD (fun z hz=>EV z (by unfold nZ; exact List.mem_append_left _ hz)) hw;have fin:∀ E2 B2 xC a2 w2,a2.defers=a'.defers->Ev P base E A B ρ w.drew E2 A2 B2 xC w2->iZ P E2 xC (gZ (cP S i) all L 0 t) N a2->Inv (cP S i) a2 w2:=fun E2 B2 xC a2 w2 q1 q2 q3=>
     ⟨n,L,A2,tn,E2,B2,xC,h1,h2,fun j hj1 NK=>by rw [gb (by omega)]; exact h3 j hj1 NK,h4,fun j q hj RS hk=>by
      by_cases he:j=i
      ·subst he; exact CQ
      ·rw [gb he]; exact h5 j q hj RS hk,fun j q x hj LI RS hxj=>h6 j q x hj (by
       by_cases he:j=i
       ·subst he; rw [CQ] at LI; simp at LI
       ·rwa [gb he] at LI) RS hxj,h7,h8,q1.trans h9,q2,q3⟩
    unfold wpOp;rw [hoA];simp only [EW];cases Es:L[i].1 with
    | false=>
     simp only [HL,if_false];refine fin E' B' aF _ _ (by rw [put_defers]) px ?_;refine (GD.put (Jb i o ho) VC.undef).same fun z=>?_;rw [Vh z,NT Es]
    | true=>
     simp only [if_true];refine .inl (NQ eW (agI Es) (fun x hxm=>P5 GD fun z e=>EV z ?_) px.kj fun H6 Jc vv v' HQ h5 h6=>?_)
     ·unfold nZ
      subst e;exact List.mem_append_right _ (kH hxm)
     ·have kK:=h6.eJ.le px.eJ.fY
      refine fin H6 Jc vv _ _ (by rw [put_defers]) (px.trans h6) ?_;refine ((GD.mono h6.le kK).put (Jb i o ho) h5).same fun z=>?_;rw [Vh z]
   ·
    subst ug;rcases h4 with h4 | ⟨oc,Gy,agP⟩
    ·omega
    rw [Gy] at ho;simp at ho;subst ho;have EV:∀ z∈nZ P cfg all oc,tn.get z=(gZ S all L 0 t).get z:=fun z hz=>by
     have:=abA (m:=0) (L:=L) (t0:=t) hf hos hcS Gy (by rw [bd]; exact sA) (by rw [bd]; exact vd) hz;rw [e0] at this;rw [this,h7 z,Vp (S:=fun _=>true) (S':=fun j=>Nat.blt j i) fun j hj=>by rw [bd]; symm; rw [bI]; omega]
    have mO:PK P cfg aR all i oc (Bk P cfg aR all k (all.drop (i+1)) (i+1)) tn A2=some r:=by
     have:all.drop i=oc::all.drop (i+1):=by
      rw [List.drop_eq_getElem_cons hil];rw [cJ hil] at Gy;simp at Gy;rw [Gy]
     rw [this] at h8;exact h8
    have hLa:L.length<=all.length:=by omega
    have hdr:all.drop i=oc::all.drop (i+1):=by
     rw [List.drop_eq_getElem_cons hil];rw [cJ hil] at Gy;simp at Gy;rw [Gy]
    have one:∀ (S:Nat->Bool) (x:Out),S i=true->gZ S all (L++[x]) 0 t=qO (gZ S all L 0 t) oc.dst x.2.1:=fun S x hS=>by
     rw [NU S all L [x] 0 t hLa,bd,h2,hdr];simp only [gZ,hS,aj];cases all.drop (i+1) <;> rfl
    have Vq:∀ {t1:bf} {v:KV} {v' : Value} {E2:Env} {A3:ae} {B2:St} {xC:Ren} {w2:World},(∀ y,t1.get y=tn.get y)->Bk P cfg aR all k (all.drop (i+1)) (i+1) (qO t1 oc.dst v) A3=some r->(∀ j q,j < i->all[j]? = some q->S j=false->cG (bw P cfg q.op)≠0->∃ a,HV q.op=some a/\uJ j a all 0=true/\∀ T,AJ P T A3 [gD tn a] = AJ P T A2 [gD tn a])->VC P E2 xC v v'->Ev P base E' A2 B' aF w' E2 A3 B2 xC w2->Inv (cP S i) (a'.put oc.dst v') w2:=by
     intro t1 v v' E2 A3 B2 xC w2 vG q1 hld q2 q3;have kK:=q3.eJ.le px.eJ.fY;have e1:gZ (cP S i) all L 0 t=gZ S all L 0 t:=Vp fun j hj=>by rw [bd]; exact gb (by omega)
     refine begin (i+1) _ (L++[(true,v,A3)]) A3 _ _ w2 E2 B2 xC (by omega) (by simp [h2]) (fun j g1 g2=>by rw [gb (by omega)]; exact h3 j (by omega) g2) (fun j q hj RS hk=>?_) (fun j q x hj LI RS hxj=>?_) (fun y=>?_) q1 (by rw [put_defers]; exact h9) (px.trans q3) ?_
     ·by_cases he:j=i
      ·subst he; exact CQ
      ·rw [gb he]; exact h5 j q (by omega) RS hk
     ·have he:j≠i:=by
       intro he;subst he;rw [CQ] at LI; simp at LI
      rw [gb he] at LI;rw [qS (by omega)] at hxj;obtain ⟨t3,p1,p2,p3,p4⟩:=h6 j q x (by omega) LI RS hxj;refine ⟨t3,fun y=>by rw [p1 y]; exact (XE hLa (fun j' hj1 _=>by
       cases hb:Nat.blt j' j with
       | false=>rfl
       | true=>rw [bI] at hb; omega) y).symm,p2,fun Es=>?_,p4⟩
      by_cases hz:cG (bw P cfg q.op)=0
      ·exact agD (p3 Es) hz
      ·obtain ⟨ad,r1,r2,r3⟩:=hld j q (by omega) RS LI hz
       have sD:gD t3 ad=gD tn ad:=by
        cases ad with
        | tmp y=>
         simp only [gD];rw [p1 y,h7 y];congr 1;refine kT rfl fun j' q' hq' hd=>?_;rw [bd];have UY:j' < j:=by
          apply Nat.lt_of_not_le;intro hle;exact P7 all 0 r2 j' q' hq' (by omega) hd
         rw [bI]; exact UY
        | const v=>rfl
        | global g=>rfl
        | func f=>rfl
       have hp3:=p3 Es;obtain ⟨T,hop⟩:∃ T,q.op = .load T ad:=by
        unfold HV at r1;split at r1
        ·rename_i T a' hq'
         simp only [bQ] at r1;subst r1;exact ⟨T,hq'⟩
        ·simp at r1
       rw [hop] at hp3 ⊢;have amI:∀ A,xE (bw P cfg (.load T ad)) t3 A=(AJ P T A [gD t3 ad]).map fun v=>(v,A):=fun _=>rfl;rw [amI] at hp3 ⊢;obtain ⟨u,u1,u2⟩:=aI.map hp3;rw [sD,<- r3 T,<- sD] at u1;simp only [dt] at u2;rw [<- u2.1];exact u1.BS
     ·rw [one _ _ rfl,vI,vI,vG y,h7 y]
     ·refine ((GD.mono q3.le kK).put (Jb i oc Gy) q2).same fun z=>?_
      rw [one _ _ CQ,e1]
    have H8:∀ z∈Iw all oc,tn.get z=(gZ S all L 0 t).get z:=fun z hz=>EV z (by unfold nZ; exact List.mem_append_left _ hz);have hzero:xB P cfg oc=false->∀ {A3:ae},∀ j q,j < i->all[j]? = some q->S j=false->cG (bw P cfg q.op)≠0->∃ a,HV q.op=some a/\uJ j a all 0=true/\∀ T,AJ P T A3 [gD tn a] = AJ P T A2 [gD tn a]:=fun NT A3 j q hj RS LI hz=>by
     exfalso;rcases (piv i oc Gy agP j q RS).1 hj with e | e | ⟨e,_⟩
     ·exact hz e
     ·have:=hcS.ready hf.TM Gy vd j e
      rw [LI] at this; simp at this
     ·rw [NT] at e; simp at e
    have amN:∀ {t1:bf},(∀ y,t1.get y=tn.get y)->∀ x∈U3 (bw P cfg oc.op),gD t1 x=gD (gZ S all L 0 t) x:=fun {t1} vG x hx=>by
     cases x with
     | tmp z=>
      have:=EV z (by unfold nZ; exact List.mem_append_right _ (kH hx));simp only [gD];rw [vG z,this]
     | const v=>rfl
     | global g=>rfl
     | func f=>rfl
    cases y8:xB P cfg oc with
    | false=>
     rw [adP y8] at mO;have run:∀ {t1:bf},(∀ y,t1.get y=tn.get y)->H7 all oc tn true->Ky aR t1 A2 (fun v A=>Bk P cfg aR all k (all.drop (i+1)) (i+1) (qO t1 oc.dst v) A) (bw P cfg oc.op)=some r->wpOp P ⟨all⟩ Q i (Inv (cP S i)) a' w':=by
      intro t1 vG hw abB;have EW:=y7 GD H8 hw;unfold wpOp;rw [hoA];simp only [EW,if_true];rw [Y1 (t':=gZ S all L 0 t) (amN vG)] at abB;exact .inl (P1 eW ug abB GD px.kj fun E2 A2 B2 xC v v' w2 q1 q2 q3=>Vq vG q1 (hzero y8) q2 q3)
     have skip:∀ {t1:bf},(∀ y,t1.get y=tn.get y)->H7 all oc tn false->Bk P cfg aR all k (all.drop (i+1)) (i+1) (qO t1 oc.dst tZ) A2=some r->wpOp P ⟨all⟩ Q i (Inv (cP S i)) a' w':=by
      intro t1 vG hw hop;have EW:=y7 GD H8 hw;unfold wpOp;rw [hoA];simp only [EW,HL,if_false];exact Vq vG hop (hzero y8) VC.undef (.refl px.fY px.eJ.fY)
     unfold AK at mO;cases XF:oc.guard with
     | none=>
      rw [XF] at mO;exact run (fun _=>rfl) (.inl ⟨XF,rfl⟩) mO
     | some p=>
      obtain ⟨j,want⟩:=p;rw [XF] at mO;obtain ⟨d,hd,mO⟩:=Jd mO;rcases mO with ⟨b,t1,h4,h5,h6⟩ | ⟨l,h4,h5⟩
      ·rcases h6 with ⟨h6,h7⟩ | ⟨h6,h7⟩
       ·exact run h5 (.inr ⟨j,want,d,XF,hd,.inl ⟨b,h4,h6.symm⟩⟩) h7
       ·exact skip h5 (.inr ⟨j,want,d,XF,hd,.inl ⟨b,h4,h6.symm⟩⟩) h7
      ·exact skip (fun _=>rfl) (.inr ⟨j,want,d,XF,hd,.inr ⟨l,h4,rfl⟩⟩) h5
    | true=>
     unfold PK at mO;rw [y8] at mO;cases hha:Rm P cfg (dG [] all) i tn all 0 with
     | none=>rw [hha] at mO; exact absurd mO (by simp)
     | some hs=>
      rw [hha] at mO;have mO:AK P cfg (U6 hs aR) all oc (Bk P cfg aR all k (all.drop (i+1)) (i+1)) tn A2=some r:=mO;have amO:∀ {A3:ae},(∀ c∈hs,A3.get c=A2.get c)->∀ j q,j < i->all[j]? = some q->S j=false->cG (bw P cfg q.op)≠0->∃ a,HV q.op=some a/\uJ j a all 0=true/\∀ T,AJ P T A3 [gD tn a] = AJ P T A2 [gD tn a]:=fun {A3} hA3 j q hj RS LI hz=>by
       rcases (piv i oc Gy agP j q RS).1 hj with e | e | ⟨_,e⟩
       ·exact absurd e hz
       ·have:=hcS.ready hf.TM Gy vd j e
        rw [LI] at this; simp at this
       ·have F3:oM (dG [] all) i j=false:=by
         cases hb:oM (dG [] all) i j with
         | false=>rfl
         | true=>have:=hcS.ready hf.TM Gy vd j hb; rw [LI] at this; simp at this
        obtain ⟨a,r1,r2⟩:=Vo all 0 hs hha j q RS (by omega) hz (by rw [bd]; exact F3);refine ⟨a,r1,?_,fun T=>aiI (r2.imp (fun ⟨c,off,u1,u2⟩=>⟨c,off,u1,hA3 c u2⟩) fun e=>e)⟩;unfold aab at e;rw [r1] at e;split at e
        ·rename_i a' _ e2
         simp only [bQ] at e2;subst e2;exact e
        ·simp at e
      have run:∀ {t1:bf},(∀ y,t1.get y=tn.get y)->H7 all oc tn true->Ky (U6 hs aR) t1 A2 (fun v A=>Bk P cfg aR all k (all.drop (i+1)) (i+1) (qO t1 oc.dst v) A) (bw P cfg oc.op)=some r->wpOp P ⟨all⟩ Q i (Inv (cP S i)) a' w':=by
       intro t1 vG hw abB;have EW:=y7 GD H8 hw;unfold wpOp;rw [hoA];simp only [EW,if_true];rw [Y1 (t':=gZ S all L 0 t) (amN vG)] at abB;exact .inl (agM eW ug y8 abB GD px.kj fun E2 A2 B2 xC v v' w2 q1 q0 q2 q3=>Vq vG q1 (amO q0) q2 q3)
      have skip:∀ {t1:bf},(∀ y,t1.get y=tn.get y)->H7 all oc tn false->Bk P cfg aR all k (all.drop (i+1)) (i+1) (qO t1 oc.dst tZ) A2=some r->wpOp P ⟨all⟩ Q i (Inv (cP S i)) a' w':=by
       intro t1 vG hw hop;have EW:=y7 GD H8 hw;unfold wpOp;rw [hoA];simp only [EW,HL,if_false];exact Vq vG hop (amO fun _ _=>rfl) VC.undef (.refl px.fY px.eJ.fY)
      unfold AK at mO;cases XF:oc.guard with
      | none=>
       rw [XF] at mO;exact run (fun _=>rfl) (.inl ⟨XF,rfl⟩) mO
      | some p=>
       obtain ⟨j,want⟩:=p;rw [XF] at mO;obtain ⟨d,hd,mO⟩:=Jd mO;rcases mO with ⟨b,t1,h4,h5,h6⟩ | ⟨l,h4,h5⟩
       ·rcases h6 with ⟨h6,h7⟩ | ⟨h6,h7⟩
        ·exact run h5 (.inr ⟨j,want,d,XF,hd,.inl ⟨b,h4,h6.symm⟩⟩) h7
        ·exact skip h5 (.inr ⟨j,want,d,XF,hd,.inl ⟨b,h4,h6.symm⟩⟩) h7
       ·exact skip (fun _=>rfl) (.inr ⟨j,want,d,XF,hd,.inr ⟨l,h4,rfl⟩⟩) h5
   ·
    rcases h4 with h4 | ⟨oc,Gy,agP⟩
    ·omega
    have bm:n < all.length:=(cH.1 Gy).1;have h1':=hcS.ready hf.TM ho vd n ((piv n oc Gy agP i o ho).2 ug);have Ln:=h3 n (by omega) bm;rw [h1'] at Ln; simp at Ln
  ·
   rintro S a' w' qM ⟨n,L,A2,tn,E',B',aF,h1,h2,h3,h4,h5,h6,h7,h8,h9,px,GD⟩;have hmn:n=all.length:=by
    rcases h4 with h4 | ⟨oc,Gy,agP⟩
    ·exact h4
    ·have bm:n < all.length:=(cH.1 Gy).1
     have:=h3 n (by omega) bm;rw [qM _ bm] at this; simp at this
   rw [hmn,List.drop_length] at h8;refine hq tn E' A2 B' aF a' w' h8 (GD.same fun z=>?_) h9 (P8.trans px);rw [h7 z];exact kT rfl fun j q RS _=>by rw [bd]; exact (qM _ (cH.1 RS).1).symm
  ·simp
 ·simp at MF
end Go.K
end
