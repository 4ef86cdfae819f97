/- Part of the proof of BinsTell: the machine, shown to be the model's, and plain models. No conditions. -/
import Derived.Test.YtchbpckkmgcgkaaGreatDp
import Derived.LoopN
set_option linter.unusedSimpArgs false
set_option linter.unusedVariables false
section
namespace Go.K
open Go Go.aB
variable {P:Program} {E:Env}
theorem Yw {cfg:eQ} {all:List Oper} {b:List Nat} {i:Nat} {y:Oper} : ∀ (xs:List Oper) (k:Nat),TJ P cfg all b i y xs k=true->∀ (j:Nat) (x:Oper),xs[j]? = some x->k+j < i->LM P cfg all x y=true->rR b i (k+j)=true\/(vH P cfg all x y=false/\(abV all (k+j) x i y).isSome=true)
 | [],k,_,j,x,hx,_,_=>by simp at hx
 | x0::xs,k,h,0,x,hx,a8,hc=>by
  simp at hx;subst hx;simp only [TJ,aD,vw,nw] at h;rcases h.1 with ((h1 | h1) | h1) | h1
  ·have:=fH h1; omega
  ·rw [hc] at h1; simp at h1
  ·exact .inl h1
  ·exact .inr h1
 | x0::xs,k,h,j+1,x,hx,a8,hc=>by
  simp only [TJ,aD] at h;have:=Yw xs (k+1) h.2 j x (by simpa using hx) (by omega) hc;rwa [show k+1+j=k+(j+1) by omega] at this
theorem RL {cfg:eQ} {all:List Oper} {b:List Nat} : ∀ (os:List Oper) (k:Nat),M7 P cfg all b os k=true->∀ (i:Nat) (o:Oper),os[i]? = some o->TJ P cfg all b (k+i) o all 0=true
 | [],k,_,i,o,ho=>by simp at ho
 | o0::os,k,h,0,o,ho=>by
  simp at ho;subst ho;simp only [M7,aD] at h;exact h.1
 | o0::os,k,h,i+1,o,ho=>by
  simp only [M7,aD] at h;have:=RL os (k+1) h.2 i o (by simpa using ho);rwa [show k+1+i=k+(i+1) by omega] at this
theorem Yx {cfg:eQ} {all:List Oper} {b:List Nat} {i:Nat} {y:Oper} {p:Option Operand×Operand} : ∀ (xs:List Oper) (k j:Nat) (x:Oper),xs[j]? = some x->k+j < i->LM P cfg all x y=true->rR b i (k+j)=false->abV all (k+j) x i y=some p->p∈F3 P cfg all b i y xs k
 | [],k,j,x,hx,_,_,_,_=>by simp at hx
 | x0::xs,k,0,x,hx,a8,hm,hb,he=>by
  simp at hx;subst hx;have h1:(Nat.ble i k||!LM P cfg all x0 y||rR b i k)=false:=by
   rw [hm,show rR b i k=false from hb];cases h:Nat.ble i k with
   | false=>rfl
   | true=>have:=fH h; omega
  simp only [F3];rw [h1,aq,show abV all k x0 i y=some p from he];exact Ow
 | x0::xs,k,j+1,x,hx,a8,hm,hb,he=>by
  have e:k+(j+1)=k+1+j:=by omega
  have:=Yx (b:=b) (p:=p) xs (k+1) j x (by simpa using hx) (show k+1+j < i by omega) hm (by rw [<- e]; exact hb) (by rw [<- e]; exact he);simp only [F3];cases (Nat.ble i k||!LM P cfg all x0 y||rR b i k) with
  | true=>exact this
  | false=>
   rw [aq];split
   ·exact xh _ this
   ·exact this
theorem Vd {cfg:eQ} {all:List Oper} {b:List Nat} {p:Option Operand×Operand} : ∀ (os:List Oper) (k i:Nat) (y:Oper),os[i]? = some y->p∈F3 P cfg all b (k+i) y all 0->p∈aao P cfg all b os k
 | [],k,i,y,hy,_=>by simp at hy
 | o::os,k,0,y,hy,h=>by
  simp at hy;subst hy;exact List.mem_append_left _ h
 | o::os,k,i+1,y,hy,h=>by
  refine List.mem_append_right _ (Vd os (k+1) i y (by simpa using hy) ?_);rwa [show k+1+i=k+(i+1) by omega]
structure Ve (P:Program) (cfg:eQ) (all:List Oper):Prop where
 reg:th P all
 kind:∀ o∈all,dL (bW P cfg o.op)<=3
 ord:∀ i j x y,all[i]? = some y->all[j]? = some x->j < i->LM P cfg all x y=true->rR (eW [] all) i j=true\/(vH P cfg all x y=false/\∃ p,abV all j x i y=some p/\p∈LN P cfg all)
 plain:∀ p,p∈LN P cfg all->Wg P cfg all=true
theorem akt {cfg:eQ} {all:List Oper} (h:aj2 P cfg all=true):Ve P cfg all:=by
 unfold aj2 at h;simp only [aD] at h;refine ⟨GB h.1.1.1,fun o ho=>fH (gx.1 h.1.1.2 o ho),fun i j x y hy hx a8 hm=>?_,fun p hp=>?_⟩
 ·have:=RL all 0 h.1.2 i y hy
  rw [bd] at this;have:=Yw all 0 this j x hx (by omega) hm;rw [bd] at this;cases hb:rR (eW [] all) i j with
  | true=>exact .inl rfl
  | false=>
   rcases this with h1 | ⟨h1,h2⟩
   ·rw [hb] at h1; simp at h1
   ·obtain ⟨p,hp⟩:=adE.1 h2
    refine .inr ⟨h1,p,hp,Vd all 0 i y hy ?_⟩;rw [bd];exact Yx all 0 j x hx (by omega) hm (by rw [bd]; exact hb) (by rw [bd]; exact hp)
 ·have h2:=h.2
  simp only [vw] at h2;rcases h2 with h2 | h2
  ·rw [List.isEmpty_iff] at h2
   rw [h2] at hp;simp at hp
  ·exact h2
structure ae7 (P:Program) (cfg:eQ) (all:List Oper):Prop where
 reg:th P all
 Gy:∀ {i j:Nat} {x y:Oper},all[i]? = some y->all[j]? = some x->j < i->vH P cfg all x y=true->rR (eW [] all) i j=true
theorem Ve.toT {cfg:eQ} {all:List Oper} (hf:Ve P cfg all):ae7 P cfg all:=⟨hf.reg,fun {i j x y} hy hx a8 hc=>by
 rcases hf.ord i j x y hy hx a8 (by unfold LM; rw [hc]; rfl) with h | ⟨h,_⟩
 ·exact h
 ·rw [hc] at h; simp at h⟩
def Yy (P:Program) (cfg:eQ) (all:List Oper) (i:Nat):Prop:=∀ j q,all[j]? = some q->Nat.ble 3 (dL (bW P cfg q.op))=true->(j < i->rR (eW [] all) i j=true)/\(i < j->rR (eW [] all) j i=true)
theorem C9 {x y:Oper} {p:Option Operand×Operand} (h:O0 x y=some p):(∃ T,y.op = .load T p.2)/\((p.1=none/\TI x.op=true)\/∃ T a v,p.1=some a/\x.op = .store T a v):=by
 unfold O0 at h;split at h
 ·rename_i a ha
  have hl:∃ T,y.op = .load T a:=by
   unfold anp at ha;split at ha
   ·rename_i T a' e; simp at ha; subst ha; exact ⟨T,e⟩
   ·simp at ha
  cases hs:TI x.op with
  | true=>
   rw [hs,aj] at h;simp at h;subst h;exact ⟨hl,.inl ⟨rfl,rfl⟩⟩
  | false=>
   rw [hs,aq] at h;split at h
   ·rename_i a2 Z9
    simp at h;subst h;refine ⟨hl,.inr ?_⟩;unfold Yg at Z9;split at Z9
    ·rename_i T a3 v e; simp at Z9; subst Z9; exact ⟨T,_,v,rfl,e⟩
    ·simp at Z9
   ·simp at h
 ·simp at h
theorem ae8 {all:List Oper} {i j:Nat} {x y:Oper} {p:Option Operand×Operand} (h:abV all j x i y=some p) :
  (O0 x y=some p/\xX i p.2 all 0=true/\OZ j p.1 all=true)\/(O0 y x=some p/\xX j p.2 all 0=true/\OZ i p.1 all=true):=by
 unfold abV at h;split at h
 ·rename_i q hq
  cases hb:(xX i q.2 all 0&&OZ j q.1 all) with
  | false=>rw [hb] at h; simp at h
  | true=>
   rw [hb,aj] at h;simp at h;subst h;simp only [aD] at hb;exact .inl ⟨hq,hb.1,hb.2⟩
 ·split at h
  ·rename_i q hq
   cases hb:(xX j q.2 all 0&&OZ i q.1 all) with
   | false=>rw [hb] at h; simp at h
   | true=>
    rw [hb,aj] at h;simp at h;subst h;simp only [aD] at hb;exact .inr ⟨hq,hb.1,hb.2⟩
  ·simp at h
theorem I6 {cfg:eQ} {o:Oper} {T:TypeId} {a:Operand} (h:o.op = .load T a):dL (bW P cfg o.op)=1:=by rw [h]; rfl
theorem unordered {cfg:eQ} {all:List Oper} (hf:Ve P cfg all) {i j:Nat} {o q:Oper} (ho:all[i]? = some o) (hq:all[j]? = some q) (hk:dL (bW P cfg o.op)≠0) (h3:Nat.ble 3 (dL (bW P cfg q.op))=true) :
  ((j < i->rR (eW [] all) i j=true)/\(i < j->rR (eW [] all) j i=true))\/∃ p,p∈LN P cfg all/\O0 q o=some p/\xX i p.2 all 0=true/\OZ j p.1 all=true:=by
 have yO:Nat.beq (dL (bW P cfg o.op)) 0=false:=by
  cases hb:Nat.beq (dL (bW P cfg o.op)) 0 with
  | false=>rfl
  | true=>exact absurd (bh hb) hk
 have hnl:∀ T a,q.op≠.load T a:=fun T a e=>by rw [I6 e] at h3; simp at h3
 rcases Nat.lt_trichotomy j i with h | h | h
 ·rcases hf.ord i j q o ho hq h (by unfold LM; rw [h3,yO]; simp) with h1 | ⟨_,p,h1,h2⟩
  ·exact .inl ⟨fun _=>h1,fun h'=>by omega⟩
  ·rcases ae8 h1 with ⟨e1,e2,e3⟩ | ⟨e1,e2,e3⟩
   ·exact .inr ⟨p,h2,e1,e2,e3⟩
   ·obtain ⟨⟨T,e⟩,_⟩:=C9 e1
    exact absurd e (hnl _ _)
 ·exact .inl ⟨fun h'=>by omega,fun h'=>by omega⟩
 ·rcases hf.ord j i o q hq ho h (by unfold LM; rw [h3,yO]; simp) with h1 | ⟨_,p,h1,h2⟩
  ·exact .inl ⟨fun h'=>by omega,fun _=>h1⟩
  ·rcases ae8 h1 with ⟨e1,e2,e3⟩ | ⟨e1,e2,e3⟩
   ·obtain ⟨⟨T,e⟩,_⟩:=C9 e1
    exact absurd e (hnl _ _)
   ·exact .inr ⟨p,h2,e1,e2,e3⟩
theorem RM {cfg:eQ} {all:List Oper} (hf:Ve P cfg all) {i:Nat} {o:Oper} (ho:all[i]? = some o) (hk:dL (bW P cfg o.op)≠0) (hn:∀ T a,o.op≠.load T a):Yy P cfg all i:=fun j q hq h3=>by
 rcases unordered hf ho hq hk h3 with h | ⟨p,_,h,_⟩
 ·exact h
 ·obtain ⟨⟨T,e⟩,_⟩:=C9 h
  exact absurd e (hn _ _)
theorem EC {cfg:eQ} {o:Oper} (h:dL (bW P cfg o.op)<=3):∀ f args,bW P cfg o.op≠.call f args:=by
 intro f args e;rw [e] at h;simp [dL] at h
theorem Da {d:Tmp} {l:List Tmp} (h:d∈l):Rj (some d) l=true:=by
 simp only [Rj,List.any_eq_true];exact ⟨d,h,by simp⟩
theorem lN {x:Tmp} : ∀ {xs:List Operand},Operand.tmp x∈xs->x∈tf xs
 | [],h=>by simp at h
 | y::ys,h=>by
  rcases eL.1 h with h | h
  ·subst h; simp [tf]
  ·have:=lN h
   cases y <;> simp [tf,this]
section
variable {cfg:eQ} {all:List Oper} {L:List Out} {t0:bF} {A0:aC}
theorem ae9 (hf:ae7 P cfg all) {S:Nat->Bool} (hc:su all S) {i:Nat} {o:Oper} (ho:all[i]? = some o) (rD:S i=false) (ux:wG all S i) {y:Tmp} (hy:y∈oQ P cfg all o) :
  (jd S all L 0 t0).get y=(jd (fun j=>Nat.blt j i) all L 0 t0).get y:=by
 refine na rfl fun j q hq hd=>?_;rw [bd];rcases Nat.lt_trichotomy j i with h | h | h
 ·have:rR (eW [] all) i j=true:=hf.Gy ho hq h (by
   unfold vH;rw [hd,Da hy];rfl)
  rw [hc.ready hf.reg ho ux j this]
  symm; rw [bT]; exact h
 ·subst h
  rw [rD]
  symm
  cases hb:Nat.blt j j with
  | false=>rfl
  | true=>rw [bT] at hb; omega
 ·have hb:rR (eW [] all) j i=true:=hf.Gy hq ho h (by
   unfold vH;rw [hd,Da hy];simp)
  have:S j=false:=by
   cases hs:S j with
   | false=>rfl
   | true=>have:=hc j i hs hb; rw [rD] at this; simp at this
  rw [this]
  symm
  cases hbb:Nat.blt j i with
  | false=>rfl
  | true=>rw [bT] at hbb; omega
theorem Yz (hf:Ve P cfg all) {S:Nat->Bool} (hc:su all S) {i:Nat} {o:Oper} (ho:all[i]? = some o) (rD:S i=false) (ux:wG all S i) (iE:Yy P cfg all i) :
  oT P cfg S all L 0 A0=oT P cfg (fun j=>Nat.blt j i) all L 0 A0:=by
 refine Kz fun j q x hq hx ht=>?_;rw [bd];have h3:Nat.ble 3 (dL (bW P cfg q.op))=true:=by unfold turns at ht; simp only [aD] at ht; exact ht.2
 rcases Nat.lt_trichotomy j i with h | h | h
 ·have:rR (eW [] all) i j=true:=(iE j q hq h3).1 h
  rw [hc.ready hf.reg ho ux j this]
  symm; rw [bT]; exact h
 ·subst h
  rw [rD]
  symm
  cases hb:Nat.blt j j with
  | false=>rfl
  | true=>rw [bT] at hb; omega
 ·have hb:rR (eW [] all) j i=true:=(iE j q hq h3).2 h
  have:S j=false:=by
   cases hs:S j with
   | false=>rfl
   | true=>have:=hc j i hs hb; rw [rD] at this; simp at this
  rw [this]
  symm
  cases hbb:Nat.blt j i with
  | false=>rfl
  | true=>rw [bT] at hbb; omega
theorem Nn (hf:ae7 P cfg all) {S:Nat->Bool} (hc:su all S) {i:Nat} {o:Oper} {x:Out} (ho:all[i]? = some o) (hx:L[i]? = some x) (rD:S i=false) (y:Tmp) :
  (jd (cQ S i) all L 0 t0).get y=(rT (jd S all L 0 t0) o.dst x.2.1).get y:=by
 rw [uF];by_cases hd:o.dst=some y
 ·rw [aR hd]
  have:=ae6 (S:=S) (y:=y) (os:=all) (L:=L) (k:=0) (i:=i) (t:=t0) ho hx hd (fun j q hq hqd a8=>by
   rw [bd];have hb:rR (eW [] all) j i=true:=hf.Gy hq ho a8 (by
    unfold vH;rw [hqd,hd];simp [XM])
   cases hs:S j with
   | false=>rfl
   | true=>have:=hc j i hs hb; rw [rD] at this; simp at this)
  rw [bd] at this;exact this
 ·rw [ay hd]
  refine na rfl fun j q hq hqd=>?_;rw [bd];have eF:j≠i:=by
   intro e;subst e;rw [ho] at hq;simp at hq;subst hq;exact hd hqd
  unfold cQ;have:Nat.beq j i=false:=by
   cases hb:Nat.beq j i with
   | false=>rfl
   | true=>exact absurd (bh hb) eF
  rw [this,Bool.or_false]
theorem AU {S:Nat->Bool} {i:Nat} {o:Oper} {x:Out} (ho:all[i]? = some o) (hx:L[i]? = some x) (ht:turns P cfg o x=false):oT P cfg (cQ S i) all L 0 A0=oT P cfg S all L 0 A0:=by
 refine Kz fun j q y hq hy hty=>?_;rw [bd];have eF:j≠i:=by
  intro e;subst e;rw [ho] at hq; rw [hx] at hy;simp at hq hy;subst hq hy;rw [ht] at hty; simp at hty
 unfold cQ;have:Nat.beq j i=false:=by
  cases hb:Nat.beq j i with
  | false=>rfl
  | true=>exact absurd (bh hb) eF
 rw [this,Bool.or_false]
theorem aku {i:Nat} {o:Oper} {x:Out} (ho:all[i]? = some o) (hx:L[i]? = some x) (ht:turns P cfg o x=true):oT P cfg (fun j=>Nat.blt j (i+1)) all L 0 A0=x.2.2:=by
 have key:∀ (os:List Oper) (L:List Out) (k i:Nat) (A:aC) (o:Oper) (x:Out),os[i]? = some o->L[i]? = some x->turns P cfg o x=true->oT P cfg (fun j=>Nat.blt j (k+i+1)) os L k A=x.2.2:=by
  intro os
  induction os with
  | nil=>intro L k i A o x ho; simp at ho
  | cons q os ih=>
   intro L k i A o x ho hx ht;cases L with
   | nil=>simp at hx
   | cons u L=>
    simp only [oT];have a8:Nat.blt k (k+i+1)=true:=by rw [bT]; omega
    rw [a8,AL];cases i with
    | zero=>
     simp at ho hx;subst ho hx;rw [ht,aj];have:∀ (os:List Oper) (L:List Out) (m:Nat) (A:aC),k+1<=m->oT P cfg (fun j=>Nat.blt j (k+0+1)) os L m A=A:=by
      intro os
      induction os with
      | nil=>intro L m A _; cases L <;> rfl
      | cons q os ih=>
       intro L m A hm;cases L with
       | nil=>rfl
       | cons u L=>
        simp only [oT];have:Nat.blt m (k+0+1)=false:=by
         cases hb:Nat.blt m (k+0+1) with
         | false=>rfl
         | true=>rw [bT] at hb; omega
        rw [this,ug,aq];exact ih L _ A (by omega)
     exact this os L (k+1) _ (aQ _)
    | succ i=>
     have:=ih L (k+1) i (cond (turns P cfg q u) u.2.2 A) o x (by simpa using ho) (by simpa using hx) ht;rwa [show k+1+i+1=k+(i+1)+1 by omega] at this
 have:=key all L 0 i A0 o x ho hx ht;rwa [bd] at this
theorem amy (hf:Ve P cfg all) {S:Nat->Bool} (hc:su all S) {i:Nat} {o:Oper} {x:Out} (ho:all[i]? = some o) (hx:L[i]? = some x) (rD:S i=false) (ux:wG all S i) (ht:turns P cfg o x=true) :
  oT P cfg (cQ S i) all L 0 A0=x.2.2:=by
 have h3:Nat.ble 3 (dL (bW P cfg o.op))=true:=by unfold turns at ht; simp only [aD] at ht; exact ht.2
 have hk:dL (bW P cfg o.op)≠0:=by have:=fH h3; omega
 have h1:oT P cfg (cQ S i) all L 0 A0=oT P cfg (fun j=>Nat.blt j (i+1)) all L 0 A0:=by
  refine Kz fun j q y hq hy hty=>?_;rw [bd];have hq3:Nat.ble 3 (dL (bW P cfg q.op))=true:=by unfold turns at hty; simp only [aD] at hty; exact hty.2
  have iE:Yy P cfg all i:=RM hf ho hk fun T a e=>by rw [I6 e] at h3; simp at h3
  rcases Nat.lt_trichotomy j i with h | h | h
  ·have:rR (eW [] all) i j=true:=(iE j q hq hq3).1 h
   have:=hc.ready hf.reg ho ux j this;unfold cQ;rw [this,Bool.true_or]
   symm; rw [bT]; omega
  ·subst h
   have:cQ S j j=true:=by simp [cQ]
   rw [this]
   symm; rw [bT]; omega
  ·have hb:rR (eW [] all) j i=true:=(iE j q hq hq3).2 h
   have:S j=false:=by
    cases hs:S j with
    | false=>rfl
    | true=>have:=hc j i hs hb; rw [rD] at this; simp at this
   unfold cQ;have eF:Nat.beq j i=false:=by
    cases hb:Nat.beq j i with
    | false=>rfl
    | true=>have:=bh hb; omega
   rw [this,eF]
   symm
   cases hbb:Nat.blt j (i+1) with
   | false=>rfl
   | true=>rw [bT] at hbb; omega
 rw [h1];exact aku ho hx ht
end
theorem agQ {all:List Oper} {o:Oper} {j:Nat} {want:Bool} {d:Tmp} (hg:o.guard=some (j,want)) (hd:(all[j]?).bind (·.dst)=some d):d∈Ip all o:=by
 unfold Ip;rw [hg];simp [hd]
theorem F6 {all:List Oper} {o:Oper} {t t1:bF} {wd:Bool} {N:Nat} {ρ:aZ} {a:Act} (ht:mq P E ρ t N a) (hl:∀ y∈Ip all o,t1.get y=t.get y) (h:Pj all o t1 wd):Region.wanted o (yielded ⟨all⟩ a.tmps)=wd:=by
 rcases h with ⟨hg,rfl⟩ | ⟨j,want,d,hg,hd,h⟩
 ·unfold Region.wanted
  rw [hg]
 ·have CU:=hl d (agQ hg hd)
  have Ap:=ht.val d;unfold Region.wanted;rw [hg];simp only;unfold yielded;have e:(⟨all⟩:Array Oper)[j]? = all[j]?:=by simp
  rw [e,hd];simp only [eV];rcases h with ⟨b,h1,rfl⟩ | ⟨l,h1,rfl⟩
  ·rw [<- CU,h1] at Ap
   have hcv:=Ap.gh;cases hc:a.tmps[d]? with
   | none=>simp [hM,hc,undef] at hcv
   | some u=>
    have:u = .bool b:=by rw [<- hcv]; simp [hM,hc]
    subst this;rfl
  ·rw [<- CU,h1] at Ap
   obtain ⟨u,h2,h3⟩:=Ap;obtain ⟨m,rfl,_⟩:=h2.Rz;obtain ⟨m',h4,_⟩:=h3.V7;cases hc:a.tmps[d]? with
   | none=>rfl
   | some u=>
    have:u = .tuple m':=by rw [<- h4]; simp [hM,hc]
    subst this;rfl
theorem RN {t t1:bF} {N:Nat} {ρ:aZ} {a:Act} (ht:mq P E ρ t N a) {x:Operand} (h:∀ y,x = .tmp y->t1.get y=t.get y):VC P E ρ (l7 t1 x) (a.eval x):=by
 have:=ht.ev x;cases x with
 | tmp y=>simp only [l7] at this ⊢; rw [h y rfl]; exact this
 | const v=>exact this
 | global g=>exact this
 | func f=>exact this
theorem akv {cfg:eQ} {o:Oper} {t:bF} {A A1 A' : aC} {v:KV} (h:a9 (xl (bW P cfg o.op) t A) (v,A1)) (hk:dL (bW P cfg o.op)=0):a9 (xl (bW P cfg o.op) t A') (v,A'):=by
 generalize bW P cfg o.op=ins at h hk;cases ins with
 | pure f xs=>obtain ⟨u,h1,h2⟩:=a9.map h; simp at h2; obtain ⟨rfl,_⟩:=h2; exact h1.C8
 | read f xs=>simp [dL] at hk
 | act f xs=>simp [dL] at hk
 | look f xs=>obtain ⟨u,h1,h2⟩:=a9.map h; simp at h2; obtain ⟨rfl,_⟩:=h2; exact h1.C8
 | Eo g f xs=>obtain ⟨u,h1,h2⟩:=a9.map h; simp at h2; obtain ⟨rfl,_⟩:=h2; exact h1.C8
 | IY g f xs=>simp [dL] at hk
 | call f xs=>exact h.elim
 | bad=>exact h.elim
theorem Wn {cfg:eQ} {S:Nat->Bool} (h:∀ i,S i=false):∀ {os:List Oper} {L:List Out} {k:Nat} {A:aC},oT P cfg S os L k A=A
 | [],L,k,A=>by cases L <;> rfl
 | o::os,[],k,A=>rfl
 | o::os,x::L,k,A=>by simp only [oT]; rw [h,ug,aq]; exact Wn h
theorem Pk {S:Nat->Bool} (h:∀ i,S i=false):∀ {os:List Oper} {L:List Out} {k:Nat} {t:bF},jd S os L k t=t
 | [],L,k,A=>by cases L <;> rfl
 | o::os,[],k,A=>rfl
 | o::os,x::L,k,A=>by simp only [jd]; rw [h,aq]; exact Pk h
theorem apM {A:aC} {o:jP} {b:Nat} (hb:b < A.next) (cs:List KV) (e:Nat):A.get b=some (.row cs e)↔(A.new o).get b=some (.row cs e):=by
 rw [aC.dw,ay (by omega)]
theorem RO {A:aC} {o:jP} {b c:Nat} (h:b≠c\/((∀ cs e,A.get b≠some (.row cs e))/\∀ cs e,o≠.row cs e)) (cs:List KV) (e:Nat):A.get b=some (.row cs e)↔(A.put c o).get b=some (.row cs e):=by
 rw [aC.cg];by_cases hbc:b=c
 ·rw [aR hbc]
  rcases h with h | ⟨h1,h2⟩
  ·exact absurd hbc h
  ·exact ⟨fun q=>absurd q (h1 _ _),fun q=>absurd (by simpa using q) (h2 cs e)⟩
 ·rw [ay hbc]
def Vf (A A' : aC):Prop:=A.next<=A'.next/\∀ b,b < A.next->∀ cs e,A.get b=some (.row cs e)↔A'.get b=some (.row cs e)
theorem Iw {A:aC} {o:jP} : Vf A (A.new o):=⟨by simp,fun _ hb cs e=>apM hb cs e⟩
theorem TP {A:aC} {c:Nat} {o o' : jP} (hc:A.get c=some o') (h' : ∀ cs e,o'≠.row cs e) (h:∀ cs e,o≠.row cs e):Vf A (A.put c o):=⟨by simp,fun b _ cs e=>by
 by_cases hbc:b=c
 ·subst hbc
  exact RO (.inr ⟨fun cs e q=>by rw [hc] at q; simp at q; exact h' cs e q,h⟩) cs e
 ·exact RO (.inl hbc) cs e⟩
theorem Vf.trans {A B C:aC} (h:Vf A B) (k:Vf B C):Vf A C:=⟨oO h.1 k.1,fun b hb cs e=>(h.2 b hb cs e).trans (k.2 b (ta hb h.1) cs e)⟩
theorem Pl {e sz b n f m:Nat} {base new:List KV} {ab an:Nat->KV} {A A' : aC} {v:KV} {more:Bool} (h:a9 (Ye e sz b n base ab A f m new an more) (v,A')):A' = A.put f (.bc (n+m) sz):=by
 obtain ⟨_,h⟩:=a9.lB h;simp only [fI] at h;exact h.2.symm
theorem YA {e b n m:Nat} {base new:List KV} {ab an:Nat->KV} {A A' : aC} {v:KV} {more:Bool} (h:a9 (adP e b n base ab A m new an more) (v,A')):∃ o,A' = A.new (.arr o):=by
 obtain ⟨_,h⟩:=a9.lB h;simp only [fI] at h;exact ⟨_,h.2.symm⟩
theorem aiO {e sz b:Nat} {A A' : aC} {xs:List KV} {v:KV} (h:a9 (Ru e sz b A xs) (v,A')):Vf A A':=by
 unfold Ru at h;split at h
 ·obtain ⟨_,h⟩:=a9.cond h
  rw [Pl h];exact Iw.trans (TP (o':=.bc 0 sz) (by simp) (by simp) (by simp))
 ·obtain ⟨_,h⟩:=a9.cond h
  rw [Pl h];exact Iw.trans (TP (o':=.bc 0 sz) (by simp) (by simp) (by simp))
 ·split at h
  ·rename_i hf
   obtain ⟨_,h⟩:=a9.cond h;rw [Pl h];exact TP hf (by simp) (by simp)
  ·exact h.elim
 ·exact h.elim
theorem Vg {e b:Nat} {A A' : aC} {xs:List KV} {v:KV} (h:a9 (Iu e b A xs) (v,A')):Vf A A':=by
 unfold Iu at h;split at h
 ·obtain ⟨_,h⟩:=a9.cond h
  obtain ⟨o,rfl⟩:=YA h;exact Iw
 ·split at h
  ·rename_i hf
   obtain ⟨_,h⟩:=a9.cond h;obtain ⟨o,rfl⟩:=YA h;exact (TP hf (by simp) (by simp)).trans Iw
  ·exact h.elim
 ·exact h.elim
theorem agR {e sz b:Nat} {mt:Bool} {A A' : aC} {xs:List KV} {v:KV} (h:a9 (M5 e sz b mt A xs) (v,A')):Vf A A':=by
 unfold M5 at h;split at h
 ·split at h
  ·rename_i y' _
   revert h
   cases apv _ with
   | true=>exact fun h=>Vg h
   | false=>
    cases mt with
    | true=>exact fun h=>Vg h
    | false=>exact fun h=>aiO h
  ·exact h.elim
 ·exact h.elim
theorem aoA {c:Bool} {i:ti} {t:bF} {A:aC} {x:KV×aC} (h:a9 (xl (cond c i .bad) t A) x):a9 (xl i t A) x:=by
 cases c with
 | true=>exact h
 | false=>exact h.elim
theorem afa {cfg:eQ} {o:Oper} {t:bF} {A A' : aC} {v:KV} (hs:TI o.op=true) (h:a9 (xl (bW P cfg o.op) t A) (v,A')):Vf A A':=by
 revert hs h
 cases hop:o.op <;> intro hs h <;> simp [TI] at hs
 ·rename_i T
  have h:a9 (xl (rE P T) t A) (v,A'):=h;unfold rE at h;split at h
  ·rename_i z _
   cases hb:(flat z&&z.cells.toList.all scalar&&il (gQ z).cells) with
   | false=>rw [hb] at h; exact h.elim
   | true=>
    rw [hb,aj] at h;have h:(KV.ptr A.next 0,A.new (.row (gQ z).cells (pE P T)))=(v,A'):=h;simp only [fI] at h;rw [<- h.2];exact Iw
  ·exact h.elim
 ·rename_i T x
  have h:a9 (F2 (pE P T) A [l7 t x]) (v,A'):=h;unfold F2 at h;simp only at h;obtain ⟨_,h⟩:=a9.cond h;have h:(KV.ptr A.next 0,A.new (.row (l7 t x).cells (pE P T)))=(v,A'):=h;simp only [fI] at h;rw [<- h.2];exact Iw
 ·rename_i c
  split at hs
  ·rename_i hc
   have h:a9 (xl (mZ P cfg c) t A) (v,A'):=h;unfold mZ at h;rw [hc] at h;simp only [C4] at h;unfold Kr at h;split at h
   ·split at h
    ·split at h
     ·split at h
      ·exact agR (aoA h)
      ·exact h.elim
     ·exact h.elim
    ·exact h.elim
   ·exact h.elim
  ·simp at hs
theorem ab9 {cfg:eQ} {o:Oper} {T:TypeId} {a x:Operand} {t:bF} {A A' : aC} {v:KV} (ho:o.op = .store T a x) (h:a9 (xl (bW P cfg o.op) t A) (v,A')) :
  A'.next=A.next/\∀ b,((∃ b2 off,l7 t a = .ptr b2 off/\b≠b2)\/∃ U Tc c i k,l7 t a = .ap U Tc c i k)->∀ cs e,A.get b=some (.row cs e)↔A'.get b=some (.row cs e):=by
 rw [ho] at h;have h:a9 (Yc P T A [l7 t a,l7 t x]) (v,A'):=h;unfold Yc at h;split at h
 ·rename_i c off w heq
  simp only [List.cons.injEq,and_true] at heq;obtain ⟨_,h⟩:=a9.cond h;split at h
  ·split at h
   ·have h:(uh,_)=(v,A'):=h
    simp only [fI] at h;rw [<- h.2];refine ⟨rfl,fun b hb cs e=>RO (.inl ?_) cs e⟩;rcases hb with ⟨b2,apJ,h1,h2⟩ | ⟨U,Tc,c',i,k,h1⟩
    ·rw [heq.1] at h1; simp at h1; rw [h1.1]; exact h2
    ·rw [heq.1] at h1; simp at h1
   ·exact h.elim
  ·exact h.elim
 ·rename_i U Tc c i k w heq
  split at h
  ·rename_i hA
   obtain ⟨_,h⟩:=a9.cond h;split at h
   ·have h:(uh,_)=(v,A'):=h
    simp only [fI] at h;rw [<- h.2];refine ⟨rfl,fun b _ cs e=>?_⟩;by_cases hbc:b=c
    ·subst hbc
     exact RO (.inr ⟨fun cs e q=>by rw [hA] at q; simp at q,by simp⟩) cs e
    ·exact RO (.inl hbc) cs e
   ·exact h.elim
  ·exact h.elim
 ·exact h.elim
theorem Wo {t:bF} {nx:Nat} : ∀ {l:List (Option Operand×Operand)},Wf t nx l=true->∀ p∈l,M6 t nx p=true
 | [],_,p,hp=>by simp at hp
 | q::l,h,p,hp=>by
  have h:Bool.rec (motive:=fun _=>Bool) false (Wf t nx l) (M6 t nx q)=true:=h;cases hq:M6 t nx q with
  | false=>rw [hq] at h; simp at h
  | true=>
   rw [hq] at h;rcases eL.1 hp with rfl | hp
   ·exact hq
   ·exact Wo h p hp
theorem aca {i:Nat} {x:Tmp} : ∀ (os:List Oper) (k:Nat),xX i (.tmp x) os k=true->∀ j o,os[j]? = some o->i<=k+j->o.dst≠some x
 | [],k,_,j,o,ho,_=>by simp at ho
 | q::os,k,h,0,o,ho,hle=>by
  simp at ho;subst ho;simp only [xX,aD,vw,nw] at h;rcases h.1 with h1 | h1
  ·rw [bT] at h1; omega
  ·intro e
   rw [e,Da (by simp [tf])] at h1;simp at h1
 | q::os,k,h,j+1,o,ho,hle=>by
  simp only [xX,aD] at h;exact aca os (k+1) h.2 j o (by simpa using ho) (by omega)
section
variable {cfg:eQ} {all:List Oper} {L:List Out} {t0:bF} {A0:aC}
theorem aiP {tn t1:bF} {i:Nat} {x:Operand} (Kh:∀ y,tn.get y=(jd (fun _=>true) all L 0 t0).get y) (yX:∀ y,t1.get y=(jd (fun j=>Nat.blt j i) all L 0 t0).get y) (h:xX i x all 0=true):l7 tn x=l7 t1 x:=by
 cases x with
 | tmp y=>
  simp only [l7];rw [Kh y,yX y,na (S':=fun j=>Nat.blt j i) rfl fun j o ho hd=>?_];rw [bd]
  symm
  rw [bT];refine Nat.lt_of_not_le fun hle=>?_;exact aca all 0 h j o ho (by omega) hd
 | const v=>rfl
 | global g=>rfl
 | func f=>rfl
theorem akw (j:Nat):(∃ q x,all[j]? = some q/\L[j]? = some x/\turns P cfg q x=true/\oT P cfg (fun k=>Nat.blt k (j+1)) all L 0 A0=x.2.2)\/
  ((∀ q x,all[j]? = some q->L[j]? = some x->turns P cfg q x=false)/\oT P cfg (fun k=>Nat.blt k (j+1)) all L 0 A0=oT P cfg (fun k=>Nat.blt k j) all L 0 A0):=by
 by_cases h:∃ q x,all[j]? = some q/\L[j]? = some x/\turns P cfg q x=true
 ·obtain ⟨q,x,h1,h2,h3⟩:=h
  refine .inl ⟨q,x,h1,h2,h3,?_⟩;have:=aku (A0:=A0) h1 h2 h3;exact this
 ·have hn:∀ q x,all[j]? = some q->L[j]? = some x->turns P cfg q x=false:=fun q x h1 h2=>by
   cases ht:turns P cfg q x with
   | false=>rfl
   | true=>exact absurd ⟨q,x,h1,h2,ht⟩ h
  refine .inr ⟨hn,Kz fun k q x hq hx ht=>?_⟩;rw [bd];have eF:k≠j:=fun e=>by subst e; rw [hn q x hq hx] at ht; simp at ht
  cases hb:Nat.blt k j with
  | true=>rw [bT] at hb ⊢; omega
  | false=>
   cases uu:Nat.blt k (j+1) with
   | false=>rfl
   | true=>
    rw [bT] at uu;have : ¬ k < j:=fun h=>by rw [<- bT,hb] at h; simp at h
    omega
theorem acb (hf:Ve P cfg all) {S:Nat->Bool} (hc:su all S):∀ n,∃ m,m<=n/\∀ j q x,j < n->all[j]? = some q->L[j]? = some x->turns P cfg q x=true->S j=Nat.blt j m
 | 0=>⟨0,aQ 0,fun j q x hj=>by omega⟩
 | n+1=>by
  obtain ⟨m,hm,h⟩:=acb hf hc n;by_cases hn:∃ q x,all[n]? = some q/\L[n]? = some x/\turns P cfg q x=true/\S n=true
  ·obtain ⟨q,x,h1,h2,h3,h4⟩:=hn
   have hq3:Nat.ble 3 (dL (bW P cfg q.op))=true:=by unfold turns at h3; simp only [aD] at h3; exact h3.2
   have hk:dL (bW P cfg q.op)≠0:=by have:=fH hq3; omega
   have iE:=RM hf h1 hk fun T a e=>by rw [I6 e] at hq3; simp at hq3
   refine ⟨n+1,aQ _,fun j q' x' hj h5 h6 h7=>?_⟩;have hb:Nat.blt j (n+1)=true:=by rw [bT]; exact hj
   rw [hb];by_cases hjn:j=n
   ·subst hjn; exact h4
   ·have ats:Nat.ble 3 (dL (bW P cfg q'.op))=true:=by unfold turns at h7; simp only [aD] at h7; exact h7.2
    exact hc n j h4 ((iE j q' h5 ats).1 (by omega))
  ·refine ⟨m,by omega,fun j q x hj h5 h6 h7=>?_⟩
   by_cases hjn:j=n
   ·subst hjn
    have hb:Nat.blt j m=false:=by
     cases hb:Nat.blt j m with
     | false=>rfl
     | true=>rw [bT] at hb; omega
    rw [hb];cases hs:S j with
    | false=>rfl
    | true=>exact absurd ⟨q,x,h5,h6,h7,hs⟩ hn
   ·exact h j q x (by omega) h5 h6 h7
theorem aoB (hf:Ve P cfg all) {S:Nat->Bool} (hc:su all S):∃ m,(∀ j q x,all[j]? = some q->L[j]? = some x->turns P cfg q x=true->S j=Nat.blt j m)/\oT P cfg S all L 0 A0=oT P cfg (fun j=>Nat.blt j m) all L 0 A0:=by
 obtain ⟨m,_,h⟩:=acb (L:=L) hf hc all.length;have h' : ∀ j q x,all[j]? = some q->L[j]? = some x->turns P cfg q x=true->S j=Nat.blt j m:=fun j q x h1 h2 h3=>h j q x (c8.1 h1).1 h1 h2 h3;exact ⟨m,h',Kz fun j q x h1 h2 h3=>by rw [bd]; exact h' j q x h1 h2 h3⟩
def AtK (P:Program) (cfg:eQ) (all:List Oper) (L:List Out) (t0:bF) (A0:aC):Prop:=∀ i o x,all[i]? = some o->L[i]? = some x->∃ t1,(∀ y,t1.get y=(jd (fun j=>Nat.blt j i) all L 0 t0).get y)/\(x.1=true->a9 (xl (bW P cfg o.op) t1 (oT P cfg (fun j=>Nat.blt j i) all L 0 A0)) (x.2.1,x.2.2))
theorem akx (CX:AtK P cfg all L t0 A0) (hpl:Wg P cfg all=true):∀ j,A0.next<=(oT P cfg (fun k=>Nat.blt k j) all L 0 A0).next
 | 0=>by rw [Wn (fun i=>by
   cases hb:Nat.blt i 0 with
   | false=>rfl
   | true=>rw [bT] at hb; omega)]; exact aQ _
 | j+1=>by
  have ih:=akx CX hpl j;rcases akw (P:=P) (cfg:=cfg) (all:=all) (L:=L) (A0:=A0) j with ⟨q,x,h1,h2,h3,h4⟩ | ⟨_,h4⟩
  ·rw [h4]
   obtain ⟨t1,_,hg⟩:=CX j q x h1 h2;unfold turns at h3;simp only [aD] at h3;have hg:=hg h3.1;have hp:=gx.1 hpl q (hQ h1);simp only [vw,h3.2,kW,yI,false_or] at hp;rcases hp with hp | hp
   ·exact oO ih (afa hp hg).1
   ·obtain ⟨a2,Z9⟩:=adE.1 hp
    unfold Yg at Z9;split at Z9
    ·rename_i T a3 v e
     rw [(ab9 e hg).1]; exact ih
    ·simp at Z9
  ·rw [h4]; exact ih
theorem aky (hf:Ve P cfg all) {S:Nat->Bool} (hc:su all S) {i:Nat} {o:Oper} {T:TypeId} {a:Operand} (ho:all[i]? = some o) (GA:o.op = .load T a) (rD:S i=false) (ux:wG all S i) (hns : ¬ Yy P cfg all i)
  (CX:AtK P cfg all L t0 A0) {tn:bF} (Kh:∀ y,tn.get y=(jd (fun _=>true) all L 0 t0).get y) (anK:Wf tn A0.next (LN P cfg all)=true)
  {t1:bF} (yX:∀ y,t1.get y=(jd (fun j=>Nat.blt j i) all L 0 t0).get y) {v:KV} {A1:aC} (hg:a9 (xl (bW P cfg o.op) t1 (oT P cfg (fun j=>Nat.blt j i) all L 0 A0)) (v,A1)) :
  a9 (xl (bW P cfg o.op) t1 (oT P cfg S all L 0 A0)) (v,oT P cfg S all L 0 A0):=by
 have hk:dL (bW P cfg o.op)≠0:=by rw [I6 GA]; simp
 have hex:∃ p,p∈LN P cfg all/\p.2=a/\xX i a all 0=true:=by
  refine Classical.byContradiction fun eF=>hns fun j q hq h3=>?_;rcases unordered hf ho hq hk h3 with h | ⟨p,h1,h2,h3,_⟩
  ·exact h
  ·obtain ⟨⟨T',e⟩,_⟩:=C9 h2
   rw [GA] at e;simp only [Op.load.injEq] at e;exact absurd ⟨p,h1,e.2.symm,by rw [e.2]; exact h3⟩ eF
 obtain ⟨p,hp,hpa,hnd⟩:=hex;have Ap:=aiP Kh yX hnd;have hpd:=Wo anK p hp;have hpl:=hf.plain p hp;rw [GA] at hg ⊢;have att:∀ A,xl (bW P cfg (.load T a)) t1 A=(aaj P T A [l7 t1 a]).map fun v=>(v,A):=fun _=>rfl;rw [att] at hg ⊢;obtain ⟨u,hg2,he⟩:=a9.map hg;simp only [fI] at he;obtain ⟨rfl,_⟩:=he;clear hg;have hg:=hg2;clear hg2;refine a9.C8 (f:=fun v=>(v,oT P cfg S all L 0 A0)) ?_;unfold M6 at hpd;rw [hpa,Ap] at hpd;cases hv:l7 t1 a with
 | tp U Tc m k es acc=>rw [hv] at hg; exact hg
 | ptr b off=>
  rw [hv] at hg hpd;simp only [aD] at hpd;have hb:=hpd.1;rw [bT] at hb;have jZ:∃ cs e,(oT P cfg (fun j=>Nat.blt j i) all L 0 A0).get b=some (.row cs e):=by
   have hg:a9 (match XG P T,size? P T with
    | some ag,some n=>match (K.rowAt (oT P cfg (fun j=>Nat.blt j i) all L 0 A0) b).bind fun cs=>xV n (Ep off cs) with
     | some l=>cond ag (.ok (.agg l)) (match l with | [v]=>.ok v | _=>.no)
     | none=>.no
    | _,_=>.no) u:=hg
   split at hg
   ·split at hg
    ·rename_i l hl
     obtain ⟨cs,h1,_⟩:=c9.1 hl;unfold K.rowAt at h1;split at h1
     ·rename_i cd e h2; exact ⟨cd,e,h2⟩
     ·simp at h1
    ·exact hg.elim
   ·exact hg.elim
  obtain ⟨cs,e,jZ⟩:=jZ;obtain ⟨m,hm,iE⟩:=aoB (L:=L) (A0:=A0) hf hc;have step:∀ k,(∀ q x,all[k]? = some q->L[k]? = some x->turns P cfg q x=true->¬ ((k < i->rR (eW [] all) i k=true)/\(i < k->rR (eW [] all) k i=true)))->
    ((oT P cfg (fun j=>Nat.blt j k) all L 0 A0).get b=some (.row cs e)↔(oT P cfg (fun j=>Nat.blt j (k+1)) all L 0 A0).get b=some (.row cs e)):=by
   intro k RP;rcases akw (P:=P) (cfg:=cfg) (all:=all) (L:=L) (A0:=A0) k with ⟨q,x,h1,h2,h3,h4⟩ | ⟨_,h4⟩
   ·rw [h4]
    have h3':=h3;unfold turns at h3';simp only [aD] at h3';rcases unordered hf ho h1 hk h3'.2 with h5 | ⟨p',h5,h6,h7,h8⟩
    ·exact absurd h5 (RP q x h1 h2 h3)
    ·obtain ⟨tk,htk,hgk⟩:=CX k q x h1 h2
     have hgk:=hgk h3'.1;obtain ⟨⟨T',e1⟩,e2⟩:=C9 h6;rw [GA] at e1;simp only [Op.load.injEq] at e1;have akz:=Wo anK p' h5;unfold M6 at akz;rw [<- e1.2,Ap,hv] at akz;simp only [aD] at akz;rcases e2 with ⟨e2,e3⟩ | ⟨U,a2,v2,e2,e3⟩
     ·exact (afa e3 hgk).2 b (ta hb (akx CX hpl k)) cs e
     ·refine (ab9 e3 hgk).2 b ?_ cs e
      rw [e2] at akz h8;have HR:=aiP Kh htk h8;have h9:=akz.2;simp only at h9;rw [HR] at h9;split at h9
      ·rename_i b2 apJ e4
       refine .inl ⟨b2,apJ,e4,fun e5=>?_⟩;subst e5;simp at h9
      ·rename_i U' Tc' c' i' k' e4; exact .inr ⟨_,_,_,_,_,e4⟩
      ·simp at h9
   ·rw [h4]
  have asG:(oT P cfg S all L 0 A0).get b=some (.row cs e):=by
   rw [iE];rcases Nat.le_total m i with hle | hle
   ·have down:∀ d k,k+d=i->m<=k->(oT P cfg (fun j=>Nat.blt j k) all L 0 A0).get b=some (.row cs e):=by
     intro d
     induction d with
     | zero=>intro k hk _; have:k=i:=by omega
             rw [this]; exact jZ
     | succ d ih=>
      intro k hk hmk;refine (step k fun q x h1 h2 h3 Np=>?_).2 (ih (k+1) (by omega) (by omega));have h4:=hm k q x h1 h2 h3;have h5:S k=true:=hc.ready hf.reg ho ux k (Np.1 (by omega));rw [h5] at h4;have h4:=h4.symm;rw [bT] at h4;omega
    exact down (i - m) m (by omega) (aQ m)
   ·have up:∀ d,i+d<=m->(oT P cfg (fun j=>Nat.blt j (i+d)) all L 0 A0).get b=some (.row cs e):=by
     intro d
     induction d with
     | zero=>intro _; exact jZ
     | succ d ih=>
      intro hd;refine (step (i+d) fun q x h1 h2 h3 Np=>?_).1 (ih (by omega));have h4:=hm (i+d) q x h1 h2 h3;have h5:Nat.blt (i+d) m=true:=by rw [bT]; omega
      rw [h5] at h4;by_cases hd0:d=0
      ·subst hd0
       rw [yH] at h4;rw [rD] at h4; simp at h4
      ·have:=hc (i+d) i h4 (Np.2 (by omega))
       rw [rD] at this; simp at this
    have:=up (m - i) (by omega);rwa [show i+(m - i)=m by omega] at this
  have CU:K.rowAt (oT P cfg S all L 0 A0) b=K.rowAt (oT P cfg (fun j=>Nat.blt j i) all L 0 A0) b:=by
   unfold K.rowAt;rw [jZ,asG]
  show a9 (match XG P T,size? P T with
    | some ag,some n=>match (K.rowAt (oT P cfg S all L 0 A0) b).bind fun cs=>xV n (Ep off cs) with
     | some l=>cond ag (.ok (.agg l)) (match l with | [v]=>.ok v | _=>.no)
     | none=>.no
    | _,_=>.no) u
  rw [CU];exact hg
 | _=>rw [hv] at hpd; simp at hpd
end
theorem agS {R:Type} {cfg:eQ} {bC:oX R} (gZ:tW P cfg.pc) (hm:P.follows .mixedOrders=true) {id:Nat} {all:List Oper} {N base:Nat} (hdN:all.all (LD N)=true) {k:bF->aC->Option R} {r:R} {t:bF} {A:aC} {B:St} {ρ:aZ} {a:Act} {w:World} {Q:Exit->Act->World->Prop}
  (Np:aj2 P cfg all=true) (h:vq P cfg bC all (fun t' A'=>Bool.rec (motive:=fun _=>Option R) none (k t' A') (Wf t' A.next (LN P cfg all))) all t A=some r) (ht:mq P E ρ t N a) (hj:KJ P E A B ρ base w)
  (hq:∀ t' E' A' B' a7 a' w',k t' A' = some r->mq P E' a7 t' N a'->a'.defers=a.defers->Ev P base E A B ρ w E' A' B' a7 w'->Q .normal a' w'):(Code.region id ⟨all⟩ true).wp P Q a w:=by
 have hf:=akt Np;obtain ⟨L,tn,An,nF,hk⟩:=Yv (fun o ho f args=>EC (hf.kind o ho) f args) h;obtain ⟨hlen,Kh,hAn,CX⟩:=nF.at;have hdk:Wf tn A.next (LN P cfg all)=true/\k tn An=some r:=by
  cases hd:Wf tn A.next (LN P cfg all) with
  | false=>simp only [hd] at hk; exact absurd hk (by simp)
  | true=>simp only [hd] at hk; exact ⟨rfl,hk⟩
 obtain ⟨anK,hk⟩:=hdk;have atu:AtK P cfg all L t A:=fun i o x ho hx=>by obtain ⟨t1,q1,_,q3,_⟩:=CX i o x ho hx; exact ⟨t1,q1,q3⟩
 have RQ:Ev P base E A B ρ w E A B ρ w.drew:=(ei.refl hj.k).ev (nC.drew hj.s);refine wp_region_any hm ?_;show wpAny P .any ⟨all⟩ Q all.length (Array.replicate all.length false) a w.drew;have GG:∀ i,(Array.replicate all.length false).getD i false=false:=by
  intro i;rw [hM,Array.getElem?_replicate];split <;> rfl
 let Inv:(Nat->Bool)->Act->World->Prop:=fun S a' w'=>∃ E' B' a7,a'.defers=a.defers/\Ev P base E A B ρ w.drew E' (oT P cfg S all L 0 A) B' a7 w'/\mq P E' a7 (jd S all L 0 t) N a'
 refine HV hf.reg Inv ?_ ?_ ?_ all.length _ a w.drew (by simp) ?_ (fun i j hi _=>by
   have h2:(Array.replicate all.length false).getD i false=true:=hi;rw [GG] at h2; simp at h2) ⟨E,B,ρ,rfl,?_,?_⟩
 ·
  rintro S S' a' w' hSS ⟨E',B',a7,h1,h2,h3⟩;have e1:oT P cfg S all L 0 A=oT P cfg S' all L 0 A:=Kz fun i o x ho _ _=>by rw [bd]; exact hSS i (c8.1 ho).1
  refine ⟨E',B',a7,h1,by rw [<- e1]; exact h2,h3.same fun y=>?_⟩;exact na rfl fun i o ho _=>by rw [bd]; exact (hSS i (c8.1 ho).1).symm
 ·
  rintro S a' w' i o ⟨E',B',a7,h1,h2,h3⟩ hc ho rD ux _;have hi:i < L.length:=by rw [hlen]; exact (c8.1 ho).1
  have hx:L[i]? = some L[i]:=dz hi;obtain ⟨t1,yX,hw,afb,RP⟩:=CX i o L[i] ho hx;have BB:∀ y∈oQ P cfg all o,t1.get y=(jd S all L 0 t).get y:=fun y hy=>by rw [yX y,ae9 hf.toT hc ho rD ux hy]
  have Pm:=F6 h3 (fun y hy=>BB y (by unfold oQ; exact List.mem_append_left _ hy)) hw;have I5:∀ d,o.dst=some d->d < N:=by
   intro d ed;have:=gx.1 hdN o (hQ ho);unfold LD at this;rw [ed] at this;simp only at this;rw [bT] at this;exact this
  have hoA:(⟨all⟩:Array Oper)[i]? = some o:=by simpa using ho
  unfold wpOp;rw [hoA];simp only [Pm];cases H0:L[i].1 with
  | false=>
   simp only [yI,if_false];have hv:=RP H0;refine ⟨E',B',a7,by rw [put_defers]; exact h1,?_,?_⟩
   ·rw [AU ho hx (by unfold turns; rw [H0]; rfl)]
    exact h2
   ·refine (h3.put I5 VC.undef).same fun y=>?_
    rw [Nn hf.toT hc ho hx rD y,hv]
  | true=>
   simp only [if_true];refine .inl ?_;have hg:=afb H0;have hgS:∃ A1,a9 (xl (bW P cfg o.op) t1 (oT P cfg S all L 0 A)) (L[i].2.1,A1)/\oT P cfg (cQ S i) all L 0 A=A1:=by
    by_cases xH:dL (bW P cfg o.op)=0
    ·refine ⟨_,akv hg xH,AU ho hx ?_⟩
     unfold turns;rw [xH,show Nat.ble 3 0=false from rfl,vx]
    ·by_cases iE:Yy P cfg all i
     ·rw [Yz (L:=L) (A0:=A) hf hc ho rD ux iE]
      refine ⟨_,hg,?_⟩;cases Kh:turns P cfg o L[i] with
      | true=>exact amy hf hc ho hx rD ux Kh
      | false=>
       have h4:=EB hg (by simpa [turns,H0] using Kh);rw [AU ho hx Kh,Yz (L:=L) (A0:=A) hf hc ho rD ux iE,h4]
     ·have hex:∃ T a,o.op = .load T a:=Classical.byContradiction fun eF=>iE (RM hf ho xH fun T a e=>eF ⟨T,a,e⟩)
      obtain ⟨T,a',GA⟩:=hex;refine ⟨_,aky hf hc ho GA rD ux iE atu Kh anK yX hg,AU ho hx ?_⟩;unfold turns;rw [I6 GA,show Nat.ble 3 1=false from rfl,vx]
   obtain ⟨A1,hg1,hA1⟩:=hgS;refine Pf gZ hg1 (fun x hxm=>RN h3 fun y e=>BB y ?_) h2.kj fun Nm Pg xT v' MT h4 h5=>?_
   ·unfold oQ
    subst e;exact List.mem_append_right _ (lN hxm)
   ·refine ⟨Nm,Pg,xT,by rw [put_defers]; exact h1,?_,?_⟩
    ·rw [hA1]; exact h2.trans h5
    ·refine ((h3.mono h5.le (h5.fX.le h2.fX.jK)).put I5 h4).same fun y=>?_
     rw [Nn hf.toT hc ho hx rD y]
 ·
  rintro S a' w' nE ⟨E',B',a7,h1,h2,h3⟩;have e1:oT P cfg S all L 0 A=An:=by rw [hAn]; exact Kz fun i o x ho _ _=>by rw [bd]; exact nE i (c8.1 ho).1
  rw [e1] at h2;refine hq tn E' An B' a7 a' w' hk (h3.same fun y=>?_) h1 (RQ.trans h2);rw [Kh y];exact na rfl fun i o ho _=>by rw [bd]; exact (nE i (c8.1 ho).1).symm
 ·simp
 ·rw [Wn GG]
  exact .refl hj.k RQ.fX.jK
 ·refine ht.same fun y=>?_
  rw [Pk GG]
end Go.K
end
section
namespace Go.K
open Go Go.aB
variable {P:Program} {E:Env}
theorem atv {A:aC} {B:St} {cd:List Value} {bV:Nat} (h:fK P E A B):ei P E A B E A (B.new (.row cd bV true none)):=by
 have Bx:∀ x,AR A E x->(B.new (.row cd bV true none)).get x=B.get x:=fun x q=>by have:=h.Kw q; rw [St.dw,ay (by omega)]
 refine ⟨⟨?_,?_,?_,h.apart,h.inj,h.j6,h.mA,h.oI,h.live,?_,?_,?_,?_,?_,h.ar.nD (Env.le_refl _) (fun _=>rfl) (fun _ _ e=>e) (fun _ _ e=>e) (aQ _) (by simp) Bx (fun _ _ e=>.inl e) (fun _ _ e=>.inl e) (fun b g e=>.inl ⟨b,e⟩) (fun _ _=>by simp) h.mem⟩,Env.le_refl _,aQ _,?_,fun _ _ e=>.inl e,fun _ _ e=>.inl e,fun _ _ e=>.inl e,fun _ _ _ _=>by simp,fun _ q=>.inl q,fun _ q=>.inl (q.of (fun _=>rfl) (fun _ _ e=>e) Bx),fun _ _ q=>.inl (by simpa using q),fun _ q=>.inl (q.of (fun _=>rfl) (fun _ _ e=>e) Bx fun _ _=>by simp),nT aeS⟩
 ·intro b nK RE hb
  obtain ⟨x,c,h1,h2,h3⟩:=h.row b nK RE hb;have:=h.gX b x h1;exact ⟨x,c,h1,by rw [St.dw,ay (by omega)]; exact h2,h3⟩
 ·intro b top GF hb
  rcases h.bc b top GF hb with h1 | ⟨g,h1,hp0,h2⟩
  ·exact .inl h1
  ·refine .inr ⟨g,h1,hp0,fun x hx c e own f k hg=>?_⟩
   rw [St.dw] at hg;split at hg
   ·simp at hg
   ·exact h2 x (by simpa using hx) c e own f k hg
 ·intro b r hb
  have:=h.oS b r hb;rw [St.dw,ay (by omega)];exact h.z b r hb
 ·intro b x hb; have:=h.gX b x hb; rw [St.ct]; omega
 ·intro b r hb; have:=h.oS b r hb; rw [St.ct]; omega
 ·intro b g hb; have:=h.kG b g hb; rw [St.ct]; omega
 ·intro g hg; rw [St.ct] at hg; rw [St.mB]; exact h.fresh g (by omega)
 ·intro g x hx; rw [St.mB] at hx; rw [St.ct]; have:=h.mem g x hx; omega
 ·intro x hx _ _; rw [St.dw,ay (by omega)]
structure Fr (E:Env) (A:aC) (B:St) (b0 y:Nat):Prop where
 lo:b0<=y
 hi:y < B.next
 un:∀ b,E.κ b≠some y
 z:E.z y=none
 far : ¬ AT A E B y
theorem Fr.step {A A' : aC} {B B' : St} {E' : Env} {b0 y base:Nat} {ρ a7:aZ} {w w' : World} (h:Fr E A B b0 y) (k:Ev P base E A B ρ w E' A' B' a7 w'):Fr E' A' B' b0 y/\B'.get y=B.get y:=by
 have hn:=k.fX.next;refine ⟨⟨h.lo,ta h.hi hn,fun b e=>?_,?_,fun q=>?_⟩,k.nD y h.hi h.un h.far⟩
 ·rcases k.new b y e with e | e
  ·exact h.un b e
  ·have:=h.hi; omega
 ·cases hz:E'.z y with
  | none=>rfl
  | some r=>
   rcases k.wk y r hz with e | e | e
   ·rw [h.z] at e; simp at e
   ·exact absurd (.inl e) h.far
   ·have:=h.hi; omega
 ·rcases k.qv y q with e | e
  ·exact h.far e
  ·have:=h.hi; omega
theorem atw {E0:Env} {A0 A:aC} {B0 B:St} {ρ0 ρ a7:aZ} {w0 w w' : World} {base y bV:Nat} {nK cd:List Value} (h:Ev P base E0 A0 B0 ρ0 w0 E A B ρ w) (hy:Fr E A B B0.next y) (hold:B.get y=some (.row nK bV true none))
  (g:nC base ρ B w a7 (B.put y (.row cd bV true none)) w'):Ev P base E0 A0 B0 ρ0 w0 E A (B.put y (.row cd bV true none)) a7 w':=by
 have hs:=h.jK;have Bx:∀ x,AR A E x->(B.put y (.row cd bV true none)).get x=B.get x:=fun x q=>by
  rw [St.cg,ay];intro e;subst e;exact hy.far (.inl q)
 have LQ:∀ q,AF A E (B.put y (.row cd bV true none)) q->AF A E B q:=fun q r=>r.of (fun _=>rfl) (fun _ _ e=>e) Bx;have hAT:∀ q,AT A E (B.put y (.row cd bV true none)) q->AT A E B q:=fun q r=>r.of (fun _=>rfl) (fun _ _ e=>e) Bx fun _ _=>by simp
 refine ⟨⟨?_,?_,?_,hs.apart,hs.inj,hs.j6,hs.mA,hs.oI,hs.live,hs.gX,hs.oS,hs.kG,?_,?_,hs.ar.nD (Env.le_refl _) (fun _=>rfl) (fun _ _ e=>e) (fun _ _ e=>e) (aQ _) (aQ _) Bx (fun _ _ e=>.inl e) (fun _ _ e=>.inl e) (fun b g e=>.inl ⟨b,e⟩) (fun _ _=>by simp) hs.mem⟩,h.fX.trans g,h.le,h.next,?_,h.new,h.wk,h.wm,?_,h.oJ,fun q r=>h.oY q (LQ q r),?_,fun q r=>h.qv q (hAT q r),?_⟩
 ·intro b cs e hb
  obtain ⟨x,c,h1,h2,h3⟩:=hs.row b cs e hb;refine ⟨x,c,h1,?_,h3⟩;rw [St.cg,ay (fun e=>hy.un b (by rw [<- e]; exact h1))];exact h2
 ·intro b top sz hb
  rcases hs.bc b top sz hb with h1 | ⟨q,h1,hp0,h2⟩
  ·exact .inl h1
  ·refine .inr ⟨q,h1,hp0,fun x hx c e own f k hg=>?_⟩
   rw [St.cg] at hg;split at hg
   ·simp at hg
   ·exact h2 x (by simpa using hx) c e own f k hg
 ·intro b r hb
  rw [St.cg,ay]
  ·exact hs.z b r hb
  ·intro e
   subst e;rw [hy.z] at hb;simp at hb
 ·intro q hq; rw [St.vz]; exact hs.fresh q hq
 ·intro q x hx; rw [St.vz] at hx; exact hs.mem q x hx
 ·intro x hx hn ha
  rw [St.cg,ay (fun e=>by have:=hy.lo; omega)];exact h.nD x hx hn ha
 ·intro q hq hn ha; rw [St.vz]; exact h.sQ q hq hn ha
 ·intro q x hx; rw [St.vz] at hx; exact h.xY q x hx
 ·intro x hx c e own cc hg
  rw [St.cg,ay (fun e=>by have:=hy.lo; omega)] at hg;exact h.rows x hx c e own cc hg
theorem asH {E0:Env} {A0 A:aC} {B0 B:St} {ρ0 ρ:aZ} {w0 w:World} {base y bV:Nat} {cs:List KV} {cd:List Value} (h:Ev P base E0 A0 B0 ρ0 w0 E A B ρ w) (hy:Fr E A B B0.next y) (hold:B.get y=some (.row cd bV true none)) (hv:bm P E cs cd) :
  E.le (E.m9 A.next y)/\Ev P base E0 A0 B0 ρ0 w0 (E.m9 A.next y) (A.new (.row cs bV)) B ρ w:=by
 have hs:=h.jK;have hle:E.le (E.m9 A.next y):=⟨fun _ _ e=>e,fun b x e=>by
  have:=hs.mA b x e;simp only [Env.m9]; rw [ay (by omega)]; exact e,fun _ _ e=>e,fun _ _ e=>e⟩
 have hA:∀ (b:Nat) (v:KV),(A.new (.row cs bV)).get b=some (.arr v)->A.get b=some (.arr v):=fun b v hb=>by
  rw [aC.dw] at hb;split at hb
  ·simp at hb
  ·exact hb
 have hfz:∀ (b:Nat) (v:KV),(A.new (.row cs bV)).get b=some (.jQ v)->A.get b=some (.jQ v):=fun b v hb=>by
  rw [aC.dw] at hb;split at hb
  ·simp at hb
  ·exact hb
 have tP:∀ x,AR (A.new (.row cs bV)) (E.m9 A.next y) x->AR A E x:=fun _ q=>q.of (fun _=>rfl) hA;have LQ:∀ g,AF (A.new (.row cs bV)) (E.m9 A.next y) B g->AF A E B g:=fun _ q=>q.of (fun _=>rfl) hA fun _ _=>rfl;have hAT:∀ x,AT (A.new (.row cs bV)) (E.m9 A.next y) B x->AT A E B x:=fun _ q=>q.of (fun _=>rfl) hA (fun _ _=>rfl) fun _ _=>rfl;refine ⟨hle,⟨⟨?_,?_,hs.z,?_,?_,?_,?_,?_,?_,?_,hs.oS,hs.kG,hs.fresh,hs.mem,?_⟩,h.fX,Env.le_trans h.le hle,by have:=h.next; rw [aC.ct]; omega,h.nD,?_,h.wk,h.wm,h.sQ,fun x q=>h.oJ x (tP x q),fun g q=>h.oY g (LQ g q),h.xY,fun x q=>h.qv x (hAT x q),h.rows⟩⟩
 ·intro b nK RE hb
  rw [aC.dw] at hb;split at hb
  ·rename_i e
   simp at hb;obtain ⟨rfl,rfl⟩:=hb;exact ⟨y,cd,by simp [Env.m9,e],hold,hv.mono hle⟩
  ·obtain ⟨x,c,h1,h2,h3⟩:=hs.row b nK RE hb
   exact ⟨x,c,hle.κ _ _ h1,h2,h3.mono hle⟩
 ·intro b top GF hb
  rw [aC.dw] at hb;split at hb
  ·simp at hb
  ·exact hs.bc b top GF hb
 ·intro b x hb
  simp only [Env.m9] at hb ⊢;split at hb
  ·simp at hb; subst hb; exact hy.z
  ·exact hs.apart b x hb
 ·intro b c x hb hc
  simp only [Env.m9] at hb hc;split at hb <;> split at hc
  ·omega
  ·simp at hb; subst hb; exact absurd hc (hy.un c)
  ·simp at hc; subst hc; exact absurd hb (hy.un b)
  ·exact hs.inj b c x hb hc
 ·exact HX.new (E:=E.m9 A.next y) (fun x z g a b c d e f hx hz=>hs.j6 x z g a b c d e f hx hz) (.inl fun _ _=>by simp)
 ·intro b x hb
  simp only [Env.m9] at hb;rw [aC.ct];split at hb
  ·omega
  ·have:=hs.mA b x hb; omega
 ·intro b g hb; have:=hs.oI b g hb; rw [aC.ct]; omega
 ·intro b o hb
  rw [aC.dw] at hb;rw [aC.ct];split at hb
  ·omega
  ·have:=hs.live b o hb; omega
 ·intro b x hb
  simp only [Env.m9] at hb;split at hb
  ·simp at hb; have:=hy.hi; omega
  ·exact hs.gX b x hb
 ·have tj:∀ b,(E.m9 A.next y).α b=E.α b:=fun _=>rfl
  have Ke:∀ c x,(E.m9 A.next y).κ c=some x->(c=A.next/\x=y)\/E.κ c=some x:=fun c x e=>by
   simp only [Env.m9] at e;split at e
   ·rename_i e1; simp at e; exact .inl ⟨e1,e.symm⟩
   ·exact .inr e
  refine ⟨fun b v hb=>(hs.ar.arr b v (hA _ _ hb)).mono hle rfl fun _ _ _ _=>rfl,fun b v hb=>(hs.ar.jQ b v (hfz _ _ hb)).mono hle rfl,fun x q=>?_,fun b c v u x L N L' N' h1 h2 h3 h4=>hs.ar.inj b c v u x L N L' N' (hA _ _ h1) (hA _ _ h2) h3 h4,
   fun b c v u x z L N L' N' cs e own g k cd e' rU k' h1 h2 h3 h4 h5 h6=>hs.ar.xi b c v u x z L N L' N' cs e own g k cd e' rU k' (hA _ _ h1) (hA _ _ h2) h3 h4 h5 h6,fun b x e=>?_,fun b p e=>?_,fun b x L N e=>hs.ar.gX b x L N e,fun b v x L N cs e own g k h1 h2 h3=>?_,fun b v hb=>?_⟩
  ·obtain ⟨h1,h2⟩:=hs.ar.z x (tP x q)
   refine ⟨h1,fun c e=>?_⟩;rcases Ke c x e with ⟨_,rfl⟩ | e
   ·exact hy.far (.inl (tP _ q))
   ·exact h2 c e
  ·rcases Ke b x e with ⟨rfl,_⟩ | e
   ·cases hb:E.α A.next with
    | none=>exact hb
    | some p=>have:=hs.ar.mA _ p hb; omega
   ·exact hs.ar.dis b x e
  ·have:=hs.ar.mA b p e; rw [aC.ct]; omega
  ·obtain ⟨h4,h5,h6⟩:=hs.ar.vr b v x L N cs e own g k (hA _ _ h1) h2 h3
   refine ⟨h4,h5,fun z hz eF=>?_⟩;obtain ⟨h7,h8,h9⟩:=h6 z hz eF;refine ⟨h7,fun q=>h8 (tP z q),fun c e'=>?_⟩;rcases Ke c z e' with ⟨_,rfl⟩ | e'
   ·exact hy.far (.inr ⟨g,⟨b,v,x,L,N,cs,e,own,k,hA _ _ h1,h2,h3⟩,hz⟩)
   ·exact h9 c e'
  ·obtain ⟨h1,h2⟩:=hs.ar.nk b v (hA _ _ hb)
   rw [aC.ct];refine ⟨by omega,?_⟩;cases hk:(E.m9 A.next y).κ b with
   | none=>rfl
   | some x=>
    rcases Ke b x hk with ⟨e,_⟩ | e
    ·omega
    ·rw [h2] at e; simp at e
 ·intro b x hb
  simp only [Env.m9] at hb;split at hb
  ·simp at hb; subst hb; exact .inr hy.lo
  ·exact h.new b x hb
theorem amz {cfg:eQ} (gZ:tW P cfg.pc) {o:Oper} {p:Operand×List Operand} (hp:M9 o=some p) {t:bF} {A A' : aC} {v:KV} {base:Nat} {B:St} {ρ:aZ} {a:Act} {w:World} {next:Act->World->Prop} {Q:Exit->Act->World->Prop}
  (h:a9 (xl (HW P cfg t p) t A) (v,A')) (hv:∀ x∈p.1::p.2,VC P E ρ (l7 t x) (a.eval x)) (hj:KJ P E A B ρ base w)
  (hk:∀ E' B' a7 v' w',VC P E' a7 v v'->Ev P base E A B ρ w E' A' B' a7 w'->next (a.put o.dst v') w'):o.wp P a w next Q:=by
 classical
 have ba:compile P o.op = .call p.1 p.2:=by
  unfold M9 at hp;split at hp
  ·rename_i c ho hg
   split at hp
   ·rename_i d hc
    simp at hp;subst hp;rw [ho];exact ab4 (cfg:=eQ.none) (show mZ P eQ.none c=_ by unfold mZ; rw [hc])
   ·simp at hp
  ·simp at hp
 unfold HW at h;split at h
 ·rename_i g hfv
  split at h
  ·rename_i F hF
   obtain ⟨u,h1,h2⟩:=a9.map h;simp only [fI] at h2;obtain ⟨rfl,rfl⟩:=h2;obtain ⟨hlen,hf⟩:=a9.cond h1;obtain ⟨hg,nF⟩:=gZ g F hF _ _ hf (bh hlen);have cf:=tg P o;rw [ba] at cf;obtain ⟨em,h3,h4⟩:=cn (xs:=p.1::p.2) hv;obtain ⟨y,ys,e,h5,h6⟩:=h3.cons_inv;simp only [List.map_cons,List.cons.injEq] at e;obtain ⟨rfl,rfl⟩:=e;rw [hfv] at h5;obtain ⟨l,m,e5,e6,e7⟩:=h5.Ku;have:=e6.cl;subst this;have:=e7.cl;subst this;obtain ⟨cK,h7,h8⟩:=cf.2 ρ em a.eval g (p.2.map em) h4 hg.1 (by rw [e5]; simp only [xR]; rw [hg.1]; simp) hg.2;unfold Oper.wp;rw [h8 w];refine (nF E A B ρ base w cK ⟨p.2.map em,by rw [uE]; exact h6,h7⟩ hj).mono ?_;rintro e w' ⟨v',E',B',a7,rfl,h9,vK⟩;exact hk E' B' a7 v' w' h9 vK
  ·exact h.elim
 ·exact h.elim
inductive acd (P:Program) (cfg:eQ) (all:List Oper) (A:aC):List Oper->bF->List Out->bF->Prop where
 | nil {t:bF} : acd P cfg all A [] t [] t
 | cons {o:Oper} {os:List Oper} {t t1 t' : bF} {wd:Bool} {v:KV} {L:List Out}
   (same:∀ i,t1.get i=t.get i) (want:Pj all o t wd)
   (yes:wd=true->(sN all o=true/\v = .bD)\/(sN all o=false/\(a9 (xl (bW P cfg o.op) t1 A) (v,A)\/∃ p,M9 o=some p/\a9 (xl (HW P cfg t1 p) t1 A) (v,A)))) (no:wd=false->v=uh/\sN all o=false)
   (rest:acd P cfg all A os (rT t1 o.dst v) L t'):acd P cfg all A (o::os) t ((wd,v,A)::L) t'
theorem tq {o:Oper} {T:TypeId} {d:Tmp} (h:gN o=some (T,d)):o.op = .alloc T/\o.guard=none/\o.dst=some d:=by
 unfold gN at h;split at h
 ·rename_i T' d' h1 h2 h3
  simp at h;obtain ⟨rfl,rfl⟩:=h;exact ⟨h1,h2,h3⟩
 ·simp at h
theorem F7 {all:List Oper} {o:Oper} {T:TypeId} {d:Tmp} {x:Operand} (h:uy all o=some (T,d,x)):o.op = .store T (.tmp d) x/\o.guard=none/\o.dst=none/\yT d all=true:=by
 unfold uy at h;split at h
 ·rename_i T' d' x' h1 h2 h3
  cases hb:yT d' all with
  | false=>rw [hb] at h; simp at h
  | true=>
   rw [hb,aj] at h;simp at h;obtain ⟨rfl,rfl,rfl⟩:=h;exact ⟨h1,h2,h3,hb⟩
 ·simp at h
theorem Wp {all:List Oper} {o:Oper} (h:sN all o=true):(∃ T d,gN o=some (T,d))\/∃ T d x,uy all o=some (T,d,x):=by
 unfold sN at h;simp only [vw,adE] at h;rcases h with ⟨⟨T,d⟩,h⟩ | ⟨⟨T,d,x⟩,h⟩
 ·exact .inl ⟨T,d,h⟩
 ·exact .inr ⟨T,d,x,h⟩
theorem amA {all:List Oper} {o:Oper} (h:sN all o=true):o.guard=none:=by
 rcases Wp h with ⟨T,d,h⟩ | ⟨T,d,x,h⟩
 ·exact (tq h).2.1
 ·exact (F7 h).2.1
theorem I7 {R:Type} {cfg:eQ} {bC:oX R} {all:List Oper} {k:bF->aC->Option R} {r:R} : ∀ {os:List Oper} {t:bF} {A:aC},(∀ o∈os,sN all o=true\/dL (bW P cfg o.op)<=1\/(M9 o).isSome=true)->aeE P cfg bC all k os t A=some r->
  ∃ L t',acd P cfg all A os t L t'/\k t' A=some r
 | [],t,A,_,h=>⟨[],t,.nil,h⟩
 | o::os,t,A,hn,h=>by
  have h:amh P cfg bC all o (aeE P cfg bC all k os) t A=some r:=h;have OS:=fun q hq=>hn q (xh o hq);unfold amh at h;cases hb:sN all o with
  | true=>
   rw [hb] at h;have h:aeE P cfg bC all k os (rT t o.dst .bD) A=some r:=h;obtain ⟨L,t',h1,h2⟩:=I7 OS h;exact ⟨_,t',.cons (fun _=>rfl) (.inl ⟨amA hb,rfl⟩) (fun _=>.inl ⟨hb,rfl⟩) (fun e=>by simp at e) h1,h2⟩
  | false=>
   rw [hb] at h;cases hdy:M9 o with
   | some p=>
    simp only [hdy] at h;have h:Rx bC t A (fun v A=>aeE P cfg bC all k os (rT t o.dst v) A) (HW P cfg t p)=some r:=h;have hg:o.guard=none:=by
     unfold M9 at hdy;split at hdy
     ·assumption
     ·simp at hdy
    have anL:HW P cfg t p = .bad\/∃ g f,HW P cfg t p = .Eo g f p.2:=by
     unfold HW;split
     ·split
      ·exact .inr ⟨_,_,rfl⟩
      ·exact .inl rfl
     ·exact .inl rfl
    obtain ⟨v,A1,h1,h2⟩:=Ky (fun f args e=>by
     rcases anL with h | ⟨g,f',h⟩ <;> rw [h] at e <;> simp at e) h
    have e:A1=A:=by
     rcases anL with h | ⟨g,f',h⟩
     ·rw [h] at h1; exact h1.elim
     ·rw [h] at h1
      obtain ⟨u,_,h3⟩:=a9.map h1;simp at h3;exact h3.2.symm
    subst e;obtain ⟨L,t',h3,h4⟩:=I7 OS h2;exact ⟨_,t',.cons (fun _=>rfl) (.inl ⟨hg,rfl⟩) (fun _=>.inr ⟨hb,.inr ⟨p,hdy,h1⟩⟩) (fun e=>by simp at e) h3,h4⟩
   | none=>
   simp only [hdy] at h;have hk:dL (bW P cfg o.op)<=1:=by
    rcases hn o (by simp) with e | e | e
    ·rw [hb] at e; simp at e
    ·exact e
    ·rw [hdy] at e; simp at e
   have hk3:Nat.ble 3 (dL (bW P cfg o.op))=false:=by
    cases hc:Nat.ble 3 (dL (bW P cfg o.op)) with
    | false=>rfl
    | true=>have:=fH hc; omega
   have hnc:=EC (P:=P) (cfg:=cfg) (o:=o) (by omega);have h:Bw P cfg bC all o (aeE P cfg bC all k os) t A=some r:=h;unfold Bw at h;cases hg:o.guard with
   | none=>
    rw [hg] at h;obtain ⟨v,A1,h1,h2⟩:=Ky hnc h;have e:=EB h1 hk3;subst e;obtain ⟨L,t',h3,h4⟩:=I7 OS h2;exact ⟨_,t',.cons (fun _=>rfl) (.inl ⟨hg,rfl⟩) (fun _=>.inr ⟨hb,.inl h1⟩) (fun e=>by simp at e) h3,h4⟩
   | some p=>
    obtain ⟨j,want⟩:=p;rw [hg] at h;obtain ⟨d,hd,h⟩:=Ph h;rcases h with ⟨b,t1,h1,h2,h3⟩ | ⟨l,h1,h2⟩
    ·rcases h3 with ⟨h3,h4⟩ | ⟨h3,h4⟩
     ·obtain ⟨v,A1,h5,h6⟩:=Ky hnc h4
      have e:=EB h5 hk3;subst e;obtain ⟨L,t',h7,h8⟩:=I7 OS h6;exact ⟨_,t',.cons h2 (.inr ⟨j,want,d,hg,hd,.inl ⟨b,h1,h3.symm⟩⟩) (fun _=>.inr ⟨hb,.inl h5⟩) (fun e=>by simp at e) h7,h8⟩
     ·obtain ⟨L,t',h7,h8⟩:=I7 OS h4
      exact ⟨_,t',.cons h2 (.inr ⟨j,want,d,hg,hd,.inl ⟨b,h1,h3.symm⟩⟩) (fun e=>by simp at e) (fun _=>⟨rfl,hb⟩) h7,h8⟩
    ·obtain ⟨L,t',h7,h8⟩:=I7 OS h2
     exact ⟨_,t',.cons (fun _=>rfl) (.inr ⟨j,want,d,hg,hd,.inr ⟨l,h1,rfl⟩⟩) (fun e=>by simp at e) (fun _=>⟨rfl,hb⟩) h7,h8⟩
theorem acd.at {cfg:eQ} {all:List Oper} {A:aC} : ∀ {os:List Oper} {t t' : bF} {L:List Out},acd P cfg all A os t L t'->
  L.length=os.length/\(∀ y,t'.get y=(jd (fun _=>true) os L 0 t).get y)/\
  ∀ i o x,os[i]? = some o->L[i]? = some x->∃ t1,(∀ y,t1.get y=(jd (fun j=>Nat.blt j i) os L 0 t).get y)/\Pj all o t1 x.1/\(x.1=true->(sN all o=true/\x.2.1 = .bD)\/(sN all o=false/\(a9 (xl (bW P cfg o.op) t1 A) (x.2.1,A)\/∃ p,M9 o=some p/\a9 (xl (HW P cfg t1 p) t1 A) (x.2.1,A))))/\(x.1=false->x.2.1=uh/\sN all o=false)
 | _,_,_,_,.nil=>⟨rfl,fun _=>rfl,fun i o x ho=>by simp at ho⟩
 | o::os,t,t',(wd,v,_)::L,.cons (t1:=t1) same want yes no rest=>by
  obtain ⟨h1,h2,h4⟩:=rest.at;have ab8:∀ y,(rT t1 o.dst v).get y=(rT t o.dst v).get y:=fun y=>by rw [uF,uF,same]
  refine ⟨by simp [h1],fun y=>?_,fun i q x hq hx=>?_⟩
  ·rw [h2 y]
   simp only [jd,aj];rw [EA];exact na (ab8 y) fun _ _ _ _=>rfl
  ·cases i with
   | zero=>
    simp at hq hx;subst hq hx;have e0:∀ (os:List Oper) (L:List Out) (k:Nat) (t:bF),jd (fun j=>Nat.blt j 0) os L k t=t:=by
     intro os
     induction os with
     | nil=>intro L k t; cases L <;> rfl
     | cons o os ih=>intro L k t; cases L with
      | nil=>rfl
      | cons x L=>simp only [jd]; exact ih L _ t
    refine ⟨t1,fun y=>by rw [e0]; exact same y,?_,yes,no⟩;rcases want with h | ⟨j,wt,d,e2,e3,e4⟩
    ·exact .inl h
    ·exact .inr ⟨j,wt,d,e2,e3,by rw [same]; exact e4⟩
   | succ i=>
    obtain ⟨t2,h5,h6,h7,h8⟩:=h4 i q x (by simpa using hq) (by simpa using hx);have hsh:(fun j=>Nat.blt (j+1) (i+1))=fun j=>Nat.blt j i:=by
     funext j;cases hb:Nat.blt j i with
     | true=>rw [bT] at hb ⊢; omega
     | false=>
      cases hc:Nat.blt (j+1) (i+1) with
      | false=>rfl
      | true=>rw [bT] at hc; rw [show Nat.blt j i=true from by rw [bT]; omega] at hb; simp at hb
    have h01:Nat.blt 0 (i+1)=true:=by rw [bT]; omega
    refine ⟨t2,fun y=>?_,h6,h7,h8⟩;rw [h5 y];simp only [jd,h01,aj];rw [EA,hsh];exact na (ab8 y) fun _ _ _ _=>rfl
theorem I8 {cfg:eQ} {all:List Oper} {b:List Nat} {i:Nat} {y:Oper} : ∀ (xs:List Oper) (k:Nat),Iv P cfg all b i y xs k=true->∀ (j:Nat) (x:Oper),xs[j]? = some x->k+j < i->vH P cfg all x y=true->rR b i (k+j)=true
 | [],k,_,j,x,hx,_,_=>by simp at hx
 | x0::xs,k,h,0,x,hx,a8,hc=>by
  simp at hx;subst hx;simp only [Iv,aD,vw,nw] at h;rcases h.1 with (h1 | h1) | h1
  ·have:=fH h1; omega
  ·rw [hc] at h1; simp at h1
  ·exact h1
 | x0::xs,k,h,j+1,x,hx,a8,hc=>by
  simp only [Iv,aD] at h;have:=I8 xs (k+1) h.2 j x (by simpa using hx) (by omega) hc;rwa [show k+1+j=k+(j+1) by omega] at this
theorem ED {cfg:eQ} {all:List Oper} {b:List Nat} : ∀ (os:List Oper) (k:Nat),Ck P cfg all b os k=true->∀ (i:Nat) (o:Oper),os[i]? = some o->Iv P cfg all b (k+i) o all 0=true
 | [],k,_,i,o,ho=>by simp at ho
 | o0::os,k,h,0,o,ho=>by
  simp at ho;subst ho;simp only [Ck,aD] at h;exact h.1
 | o0::os,k,h,i+1,o,ho=>by
  simp only [Ck,aD] at h;have:=ED os (k+1) h.2 i o (by simpa using ho);rwa [show k+1+i=k+(i+1) by omega] at this
theorem Vh {i:Nat} {d:Tmp} : ∀ (os:List Oper) (k:Nat),M8 i d os k=true->∀ (j:Nat) (o:Oper),os[j]? = some o->k+j≠i->o.dst≠some d
 | [],k,_,j,o,ho,_=>by simp at ho
 | q::os,k,h,0,o,ho,eF=>by
  simp at ho;subst ho;simp only [M8,aD,vw,nw] at h;rcases h.1 with h1 | h1
  ·exact absurd (bh h1) (by simpa using eF)
  ·intro e
   rw [e,Da (by simp)] at h1;simp at h1
 | q::os,k,h,j+1,o,ho,eF=>by
  simp only [M8,aD] at h;exact Vh os (k+1) h.2 j o (by simpa using ho) (by omega)
theorem Qo {all:List Oper} {i:Nat} {d:Tmp} : ∀ (os:List Oper) (k:Nat),Es all i d os k=true->∀ (j:Nat) (o:Oper),os[j]? = some o->k+j≠i->∀ T x,uy all o≠some (T,d,x)
 | [],k,_,j,o,ho,_=>by simp at ho
 | q::os,k,h,0,o,ho,eF=>by
  simp at ho;subst ho;simp only [Es,aD,vw] at h;intro T x e;rcases h.1 with h1 | h1
  ·exact absurd (bh h1) (by simpa using eF)
  ·rw [e] at h1
   simp at h1
 | q::os,k,h,j+1,o,ho,eF=>by
  simp only [Es,aD] at h;exact Qo os (k+1) h.2 j o (by simpa using ho) (by omega)
theorem RR {d:Tmp} : ∀ {os:List Oper},yT d os=true->∃ (j:Nat) (o:Oper) (T:TypeId),os[j]? = some o/\gN o=some (T,d)
 | [],h=>by simp [yT] at h
 | o::os,h=>by
  simp only [yT,vw] at h;rcases h with h | h
  ·split at h
   ·rename_i T e he
    have:=bh h;subst this;exact ⟨0,o,T,rfl,he⟩
   ·simp at h
  ·obtain ⟨j,q,T,h1,h2⟩:=RR h
   exact ⟨j+1,q,T,by simpa using h1,h2⟩
structure ahE (P:Program) (cfg:eQ) (all:List Oper):Prop where
 ord:ae7 P cfg all
 kind:∀ o∈all,sN all o=true\/dL (bW P cfg o.op)<=1\/(M9 o).isSome=true
 dst:∀ (i:Nat) (o:Oper) (T:TypeId) (d:Tmp),all[i]? = some o->gN o=some (T,d)->∀ (j:Nat) (q:Oper),all[j]? = some q->j≠i->q.dst≠some d
 st:∀ (i:Nat) (o:Oper) (T:TypeId) (d:Tmp) (x:Operand),all[i]? = some o->uy all o=some (T,d,x)->xX i x all 0=true/\(∀ (j:Nat) (q:Oper),all[j]? = some q->j≠i->∀ T' x',uy all q≠some (T',d,x'))/\(∃ (j:Nat) (q:Oper) (T' : TypeId),j < i/\all[j]? = some q/\gN q=some (T',d))/\x≠.tmp d
theorem RS {all:List Oper} : ∀ (os:List Oper) (k:Nat),Ry all os k=true->∀ (i:Nat) (o:Oper),os[i]? = some o->
  (∀ T d,gN o=some (T,d)->M8 (k+i) d all 0=true)/\∀ T d x,uy all o=some (T,d,x)->xX (k+i) x all 0=true/\Es all (k+i) d all 0=true/\yT d (all.take (k+i))=true/\x≠.tmp d
 | [],k,_,i,o,ho=>by simp at ho
 | o0::os,k,h,0,o,ho=>by
  simp at ho;subst ho;simp only [Ry,aD] at h;refine ⟨fun T d e=>?_,fun T d x e=>?_⟩
  ·have:=h.1.1
   rw [e] at this;exact this
  ·have:=h.1.2
   rw [e] at this;simp only [aD,nw] at this;refine ⟨this.1.1.1,this.1.1.2,this.1.2,fun e2=>?_⟩;have h3:=this.2;rw [e2,Da (by simp [tf])] at h3;simp at h3
 | o0::os,k,h,i+1,o,ho=>by
  simp only [Ry,aD] at h;have:=RS os (k+1) h.2 i o (by simpa using ho);rwa [show k+1+i=k+(i+1) by omega] at this
theorem akA {cfg:eQ} {all:List Oper} (h:Yh P cfg all=true):ahE P cfg all:=by
 unfold Yh at h;simp only [aD] at h;obtain ⟨⟨⟨h1,h2⟩,h3⟩,h4⟩:=h;refine ⟨⟨GB h1,fun {i j x y} hy hx a8 hc=>?_⟩,fun o ho=>?_,fun i o T d ho he j q hq eF=>?_,fun i o T d x ho he=>?_⟩
 ·have:=ED all 0 h3 i y hy
  rw [bd] at this;have:=I8 all 0 this j x hx (by omega) hc;rwa [bd] at this
 ·have:=gx.1 h2 o ho
  simp only [vw] at this;rcases this with (h | h) | h
  ·exact .inl h
  ·exact .inr (.inl (fH h))
  ·exact .inr (.inr h)
 ·have:=(RS all 0 h4 i o ho).1 T d he
  rw [bd] at this;exact Vh all 0 this j q hq (by omega)
 ·have:=(RS all 0 h4 i o ho).2 T d x he
  rw [bd] at this;refine ⟨this.1,fun j q hq eF T' x'=>Qo all 0 this.2.1 j q hq (by omega) T' x',?_,this.2.2.2⟩;obtain ⟨j,q,T',h5,h6⟩:=RR this.2.2.1;rw [pr] at h5;split at h5
  ·rename_i a8; exact ⟨j,q,T',a8,h5,h6⟩
  ·simp at h5
theorem FM {all:List Oper} {d:Tmp} {T:TypeId} {x:Operand} : ∀ {os:List Oper},uz all d os=some (T,x)->∃ (i:Nat) (o:Oper),os[i]? = some o/\uy all o=some (T,d,x)
 | [],h=>by simp [uz] at h
 | o::os,h=>by
  unfold uz at h;split at h
  ·rename_i T' e x' he
   cases hb:Nat.beq d e with
   | true=>
    rw [hb,aj] at h;have:=bh hb;subst this;simp at h;obtain ⟨rfl,rfl⟩:=h;exact ⟨0,o,rfl,he⟩
   | false=>
    rw [hb,aq] at h;obtain ⟨i,q,h1,h2⟩:=FM h;exact ⟨i+1,q,by simpa using h1,h2⟩
  ·obtain ⟨i,q,h1,h2⟩:=FM h
   exact ⟨i+1,q,by simpa using h1,h2⟩
theorem FN {all:List Oper} {d:Tmp} : ∀ {os:List Oper},uz all d os=none->∀ (i:Nat) (o:Oper),os[i]? = some o->∀ T x,uy all o≠some (T,d,x)
 | [],_,i,o,ho=>by simp at ho
 | q::os,h,i,o,ho=>by
  unfold uz at h;intro T x e;split at h
  ·rename_i T' e' x' he
   cases hb:Nat.beq d e' with
   | true=>rw [hb] at h; simp at h
   | false=>
    rw [hb,aq] at h;cases i with
    | zero=>
     simp at ho;subst ho;rw [he] at e;simp at e;rw [e.2.1,kp] at hb;simp at hb
    | succ i=>exact FN h i o (by simpa using ho) T x e
  ·rename_i hn
   cases i with
   | zero=>simp at ho; subst ho; rw [hn] at e; simp at e
   | succ i=>exact FN h i o (by simpa using ho) T x e
theorem I9 {all:List Oper} {t:bF} {T:TypeId} {d:Tmp} {cs:List KV} (h:yU P all t T d=some cs):∃ z,qO P T=some z/\flat z=true/\z.cells.toList.all scalar=true/\il (gQ z).cells=true/\some (gQ z).cells.length=size? P T/\
  (∀ T' x,uz all d all=some (T',x)->T=T'/\some (l7 t x).cells.length=size? P T/\il (l7 t x).cells=true/\cs=(l7 t x).cells)/\(uz all d all=none->cs=(gQ z).cells):=by
 unfold yU at h;split at h
 ·rename_i z hz
  cases hb:(flat z&&z.cells.toList.all scalar&&il (gQ z).cells&&decide (some (gQ z).cells.length=size? P T)) with
  | false=>rw [hb] at h; simp at h
  | true=>
   rw [hb,aj] at h;simp only [aD,kV] at hb;refine ⟨z,hz,hb.1.1.1,hb.1.1.2,hb.1.2,hb.2,fun T' x hs=>?_,fun hs=>?_⟩
   ·rw [hs] at h
    simp only at h;cases hc:(Nat.beq T T'&&decide (some (l7 t x).cells.length=size? P T)&&il (l7 t x).cells) with
    | false=>rw [hc] at h; simp at h
    | true=>
     rw [hc,aj] at h;simp only [aD,kV] at hc;exact ⟨bh hc.1.1,hc.1.2,hc.2,by simpa using h.symm⟩
   ·rw [hs] at h
    simpa using h.symm
 ·simp at h
theorem Wq {R:Type} {all:List Oper} {t0:bF} {k:bF->aC->Option R} {r:R} : ∀ {os:List Oper} {t:bF} {A:aC},abW P all t0 k os t A=some r->∀ o∈os,∀ T d,gN o=some (T,d)->∃ cs,yU P all t0 T d=some cs
 | [],_,_,_,o,ho,_,_,_=>by simp at ho
 | q::os,t,A,h,o,ho,T,d,he=>by
  have h:Option.rec (motive:=fun _=>Option R) (abW P all t0 k os t A) (fun p=>
   Option.rec (motive:=fun _=>Option R) none (fun cs=>abW P all t0 k os (t.set (.ptr A.next 0) p.2) (A.new (.row cs (pE P p.1)))) (yU P all t0 p.1 p.2)) (gN q)=some r:=h
  cases hq:gN q with
  | none=>
   rw [hq] at h;rcases eL.1 ho with rfl | ho
   ·rw [hq] at he; simp at he
   ·exact Wq h o ho T d he
  | some p=>
   rw [hq] at h;cases hc:yU P all t0 p.1 p.2 with
   | none=>simp only [hc] at h; exact absurd h (by simp)
   | some cs=>
    simp only [hc] at h;rcases eL.1 ho with rfl | ho
    ·rw [hq] at he
     simp at he;subst he;exact ⟨cs,hc⟩
    ·exact Wq h o ho T d he
end Go.K
end
section
namespace Go.K
open Go Go.aB
variable {P:Program} {E:Env}
theorem ace:∀ {l vs:List Value},l.length=vs.length->ig 0 l vs=some vs
 | [],[],_=>rfl
 | [],_::_,h=>by simp at h
 | _::_,[],h=>by simp at h
 | x::l,v::vs,h=>by rw [xO,ace (by simpa using h)]; rfl
theorem aru {a:Act} {d:Tmp} {v:Value} (h:d < a.tmps.size):(a.put (some d) v).tmps.getD d undef=v:=by
 simp [Act.put,hM,h]
theorem anM {a:Act} {dst:Option Tmp} {d:Tmp} {v:Value} (h:dst≠some d):(a.put dst v).tmps.getD d undef=a.tmps.getD d undef:=by
 cases dst with
 | none=>rfl
 | some e=>
  have eF:e≠d:=fun q=>h (by rw [q]);simp [Act.put,hM,Array.getElem?_setIfInBounds_ne eF]
def atx (P:Program) (E:Env) (all:List Oper) (tn:bF) (S:Nat->Bool) (T:TypeId) (d:Tmp) (cd:List Value):Prop:=
 some cd.length=size? P T/\(∀ (i:Nat) (o:Oper) T' x,all[i]? = some o->uy all o=some (T',d,x)->S i=true->bm P E (l7 tn x).cells cd)/\
  ((∀ (i:Nat) (o:Oper) T' x,all[i]? = some o->uy all o=some (T',d,x)->S i=false)->∃ z,qO P T=some z/\bm P E (gQ z).cells cd)
def adT (P:Program) (E:Env) (A:aC) (B:St) (ρ:aZ) (b0:Nat) (all:List Oper) (tn:bF) (S:Nat->Bool) (a:Act) (y:Nat->Nat):Prop:=
 ∀ (j:Nat) (o:Oper) (T:TypeId) (d:Tmp),all[j]? = some o->gN o=some (T,d)->S j=true->
  VR ρ (IE (y j)) (a.tmps.getD d undef)/\Fr E A B b0 (y j)/\(∃ cd,B.get (y j)=some (.row cd (pE P T) true none)/\atx P E all tn S T d cd)/\
  ∀ (j' : Nat) (o' : Oper) (T' : TypeId) (d' : Tmp),all[j']? = some o'->gN o' = some (T',d')->S j' = true->y j' = y j->j' = j
theorem LR {all:List Oper} {o:Oper} {T:TypeId} {d:Tmp} (h:gN o=some (T,d)):uy all o=none:=by
 cases hb:uy all o with
 | none=>rfl
 | some p=>
  obtain ⟨T',d',x⟩:=p;have h1:=(tq h).1;have h2:=(F7 hb).1;rw [h1] at h2;simp at h2
theorem gS {S:Nat->Bool} {i j:Nat} (h:j≠i):cQ S i j=S j:=by
 unfold cQ;cases hb:Nat.beq j i with
 | false=>simp
 | true=>exact absurd (bh hb) h
theorem Cp {S:Nat->Bool} {i:Nat} : cQ S i i=true:=by simp [cQ]
theorem adT.step {E' : Env} {A:aC} {B B' : St} {ρ a7:aZ} {base b0:Nat} {w w' : World} {all:List Oper} {tn:bF} {S:Nat->Bool} {a:Act} {y:Nat->Nat} {i:Nat} {o:Oper} {v' : Value} {cfg:eQ} (h:adT P E A B ρ b0 all tn S a y) (hf:ahE P cfg all)
  (ho:all[i]? = some o) (hb:sN all o=false) (k:Ev P base E A B ρ w E' A B' a7 w') (mC:ρ.le a7):adT P E' A B' a7 b0 all tn (cQ S i) (a.put o.dst v') y:=by
 intro j q T d hq he hS;have eF:∀ (m:Nat) (q:Oper),all[m]? = some q->sN all q=true->m≠i:=fun m q hm Aq e=>by
  subst e;rw [ho] at hm;simp at hm;subst hm;rw [hb] at Aq;simp at Aq
 have hal:∀ {q:Oper} {T:TypeId} {d:Tmp},gN q=some (T,d)->sN all q=true:=fun e=>by unfold sN; rw [e]; rfl
 have iE:∀ {q:Oper} {T:TypeId} {d:Tmp} {x:Operand},uy all q=some (T,d,x)->sN all q=true:=fun e=>by unfold sN; rw [e]; simp
 have hji:=eF j q hq (hal he);rw [gS hji] at hS;obtain ⟨h1,h2,⟨cd,h3,h4,h5,h6⟩,h7⟩:=h j q T d hq he hS;obtain ⟨h8,h9⟩:=h2.step k;refine ⟨?_,h8,⟨cd,by rw [h9]; exact h3,h4,fun m q' T' x hm F8 hSm=>?_,fun hn=>?_⟩,fun j' o' T' d' jc LJ hS'=>?_⟩
 ·rw [anM (hf.dst j q T d hq he i o ho (Ne.symm hji))]
  exact h1.mono mC
 ·rw [gS (eF m q' hm (iE F8))] at hSm
  exact (h5 m q' T' x hm F8 hSm).mono k.le
 ·obtain ⟨z,vK,Kg⟩:=h6 fun m q' T' x hm F8=>by
   have:=hn m q' T' x hm F8;rwa [gS (eF m q' hm (iE F8))] at this
  exact ⟨z,vK,Kg.mono k.le⟩
 ·rw [gS (eF j' o' jc (hal LJ))] at hS'
  exact h7 j' o' T' d' jc LJ hS'
theorem Wr {R:Type} {all:List Oper} {tn:bF} {k:bF->aC->Option R} {r:R} {E0:Env} {A0:aC} {B0 B:St} {ρ0 ρ:aZ} {w0 w:World} {base N:Nat} {a:Act} {y:Nat->Nat} : ∀ (os:List Oper) (m:Nat) (t:bF) (E:Env) (A:aC),all.drop m=os->abW P all tn k os t A=some r->
  Ev P base E0 A0 B0 ρ0 w0 E A B ρ w->mq P E ρ t N a->(∀ (j:Nat) (o:Oper) T d,m<=j->all[j]? = some o->gN o=some (T,d)->d < N)->
  (∀ (j:Nat) (o:Oper) (T:TypeId) (d:Tmp),m<=j->all[j]? = some o->gN o=some (T,d)->VR ρ (IE (y j)) (a.tmps.getD d undef)/\Fr E A B B0.next (y j)/\(∀ cs,yU P all tn T d=some cs->∃ cd,B.get (y j)=some (.row cd (pE P T) true none)/\bm P E cs cd)/\
   ∀ (j' : Nat) (o' : Oper) (T' : TypeId) (d' : Tmp),m<=j'->all[j']? = some o'->gN o' = some (T',d')->y j' = y j->j' = j)->
  ∃ t' E' A',k t' A' = some r/\mq P E' ρ t' N a/\Ev P base E0 A0 B0 ρ0 w0 E' A' B ρ w
 | [],m,t,E,A,_,h,rV,ht,_,_=>⟨t,E,A,h,ht,rV⟩
 | o::os,m,t,E,A,hd,h,rV,ht,hN,hb=>by
  have ho:all[m]? = some o:=by
   have:(all.drop m)[0]? = some o:=by rw [hd]; rfl
   rw [pS] at this;simpa using this
  have hd' : all.drop (m+1)=os:=by rw [<- List.drop_drop,hd]; rfl
  have h:Option.rec (motive:=fun _=>Option R) (abW P all tn k os t A) (fun p=>
   Option.rec (motive:=fun _=>Option R) none (fun cs=>abW P all tn k os (t.set (.ptr A.next 0) p.2) (A.new (.row cs (pE P p.1)))) (yU P all tn p.1 p.2)) (gN o)=some r:=h
  cases hq:gN o with
  | none=>
   rw [hq] at h;exact Wr (y:=y) os (m+1) t E A hd' h rV ht (fun j o' T d hj=>hN j o' T d (by omega)) fun j o' T d hj ho' he=>by
    obtain ⟨h1,h2,h3,h4⟩:=hb j o' T d (by omega) ho' he;exact ⟨h1,h2,h3,fun j' o'' T' d' jc=>h4 j' o'' T' d' (by omega)⟩
  | some p=>
   obtain ⟨T,d⟩:=p;rw [hq] at h;cases hc:yU P all tn T d with
   | none=>simp only [hc] at h; exact absurd h (by simp)
   | some cs=>
    simp only [hc] at h;obtain ⟨h1,h2,h3,h4⟩:=hb m o T d (aQ m) ho hq;obtain ⟨cd,h5,h6⟩:=h3 cs hc;obtain ⟨hle,aty⟩:=asH (cs:=cs) rV h2 h5 h6;have Ke:(E.m9 A.next (y m)).κ A.next=some (y m):=by simp [Env.m9]
    refine Wr (y:=y) os (m+1) _ (E.m9 A.next (y m)) (A.new (.row cs (pE P T))) hd' h aty ⟨ht.size,fun i=>?_,fun i hi=>?_⟩ (fun j o' T d hj=>hN j o' T d (by omega)) fun j o' T' d' hj ho' he=>?_
    ·rw [Trie.qH]
     by_cases hid:i=d
     ·subst hid
      rw [aR rfl];exact ⟨_,.Bt Ke,h1⟩
     ·rw [ay hid]
      exact (ht.val i).mono hle (fun _ _ e=>e)
    ·rw [Trie.qH,ay]
     ·exact ht.none i hi
     ·intro e
      subst e;exact absurd (hN m o T i (aQ m) ho hq) (Nat.not_lt_of_le hi)
    ·obtain ⟨g1,g2,g3,g4⟩:=hb j o' T' d' (by omega) ho' he
     have atz:y j≠y m:=fun e=>by have:=h4 j o' T' d' (by omega) ho' he e; omega
     refine ⟨g1,⟨g2.lo,g2.hi,fun b e=>?_,g2.z,fun q=>?_⟩,fun nK hc0=>?_,fun j' o'' T'' d'' jc=>g4 j' o'' T'' d'' (by omega)⟩
     ·simp only [Env.m9] at e
      split at e
      ·simp at e; exact atz e.symm
      ·exact g2.un b e
     ·have hA:∀ (b:Nat) (v:KV),(A.new (.row cs (pE P T))).get b=some (.arr v)->A.get b=some (.arr v):=fun b v hb=>by
       rw [aC.dw] at hb;split at hb
       ·simp at hb
       ·exact hb
      exact g2.far (q.of (fun _=>rfl) hA (fun _ _=>rfl) fun _ _=>rfl)
     ·obtain ⟨qS,g5,g6⟩:=g3 nK hc0
      exact ⟨qS,g5,g6.mono hle⟩
theorem akB {R:Type} {cfg:eQ} {bC:oX R} (gZ:tW P cfg.pc) (hm:P.follows .mixedOrders=true) {id:Nat} {all:List Oper} {N base:Nat} (hdN:all.all (LD N)=true) {k:bF->aC->Option R} {r:R} {t:bF} {A:aC} {B:St} {ρ:aZ} {a:Act} {w:World} {Q:Exit->Act->World->Prop}
  (Np:Yh P cfg all=true) (h:aeE P cfg bC all (fun t A=>abW P all t k all t A) all t A=some r) (ht:mq P E ρ t N a) (hj:KJ P E A B ρ base w)
  (hq:∀ t' E' A' B' a7 a' w',k t' A' = some r->mq P E' a7 t' N a'->a'.defers=a.defers->Ev P base E A B ρ w E' A' B' a7 w'->Q .normal a' w'):(Code.region id ⟨all⟩ true).wp P Q a w:=by
 classical
 have hf:=akA Np;obtain ⟨L,tn,nF,hk⟩:=I7 hf.kind h;obtain ⟨hlen,Kh,CX⟩:=nF.at;have yQ:=Wq hk;have RQ:Ev P base E A B ρ w E A B ρ w.drew:=(ei.refl hj.k).ev (nC.drew hj.s);have I5:∀ (i:Nat) (o:Oper),all[i]? = some o->∀ d,o.dst=some d->d < N:=by
  intro i o ho d ed;have:=gx.1 hdN o (hQ ho);unfold LD at this;rw [ed] at this;simp only at this;rw [bT] at this;exact this
 refine wp_region_any hm ?_;show wpAny P .any ⟨all⟩ Q all.length (Array.replicate all.length false) a w.drew;have GG:∀ i,(Array.replicate all.length false).getD i false=false:=by
  intro i;rw [hM,Array.getElem?_replicate];split <;> rfl
 let Inv:(Nat->Bool)->Act->World->Prop:=fun S a' w'=>∃ E' B' a7 y,a'.defers=a.defers/\Ev P base E A B ρ w.drew E' A B' a7 w'/\mq P E' a7 (jd S all L 0 t) N a'/\adT P E' A B' a7 B.next all tn S a' y
 refine HV hf.ord.reg Inv ?_ ?_ ?_ all.length _ a w.drew (by simp) ?_ (fun i j hi _=>by
   have h2:(Array.replicate all.length false).getD i false=true:=hi;rw [GG] at h2; simp at h2) ⟨E,B,ρ,fun _=>0,rfl,.refl hj.k RQ.fX.jK,?_,?_⟩
 ·
  rintro S S' a' w' hSS ⟨E',B',a7,y,h1,h2,h3,h4⟩;have hS:∀ (i:Nat) (o:Oper),all[i]? = some o->S i=S' i:=fun i o ho=>hSS i (c8.1 ho).1;refine ⟨E',B',a7,y,h1,h2,h3.same fun z=>na rfl fun i o ho _=>by rw [bd]; exact (hS i o ho).symm,fun j o T d ho he Uo=>?_⟩;obtain ⟨q1,q2,⟨cd,q3,q4,q5,q6⟩,q7⟩:=h4 j o T d ho he (by rw [hS j o ho]; exact Uo);exact ⟨q1,q2,⟨cd,q3,q4,fun m q T' x hm F8 hSm=>q5 m q T' x hm F8 (by rw [hS m q hm]; exact hSm),fun hn=>q6 fun m q T' x hm F8=>by rw [hS m q hm]; exact hn m q T' x hm F8⟩,fun j' o' T' d' jc LJ hS'=>q7 j' o' T' d' jc LJ (by rw [hS j' o' jc]; exact hS')⟩
 ·
  rintro S a' w' i o ⟨E',B',a7,y,h1,h2,h3,h4⟩ hc ho rD ux _;have hi:i < L.length:=by rw [hlen]; exact (c8.1 ho).1
  have hx:L[i]? = some L[i]:=dz hi;obtain ⟨t1,yX,hw,afb,RP⟩:=CX i o L[i] ho hx;have BB:∀ z∈oQ P cfg all o,t1.get z=(jd S all L 0 t).get z:=fun z hz=>by rw [yX z,ae9 hf.ord hc ho rD ux hz]
  have Pm:=F6 h3 (fun z hz=>BB z (by unfold oQ; exact List.mem_append_left _ hz)) hw;have hoA:(⟨all⟩:Array Oper)[i]? = some o:=by simpa using ho
  unfold wpOp;rw [hoA];simp only [Pm];cases H0:L[i].1 with
  | false=>
   simp only [yI,if_false];obtain ⟨hv,hnb⟩:=RP H0;refine ⟨E',B',a7,y,by rw [put_defers]; exact h1,h2,?_,h4.step hf ho hnb (.refl h2.jK h2.fX.jK) (fun _ _ e=>e)⟩;refine (h3.put (I5 i o ho) VC.undef).same fun z=>?_;rw [Nn hf.ord hc ho hx rD z,hv]
  | true=>
   simp only [if_true];refine .inl ?_;rcases afb H0 with ⟨F8,hv⟩ | ⟨hnb,hg⟩
   ·rcases Wp F8 with ⟨T,d,he⟩ | ⟨T,d,x,he⟩
    ·
     obtain ⟨e1,e2,e3⟩:=tq he;obtain ⟨cs,LH⟩:=yQ o (hQ ho) T d he;obtain ⟨z,Um,En,hz3,hz4,hz5,_⟩:=I9 LH;have ba:compile P o.op = .make (Oz P T) []:=by rw [e1]; rfl
     obtain ⟨xZ,v',w2,hr1,xJ,hr3⟩:=aat (em:=fun _=>undef) (cS:=a'.eval) (obj:=HQ (pE P T) z) (mk:=IE) ba h2.fX.jK (fun x hx=>by simp at hx) (by simp only [Oz,Um,eV,En,hz3,bI,aj]);unfold Oper.wp;rw [hr1];have fC:d < a'.tmps.size:=by rw [h3.size]; exact I5 i o ho d e3
     have hnx:=h2.fX.next;have mC:=hr3.le h2.fX.jK;have iE:=atv (cd:=z.cells.toList) (bV:=pE P T) h2.jK;have rV:Ev P base E' A B' a7 w' E' A (B'.new (HQ (pE P T) z)) xZ w2:=iE.ev hr3;refine ⟨E',B'.new (HQ (pE P T) z),xZ,fun m=>if m=i then B'.next else y m,by rw [put_defers]; exact h1,h2.trans rV,?_,fun j q U c hq M1 hS=>?_⟩
     ·refine ((h3.mono (Env.le_refl _) mC).put (v:=.bD) (I5 i o ho) ⟨.chan none,.uC,by simp [VR]⟩).same fun z=>?_
      rw [Nn hf.ord hc ho hx rD z,hv]
     ·have hold:∀ (m:Nat) (q:Oper) (U:TypeId) (c:Tmp),all[m]? = some q->gN q=some (U,c)->cQ S i m=true->m≠i->S m=true:=fun m q U c _ _ hS eF=>by rwa [gS eF] at hS
      have aaz:∀ (m:Nat) (q:Oper) (U:TypeId) (c:Tmp) (x:Operand),all[m]? = some q->uy all q=some (U,c,x)->m≠i:=fun m q U c x hm Aq e=>by
       subst e;rw [ho] at hm;simp at hm;subst hm;rw [LR he] at Aq;simp at Aq
      by_cases hji:j=i
      ·subst hji
       rw [ho] at hq;simp at hq;subst hq;rw [he] at M1;simp at M1;obtain ⟨rfl,rfl⟩:=M1;simp only [if_true];refine ⟨?_,⟨hnx,by simp,fun b e=>?_,?_,fun q=>?_⟩,⟨z.cells.toList,by simp [HQ],?_,fun m q T' x hm Aq hSm=>?_,fun _=>⟨z,Um,Et hz4⟩⟩,fun j' o' T' d' jc LJ hS' hy=>?_⟩
       ·rw [e3,aru fC]; exact xJ
       ·have:=h2.jK.gX b _ e; omega
       ·cases hzz:E'.z B'.next with
        | none=>rfl
        | some r=>have:=h2.jK.oS _ r hzz; omega
       ·rcases q with q | ⟨g,_,q⟩
        ·obtain ⟨b,v,L',N',q1,q2⟩:=q
         have:=h2.jK.ar.gX b _ _ _ q2;omega
        ·rw [HQ,St.mB] at q
         have:=h2.jK.mem g _ q;omega
       ·rw [<- (Et (P:=P) (E:=E') hz4).length] at hz5
        exact hz5
       ·
        exfalso;have hmi:=aaz m q T' d x hm Aq;rw [gS hmi] at hSm;obtain ⟨_,_,⟨j0,q0,T0,a8,hq0,he0⟩,_⟩:=hf.st m q T' d x hm Aq;have:j0=j:=by
         by_cases hjj:j0=j
         ·exact hjj
         ·exact absurd (tq he0).2.2 (hf.dst j o T d ho he j0 q0 hq0 hjj)
        subst this;have hb:rR (eW [] all) m j0=true:=hf.ord.Gy hm hq0 a8 (by
         unfold vH;rw [(tq he0).2.2,show Rj (some d) (oQ P cfg all q)=true from Da (by
          unfold oQ;refine List.mem_append_right _ ?_;rw [(F7 Aq).1];exact lN (show Operand.tmp d∈[Operand.tmp d,x] by simp))]
         rfl)
        have:=hc m j0 hSm hb;rw [rD] at this; simp at this
       ·by_cases Pb:j' = j
        ·exact Pb
        ·exfalso
         rw [ay Pb] at hy;have:=(h4 j' o' T' d' jc LJ (hold j' o' T' d' jc LJ hS' Pb)).2.1.hi;omega
      ·simp only [ay hji]
       obtain ⟨q1,q2,⟨cd,q3,q4,q5,q6⟩,q7⟩:=h4 j q U c hq M1 (hold j q U c hq M1 hS hji);obtain ⟨q8,q9⟩:=q2.step rV;refine ⟨?_,q8,⟨cd,by rw [q9]; exact q3,q4,fun m q' T' x hm Aq hSm=>?_,fun hn=>?_⟩,fun j' o' T' d' jc LJ hS' hy=>?_⟩
       ·rw [anM (hf.dst j q U c hq M1 i o ho (Ne.symm hji))]
        exact q1.mono mC
       ·rw [gS (aaz m q' T' c x hm Aq)] at hSm
        exact q5 m q' T' x hm Aq hSm
       ·exact q6 fun m q' T' x hm Aq=>by
         have:=hn m q' T' x hm Aq;rwa [gS (aaz m q' T' c x hm Aq)] at this
       ·by_cases Pb:j' = i
        ·rw [aR Pb] at hy
         have:=q2.hi;omega
        ·rw [ay Pb] at hy
         exact q7 j' o' T' d' jc LJ (hold j' o' T' d' jc LJ hS' Pb) hy
    ·
     obtain ⟨e1,e2,e3,_⟩:=F7 he;obtain ⟨hnd,afc,⟨j0,q0,T0,a8,hq0,he0⟩,hxd⟩:=hf.st i o T d x ho he;have hb0:rR (eW [] all) i j0=true:=hf.ord.Gy ho hq0 a8 (by
      unfold vH;rw [(tq he0).2.2,show Rj (some d) (oQ P cfg all o)=true from Da (by
       unfold oQ;refine List.mem_append_right _ ?_;rw [e1];exact lN (show Operand.tmp d∈[Operand.tmp d,x] by simp))]
      rfl)
     have hS0:S j0=true:=hc.ready hf.ord.reg ho ux j0 hb0;obtain ⟨q1,q2,⟨nK,q3,q4,_,_⟩,q7⟩:=h4 j0 q0 T0 d hq0 he0 hS0;obtain ⟨cs,LH⟩:=yQ q0 (hQ hq0) T0 d he0;obtain ⟨z,_,_,_,_,_,hz6,hz7⟩:=I9 LH;have atA:uz all d all=some (T,x):=by
      cases hs:uz all d all with
      | none=>exact absurd he (FN hs i o ho T x)
      | some p=>
       obtain ⟨T2,x2⟩:=p;obtain ⟨i2,o2,h5,h6⟩:=FM hs;by_cases hii:i2=i
       ·subst hii
        rw [ho] at h5;simp at h5;subst h5;rw [he] at h6;simp at h6;rw [h6.1,h6.2]
       ·exact absurd h6 (afc i2 o2 h5 hii T2 x2)
     obtain ⟨hT,hl,Yl,_⟩:=hz6 T x atA;subst hT;have Ap:l7 tn x=l7 t1 x:=aiP Kh yX hnd;rw [Ap] at hl Yl;have hxv:VC P E' a7 (l7 t1 x) (a'.eval x):=RN h3 fun z e=>BB z (by
      unfold oQ;refine List.mem_append_right _ ?_;rw [e1];subst e;exact lN (show Operand.tmp z∈[Operand.tmp d,Operand.tmp z] by simp))
     obtain ⟨u,hu1,hu2⟩:=hxv;have apN:=hu1.cells (Al Yl);have nE:u.cells.toList.all scalar=true:=gx.2 (apN.scalar Yl);have apO:some u.cells.size=size? P T0:=by
      rw [<- hl];have:=apN.length;simp only [Array.length_toList] at this;rw [this]
     have ba:compile P o.op = .act (Kj P T0) [.tmp d,x]:=by rw [e1]; rfl
     have cf:=tg P o;rw [ba] at cf
     let em:Operand->Value:=fun q=>if q = .tmp d then IE (y j0) else u
     have hw:ig 0 nK u.cells.toList=some u.cells.toList:=ace (by
      rw [<- apO] at q4;simp only [db] at q4;rw [q4]; simp)
     obtain ⟨xZ,v',nx,w2,hr1,xJ,hr3,hr4⟩:=cf a7 B' (B'.put (y j0) (.row u.cells.toList (pE P T0) true none)) base w' em a'.eval undef h2.fX.jK (fun q hq=>by
       rcases eL.1 hq with rfl | hq
       ·show VR a7 (em (.tmp d)) (a'.tmps.getD d undef)
        simp only [em,if_true];exact q1
       ·simp only [List.mem_singleton] at hq
        subst hq;simp only [em,ay hxd];exact hu2) (by
       have h1:em (.tmp d)=IE (y j0):=by simp [em]
       have h2:em x=u:=by simp [em,hxd]
       simp [h1,h2,Kj,aB.storeAt,IE,apO,St.AO,dj,nE,q3,hw,St.gf])
     have atB:=atw h2 q2 q3 hr4;have mC:=hr4.le h2.fX.jK;have Bx:∀ x,AR A E' x->(B'.put (y j0) (.row u.cells.toList (pE P T0) true none)).get x=B'.get x:=fun x q=>by
      rw [St.cg,ay];intro e;subst e;exact q2.far (.inl q)
     have hAT:∀ q,AT A E' (B'.put (y j0) (.row u.cells.toList (pE P T0) true none)) q->AT A E' B' q:=fun q r=>r.of (fun _=>rfl) (fun _ _ e=>e) Bx fun _ _=>by simp
     have hFr:∀ q,Fr E' A B' B.next q->Fr E' A (B'.put (y j0) (.row u.cells.toList (pE P T0) true none)) B.next q:=fun q f=>⟨f.lo,f.hi,f.un,f.z,fun r=>f.far (hAT q r)⟩
     have asI:∀ v:Value,a'.put o.dst v=a':=fun v=>by rw [e3]; rfl
     have apP:Inv (cQ S i) (a'.put o.dst v') w2:=by
      rw [asI];refine ⟨E',_,xZ,y,h1,atB,(h3.mono (Env.le_refl _) mC).same fun z=>?_,fun j q U c hq M1 hS=>?_⟩
      ·rw [Nn hf.ord hc ho hx rD z,e3]; rfl
      ·have hji:j≠i:=fun e=>by
        subst e;rw [ho] at hq;simp at hq;subst hq;rw [LR M1] at he;simp at he
       have hold:∀ (m:Nat) (q:Oper) (U:TypeId) (c:Tmp),all[m]? = some q->gN q=some (U,c)->cQ S i m=true->S m=true:=fun m q U c hm M1 hS=>by
        have:m≠i:=fun e=>by
         subst e;rw [ho] at hm;simp at hm;subst hm;rw [LR M1] at he;simp at he
        rwa [gS this] at hS
       rw [gS hji] at hS;obtain ⟨p1,p2,⟨cd,p3,p4,p5,p6⟩,p7⟩:=h4 j q U c hq M1 hS;refine ⟨p1.mono mC,hFr _ p2,?_,fun j' o' T' d' jc LJ hS'=>p7 j' o' T' d' jc LJ (hold j' o' T' d' jc LJ hS')⟩;by_cases hj0:j=j0
       ·subst hj0
        rw [hq0] at hq;simp at hq;subst hq;rw [he0] at M1;simp at M1;obtain ⟨rfl,rfl⟩:=M1;refine ⟨u.cells.toList,by simp,by simpa using apO,fun m q' T' x' hm Aq _=>?_,fun hn=>?_⟩
        ·have hmi:m=i:=by
          by_cases hmi:m=i
          ·exact hmi
          ·exact absurd Aq (afc m q' hm hmi T' x')
         subst hmi;rw [ho] at hm;simp at hm;subst hm;rw [he] at Aq;simp at Aq;rw [<- Aq.2,Ap];exact apN
        ·have:=hn i o T0 x ho he
         rw [Cp] at this;simp at this
       ·have hcd:c≠d:=fun e=>by
         subst e;exact absurd (tq he0).2.2 (hf.dst j q U c hq M1 j0 q0 hq0 (Ne.symm hj0))
        have aaz:∀ (m:Nat) (q:Oper) (U:TypeId) (x:Operand),all[m]? = some q->uy all q=some (U,c,x)->m≠i:=fun m q U x hm Aq e=>by
         subst e;rw [ho] at hm;simp at hm;subst hm;rw [he] at Aq;simp at Aq;exact hcd Aq.2.1.symm
        refine ⟨cd,?_,p4,fun m q' T' x' hm Aq hSm=>?_,fun hn=>?_⟩
        ·rw [St.cg,ay]
         ·exact p3
         ·intro e
          exact hj0 ((p7 j0 q0 T0 d hq0 he0 hS0 e.symm).symm)
        ·rw [gS (aaz m q' T' x' hm Aq)] at hSm
         exact p5 m q' T' x' hm Aq hSm
        ·exact p6 fun m q' T' x' hm Aq=>by
          have:=hn m q' T' x' hm Aq;rwa [gS (aaz m q' T' x' hm Aq)] at this
     unfold Oper.wp;rw [hr1];cases nx with
     | value u'=>have:u' = v':=xJ; subst this; exact apP
     | skip=>have:v' = undef:=xJ; subst this; exact apP
     | _=>exact xJ.elim
   ·
    have hgo:∀ Nm Pg xT v' MT,VC P Nm xT L[i].2.1 v'->Ev P base E' A B' a7 w' Nm A Pg xT MT->Inv (cQ S i) (a'.put o.dst v') MT:=fun Nm Pg xT v' MT h5 h6=>by
     have mC:=h6.fX.le h2.fX.jK;refine ⟨Nm,Pg,xT,y,by rw [put_defers]; exact h1,h2.trans h6,?_,h4.step hf ho hnb h6 mC⟩;refine ((h3.mono h6.le mC).put (I5 i o ho) h5).same fun z=>?_;rw [Nn hf.ord hc ho hx rD z]
    rcases hg with hg | ⟨p,hp,hg⟩
    ·refine Pf gZ hg (fun x hxm=>RN h3 fun z e=>BB z ?_) h2.kj hgo
     unfold oQ;subst e;exact List.mem_append_right _ (lN hxm)
    ·refine amz gZ hp hg (fun x hxm=>RN h3 fun z e=>BB z ?_) h2.kj hgo
     unfold oQ;subst e;refine List.mem_append_right _ (lN ?_);unfold M9 at hp;split at hp
     ·rename_i c Kd _
      split at hp
      ·rename_i d vk
       simp at hp;subst hp;rw [Kd];show Operand.tmp z∈adQ (mZ P cfg c);unfold mZ;rw [vk];exact hxm
      ·simp at hp
     ·simp at hp
 ·
  rintro S a' w' nE ⟨E',B',a7,y,h1,h2,h3,h4⟩;have hS:∀ (i:Nat) (o:Oper),all[i]? = some o->S i=true:=fun i o ho=>nE i (c8.1 ho).1;have atC:mq P E' a7 tn N a':=h3.same fun z=>by
   rw [Kh z];exact na rfl fun i o ho _=>by rw [bd]; exact (hS i o ho).symm
  obtain ⟨t',E2,A2,f1,f2,f3⟩:=Wr (y:=y) all 0 tn E' A rfl hk h2 atC (fun j o T d _ ho he=>I5 j o ho d (tq he).2.2) fun j o T d _ ho he=>by
   obtain ⟨q1,q2,⟨cd,q3,q4,q5,q6⟩,q7⟩:=h4 j o T d ho he (hS j o ho);refine ⟨q1,q2,fun cs LH=>⟨cd,q3,?_⟩,fun j' o' T' d' _ jc LJ hy=>q7 j' o' T' d' jc LJ (hS j' o' jc) hy⟩;obtain ⟨z,Um,_,_,_,_,hz6,hz7⟩:=I9 LH;cases hs:uz all d all with
   | some p=>
    obtain ⟨T2,x2⟩:=p;obtain ⟨i2,o2,h5,h6⟩:=FM hs;rw [(hz6 T2 x2 hs).2.2.2];exact q5 i2 o2 T2 x2 h5 h6 (hS i2 o2 h5)
   | none=>
    rw [hz7 hs];obtain ⟨z',g1,g2⟩:=q6 fun m q' T' x hm Aq=>absurd Aq (FN hs m q' hm T' x);rw [Um] at g1;simp at g1;subst g1;exact g2
  exact hq t' E2 A2 B' a7 a' w' f1 f2 h1 (RQ.trans f3)
 ·simp
 ·refine ht.same fun z=>?_
  rw [Pk GG]
 ·intro j o T d ho he Uo
  have Uo:(Array.replicate all.length false).getD j false=true:=Uo;rw [GG] at Uo;simp at Uo
end Go.K
end
section
namespace Go.K
open Go Go.aB
variable {P:Program} {E:Env}
theorem YB {R:Type} {cfg:eQ} {bC:oX R} {all:List Oper} {k:bF->aC->Option R} : ∀ (a b:List Oper),vq P cfg bC all k (a++b)=vq P cfg bC all (vq P cfg bC all k b) a
 | [],b=>rfl
 | o::a,b=>by
  show Bw P cfg bC all o (vq P cfg bC all k (a++b))=Bw P cfg bC all o (vq P cfg bC all (vq P cfg bC all k b) a);rw [YB a b]
theorem ahF {cfg:eQ} {all:List Oper} {o:Oper} (h:dL (bW P cfg o.op)<=1):sN all o=false:=by
 cases hb:sN all o with
 | false=>rfl
 | true=>
  exfalso;rcases Wp hb with ⟨T,d,e⟩ | ⟨T,d,x,e⟩
  ·rw [(tq e).1] at h
   have h:dL (rE P T)<=1:=h;unfold rE at h;split at h
   ·rename_i z _
    cases hc:(flat z&&z.cells.toList.all scalar&&il (gQ z).cells) <;> rw [hc] at h <;> simp [dL] at h
   ·simp [dL] at h
  ·rw [(F7 e).1] at h
   have h:(3:Nat)<=1:=h;omega
theorem RU {R:Type} {cfg:eQ} {bC:oX R} {all:List Oper} {k:bF->aC->Option R} {r:R} : ∀ {os:List Oper} {t:bF} {A:aC},(∀ o∈os,dL (bW P cfg o.op)<=1)->vq P cfg bC all k os t A=some r->
  ∃ L t',acd P cfg all A os t L t'/\k t' A=some r
 | [],t,A,_,h=>⟨[],t,.nil,h⟩
 | o::os,t,A,hn,h=>by
  have OS:=fun q hq=>hn q (xh o hq);have hk:=hn o (by simp);have hb:=ahF (all:=all) hk;have hk3:Nat.ble 3 (dL (bW P cfg o.op))=false:=by
   cases hc:Nat.ble 3 (dL (bW P cfg o.op)) with
   | false=>rfl
   | true=>have:=fH hc; omega
  have hnc:=EC (P:=P) (cfg:=cfg) (o:=o) (by omega);have h:Bw P cfg bC all o (vq P cfg bC all k os) t A=some r:=h;unfold Bw at h;cases hg:o.guard with
  | none=>
   rw [hg] at h;obtain ⟨v,A1,h1,h2⟩:=Ky hnc h;have e:=EB h1 hk3;subst e;obtain ⟨L,t',h3,h4⟩:=RU OS h2;exact ⟨_,t',.cons (fun _=>rfl) (.inl ⟨hg,rfl⟩) (fun _=>.inr ⟨hb,.inl h1⟩) (fun e=>by simp at e) h3,h4⟩
  | some p=>
   obtain ⟨j,want⟩:=p;rw [hg] at h;obtain ⟨d,hd,h⟩:=Ph h;rcases h with ⟨b,t1,h1,h2,h3⟩ | ⟨l,h1,h2⟩
   ·rcases h3 with ⟨h3,h4⟩ | ⟨h3,h4⟩
    ·obtain ⟨v,A1,h5,h6⟩:=Ky hnc h4
     have e:=EB h5 hk3;subst e;obtain ⟨L,t',h7,h8⟩:=RU OS h6;exact ⟨_,t',.cons h2 (.inr ⟨j,want,d,hg,hd,.inl ⟨b,h1,h3.symm⟩⟩) (fun _=>.inr ⟨hb,.inl h5⟩) (fun e=>by simp at e) h7,h8⟩
    ·obtain ⟨L,t',h7,h8⟩:=RU OS h4
     exact ⟨_,t',.cons h2 (.inr ⟨j,want,d,hg,hd,.inl ⟨b,h1,h3.symm⟩⟩) (fun e=>by simp at e) (fun _=>⟨rfl,hb⟩) h7,h8⟩
   ·obtain ⟨L,t',h7,h8⟩:=RU OS h2
    exact ⟨_,t',.cons (fun _=>rfl) (.inr ⟨j,want,d,hg,hd,.inr ⟨l,h1,rfl⟩⟩) (fun e=>by simp at e) (fun _=>⟨rfl,hb⟩) h7,h8⟩
section
variable {cfg:eQ} {all os:List Oper} {L:List Out} {t0:bF} {m:Nat}
theorem afd (hf:ae7 P cfg all) (hos:∀ j q,os[j]? = some q->all[m+j]? = some q) {S:Nat->Bool} (hc:su all S) {i:Nat} {o:Oper} (ho:os[i]? = some o) (rD:S (m+i)=false) (ux:wG all S (m+i)) {y:Tmp} (hy:y∈oQ P cfg all o) :
  (jd (fun j=>S (m+j)) os L 0 t0).get y=(jd (fun j=>Nat.blt j i) os L 0 t0).get y:=by
 refine na rfl fun j q hq hd=>?_;rw [bd];have ho':=hos i o ho;have hq':=hos j q hq;rcases Nat.lt_trichotomy j i with h | h | h
 ·have:rR (eW [] all) (m+i) (m+j)=true:=hf.Gy ho' hq' (by omega) (by
   unfold vH;rw [hd,Da hy];rfl)
  rw [hc.ready hf.reg ho' ux (m+j) this]
  symm; rw [bT]; exact h
 ·subst h
  rw [rD]
  symm
  cases hb:Nat.blt j j with
  | false=>rfl
  | true=>rw [bT] at hb; omega
 ·have hb:rR (eW [] all) (m+j) (m+i)=true:=hf.Gy hq' ho' (by omega) (by
   unfold vH;rw [hd,Da hy];simp)
  have:S (m+j)=false:=by
   cases hs:S (m+j) with
   | false=>rfl
   | true=>have:=hc (m+j) (m+i) hs hb; rw [rD] at this; simp at this
  rw [this]
  symm
  cases hbb:Nat.blt j i with
  | false=>rfl
  | true=>rw [bT] at hbb; omega
theorem apQ (hf:ae7 P cfg all) (hos:∀ j q,os[j]? = some q->all[m+j]? = some q) {S:Nat->Bool} (hc:su all S) {i:Nat} {o:Oper} {x:Out} (ho:os[i]? = some o) (hx:L[i]? = some x) (rD:S (m+i)=false) (y:Tmp) :
  (jd (fun j=>cQ S (m+i) (m+j)) os L 0 t0).get y=(rT (jd (fun j=>S (m+j)) os L 0 t0) o.dst x.2.1).get y:=by
 have anN:(fun j=>cQ S (m+i) (m+j))=cQ (fun j=>S (m+j)) i:=by
  funext j;unfold cQ;cases hb:Nat.beq j i with
  | true=>have:=bh hb; subst this; simp
  | false=>
   have eF:=Nat.ne_of_beq_eq_false hb;cases uu:Nat.beq (m+j) (m+i) with
   | false=>rfl
   | true=>have:=bh uu; omega
 rw [anN,uF];by_cases hd:o.dst=some y
 ·rw [aR hd]
  have:=ae6 (S:=fun j=>S (m+j)) (y:=y) (os:=os) (L:=L) (k:=0) (i:=i) (t:=t0) ho hx hd (fun j q hq hqd a8=>by
   rw [bd];have hb:rR (eW [] all) (m+j) (m+i)=true:=hf.Gy (hos j q hq) (hos i o ho) (by omega) (by
    unfold vH;rw [hqd,hd];simp [XM])
   cases hs:S (m+j) with
   | false=>rfl
   | true=>have:=hc (m+j) (m+i) hs hb; rw [rD] at this; simp at this)
  rw [bd] at this;exact this
 ·rw [ay hd]
  refine na rfl fun j q hq hqd=>?_;rw [bd];have eF:j≠i:=by
   intro e;subst e;rw [ho] at hq;simp at hq;subst hq;exact hd hqd
  unfold cQ;have:Nat.beq j i=false:=by
   cases hb:Nat.beq j i with
   | false=>rfl
   | true=>exact absurd (bh hb) eF
  rw [this,Bool.or_false]
end
theorem Vi {cfg:eQ} {b:List Nat} {i:Nat} : ∀ (os:List Oper) (k:Nat),Na P cfg b i os k=true->∀ (j:Nat) (o:Oper),os[j]? = some o->(k+j < i->dL (bW P cfg o.op)=0\/rR b i (k+j)=true)/\(i < k+j->rR b (k+j) i=true)
 | [],k,_,j,o,ho=>by simp at ho
 | q::os,k,h,0,o,ho=>by
  simp at ho;subst ho;simp only [Na,aD] at h;rw [yH];have h2:=h.1;cases hb:Nat.beq k i with
  | true=>have:=bh hb; exact ⟨fun e=>by omega,fun e=>by omega⟩
  | false=>
   rw [hb,aq] at h2;refine ⟨fun a8=>?_,fun a8=>?_⟩
   ·rw [show Nat.blt k i=true from by rw [bT]; exact a8,aj] at h2
    cases hz:Nat.beq (dL (bW P cfg q.op)) 0 with
    | true=>exact .inl (bh hz)
    | false=>rw [hz,aq] at h2; exact .inr h2
   ·have:Nat.blt k i=false:=by
     cases uu:Nat.blt k i with
     | false=>rfl
     | true=>rw [bT] at uu; omega
    rwa [this,aq] at h2
 | q::os,k,h,j+1,o,ho=>by
  simp only [Na,aD] at h;have:=Vi os (k+1) h.2 j o (by simpa using ho);rwa [show k+1+j=k+(j+1) by omega] at this
theorem RV {cfg:eQ} {b:List Nat} {all:List Oper} : ∀ (os:List Oper) (k:Nat),Nb P cfg b all os k=true->∀ (i:Nat) (o:Oper),os[i]? = some o->¬ dL (bW P cfg o.op)<=1->Na P cfg b (k+i) all 0=true
 | [],k,_,i,o,ho,_=>by simp at ho
 | q::os,k,h,0,o,ho,hk=>by
  simp at ho;subst ho;simp only [Nb,aD] at h;have h2:=h.1;have:Nat.ble (dL (bW P cfg q.op)) 1=false:=by
   cases hb:Nat.ble (dL (bW P cfg q.op)) 1 with
   | false=>rfl
   | true=>exact absurd (fH hb) hk
  rw [this,aq] at h2;exact h2
 | q::os,k,h,i+1,o,ho,hk=>by
  simp only [Nb,aD] at h;have:=RV os (k+1) h.2 i o (by simpa using ho) hk;rwa [show k+1+i=k+(i+1) by omega] at this
theorem afe {cfg:eQ} : ∀ (os:List Oper),∃ n,n<=os.length/\(∀ o∈os.take n,dL (bW P cfg o.op)<=1)/\(n=os.length\/∃ o,os[n]? = some o/\¬ dL (bW P cfg o.op)<=1)
 | []=>⟨0,by simp,by simp,by simp⟩
 | o::os=>by
  by_cases hk:dL (bW P cfg o.op)<=1
  ·obtain ⟨n,h1,h2,h3⟩:=afe (cfg:=cfg) os
   refine ⟨n+1,by simpa using h1,fun q hq=>?_,?_⟩
   ·simp only [List.take_succ_cons,eL] at hq
    rcases hq with rfl | hq
    ·exact hk
    ·exact h2 q hq
   ·rcases h3 with h3 | ⟨q,h3,h4⟩
    ·exact .inl (by simp [h3])
    ·exact .inr ⟨q,by simpa using h3,h4⟩
  ·exact ⟨0,by simp,by simp,.inr ⟨o,by simp,hk⟩⟩
theorem aoC {R:Type} {cfg:eQ} {bC:oX R} {all os:List Oper} {k:bF->aC->Option R} {r:R} {t:bF} {A:aC} (h:vq P cfg bC all k os t A=some r) :
  ∃ n L tn,n<=os.length/\(∀ o∈os.take n,dL (bW P cfg o.op)<=1)/\(n=os.length\/∃ o,os[n]? = some o/\¬ dL (bW P cfg o.op)<=1)/\acd P cfg all A (os.take n) t L tn/\vq P cfg bC all k (os.drop n) tn A=some r:=by
 obtain ⟨n,h1,h2,h3⟩:=afe (P:=P) (cfg:=cfg) os;rw [<- List.take_append_drop n os,YB] at h;obtain ⟨L,tn,h4,h5⟩:=RU h2 h;exact ⟨n,L,tn,h1,h2,h3,h4,h5⟩
theorem akC (S:Nat->Bool) (os:List Oper) (L:List Out) (t:bF):∀ (m:Nat),jd S os L m t=jd (fun j=>S (m+j)) os L 0 t:=by
 intro m
 induction m generalizing S with
 | zero=>simp only [bd]
 | succ m ih=>
  rw [EA,ih];congr 1;funext j;rw [show m+j+1=m+1+j by omega]
theorem Pn (S:Nat->Bool):∀ (os:List Oper) (L L2:List Out) (k:Nat) (t:bF),L.length<=os.length->jd S os (L++L2) k t=jd S (os.drop L.length) L2 (k+L.length) (jd S os L k t)
 | [],[],L2,k,t,_=>rfl
 | [],x::L,L2,k,t,h=>by simp at h
 | o::os,[],L2,k,t,_=>rfl
 | o::os,x::L,L2,k,t,h=>by
  simp only [List.cons_append,jd,HP,List.drop_succ_cons];rw [Pn S os L L2 (k+1) _ (by simpa using h),show k+1+L.length=k+(L.length+1) by omega]
theorem aaA {S:Nat->Bool} {os:List Oper} {L L2:List Out} {t:bF} (h:L.length<=os.length) (hS:∀ j,L.length<=j->j < os.length->S j=false) (y:Tmp):(jd S os (L++L2) 0 t).get y=(jd S os L 0 t).get y:=by
 rw [Pn S os L L2 0 t h,bd,akC];refine (na (S':=fun _=>false) rfl fun i o ho _=>?_).trans (by rw [Pk fun _=>rfl]);rw [bd];rw [pS] at ho;exact hS _ (by omega) (c8.1 ho).1
theorem YC {S S' : Nat->Bool} : ∀ {os:List Oper} {L:List Out} {k:Nat} {t:bF},(∀ j,j < L.length->S (k+j)=S' (k+j))->jd S os L k t=jd S' os L k t
 | [],L,k,t,_=>by cases L <;> rfl
 | o::os,[],k,t,_=>rfl
 | o::os,x::L,k,t,h=>by
  simp only [jd];rw [show S k=S' k from by have:=h 0 (by simp); simpa using this];exact YC fun j hj=>by have:=h (j+1) (by simpa using hj); rwa [show k+(j+1)=k+1+j by omega] at this
theorem akD {S:Nat->Bool} : ∀ {os:List Oper} {L:List Out} {n k:Nat} {t:bF},L.length<=n->jd S (os.take n) L k t=jd S os L k t
 | [],L,n,k,t,_=>by simp
 | o::os,[],n,k,t,_=>by cases n <;> rfl
 | o::os,x::L,0,k,t,h=>by simp at h
 | o::os,x::L,n+1,k,t,h=>by
  simp only [List.take_succ_cons,jd];exact akD (by simpa using h)
theorem amB {cfg:eQ} {o:Oper} {p:Operand×List Operand} (h:M9 o=some p) : ¬ dL (bW P cfg o.op)<=1:=by
 unfold M9 at h;split at h
 ·rename_i c' atD _
  split at h
  ·rename_i d vk
   rw [atD];show ¬ dL (mZ P cfg c')<=1;unfold mZ;rw [vk];show ¬ (9:Nat)<=1;omega
  ·simp at h
 ·simp at h
theorem x6 {t t' : bF} : ∀ {xs:List Operand},(∀ x∈xs,l7 t x=l7 t' x)->mR t xs=mR t' xs:=fun {xs} h=>by
 rw [uE,uE];exact List.map_congr_left h
theorem akE {R:Type} {bC:oX R} {t t' : bF} {A:aC} {k:KV->aC->Option R} {ins:ti} (h:∀ x∈adQ ins,l7 t x=l7 t' x):Rx bC t A k ins=Rx bC t' A k ins:=by
 cases ins with
 | pure f xs=>show (f (mR t xs)).run _=(f (mR t' xs)).run _; rw [x6 (xs:=xs) h]
 | read f xs=>show (f A (mR t xs)).run _=(f A (mR t' xs)).run _; rw [x6 (xs:=xs) h]
 | act f xs=>show (f A (mR t xs)).run _=(f A (mR t' xs)).run _; rw [x6 (xs:=xs) h]
 | look f xs=>show (f (mR t xs)).run _=(f (mR t' xs)).run _; rw [x6 (xs:=xs) h]
 | Eo g f xs=>show (f (mR t xs)).run _=(f (mR t' xs)).run _; rw [x6 (xs:=xs) h]
 | IY g f xs=>show (f (zL A (mR t xs)).1).run (fun v=>k v (zL A (mR t xs)).2)=(f (zL A (mR t' xs)).1).run (fun v=>k v (zL A (mR t' xs)).2); rw [x6 (xs:=xs) h]
 | call f xs=>
  show Option.rec (motive:=fun _=>Option R) none (fun p=>bC p.1 p.2 A k) (IZ (mR t xs) (l7 t f))=Option.rec (motive:=fun _=>Option R) none (fun p=>bC p.1 p.2 A k) (IZ (mR t' xs) (l7 t' f));rw [x6 fun x hx=>h x (xh f hx),h f (Ow ..)]
 | bad=>rfl
theorem aiQ {R:Type} {cfg:eQ} {bC:oX R} (gZ:tW P cfg.pc) (xK:Nl P bC) (hm:P.follows .mixedOrders=true) {id:Nat} {all:List Oper} {N base:Nat} (hdN:all.all (LD N)=true) {k:bF->aC->Option R} {r:R} {t:bF} {A:aC} {B:St} {ρ:aZ} {a:Act} {w:World} {Q:Exit->Act->World->Prop}
  (Np:O1 P cfg all=true) (h:vq P cfg bC all k all t A=some r) (ht:mq P E ρ t N a) (hj:KJ P E A B ρ base w)
  (hq:∀ t' E' A' B' a7 a' w',k t' A' = some r->mq P E' a7 t' N a'->a'.defers=a.defers->Ev P base E A B ρ w E' A' B' a7 w'->Q .normal a' w'):(Code.region id ⟨all⟩ true).wp P Q a w:=by
 unfold O1 at Np;split at Np
 ·simp only [aD] at Np
  obtain ⟨⟨atE,hcl⟩,har⟩:=Np;have hf:ae7 P cfg all:=⟨GB atE,fun {i j x y} hy hx a8 vk=>by
   have:=ED all 0 hcl i y hy;rw [bd] at this;have:=I8 all 0 this j x hx (by omega) vk;rwa [bd] at this⟩
  have piv:∀ (i:Nat) (o:Oper),all[i]? = some o->¬ dL (bW P cfg o.op)<=1->∀ j q,all[j]? = some q->(j < i->dL (bW P cfg q.op)=0\/rR (eW [] all) i j=true)/\(i < j->rR (eW [] all) j i=true):=fun i o ho hk j q hq=>by
   have h1:=RV all 0 har i o ho hk;have h2:=Vi all 0 h1 j q hq;simpa only [bd] using h2
  have RQ:Ev P base E A B ρ w E A B ρ w.drew:=(ei.refl hj.k).ev (nC.drew hj.s);have I5:∀ (i:Nat) (o:Oper),all[i]? = some o->∀ d,o.dst=some d->d < N:=by
   intro i o ho d ed;have:=gx.1 hdN o (hQ ho);unfold LD at this;rw [ed] at this;simp only at this;rw [bT] at this;exact this
  refine wp_region_any hm ?_;show wpAny P .any ⟨all⟩ Q all.length (Array.replicate all.length false) a w.drew;have GG:∀ i,(Array.replicate all.length false).getD i false=false:=by
   intro i;rw [hM,Array.getElem?_replicate];split <;> rfl
  have e0:∀ (S:Nat->Bool),(fun j=>S (0+j))=S:=fun S=>by funext j; rw [bd]
  have hos:∀ j q,all[j]? = some q->all[0+j]? = some q:=fun j q hjq=>by rwa [bd]
  let ar5:List Out->aC->Nat->Oper->Out->Prop:=fun L A2 i o x=>∃ t1,(∀ y,t1.get y=(jd (fun j=>Nat.blt j i) all L 0 t).get y)/\Pj all o t1 x.1/\(x.1=true->a9 (xl (bW P cfg o.op) t1 A2) (x.2.1,A2))/\(x.1=false->x.2.1=uh)
  let Inv:(Nat->Bool)->Act->World->Prop:=fun S a' w'=>∃ n L A2 tn E' B' a7,n<=all.length/\L.length=n/\(∀ j,n<=j->j < all.length->S j=false)/\(n=all.length\/∃ o,all[n]? = some o/\¬ dL (bW P cfg o.op)<=1)/\
   (∀ j o,j < n->all[j]? = some o->¬ dL (bW P cfg o.op)<=1->S j=true)/\(∀ i o x,i < n->S i=false->all[i]? = some o->L[i]? = some x->ar5 L A2 i o x)/\
   (∀ y,tn.get y=(jd (fun _=>true) all L 0 t).get y)/\vq P cfg bC all k (all.drop n) tn A2=some r/\a'.defers=a.defers/\Ev P base E A B ρ w.drew E' A2 B' a7 w'/\mq P E' a7 (jd S all L 0 t) N a'
  have begin:∀ (m:Nat) (S:Nat->Bool) (L:List Out) (A2:aC) (t2:bF) (a' : Act) (w' : World) (E' : Env) (B' : St) (a7:aZ),m<=all.length->L.length=m->(∀ j,m<=j->j < all.length->S j=false)->
    (∀ j o,j < m->all[j]? = some o->¬ dL (bW P cfg o.op)<=1->S j=true)->(∀ i o x,i < m->S i=false->all[i]? = some o->L[i]? = some x->ar5 L A2 i o x)->
    (∀ y,t2.get y=(jd (fun _=>true) all L 0 t).get y)->vq P cfg bC all k (all.drop m) t2 A2=some r->a'.defers=a.defers->Ev P base E A B ρ w.drew E' A2 B' a7 w'->mq P E' a7 (jd S all L 0 t) N a'->Inv S a' w':=by
   intro m S L A2 t2 a' w' E' B' a7 hml hL h1 h2 h3 h4 h5 h6 h7 h8;obtain ⟨n,L2,tn,g1,g2,g3,g4,g5⟩:=aoC h5;rw [List.length_drop] at g1 g3;obtain ⟨k1,k2,k3⟩:=g4.at;rw [nH,List.length_drop,Nat.min_eq_left g1] at k1;have hLa:L.length<=all.length:=by omega
   have tail:∀ (S:Nat->Bool) (y:Tmp),(∀ j,j < m->S j=true)->(jd S all (L++L2) 0 t).get y=(jd (fun j=>S (m+j)) ((all.drop m).take n) L2 0 t2).get y:=fun S y hS=>by
    rw [Pn S all L L2 0 t hLa,bd,akC,akD (by omega),hL];refine na ?_ fun _ _ _ _=>rfl;rw [h4 y,YC (S:=S) (S':=fun _=>true) fun j hj=>by rw [bd]; exact hS j (by omega)]
   refine ⟨m+n,L++L2,A2,tn,E',B',a7,by omega,by rw [ko]; omega,fun j hj1 Pb=>h1 j (by omega) Pb,?_,fun j o hj ho hk=>?_,fun i o x hi rD ho hx=>?_,fun y=>?_,by rwa [List.drop_drop] at g5,h6,h7,h8.same fun y=>aaA hLa (fun j hj1 Pb=>h1 j (by omega) Pb) y⟩
   ·rcases g3 with g3 | ⟨o,g3,g6⟩
    ·exact .inl (by omega)
    ·exact .inr ⟨o,by rwa [pS] at g3,g6⟩
   ·by_cases hjm:j < m
    ·exact h2 j o hjm ho hk
    ·exfalso
     refine hk (g2 o (hQ (i:=j - m) ?_));rw [pr,aR (by omega),pS,show m+(j - m)=j by omega];exact ho
   ·by_cases him:i < m
    ·rw [pR (by omega)] at hx
     obtain ⟨t1,q1,q2⟩:=h3 i o x him rD ho hx;exact ⟨t1,fun y=>by rw [q1 y]; exact (aaA hLa (fun j hj1 _=>by
      cases hb:Nat.blt j i with
      | false=>rfl
      | true=>rw [bT] at hb; omega) y).symm,q2⟩
    ·rw [ue (by omega),hL] at hx
     have hoi:((all.drop m).take n)[i - m]? = some o:=by rw [pr,aR (by omega),pS,show m+(i - m)=i by omega]; exact ho
     obtain ⟨t1,q1,q2,q3,q4⟩:=k3 (i - m) o x hoi hx;have hk:=g2 o (hQ hoi);refine ⟨t1,fun y=>?_,q2,fun H0=>?_,fun H0=>(q4 H0).1⟩
     ·rw [q1 y,tail _ y fun j hj=>by rw [bT]; omega]
      refine na rfl fun j q _ _=>?_;rw [bd];cases hb:Nat.blt (m+j) i with
      | true=>rw [bT] at hb ⊢; omega
      | false=>
       cases uu:Nat.blt j (i - m) with
       | false=>rfl
       | true=>
        rw [bT] at uu;have:Nat.blt (m+j) i=true:=by rw [bT]; omega
        rw [hb] at this; simp at this
     ·rcases q3 H0 with ⟨F8,_⟩ | ⟨_,hg⟩
      ·rw [ahF hk] at F8; simp at F8
      ·rcases hg with hg | ⟨p,hp,_⟩
       ·exact hg
       ·exact absurd hk (amB hp)
   ·rw [k2 y,tail _ y fun _ _=>rfl]
  refine HV hf.reg Inv ?_ ?_ ?_ all.length _ a w.drew (by simp) ?_ (fun i j hi _=>by
    have h2:(Array.replicate all.length false).getD i false=true:=hi;rw [GG] at h2; simp at h2) (begin 0 _ [] A t a w.drew E B ρ (by omega) rfl (fun j _ _=>GG j) (fun j _ hj=>by omega) (fun i _ _ hi=>by omega) (fun y=>by cases all <;> rfl) (by simpa using h) rfl (.refl hj.k RQ.fX.jK) (ht.same fun y=>by cases all <;> rfl))
  ·
   rintro S S' a' w' hSS ⟨n,L,A2,tn,E',B',a7,h1,h2,h3,h4,h5,h6,h7,h8,h9,vK,Kg⟩;refine ⟨n,L,A2,tn,E',B',a7,h1,h2,fun j hj1 Pb=>by rw [<- hSS j Pb]; exact h3 j hj1 Pb,h4,fun j o hj ho hk=>by rw [<- hSS j (by omega)]; exact h5 j o hj ho hk,fun i o x hi rD ho hx=>h6 i o x hi (by rw [hSS i (by omega)]; exact rD) ho hx,h7,h8,h9,vK,Kg.same fun z=>na rfl fun i o ho _=>?_⟩;rw [bd];exact (hSS _ (c8.1 ho).1).symm
  ·
   rintro S a' w' i o ⟨n,L,A2,tn,E',B',a7,h1,h2,h3,h4,h5,h6,h7,h8,h9,vK,Kg⟩ hcS ho rD ux _;have hil:i < all.length:=(c8.1 ho).1;have hoA:(⟨all⟩:Array Oper)[i]? = some o:=by simpa using ho
   rcases Nat.lt_trichotomy i n with xK | xK | xK
   ·
    have hkd:dL (bW P cfg o.op)<=1:=by
     by_cases hk:dL (bW P cfg o.op)<=1
     ·exact hk
     ·have:=h5 i o xK ho hk
      rw [rD] at this; simp at this
    have hi:i < L.length:=by omega
    have hx:L[i]? = some L[i]:=dz hi;obtain ⟨t1,yX,hw,afb,RP⟩:=h6 i o L[i] xK rD ho hx;have BB:∀ z∈oQ P cfg all o,t1.get z=(jd S all L 0 t).get z:=fun z hz=>by
     have:=afd (m:=0) (L:=L) (t0:=t) hf hos hcS ho (by rw [bd]; exact rD) (by rw [bd]; exact ux) hz;rw [e0] at this;rw [yX z,this]
    have ab8:∀ z,(jd (cQ S i) all L 0 t).get z=(rT (jd S all L 0 t) o.dst L[i].2.1).get z:=fun z=>by
     have:=apQ (m:=0) (L:=L) (t0:=t) hf hos hcS ho hx (by rw [bd]; exact rD) z;rw [bd,e0,e0] at this;exact this
    have Pm:=F6 Kg (fun z hz=>BB z (by unfold oQ; exact List.mem_append_left _ hz)) hw;have fin:∀ E2 B2 xZ a2 w2,a2.defers=a'.defers->Ev P base E A B ρ w.drew E2 A2 B2 xZ w2->mq P E2 xZ (jd (cQ S i) all L 0 t) N a2->Inv (cQ S i) a2 w2:=fun E2 B2 xZ a2 w2 q1 q2 q3=>
     ⟨n,L,A2,tn,E2,B2,xZ,h1,h2,fun j hj1 Pb=>by rw [gS (by omega)]; exact h3 j hj1 Pb,h4,fun j q hj hjq hk=>by
      by_cases he:j=i
      ·subst he; exact Cp
      ·rw [gS he]; exact h5 j q hj hjq hk,fun j q x hj Uo hjq hxj=>h6 j q x hj (by
       by_cases he:j=i
       ·subst he; rw [Cp] at Uo; simp at Uo
       ·rwa [gS he] at Uo) hjq hxj,h7,h8,q1.trans h9,q2,q3⟩
    unfold wpOp;rw [hoA];simp only [Pm];cases H0:L[i].1 with
    | false=>
     simp only [yI,if_false];refine fin E' B' a7 _ _ (by rw [put_defers]) vK ?_;refine (Kg.put (I5 i o ho) VC.undef).same fun z=>?_;rw [ab8 z,RP H0]
    | true=>
     simp only [if_true];refine .inl (Pf gZ (afb H0) (fun x hxm=>RN Kg fun z e=>BB z ?_) vK.kj fun Nm Pg xT v' MT h5 h6=>?_)
     ·unfold oQ
      subst e;exact List.mem_append_right _ (lN hxm)
     ·have mC:=h6.fX.le vK.fX.jK
      refine fin Nm Pg xT _ _ (by rw [put_defers]) (vK.trans h6) ?_;refine ((Kg.mono h6.le mC).put (I5 i o ho) h5).same fun z=>?_;rw [ab8 z]
   ·
    subst xK;rcases h4 with h4 | ⟨oc,Kd,anO⟩
    ·omega
    rw [Kd] at ho;simp at ho;subst ho;have BB:∀ z∈oQ P cfg all oc,tn.get z=(jd S all L 0 t).get z:=fun z hz=>by
     have:=afd (m:=0) (L:=L) (t0:=t) hf hos hcS Kd (by rw [bd]; exact rD) (by rw [bd]; exact ux) hz;rw [e0] at this;rw [this,h7 z,YC (S:=fun _=>true) (S':=fun j=>Nat.blt j i) fun j hj=>by rw [bd]; symm; rw [bT]; omega]
    have yO:Bw P cfg bC all oc (vq P cfg bC all k (all.drop (i+1))) tn A2=some r:=by
     have:all.drop i=oc::all.drop (i+1):=by
      rw [List.drop_eq_getElem_cons hil];rw [dz hil] at Kd;simp at Kd;rw [Kd]
     rw [this] at h8;exact h8
    have hLa:L.length<=all.length:=by omega
    have hdr:all.drop i=oc::all.drop (i+1):=by
     rw [List.drop_eq_getElem_cons hil];rw [dz hil] at Kd;simp at Kd;rw [Kd]
    have one:∀ (S:Nat->Bool) (x:Out),S i=true->jd S all (L++[x]) 0 t=rT (jd S all L 0 t) oc.dst x.2.1:=fun S x hS=>by
     rw [Pn S all L [x] 0 t hLa,bd,h2,hdr];simp only [jd,hS,aj];cases all.drop (i+1) <;> rfl
    have akF:∀ {t1:bF} {v:KV} {v' : Value} {E2:Env} {A3:aC} {B2:St} {xZ:aZ} {w2:World},(∀ y,t1.get y=tn.get y)->vq P cfg bC all k (all.drop (i+1)) (rT t1 oc.dst v) A3=some r->VC P E2 xZ v v'->Ev P base E' A2 B' a7 w' E2 A3 B2 xZ w2->Inv (cQ S i) (a'.put oc.dst v') w2:=by
     intro t1 v v' E2 A3 B2 xZ w2 yX q1 q2 q3;have mC:=q3.fX.le vK.fX.jK;have e1:jd (cQ S i) all L 0 t=jd S all L 0 t:=YC fun j hj=>by rw [bd]; exact gS (by omega)
     refine begin (i+1) _ (L++[(true,v,A3)]) A3 _ _ w2 E2 B2 xZ (by omega) (by simp [h2]) (fun j g1 g2=>by rw [gS (by omega)]; exact h3 j (by omega) g2) (fun j q hj hjq hk=>?_) (fun j q x hj Uo hjq hxj=>?_) (fun y=>?_) q1 (by rw [put_defers]; exact h9) (vK.trans q3) ?_
     ·by_cases he:j=i
      ·subst he; exact Cp
      ·rw [gS he]; exact h5 j q (by omega) hjq hk
     ·have he:j≠i:=by
       intro he;subst he;rw [Cp] at Uo; simp at Uo
      rw [gS he] at Uo;rw [pR (by omega)] at hxj;have hz:dL (bW P cfg q.op)=0:=by
       rcases (piv i oc Kd anO j q hjq).1 (by omega) with hz | hb
       ·exact hz
       ·have:=hcS.ready hf.reg Kd ux j hb
        rw [Uo] at this; simp at this
      obtain ⟨t3,p1,p2,p3,p4⟩:=h6 j q x (by omega) Uo hjq hxj;exact ⟨t3,fun y=>by rw [p1 y]; exact (aaA hLa (fun j' hj1 _=>by
       cases hb:Nat.blt j' j with
       | false=>rfl
       | true=>rw [bT] at hb; omega) y).symm,p2,fun H0=>akv (p3 H0) hz,p4⟩
     ·rw [one _ _ rfl,uF,uF,yX y,h7 y]
     ·refine ((Kg.mono q3.le mC).put (I5 i oc Kd) q2).same fun z=>?_
      rw [one _ _ Cp,e1]
    have hgt:∀ z∈Ip all oc,tn.get z=(jd S all L 0 t).get z:=fun z hz=>BB z (by unfold oQ; exact List.mem_append_left _ hz);have run:∀ {t1:bF},(∀ y,t1.get y=tn.get y)->Pj all oc tn true->Rx bC t1 A2 (fun v A=>vq P cfg bC all k (all.drop (i+1)) (rT t1 oc.dst v) A) (bW P cfg oc.op)=some r->wpOp P ⟨all⟩ Q i (Inv (cQ S i)) a' w':=by
     intro t1 yX hw anN;have Pm:=F6 Kg hgt hw;unfold wpOp;rw [hoA];simp only [Pm,if_true];rw [akE (t':=jd S all L 0 t) fun x hx=>by
      cases x with
      | tmp z=>
       have:=BB z (by unfold oQ; exact List.mem_append_right _ (lN hx));simp only [l7];rw [yX z,this]
      | const v=>rfl
      | global g=>rfl
      | func f=>rfl] at anN
     exact .inl (ab7 gZ xK anN Kg vK.kj fun E2 A2 B2 xZ v v' w2 q1 q2 q3=>akF yX q1 q2 q3)
    have skip:∀ {t1:bF},(∀ y,t1.get y=tn.get y)->Pj all oc tn false->vq P cfg bC all k (all.drop (i+1)) (rT t1 oc.dst uh) A2=some r->wpOp P ⟨all⟩ Q i (Inv (cQ S i)) a' w':=by
     intro t1 yX hw hop;have Pm:=F6 Kg hgt hw;unfold wpOp;rw [hoA];simp only [Pm,yI,if_false];exact akF yX hop VC.undef (.refl vK.jK vK.fX.jK)
    unfold Bw at yO;cases hgd:oc.guard with
    | none=>
     rw [hgd] at yO;exact run (fun _=>rfl) (.inl ⟨hgd,rfl⟩) yO
    | some p=>
     obtain ⟨j,want⟩:=p;rw [hgd] at yO;obtain ⟨d,hd,yO⟩:=Ph yO;rcases yO with ⟨b,t1,h4,h5,h6⟩ | ⟨l,h4,h5⟩
     ·rcases h6 with ⟨h6,h7⟩ | ⟨h6,h7⟩
      ·exact run h5 (.inr ⟨j,want,d,hgd,hd,.inl ⟨b,h4,h6.symm⟩⟩) h7
      ·exact skip h5 (.inr ⟨j,want,d,hgd,hd,.inl ⟨b,h4,h6.symm⟩⟩) h7
     ·exact skip (fun _=>rfl) (.inr ⟨j,want,d,hgd,hd,.inr ⟨l,h4,rfl⟩⟩) h5
   ·
    rcases h4 with h4 | ⟨oc,Kd,anO⟩
    ·omega
    have a8:n < all.length:=(c8.1 Kd).1;have h1':=hcS.ready hf.reg ho ux n ((piv n oc Kd anO i o ho).2 xK);have IM:=h3 n (by omega) a8;rw [h1'] at IM; simp at IM
  ·
   rintro S a' w' nE ⟨n,L,A2,tn,E',B',a7,h1,h2,h3,h4,h5,h6,h7,h8,h9,vK,Kg⟩;have hmn:n=all.length:=by
    rcases h4 with h4 | ⟨oc,Kd,anO⟩
    ·exact h4
    ·have a8:n < all.length:=(c8.1 Kd).1
     have:=h3 n (by omega) a8;rw [nE _ a8] at this; simp at this
   rw [hmn,List.drop_length] at h8;refine hq tn E' A2 B' a7 a' w' h8 (Kg.same fun z=>?_) h9 (RQ.trans vK);rw [h7 z];exact na rfl fun j q hjq _=>by rw [bd]; exact (nE _ (c8.1 hjq).1).symm
  ·simp
 ·simp at Np
end Go.K
end
section
namespace Go.K
open Go Go.aB
variable {P:Program} {E:Env}
inductive Sub (root:Code):Nat->Code->Prop where
 | root:Sub root 1 root
 | ar6 {p:Nat} {a b:Code} : Sub root p (.seq a b)->Sub root (2 * p) a
 | ar7 {p:Nat} {a b:Code} : Sub root p (.seq a b)->Sub root (2 * p+1) b
 | apR {p:Nat} {c:Operand} {a b:Code} : Sub root p (.cond c a b)->Sub root (2 * p) a
 | apS {p:Nat} {c:Operand} {a b:Code} : Sub root p (.cond c a b)->Sub root (2 * p+1) b
 | block {p id:Nat} {a:Code} : Sub root p (.block id a)->Sub root (2 * p) a
 | loop {p:Nat} {a:Code} : Sub root p (.loop a)->Sub root (2 * p) a
 | scope {p:Nat} {a:Code} : Sub root p (.scope a)->Sub root (2 * p) a
def aff (P:Program) (N:Nat) {R:Type} (c:Code) (f:KE R->bF->aC->Option R):Prop:=
 ∀ (k:KE R) (r:R) (t:bF) (A:aC) (E:Env) (B:St) (ρ:aZ) (base:Nat) (a:Act) (w:World) (Q:Exit->Act->World->Prop),f k t A=some r->mq P E ρ t N a->KJ P E A B ρ base w->
  (∀ e t' E' A' B' a7 a' w',k e t' A' = some r->mq P E' a7 t' N a'->a'.defers=a.defers->Ev P base E A B ρ w E' A' B' a7 w'->Q e.out a' w')->c.wp P Q a w
def aaB (P:Program) (N:Nat) (body:Code) (F:bF->aC->Ks):Prop:=∀ (R:Type),aff P N (R:=R) (.loop body) (fun k t A=>ami F k t A)
def anP (P:Program) (cfg:eQ) (f:FuncId) (root:Code):Prop:=∀ p F body,cfg.lp f p=some F->Sub root p (.loop body)->∀ N,codeOk N body=true->aaB P N body F
section
variable {R:Type} {cfg:eQ} {bC:oX R} {L:Nat} {f:FuncId}
theorem YD {N:Nat} {c:Code} {g:KE R->bF->aC->Option R} (hg:aff P N c g):∀ (n:Nat) (k:KE R) (r:R) (t:bF) (A:aC) (E:Env) (B:St) (ρ:aZ) (base:Nat) (a:Act) (w:World) (Q:Exit->Act->World->Prop),aap g k n t A=some r->mq P E ρ t N a->KJ P E A B ρ base w->
  (∀ e t' E' A' B' a7 a' w',k e t' A' = some r->mq P E' a7 t' N a'->a'.defers=a.defers->Ev P base E A B ρ w E' A' B' a7 w'->Q e.out a' w')->Code.rounds P c Q n a w
 | 0,k,r,t,A,E,B,ρ,base,a,w,Q,h,ht,hj,hq=>by exact absurd h (by simp [aap])
 | n+1,k,r,t,A,E,B,ρ,base,a,w,Q,h,ht,hj,hq=>by
  rw [rounds_succ];have h:g (aiy k (aap g k n)) t A=some r:=h;refine hg _ r t A E B ρ base a w _ h ht hj fun e t' E' A' B' a7 a' w' h1 h2 h3 h4=>?_;cases e with
  | normal=>
   have h1:aap g k n t' A' = some r:=h1;exact YD hg n k r t' A' E' B' a7 base a' w' Q h1 h2 h4.kj fun e t'' Nm A'' Pg xT a'' MT q1 q2 q3 q4=>hq e t'' Nm A'' Pg xT a'' MT q1 q2 (q3.trans h3) (h4.trans q4)
  | exit id=>exact hq (.exit id) t' E' A' B' a7 a' w' h1 h2 h3 h4
  | goto l=>exact hq (.goto l) t' E' A' B' a7 a' w' h1 h2 h3 h4
  | ret=>exact hq .ret t' E' A' B' a7 a' w' h1 h2 h3 h4
theorem nU (gZ:tW P cfg.pc) (xK:Nl P bC) (hm:P.follows .mixedOrders=true) {root:Code} (mG:anP P cfg f root) {N:Nat} : ∀ (c:Code) (p:Nat),Sub root p c->codeOk N c=true->aff P N c (sP P cfg bC L f c p)
 | .skip,p,_,_=>by
  intro k r t A E B ρ base a w Q h ht hj hq;exact wp_skip (hq .normal t E A B ρ a w h ht rfl (.refl hj.k hj.s))
 | .ret,p,_,_=>by
  intro k r t A E B ρ base a w Q h ht hj hq;exact wp_ret (hq .ret t E A B ρ a w h ht rfl (.refl hj.k hj.s))
 | .exit id,p,_,_=>by
  intro k r t A E B ρ base a w Q h ht hj hq;exact wp_exit (hq (.exit id) t E A B ρ a w h ht rfl (.refl hj.k hj.s))
 | .label l,p,_,_=>by
  intro k r t A E B ρ base a w Q h ht hj hq;exact wp_label (hq .normal t E A B ρ a w h ht rfl (.refl hj.k hj.s))
 | .goto l,p,_,_=>by
  intro k r t A E B ρ base a w Q h ht hj hq;exact wp_goto (hq (.goto l) t E A B ρ a w h ht rfl (.refl hj.k hj.s))
 | .region id ops false,p,_,hc=>by
  intro k r t A E B ρ base a w Q h ht hj hq;have h:vq P cfg bC ops.toList (fun t A=>k .normal t A) ops.toList t A=some r:=h;refine wp_region ?_;have:=RK (Q:=Q) (base:=base) gZ xK (N:=N) (all:=ops.toList) hc ops.toList 0 t E A B ρ a w (by simp) h ht hj fun t' E' A' B' a7 a' w' h1 h2 h3 h4=>hq .normal t' E' A' B' a7 a' w' h1 h2 h3 h4;rw [List.range_eq_range'];simpa using this
 | .region id ops true,p,_,hc=>by
  intro k r t A E B ρ base a w Q h ht hj hq;have h:aeF P cfg bC ops.toList true (fun t A=>k .normal t A) t A=some r:=h;unfold aeF at h;cases ho:aj2 P cfg ops.toList with
  | false=>
   rw [ho] at h;cases hcr:O1 P cfg ops.toList with
   | true=>
    rw [hcr] at h;exact aiQ (all:=ops.toList) gZ xK hm hc hcr h ht hj fun t' E' A' B' a7 a' w' h1 h2 h3 h4=>hq .normal t' E' A' B' a7 a' w' h1 h2 h3 h4
   | false=>
    rw [hcr] at h;cases hb:Yh P cfg ops.toList with
    | false=>rw [hb] at h; exact absurd h (by simp)
    | true=>
     rw [hb] at h;exact akB (all:=ops.toList) gZ hm hc hb h ht hj fun t' E' A' B' a7 a' w' h1 h2 h3 h4=>hq .normal t' E' A' B' a7 a' w' h1 h2 h3 h4
  | true=>
   rw [ho] at h;exact agS (all:=ops.toList) gZ hm hc ho h ht hj fun t' E' A' B' a7 a' w' h1 h2 h3 h4=>hq .normal t' E' A' B' a7 a' w' h1 h2 h3 h4
 | .seq x y,p,hs,hc=>by
  simp only [codeOk,aD] at hc;intro k r t A E B ρ base a w Q h ht hj hq;have h:sP P cfg bC L f x (2 * p) (aiy k fun t A=>sP P cfg bC L f y (2 * p+1) k t A) t A=some r:=h;refine wp_seq ?_;refine nU gZ xK hm mG x (2 * p) hs.ar6 hc.1 _ r t A E B ρ base a w _ h ht hj fun e t' E' A' B' a7 a' w' h1 h2 h3 h4=>?_;cases e with
  | normal=>
   have h1:sP P cfg bC L f y (2 * p+1) k t' A' = some r:=h1;exact nU gZ xK hm mG y (2 * p+1) hs.ar7 hc.2 k r t' A' E' B' a7 base a' w' Q h1 h2 h4.kj fun e t'' Nm A'' Pg xT a'' MT q1 q2 q3 q4=>hq e t'' Nm A'' Pg xT a'' MT q1 q2 (q3.trans h3) (h4.trans q4)
  | exit id=>exact hq (.exit id) t' E' A' B' a7 a' w' h1 h2 h3 h4
  | goto l=>exact hq (.goto l) t' E' A' B' a7 a' w' h1 h2 h3 h4
  | ret=>exact hq .ret t' E' A' B' a7 a' w' h1 h2 h3 h4
 | .cond c x y,p,hs,hc=>by
  simp only [codeOk,aD] at hc;intro k r t A E B ρ base a w Q h ht hj hq;have h:aix t c (fun t=>sP P cfg bC L f x (2 * p) k t A) (fun t=>sP P cfg bC L f y (2 * p+1) k t A)=some r:=h;have key:∃ t',(∀ i,t'.get i=t.get i)/\((a.eval c = .bool true/\sP P cfg bC L f x (2 * p) k t' A=some r)\/(a.eval c = .bool false/\sP P cfg bC L f y (2 * p+1) k t' A=some r)):=by
   have rV:=ht.ev c;cases c with
   | tmp d=>
    have h:BK.rec (motive:=fun _=>Option R) (fun b=>Bool.rec (motive:=fun _=>Option R) (sP P cfg bC L f y (2 * p+1) k (t.set (.bool false) d) A) (sP P cfg bC L f x (2 * p) k (t.set (.bool true) d) A) b) none none (wZ ((t.get d).getD .bD))=some r:=h;cases hb:wZ ((t.get d).getD .bD) with
    | no=>rw [hb] at h; exact absurd h (by simp)
    | iv=>rw [hb] at h; exact absurd h (by simp)
    | bool b=>
     rw [hb] at h;have hbv:=F5 hb;have rV:VC P E ρ ((t.get d).getD .bD) (a.eval (.tmp d)):=rV;rw [hbv] at rV;have:=rV.gh;refine ⟨t.set (.bool b) d,Pe hb,?_⟩;cases b
     ·exact .inr ⟨this,h⟩
     ·exact .inl ⟨this,h⟩
   | const v=>
    have h:BK.rec (motive:=fun _=>Option R) (fun b=>Bool.rec (motive:=fun _=>Option R) (sP P cfg bC L f y (2 * p+1) k t A) (sP P cfg bC L f x (2 * p) k t A) b) none none (wZ (l7 t (.const v)))=some r:=h;cases hb:wZ (l7 t (.const v)) with
    | no=>rw [hb] at h; exact absurd h (by simp)
    | iv=>rw [hb] at h; exact absurd h (by simp)
    | bool b=>
     rw [hb] at h;rw [F5 hb] at rV;have:=rV.gh;refine ⟨t,fun _=>rfl,?_⟩;cases b
     ·exact .inr ⟨this,h⟩
     ·exact .inl ⟨this,h⟩
   | global g=>exact absurd h (by simp [aix,l7,wZ])
   | func g=>exact absurd h (by simp [aix,l7,wZ])
  obtain ⟨t',CU,h⟩:=key;have ht':=ht.same CU;rcases h with ⟨hb,h⟩ | ⟨hb,h⟩
  ·exact wp_cond_true hb (nU gZ xK hm mG x (2 * p) hs.apR hc.1 k r t' A E B ρ base a w Q h ht' hj hq)
  ·exact wp_cond_false hb (nU gZ xK hm mG y (2 * p+1) hs.apS hc.2 k r t' A E B ρ base a w Q h ht' hj hq)
 | .block id x,p,hs,hc=>by
  have hc:codeOk N x=true:=hc;intro k r t A E B ρ base a w Q h ht hj hq;have h:sP P cfg bC L f x (2 * p) (anq id k) t A=some r:=h;refine wp_block ?_;refine nU gZ xK hm mG x (2 * p) hs.block hc _ r t A E B ρ base a w _ h ht hj fun e t' E' A' B' a7 a' w' h1 h2 h3 h4=>?_;cases e with
  | normal=>exact hq .normal t' E' A' B' a7 a' w' h1 h2 h3 h4
  | exit id'=>
   have h1:Bool.rec (motive:=fun _=>Option R) (k (.exit id') t' A') (k .normal t' A') (Nat.beq id' id)=some r:=h1;cases hb:Nat.beq id' id with
   | true=>
    rw [hb] at h1;have:=bh hb;simp only [ai.out,Exit.inBlock,aR this];exact hq .normal t' E' A' B' a7 a' w' h1 h2 h3 h4
   | false=>
    rw [hb] at h1;have:=Nat.ne_of_beq_eq_false hb;simp only [ai.out,Exit.inBlock,ay this];exact hq (.exit id') t' E' A' B' a7 a' w' h1 h2 h3 h4
  | goto l=>exact hq (.goto l) t' E' A' B' a7 a' w' h1 h2 h3 h4
  | ret=>exact hq .ret t' E' A' B' a7 a' w' h1 h2 h3 h4
 | .loop x,p,hs,hc=>by
  have hc:codeOk N x=true:=hc;intro k r t A E B ρ base a w Q h ht hj hq;have h:Option.rec (motive:=fun _=>bF->aC->Option R) (aap (sP P cfg bC L f x (2 * p)) k L) (fun F=>ami F k) (cfg.lp f p) t A=some r:=h;cases hF:cfg.lp f p with
  | some F=>
   rw [hF] at h;exact mG p F x hF hs N hc R k r t A E B ρ base a w Q h ht hj hq
  | none=>
   rw [hF] at h;exact wp_loop_rounds L (YD (nU gZ xK hm mG x (2 * p) hs.loop hc) L k r t A E B ρ base a w Q h ht hj hq)
 | .scope x,p,hs,hc=>by
  have hc:codeOk N x=true:=hc;intro k r t A E B ρ base a w Q h ht hj hq;have h:sP P cfg bC L f x (2 * p) (aeG k) t A=some r:=h;refine wp_scope_straight ?_;refine nU gZ xK hm mG x (2 * p) hs.scope hc _ r t A E B ρ base a w _ h ht hj fun e t' E' A' B' a7 a' w' h1 h2 h3 h4=>?_;cases e with
  | normal=>exact hq .normal t' E' A' B' a7 a' w' h1 h2 h3 h4
  | exit id=>exact hq (.exit id) t' E' A' B' a7 a' w' h1 h2 h3 h4
  | goto l=>exact absurd h1 (by simp [aeG])
  | ret=>exact hq .ret t' E' A' B' a7 a' w' h1 h2 h3 h4
 | .rangeFunc ..,p,_,_ | .refuse _,p,_,_=>by
  intro k r t A E B ρ base a w Q h ht hj hq;exact absurd h (by simp [sP])
end
theorem Ja:∀ (l:List KV) (i k:Nat) (t:bF),(pG l i t).get k=if i<=k/\k < i+l.length then l[k - i]? else t.get k
 | [],i,k,t=>by
  rw [pG,ay];simp
 | v::l,i,k,t=>by
  rw [pG,Ja l (i+1) k,Trie.qH];by_cases h1:k=i
  ·subst h1
   rw [ay (by omega),aR rfl,aR (by simp)];simp
  ·by_cases h2:i+1<=k/\k < i+1+l.length
   ·rw [aR h2,aR (by simp; omega),show k - i=(k - (i+1))+1 by omega]
    simp
   ·rw [ay h2,ay h1,ay (by simp; omega)]
theorem GH {A:aC} {B:St} {base N:Nat} {w:World} {ρ:aZ} {t:bF} {a:Act} (hj:KJ P E A B ρ base w) (ht:mq P E ρ t N a):∀ (rs:List ResultVar) (vs:List KV),Nc P A t rs=some vs->
  ∃ cK,Ey P E ρ vs cK/\(rs.mapM (adM a)).run P w=Result.ok cK w
 | [],vs,h=>by simp [Nc] at h; subst h; exact ⟨[],⟨[],.nil,.nil⟩,by simp⟩
 | .tmp x::rs,vs,h=>by
  simp only [Nc] at h;obtain ⟨us,hu,rfl⟩:=cR.1 h;obtain ⟨us',⟨m,h1,h3⟩,h2⟩:=GH hj ht rs us hu;obtain ⟨u,h4,h5⟩:=ht.ev (.tmp x);refine ⟨_::us',⟨u::m,.cons h4 h1,.cons h5 h3⟩,?_⟩;simp [List.mapM_cons,h2,Act.eval,adM]
 | .cell x ty::rs,vs,h=>by
  simp only [Nc] at h;split at h
  ·rename_i v hv
   obtain ⟨us,hu,rfl⟩:=cR.1 h;obtain ⟨us',⟨m,h1,h3⟩,h2⟩:=GH hj ht rs us hu;obtain ⟨u,h4,h5⟩:=ht.ev (.tmp x);have hg:a9 (aaj P ty A [l7 t (.tmp x)]) v:=by rw [hv]; exact rfl
   obtain ⟨z,h6,h7⟩:=akf E A B _ _ v hj.k (.cons h4 .nil) hg;have h6:loadAt P ty B u=some z:=h6;obtain ⟨ad,h8,z',h9,vK⟩:=UX (P:=P) hj.s.rel h5 h6;refine ⟨z'::us',⟨z::m,.cons h7 h1,.cons h9 h3⟩,?_⟩;have h8:a.tmps.getD x undef = .pointer (some ad):=h8;simp only [List.mapM_cons,Sem.run_bind,adM,h8,asAddr,Sem.run_pure,mz,vK,h2]
  ·simp at h
theorem RW {ρ:aZ} {vs:List KV} {cK:List Value} (h:Ey P E ρ vs cK):VC P E ρ (I0 vs) (if h:cK.toArray.size=1 then cK.toArray[0] else .tuple cK.toArray):=by
 obtain ⟨m,h1,h2⟩:=h
 match vs with
 | []=>
  rw [h1.cl] at h2;rw [h2.cl];exact ⟨_,.aeH .nil,VR.mkTuple .nil⟩
 | [v]=>
  obtain ⟨u,rfl,h3⟩:=h1.fk;obtain ⟨y,ys,rfl,h4,h5⟩:=h2.cons_inv;rw [h5.cl];exact ⟨u,h3,h4⟩
 | v::v2::vs=>
  obtain ⟨u,us,rfl,h3,h4⟩:=h1.cons_inv;obtain ⟨u2,us2,rfl,h5,h6⟩:=h4.cons_inv;obtain ⟨y,ys,rfl,h7,h8⟩:=h2.cons_inv;obtain ⟨y2,ys2,rfl,h9,vK⟩:=h8.cons_inv;rw [dif_neg (by simp)];exact ⟨_,.aeH (.cons h3 (.cons h5 h6)),VR.mkTuple (.cons h7 (.cons h9 vK))⟩
def aiR (vs:List Value):Value:=if h:vs.toArray.size=1 then vs.toArray[0] else .tuple vs.toArray
theorem Po {R:Type} {cfg:eQ} {bC:oX R} (gZ:tW P cfg.pc) (xK:Nl P bC) (hm:P.follows .mixedOrders=true) (L:Nat) {f:FuncId} {fn:Func} {c:Code} (hf:P.funcs[f]? = some fn) (hb:fn.body=some c) (cf:codeOk fn.ntmps c=true) (mG:anP P cfg f c)
  {args:List KV} {A:aC} {k:List KV->aC->Option R} {r:R} (h:sP P cfg bC L f c 1 (aj3 P fn k) (pG args 0 .leaf) A=some r) {E:Env} {B:St} {ρ:aZ} {kY:List Value} {base:Nat} {w:World} (hv:Ey P E ρ args kY) (hj:KJ P E A B ρ base w) :
  Calls P f kY.toArray w fun e w'=>∃ vs cK E' A' B' a7,e = .returned (aiR cK)/\Ey P E' a7 vs cK/\Ev P base E A B ρ w E' A' B' a7 w'/\k vs A' = some r:=by
 refine calls_of_wp hf hb ?_;obtain ⟨amC,Rl,HR⟩:=hv;have hlen:kY.length=args.length:=by rw [HR.length,Rl.length]
 have ht:mq P E ρ (pG args 0 .leaf) (max fn.ntmps args.length) { tmps:=kY.toArray++Array.replicate (fn.ntmps - kY.toArray.size) undef,defers:=[] }:=by
  have fC:(kY.toArray++Array.replicate (fn.ntmps - kY.toArray.size) undef).size=max fn.ntmps args.length:=by
   simp [hlen];omega
  refine ⟨fC,fun i=>?_,fun i hi=>?_⟩
  ·rw [Ja]
   simp only [cw,true_and,bd,Nat.sub_zero,Trie.TB];by_cases hi:i < args.length
   ·rw [aR hi]
    obtain ⟨u,hu⟩:∃ u,args[i]? = some u:=⟨_,dz hi⟩
    obtain ⟨m,h1,h2⟩:=Rl.get hu;obtain ⟨u',h3,h4⟩:=HR.get h1;rw [hu];have:(kY.toArray++Array.replicate (fn.ntmps - kY.toArray.size) undef).getD i undef=u':=by
     rw [hM,Array.getElem?_append_left (by simpa [hlen] using hi)];simp [h3]
    rw [this];exact ⟨m,h2,h4⟩
   ·rw [ay hi]
    exact VC.bD
  ·rw [Ja,ay,Trie.TB]
   simp only [cw,true_and,bd];have:=Nat.le_max_right fn.ntmps args.length;omega
 have ab6:codeOk (max fn.ntmps args.length) c=true:=nP (Nat.le_max_left _ _) c cf;refine nU (L:=L) (f:=f) (N:=max fn.ntmps args.length) gZ xK hm mG c 1 .root ab6 _ r _ A E B ρ base _ w _ h ht hj fun e t' E' A' B' a7 a' w' h1 h2 h3 h4=>?_;have fin:∀ vs,Nc P A' t' fn.results.toList=some vs->k vs A' = some r->∀ e:ai,(e = .normal\/e = .ret)->bodyPost P fn (fun e w'=>∃ vs cK E' A' B' a7,e = .returned (aiR cK)/\Ey P E' a7 vs cK/\Ev P base E A B ρ w E' A' B' a7 w'/\k vs A' = some r) e.out a' w':=by
  intro vs hr hk e he;obtain ⟨cK,hvs,nF⟩:=GH (P:=P) h4.kj h2 _ _ hr;have akG:(results fn a'.tmps).run P w' = .ok (if h:cK.toArray.size=1 then cK.toArray[0] else .tuple cK.toArray) w':=by
   rw [abS,Sem.run_bind,Array.mapM_eq_mapM_toList,Sem.run_map,nF];rfl
  have afg:bodyPost P fn (fun e w'=>∃ vs cK E' A' B' a7,e = .returned (aiR cK)/\Ey P E' a7 vs cK/\Ev P base E A B ρ w E' A' B' a7 w'/\k vs A' = some r) .ret a' w':=by
   exact ⟨h3,_,akG,vs,cK,E',A',B',a7,rfl,hvs,h4,hk⟩
  rcases he with rfl | rfl
  ·exact afg
  ·exact afg
 cases e with
 | normal=>
  have h1:Option.rec (motive:=fun _=>Option R) none (fun vs=>k vs A') (Nc P A' t' fn.results.toList)=some r:=h1;cases hr:Nc P A' t' fn.results.toList with
  | none=>rw [hr] at h1; exact absurd h1 (by simp)
  | some vs=>rw [hr] at h1; exact fin vs hr h1 .normal (.inl rfl)
 | ret=>
  have h1:Option.rec (motive:=fun _=>Option R) none (fun vs=>k vs A') (Nc P A' t' fn.results.toList)=some r:=h1;cases hr:Nc P A' t' fn.results.toList with
  | none=>rw [hr] at h1; exact absurd h1 (by simp)
  | some vs=>rw [hr] at h1; exact fin vs hr h1 .ret (.inr rfl)
 | exit id=>exact absurd h1 (by simp [aj3])
 | goto l=>exact absurd h1 (by simp [aj3])
end Go.K
end
section
namespace Go.K
open Go Go.aB
variable {P:Program} {E:Env}
def ahG (P:Program) (ac:FuncId->Option (List KV->aC->wY)):Prop:=∀ g F,ac g=some F->∀ {R:Type} (args:List KV) (A:aC) (k:KV->aC->Option R) (r:R),wY.run k (F args A)=some r->Nk P g/\
 ∀ (E:Env) (B:St) (ρ:aZ) (base:Nat) (w:World) (kY:List Value),Ey P E ρ args kY->KJ P E A B ρ base w->
  Calls P g kY.toArray w fun e w'=>∃ v v' E' A' B' a7,e = .returned v'/\VC P E' a7 v v'/\Ev P base E A B ρ w E' A' B' a7 w'/\k v A' = some r
theorem ahG.none {P:Program} : ahG P fun _=>.none:=fun g F h=>by simp at h
def x7 (P:Program) (cfg:eQ):Prop:=ahG P cfg.x.ac/\∀ f fn c,P.funcs[f]? = some fn->fn.body=some c->anP P cfg f c
theorem RX {R:Type} {cfg:eQ} {bC:oX R} {L:Nat} {f:FuncId} {args:List KV} {A:aC} {k:List KV->aC->Option R} {r:R} (hP:P.funcs.toList.all oP=true) (h:aaq P cfg bC L f args A k=some r) :
  ∃ fn c, P.funcs[f]? = some fn ∧ fn.body = some c ∧ codeOk fn.ntmps c = true ∧ (fn.name == "runtime.NumGoroutine") = false ∧ sP P cfg bC L f c 1 (aj3 P fn k) (pG args 0 .leaf) A = some r := by
 unfold aaq at h;split at h
 ·rename_i fn hf
  split at h
  ·rename_i c hc
   have hf' : P.funcs[f]? = some fn:=by simpa using hf
   have cf:=gx.1 hP fn (hQ hf);unfold oP at cf;rw [hc] at cf;simp only [aD,nw] at cf;exact ⟨fn,c,hf',hc,cf.1,cf.2,h⟩
  ·simp at h
 ·simp at h
theorem wH {R:Type} {cfg:eQ} (hP:P.funcs.toList.all oP=true) (hm:P.follows .mixedOrders=true) (gZ:tW P cfg.pc) (mG:x7 P cfg) (L:Nat):∀ n,Nl (R:=R) P (Kt P cfg L n)
 | 0=>fun f args A k r h=>absurd h (by simp [Kt])
 | n+1=>fun f args A k r h=>by
  have h:Bool.rec (motive:=fun _=>Option R) none (Option.rec (motive:=fun _=>Option R) (aaq P cfg (Kt P cfg L n) L f args A fun vs B=>k (I0 vs) B) (fun F=>wY.run k (F args A)) (cfg.x.ac f)) (Nat.blt f yB)=some r:=h;cases hy:Nat.blt f yB with
  | false=>rw [hy] at h; exact absurd h (by simp)
  | true=>
   rw [hy] at h;cases hac:cfg.x.ac f with
   | some F=>
    rw [hac] at h;exact mG.1 f F hac args A k r h
   | none=>
    rw [hac] at h;have h:aaq P cfg (Kt P cfg L n) L f args A (fun vs B=>k (I0 vs) B)=some r:=h;obtain ⟨fn,c,hf,hc,cf,hnm,h⟩:=RX hP h;refine ⟨⟨hy,fn,hf,by simp [hc],hnm⟩,fun E B ρ base w kY hv hj=>?_⟩;refine (Po gZ (wH hP hm gZ mG L n) hm L hf hc cf (mG.2 f fn c hf hc) h hv hj).mono ?_;rintro e w' ⟨vs,cK,E',A',B',a7,rfl,h1,h2,h3⟩;exact ⟨I0 vs,_,E',A',B',a7,rfl,RW h1,h2,h3⟩
mutual
theorem VK.zK {E0:Env} (hz:E0.z=E.z):∀ {v:KV} {u:Value} {c:CK},VK P E v u->kindOk c v=true->VK P E0 v u
 | .int k n,u,c,h,_=>h
 | .bool b,u,c,h,_=>h
 | .str s,u,c,h,_=>h
 | .ts T m n es acc,u,c,h,hk=>by
  cases c <;> simp [kindOk] at hk;rename_i t;cases m <;> simp at hk;obtain ⟨ht,bx,h1,a,cap,rfl,h2,h3,h4⟩:=h.ny;simp only [VK];refine ⟨ht,bx,bm.zEs hz h1 ht.typed,a,cap,rfl,h2,?_,trivial⟩;refine h3.imp id ?_;rintro ⟨b,off,r,e1,e2,e3⟩;exact ⟨b,off,r,e1,by rw [hz]; exact e2,e3⟩
 | .agg cs,u,c,h,hk=>by cases c <;> simp [kindOk] at hk
 | .iv cs,u,c,h,hk=>by cases c <;> simp [kindOk] at hk
 | .tp T Tc i k es acc,u,c,h,hk=>by cases c <;> simp [kindOk] at hk
 | .al T b o n,u,c,h,hk=>by cases c <;> simp [kindOk] at hk
 | .ap T Tc b i k,u,c,h,hk=>by cases c <;> simp [kindOk] at hk
 | .ptr b off,u,c,h,hk=>by cases c <;> simp [kindOk] at hk
 | .sl b off n cap,u,c,h,hk=>by cases c <;> simp [kindOk] at hk
 | .Hw,u,c,h,hk=>by cases c <;> simp [kindOk] at hk
 | .mn,u,c,h,hk=>by cases c <;> simp [kindOk] at hk
 | .C0,u,c,h,hk=>by cases c <;> simp [kindOk] at hk
 | .map b,u,c,h,hk=>by cases c <;> simp [kindOk] at hk
 | .fn f a b,u,c,h,hk=>by cases c <;> simp [kindOk] at hk
 | .IW,u,c,h,hk=>by cases c <;> simp [kindOk] at hk
 | .iface t x,u,c,h,hk=>by cases c <;> simp [kindOk] at hk
 | .IX,u,c,h,hk=>by cases c <;> simp [kindOk] at hk
 | .bD,u,c,h,hk=>by cases c <;> simp [kindOk] at hk
theorem VK.zE {E0:Env} (hz:E0.z=E.z):∀ {v:KV} {u:Value} {l:yR},VK P E v u->cC l v=true->VK P E0 v u
 | .int k n,u,l,h,_=>h
 | .bool b,u,l,h,_=>h
 | .str s,u,l,h,_=>h
 | .agg cs,u,l,h,hk=>by
  simp only [cC,aD] at hk;obtain ⟨m,rfl,h1⟩:=h.nM;exact .rQ (bm.zKs hz h1 hk.2)
 | .ts T m n es acc,u,l,h,hk=>by
  have yO:∃ c,kindOk c (.ts T m n es acc)=true:=by
   simp only [cC,aD] at hk;cases uw:l.ks with
   | nil=>rw [uw] at hk; simp [aI] at hk
   | cons c cs=>rw [uw] at hk; simp only [aI,aD] at hk; exact ⟨c,hk.2.1⟩
  obtain ⟨c,hk⟩:=yO;cases c <;> simp [kindOk] at hk;rename_i t;cases m <;> simp at hk;obtain ⟨ht,bx,h1,a,cap,rfl,h2,h3,h4⟩:=h.ny;simp only [VK];refine ⟨ht,bx,bm.zEs hz h1 ht.typed,a,cap,rfl,h2,?_,trivial⟩;refine h3.imp id ?_;rintro ⟨b,off,r,e1,e2,e3⟩;exact ⟨b,off,r,e1,by rw [hz]; exact e2,e3⟩
 | .iv cs,u,l,h,hk=>by simp [cC] at hk
 | .tp T Tc i k es acc,u,l,h,hk=>by
  obtain ⟨h1,_⟩:=iI hk;cases uw:l.ks with
  | nil=>rw [uw] at h1; simp [KV.cells,aI] at h1
  | cons c cs=>rw [uw] at h1; cases c <;> simp [KV.cells,aI,kindOk] at h1
 | .al T b o n,u,l,h,hk=>by
  obtain ⟨h1,_⟩:=iI hk;cases uw:l.ks with
  | nil=>rw [uw] at h1; simp [KV.cells,aI] at h1
  | cons c cs=>rw [uw] at h1; cases c <;> simp [KV.cells,aI,kindOk] at h1
 | .ap T Tc b i k,u,l,h,hk=>by
  obtain ⟨h1,_⟩:=iI hk;cases uw:l.ks with
  | nil=>rw [uw] at h1; simp [KV.cells,aI] at h1
  | cons c cs=>rw [uw] at h1; cases c <;> simp [KV.cells,aI,kindOk] at h1
 | .ptr b off,u,l,h,hk=>by
  obtain ⟨h1,_⟩:=iI hk;cases uw:l.ks with
  | nil=>rw [uw] at h1; simp [KV.cells,aI] at h1
  | cons c cs=>rw [uw] at h1; cases c <;> simp [KV.cells,aI,kindOk] at h1
 | .sl b off n cap,u,l,h,hk=>by
  obtain ⟨h1,_⟩:=iI hk;cases uw:l.ks with
  | nil=>rw [uw] at h1; simp [KV.cells,aI] at h1
  | cons c cs=>rw [uw] at h1; cases c <;> simp [KV.cells,aI,kindOk] at h1
 | .Hw,u,l,h,hk=>h
 | .mn,u,l,h,hk=>h
 | .C0,u,l,h,hk=>h
 | .map b,u,l,h,hk=>by
  obtain ⟨h1,_⟩:=iI hk;cases uw:l.ks with
  | nil=>rw [uw] at h1; simp [KV.cells,aI] at h1
  | cons c cs=>rw [uw] at h1; cases c <;> simp [KV.cells,aI,kindOk] at h1
 | .fn f a b,u,l,h,hk=>by
  obtain ⟨h1,_⟩:=iI hk;cases uw:l.ks with
  | nil=>rw [uw] at h1; simp [KV.cells,aI] at h1
  | cons c cs=>rw [uw] at h1; cases c <;> simp [KV.cells,aI,kindOk] at h1
 | .IW,u,l,h,hk=>h
 | .iface t x,u,l,h,hk=>by
  obtain ⟨h1,_⟩:=iI hk;cases uw:l.ks with
  | nil=>rw [uw] at h1; simp [KV.cells,aI] at h1
  | cons c cs=>rw [uw] at h1; cases c <;> simp [KV.cells,aI,kindOk] at h1
 | .IX,u,l,h,hk=>h
 | .bD,u,l,h,hk=>h
theorem bm.zKs {E0:Env} (hz:E0.z=E.z):∀ {vs:List KV} {us:List Value} {ks:List CK},bm P E vs us->aI ks vs=true->bm P E0 vs us
 | [],us,ks,h,_=>by rw [h.cl]; exact .nil
 | v::vs,us,[],h,hk=>by simp [aI] at hk
 | v::vs,us,c::ks,h,hk=>by
  simp only [aI,aD] at hk;simp only [bm] at h ⊢;obtain ⟨y,ys,e,h1,h2⟩:=h;exact ⟨y,ys,e,VK.zK hz h1 hk.1,bm.zKs hz h2 hk.2⟩
theorem bm.zEs {E0:Env} (hz:E0.z=E.z):∀ {vs:List KV} {us:List Value} {l:yR},bm P E vs us->fY l vs=true->bm P E0 vs us
 | [],us,l,h,_=>by rw [h.cl]; exact .nil
 | v::vs,us,l,h,hk=>by
  simp only [fY,aD] at hk;simp only [bm] at h ⊢;obtain ⟨y,ys,e,h1,h2⟩:=h;exact ⟨y,ys,e,VK.zE hz h1 hk.1,bm.zEs hz h2 hk.2⟩
end
theorem VK.apT {E0:Env} (hz:E0.z=E.z) {c:CK} {v:KV} {u:Value} (h:VK P E v u):VK P E0 (K.oH c v) u:=by
 have hn:=h.oH (c:=c);cases hk:kindOk c (K.oH c v) with
 | true=>exact hn.zK hz hk
 | false=>
  have:K.oH c v = .bD:=by
   revert hk
   unfold K.oH;split
   ·intro hk; simp [kindOk] at hk
   ·rename_i t t' m n es acc
    cases hb:Nat.beq t t' with
    | false=>intro _; rfl
    | true=>intro hk; simp [kindOk] at hk
   ·cases hb:kindOk c v with
    | false=>intro _; rfl
    | true=>intro hk; rw [aj,hb] at hk; simp at hk
  rw [this];exact .uC
theorem bm.akH {E0:Env} (hz:E0.z=E.z):∀ {ks:List CK} {cs:List KV} {l:List Value},bm P E cs l->cs.length=ks.length->bm P E0 (K.C2 ks cs) l
 | [],[],l,h,_=>by rw [h.cl]; exact .nil
 | [],_::_,_,_,e=>by simp at e
 | _::_,[],_,_,e=>by simp at e
 | c::ks,v::cs,l,h,e=>by
  obtain ⟨y,ys,rfl,h1,h2⟩:=h.cons_inv;exact .cons (h1.apT hz) (bm.akH hz h2 (by simpa using e))
theorem VK.arv {E0:Env} (hz:E0.z=E.z) {l:yR} {v:KV} {u:Value} (h:VK P E v u):VK P E0 (K.gq l v) u:=by
 unfold K.gq;split
 ·rename_i cs
  obtain ⟨m,rfl,h1⟩:=h.nM;cases hb:(l.agg&&Nat.beq cs.length l.ks.length) with
  | false=>exact .uC
  | true=>
   simp only [aD] at hb;exact .rQ (h1.akH hz (bh hb.2))
 ·cases l.agg with
  | true=>exact .uC
  | false=>
   rw [aq];split
   ·exact h.apT hz
   ·exact .uC
theorem VK.asJ {E0:Env} (hz:E0.z=E.z) {t:TypeId} {v:KV} {u:Value} (h:VK P E v u):VK P E0 (K.Yf P t v) u:=by
 unfold K.Yf;cases hb:cC (bu P t) (K.gq (bu P t) v) with
 | false=>exact .uC
 | true=>exact VK.tN _ hb (h.arv hz)
theorem bm.afh {E0:Env} (hz:E0.z=E.z):∀ {ts:List TypeId} {vs:List KV} {us:List Value},bm P E vs us->vs.length=ts.length->bm P E0 (normArgs P ts vs) us
 | [],[],us,h,_=>by rw [h.cl]; exact .nil
 | [],_::_,_,_,e=>by simp at e
 | _::_,[],_,_,e=>by simp at e
 | t::ts,v::vs,us,h,e=>by
  obtain ⟨y,ys,rfl,h1,h2⟩:=h.cons_inv;exact .cons (h1.asJ hz) (bm.afh hz h2 (by simpa using e))
theorem Jb:∀ (ts:List TypeId) (vs:List KV),yV P ts vs=normArgs P ts vs
 | [],vs=>by cases vs <;> rfl
 | t::ts,[]=>rfl
 | t::ts,v::vs=>by simp [yV,normArgs,Jb ts vs]
def Env.bare (E:Env):Env:={ E with κ:=fun _=>none,φ:=fun _=>none,α:=fun _=>none }
theorem fK.bare {A:aC} {B:St} (h:fK P E A B):fK P E.bare .empty B where
 row b cs bV hb:=by simp [aC.empty,aC.get] at hb
 bc b top sz hb:=by simp [aC.empty,aC.get] at hb
 z:=h.z
 apart b x e:=by simp [Env.bare] at e
 inj b c x e:=by simp [Env.bare] at e
 j6 b c g _ _ _ _ _ _ e:=by simp [Env.bare] at e
 mA b x e:=by simp [Env.bare] at e
 oI b g e:=by simp [Env.bare] at e
 live b o hb:=by simp [aC.empty,aC.get] at hb
 gX b x e:=by simp [Env.bare] at e
 oS:=h.oS
 kG b g e:=by simp [Env.bare] at e
 fresh:=h.fresh
 mem:=h.mem
 ar:=by
  have hn:∀ b v,¬ aC.empty.get b=some (.arr v):=fun b v hb=>by simp [aC.empty,aC.get] at hb
  exact ⟨fun b v hb=>(hn b v hb).elim,fun b v hb=>by simp [aC.empty,aC.get] at hb,fun x ⟨b,v,_,_,hb,_⟩=>(hn b v hb).elim,fun b c v u x L N L' N' hb=>(hn b v hb).elim,fun b c v u x y L N L' N' cs e own g k cd e' rU k' hb=>(hn b v hb).elim,fun b x e=>by simp [Env.bare] at e,fun b p e=>by simp [Env.bare] at e,fun b x L N e=>by simp [Env.bare] at e,fun b v x L N cs e own g k hb=>(hn b v hb).elim,fun b v hb=>(hn b v hb).elim⟩
theorem akI {x:Nat} : ¬ AR .empty E.bare x:=fun ⟨b,v,_,_,hb,_⟩=>by simp [aC.empty,aC.get] at hb
theorem akJ {B:St} {g:Nat} : ¬ AF .empty E.bare B g:=fun ⟨b,v,_,_,_,_,_,_,_,hb,_⟩=>by simp [aC.empty,aC.get] at hb
theorem apU {B:St} {y:Nat} : ¬ AT .empty E.bare B y:=fun q=>q.elim akI fun ⟨_,q,_⟩=>akJ q
theorem Ev.bare {base:Nat} {A A1:aC} {B B1:St} {ρ oq:aZ} {w w1:World} {E1:Env} (h:fK P E A B) (rV:Ev P base E.bare .empty B ρ w E1 A1 B1 oq w1):Ev P base E A B ρ w { E with z:=E1.z } A B1 oq w1:=by
 have hle:E.le { E with z:=E1.z }:=⟨fun _ _ e=>e,fun _ _ e=>e,rV.le.z,fun _ _ e=>e⟩
 have Pp:∀ x,x < B.next->B1.get x=B.get x:=fun x hx=>rV.nD x hx (fun b e=>by simp [Env.bare] at e) apU;have ot:∀ g,g < B.next->B1.members g=B.members g:=fun g hg=>rV.sQ g hg (fun b e=>by simp [Env.bare] at e) akJ;have jz:=rV.fX.next;have Ng:∀ b r,E1.z b=some r->E.z b=some r\/B.next<=b:=fun b r e=>by
  rcases rV.wk b r e with e | e | e
  ·exact .inl e
  ·exact (akI e).elim
  ·exact .inr e
 have tP:∀ y,AR A { E with z:=E1.z } y->AR A E y:=fun y q=>q;have ar8:∀ g,AF A E B g->g < B.next:=fun g ⟨b,v,x,L,N,cs,e,own,k,h1,h2,h3⟩=>(h.ar.vr b v x L N cs e own g k h1 h2 h3).1;have LQ:∀ g,AF A { E with z:=E1.z } B1 g->AF A E B g:=fun g ⟨b,v,x,L,N,cs,e,own,k,h1,h2,h3⟩=>⟨b,v,x,L,N,cs,e,own,k,h1,h2,by rw [<- Pp x (h.ar.gX b x L N h2)]; exact h3⟩
 refine ⟨⟨?_,?_,rV.jK.z,?_,h.inj,h.j6,h.mA,h.oI,h.live,?_,rV.jK.oS,?_,rV.jK.fresh,rV.jK.mem,h.ar.nD hle (fun _=>rfl) (fun _ _ e=>e) (fun _ _ e=>e) (aQ _) jz (fun x q=>Pp x (h.Kw q)) Ng (fun _ _ e=>.inl e) (fun b g e=>.inl ⟨b,e⟩) (fun g q=>ot g (ar8 g q)) h.mem⟩,rV.fX,hle,aQ _,fun x hx _ _=>Pp x hx,fun _ _ e=>.inl e,fun b r e=>(Ng b r e).imp id .inr,fun _ _ e=>.inl ⟨_,e⟩,fun g hg _ _=>ot g hg,fun y q=>.inl (tP y q),fun g q=>.inl (LQ g q),rV.xY,fun y q=>.inl (q.imp (tP y) fun ⟨g,q1,q2⟩=>⟨g,LQ g q1,by rw [<- ot g (ar8 g (LQ g q1))]; exact q2⟩),rV.rows⟩
 ·intro b cs bV hb
  obtain ⟨x,c,h1,h2,h3⟩:=h.row b cs bV hb;exact ⟨x,c,h1,by rw [Pp x (h.gX b x h1)]; exact h2,h3.mono hle⟩
 ·intro b top sz hb
  rcases h.bc b top sz hb with h1 | ⟨g,h1,h2,h3⟩
  ·exact .inl h1
  ·have hg:=h.kG b g h1
   refine .inr ⟨g,h1,h2,fun x hx cs e own f k hr=>?_⟩;rw [ot g hg] at hx;rw [Pp x (h.mem g x hx)] at hr;exact h3 x hx cs e own f k hr
 ·intro b x hb
  have hx:=h.gX b x hb;cases hz:E1.z x with
  | none=>rfl
  | some r=>
   rcases Ng x r hz with e | e
   ·rw [h.apart b x hb] at e; simp at e
   ·omega
 ·intro b x hb; have:=h.gX b x hb; omega
 ·intro b g hb; have:=h.kG b g hb; omega
theorem apV {g:FuncId} {F:List KV->KR KV} (hy:Nat.blt g yB=true) (hP:P.funcs.toList.all oP=true) (hm:P.follows .mixedOrders=true)
  (h:∀ aiS v,aiS.length=(fy P g).length->a9 (F (normArgs P (fy P g) aiS)) v->∃ cfg L n,tW P cfg.pc/\x7 P cfg/\GC P cfg L n g (normArgs P (fy P g) aiS)=some v):bg P g F:=by
 intro args v hF hlen;obtain ⟨cfg,L,n,gZ,mG,nF⟩:=h _ v hlen hF;have xK:=wH (R:=KV) hP hm gZ mG L n;obtain ⟨fn,c,hf,hc,cf,hnm,nF⟩:=RX hP nF;refine ⟨⟨hy,fn,hf,by simp [hc],hnm⟩,fun E A B ρ base w kY hv hj=>?_⟩;obtain ⟨amC,Rl,HR⟩:=hv;have hv0:Ey P E.bare ρ (normArgs P (fy P g) args) kY:=⟨amC,bm.afh (E:=E) (E0:=E.bare) rfl Rl hlen,HR⟩
 refine (Po gZ xK hm L hf hc cf (mG.2 g fn c hf hc) nF hv0 ⟨hj.k.bare,hj.s⟩).mono ?_;rintro e w' ⟨vs,cK,E0,A0,B1,oq,rfl,⟨m,h1,h1'⟩,h2,h3⟩;have h3:Bool.rec (motive:=fun _=>Option KV) none (some (I0 (yV P (uA P g) (zL A0 vs).1))) (Nat.beq vs.length (uA P g).length)=some v:=h3;obtain ⟨E1,hf1,h1⟩:=Kx h2.jK h1;have rV:=Ev.bare hj.k (h2.trans (hf1.ev (.refl h2.fX.jK)));cases hb:Nat.beq vs.length (uA P g).length with
 | false=>rw [hb] at h3; exact absurd h3 (by simp)
 | true=>
  rw [hb] at h3;have h3:some (I0 (yV P (uA P g) (zL A0 vs).1))=some v:=h3;simp only [db] at h3;subst h3;refine ⟨_,_,B1,oq,rfl,RW ⟨m,?_,h1'⟩,rV⟩;rw [Jb];exact bm.afh (E:=E1) (E0:={ E with z:=E1.z }) rfl h1 ((Pd A0 vs).trans (bh hb))
end Go.K
end
section
namespace Go.K
open Go Go.aB
noncomputable section
inductive CD where
 | k (c:CK)
 | lit (v:KV)
 | bc (t:TypeId)
 | arr (t:TypeId)
 | ref (w:KV)
def aaC (bs:List Nat) (v:KV):KV:=
 match v with
 | .ptr j o=>.ptr (bs.getD j 0) o
 | v=>v
def AV (bs:List Nat):List KV->List KV
 | []=>[]
 | v::vs=>aaC bs v::AV bs vs
def inst (bs:List Nat) (v:KV):KV:=
 match v with
 | .ptr j o=>.ptr (bs.getD j 0) o
 | .fn f first cap=>.fn f (AV bs first) (AV bs cap)
 | v=>v
def isP (nr:Nat):KV->Bool
 | .ptr j _=>Nat.blt j nr
 | _=>false
def afi (nr:Nat):List KV->Bool
 | []=>true
 | v::vs=>isP nr v&&afi nr vs
def acf (nr:Nat):KV->Bool
 | .ptr j _=>Nat.blt j nr
 | .fn (.func _) first cap=>afi nr first&&afi nr cap
 | _=>false
def eqP:KV->KV->Bool
 | .ptr a o,.ptr b q=>Nat.beq a b&&Nat.beq o q
 | _,_=>false
def afj:List KV->List KV->Bool
 | [],[]=>true
 | v::vs,u::us=>eqP v u&&afj vs us
 | _,_=>false
def RY:KV->KV->Bool
 | .ptr a o,.ptr b q=>Nat.beq a b&&Nat.beq o q
 | .fn (.func f) a b,.fn (.func g) c d=>Nat.beq f g&&afj a c&&afj b d
 | _,_=>false
def x8:KV->KV->Bool
 | .fn (.func f) [] [],.fn (.func g) [] []=>Nat.beq f g
 | .Hw,.Hw=>true
 | .mn,.mn=>true
 | .C0,.C0=>true
 | .IW,.IW=>true
 | .IX,.IX=>true
 | _,_=>false
def RZ (A:aC) (t:TypeId) (v:KV):KV:=
 match v with
 | .mn=>.ts t .any 0 [] nQ
 | .al t' b o _=>match A.get b with
  | some (.arr (.ts t2 _ N es acc))=>cond (Nat.beq t t'&&Nat.beq t t2&&Nat.beq o 0) (.ts t .any N es acc) .bD
  | _=>.bD
 | _=>.bD
def fL (P:Program) (A:aC) (d:CD) (v:KV):KV:=
 match d with
 | .k c=>cond (kindOk c (oH c v)) (eh P gR (leaf c (oH c v))) .bD
 | .lit w=>cond (x8 w v) w .bD
 | .bc t=>match v with
  | .mn=>eh P gR (.ts t .any 0 [] nQ)
  | .ts t' (.bc _) n es acc=>cond (Nat.beq t t') (eh P gR (.ts t .any n es acc)) .bD
  | _=>.bD
 | .arr t=>eh P gR (RZ A t v)
 | .ref w=>w
def fM (P:Program) (A:aC):List CD->List KV->List KV
 | d::ds,v::vs=>fL P A d v::fM P A ds vs
 | _,_=>[]
def j8 (d:CD) (v:KV):Bool:=
 match d with
 | .k c=>kindOk c v
 | .lit w=>x8 w v
 | .bc t=>kindOk (.slice t) v
 | .arr t=>kindOk (.slice t) v
 | .ref w=>RY w v
def dX:List CD->List KV->Bool
 | [],[]=>true
 | d::ds,v::vs=>j8 d v&&dX ds vs
 | _,_=>false
structure VD where
 agg:Bool
 ks:List CD
def xm (P:Program) (A:aC) (d:VD) (v:KV):KV:=
 match v with
 | .agg cs=>cond (d.agg&&Nat.beq cs.length d.ks.length) (.agg (fM P A d.ks cs)) .bD
 | v=>cond d.agg .bD (match d.ks with
  | [c]=>fL P A c v
  | _=>.bD)
def yY (d:VD) (v:KV):Bool:=
 match v with
 | .agg cs=>d.agg&&dX d.ks cs
 | v=>!d.agg&&dX d.ks [v]
structure aL where
 eR:List (Tmp×VD)
 rows:List (Tmp×List CD×Nat)
 acg:List (Tmp×Nat×Nat)
def valOf (t:bF) (i:Tmp):KV:=(t.get i).getD .bD
def rW (P:Program) (t:bF) (A:aC):List (Tmp×VD)->List KV
 | []=>[]
 | p::ps=>xm P A p.2 (valOf t p.1)::rW P t A ps
def iw:List (Tmp×VD)->List KV->Bool
 | [],[]=>true
 | p::ps,v::vs=>yY p.2 v&&iw ps vs
 | _,_=>false
def ar9:Option KV->Option Nat
 | some (.ptr b _)=>some b
 | _=>none
def atF (t:bF) (i:Nat):Option Nat:=
 cond (Nat.blt i 100000) (ar9 (t.get i)) (match t.get (i % 100000) with
  | some (.fn _ first cap)=>ar9 (aht (i / 100000 - 1) (first++cap))
  | _=>none)
def rowOf (t:bF) (A:aC) (p:Tmp×List CD×Nat):Option (Nat×List KV):=
 match atF t p.1 with
 | some b=>match A.get b with
  | some (.row cs e)=>cond (Nat.beq e p.2.2&&Nat.beq cs.length p.2.1.length) (some (b,cs)) none
  | _=>none
 | _=>none
def anQ (t:bF) (A:aC) (p:Tmp×List CD×Nat):Nat:=((rowOf t A p).getD (0,[])).1
def KA (t:bF) (A:aC) (p:Tmp×List CD×Nat):List KV:=((rowOf t A p).getD (0,[])).2
def BC (t:bF) (A:aC):List (Tmp×List CD×Nat)->List Nat
 | []=>[]
 | p::ps=>anQ t A p::BC t A ps
def LS (P:Program) (t:bF) (A:aC):List (Tmp×List CD×Nat)->List (List KV)
 | []=>[]
 | p::ps=>fM P A p.2.1 (KA t A p)::LS P t A ps
def AW (P:Program) (t:bF) (A:aC):List (Tmp×List CD×Nat)->Bool
 | []=>true
 | p::ps=>(rowOf t A p).isSome&&(dX p.2.1 (fM P A p.2.1 (KA t A p))&&AW P t A ps)
def apW (v:Option KV) (b:Option Nat) (off:Nat):Bool:=
 match v,b with
 | some (.ptr b o),some b'=>Nat.beq o off&&Nat.beq b b'
 | _,_=>false
def TQ (t:bF) (bs:List Nat):List (Tmp×Nat×Nat)->Bool
 | []=>true
 | p::ps=>apW (t.get p.1) bs[p.2.1]? p.2.2&&TQ t bs ps
def yZ:List Nat->Bool
 | []=>true
 | b::bs=>bs.all (fun c=>!Nat.beq b c)&&yZ bs
structure FI where
 ok:Bool
 f:Option Nat
 fm:Bool
def szL (P:Program) (t:TypeId):Nat:=(bu P t).ks.length
def vM (P:Program) (A:aC) (t:TypeId) (v:KV):FI:=
 match v with
 | .mn=>⟨true,none,true⟩
 | .ts _ (.bc f) n _ _=>match A.get f with
  | some (.bc top sz)=>⟨cond (Nat.beq sz (szL P t)) (dk top n) false,some f,true⟩
  | _=>⟨false,none,true⟩
 | _=>⟨false,none,true⟩
def LU (P:Program) (A:aC) (t:TypeId) (v:KV):FI:=
 match v with
 | .mn=>⟨Nat.ble 1 (szL P t),none,false⟩
 | .al _ b _ n=>match A.get b with
  | some (.arr (.ts _ _ N _ _))=>⟨dk N n,some b,false⟩
  | _=>⟨false,none,false⟩
 | _=>⟨false,none,false⟩
def BD:Option jP->Bool
 | some (.bc _ _)=>true
 | _=>false
theorem ahH (P:Program) (A:aC) (t:TypeId) (v:KV):(vM P A t v).fm=true:=by
 unfold vM;split
 ·rfl
 ·split <;> rfl
 ·rfl
theorem aoD (P:Program) (A:aC) (t:TypeId) (v:KV):(LU P A t v).fm=false:=by
 unfold LU;split
 ·rfl
 ·split <;> rfl
 ·rfl
theorem aoE {P:Program} {A:aC} {t:TypeId} {v:KV} {x:Nat} (h:(vM P A t v).f=some x):BD (A.get x)=true:=by
 unfold vM at h;split at h
 ·simp at h
 ·split at h
  ·rename_i e; simp at h; subst h; rw [e]; rfl
  ·simp at h
 ·simp at h
def mS (P:Program) (A:aC):List CD->List KV->List FI
 | .bc t::ds,v::vs=>vM P A t v::mS P A ds vs
 | .arr t::ds,v::vs=>LU P A t v::mS P A ds vs
 | _::ds,_::vs=>mS P A ds vs
 | _,_=>[]
def GI (P:Program) (t:bF) (A:aC):List (Tmp×VD)->List FI
 | []=>[]
 | p::ps=>mS P A p.2.ks (valOf t p.1).cells++GI P t A ps
def Jc (P:Program) (t:bF) (A:aC):List (Tmp×List CD×Nat)->List FI
 | []=>[]
 | p::ps=>mS P A p.2.1 (KA t A p)++Jc P t A ps
def aaD:List FI->Bool
 | []=>true
 | x::xs=>cond (aaD xs) x.ok false
def Pq:List FI->List (Option Nat)
 | []=>[]
 | x::xs=>x.f::Pq xs
def kl:List (Option Nat)->List Nat
 | []=>[]
 | some f::xs=>f::kl xs
 | none::xs=>kl xs
def GJ (nr:Nat) (bs:List Nat):List CD->List KV->Bool
 | .ref w::ds,v::vs=>acf nr w&&(RY (inst bs w) v&&GJ nr bs ds vs)
 | _::ds,_::vs=>GJ nr bs ds vs
 | _,_=>true
def R7 (nr:Nat) (bs:List Nat) (t:bF):List (Tmp×VD)->Bool
 | []=>true
 | p::ps=>GJ nr bs p.2.ks (valOf t p.1).cells&&R7 nr bs t ps
def aaE (nr:Nat) (bs:List Nat) (t:bF) (A:aC):List (Tmp×List CD×Nat)->Bool
 | []=>true
 | p::ps=>GJ nr bs p.2.1 (KA t A p)&&aaE nr bs t A ps
structure GR where
 ok:Bool
 bs:List Nat
 fs:List (Option Nat)
 vs:List KV
 rs:List (List KV)
def aL.Uq (S:aL) (P:Program) (t:bF) (A:aC):List FI:=GI P t A S.eR++Jc P t A S.rows
def aL.fU (S:aL) (P:Program) (t:bF) (A:aC):GR:=
 ⟨cond (AW P t A S.rows&&yZ (BC t A S.rows)&&TQ t (BC t A S.rows) S.acg&&iw S.eR (rW P t A S.eR)&&yZ (kl (Pq (S.Uq P t A)))&&R7 S.rows.length (BC t A S.rows) t S.eR&&aaE S.rows.length (BC t A S.rows) t A S.rows) (aaD (S.Uq P t A)) false,
  BC t A S.rows,Pq (S.Uq P t A),rW P t A S.eR,LS P t A S.rows⟩
def Pr (j:Nat) (v:KV):KV:=
 match v with
 | .ts t _ n es acc=>.ts t (.bc j) n es acc
 | v=>v
def TR (j:Nat) (v:KV):KV:=
 match v with
 | .ts t _ n _ _=>.al t j 0 n
 | v=>v
def tr:List CD->Nat
 | []=>0
 | .bc _::ds=>Nat.succ (tr ds)
 | .arr _::ds=>Nat.succ (tr ds)
 | _::ds=>tr ds
def sR (j:Nat) (bs:List Nat):List CD->List KV->List KV
 | .bc _::ds,v::vs=>Pr j v::sR (Nat.succ j) bs ds vs
 | .arr _::ds,v::vs=>TR j v::sR (Nat.succ j) bs ds vs
 | .ref w::ds,_::vs=>inst bs w::sR j bs ds vs
 | _::ds,v::vs=>v::sR j bs ds vs
 | _,_=>[]
def ach (j:Nat) (bs:List Nat) (d:VD) (v:KV):KV:=
 match v with
 | .agg cs=>.agg (sR j bs d.ks cs)
 | v=>match d.ks with
  | [.bc _]=>Pr j v
  | [.arr _]=>TR j v
  | [.ref w]=>inst bs w
  | _=>v
def aci (j:Nat) (bs:List Nat):List (Tmp×VD)->List KV->List (Nat×KV)
 | p::ps,v::vs=>(p.1,ach j bs p.2 v)::aci (j+tr p.2.ks) bs ps vs
 | _,_=>[]
def oZ:List (Tmp×VD)->Nat
 | []=>0
 | p::ps=>tr p.2.ks+oZ ps
def acj (j:Nat) (bs:List Nat):List (Tmp×List CD×Nat)->List (List KV)->List (List KV)
 | p::ps,r::rs=>sR j bs p.2.1 r::acj (j+tr p.2.1) bs ps rs
 | _,_=>[]
def qV (P:Program):List CD->List KV->List jP
 | .bc t::ds,v::vs=>.bc (lenOf v) (szL P t)::qV P ds vs
 | .arr _::ds,v::vs=>.arr v::qV P ds vs
 | _::ds,_::vs=>qV P ds vs
 | _,_=>[]
def zP (P:Program):List (Tmp×VD)->List KV->List jP
 | p::ps,v::vs=>qV P p.2.ks v.cells++zP P ps vs
 | _,_=>[]
def BF (P:Program):List (Tmp×List CD×Nat)->List (List KV)->List jP
 | p::ps,r::rs=>qV P p.2.1 r++BF P ps rs
 | _,_=>[]
def aL.lens (S:aL) (P:Program) (vs:List KV) (rs:List (List KV)):List jP:=zP P S.eR vs++BF P S.rows rs
def Cq (bs:List Nat):List (Tmp×Nat×Nat)->List (Nat×KV)
 | []=>[]
 | p::ps=>(p.1,.ptr (bs.getD p.2.1 0) p.2.2)::Cq bs ps
def aL.tm (S:aL) (fb:Nat) (bs:List Nat) (vs:List KV):bF:=mX (aci fb bs S.eR vs++Cq bs S.acg)
def aL.Jd (S:aL) (fb:Nat) (bs:List Nat) (rs:List (List KV)):List (List KV):=acj (fb+oZ S.eR) bs S.rows rs
def uG (A:aC):List jP->aC
 | []=>A
 | p::ps=>uG (A.new p) ps
def BG (A:aC):List (Option Nat)->aC
 | []=>A
 | some f::fs=>BG (A.put f .dead) fs
 | none::fs=>BG A fs
def pX (A:aC):List Nat->List (Tmp×List CD×Nat)->List (List KV)->aC
 | b::bs,p::ps,r::rs=>pX (A.put b (.row r p.2.2)) bs ps rs
 | _,_,_=>A
def aL.back (S:aL) (P:Program) (bs:List Nat) (fs:List (Option Nat)) (vs:List KV) (rs:List (List KV)) (A:aC):aC:=
 uG (BG (pX A bs S.rows (S.Jd A.next bs rs)) fs) (S.lens P vs rs)
def tt (A:aC):List (Tmp×List CD×Nat)->List (List KV)->aC
 | p::ps,r::rs=>tt (A.new (.row r p.2.2)) ps rs
 | _,_=>A
def aL.nr (S:aL):Nat:=S.rows.length
def upto:Nat->List Nat->List Nat
 | 0,l=>l
 | n+1,l=>upto n (n::l)
def aL.ids (S:aL):List Nat:=upto S.rows.length []
def aL.mem (S:aL) (P:Program) (vs:List KV) (rs:List (List KV)):aC:=uG (tt .empty S.rows (S.Jd S.nr S.ids rs)) (S.lens P vs rs)
def x9:List Nat->List Nat->Bool
 | [],[]=>true
 | a::atZ,b::bs=>Nat.beq a b&&x9 atZ bs
 | _,_=>false
def AX (P:Program) (cfg:eQ) (L n:Nat) (f:FuncId) (p:Nat) (body:Code) (S:aL) (vs:List KV) (rs:List (List KV)):Option (ai×List KV×List (List KV)):=
 sP P cfg (Kt P cfg L n) L f body (2 * p) (fun e t A=>
  Bool.rec (motive:=fun _=>Option (ai×List KV×List (List KV))) none (some (e,(S.fU P t A).vs,(S.fU P t A).rs)) (cond (x9 (S.fU P t A).bs S.ids) (S.fU P t A).ok false)) (S.tm S.nr S.ids vs) (S.mem P vs rs)
def wI:ai->Bool
 | .normal=>true
 | _=>false
def w4 (rd:List KV->List (List KV)->Option (ai×List KV×List (List KV))):Nat->List KV->List (List KV)->Option (ai×List KV×List (List KV))
 | 0,_,_=>none
 | n+1,vs,rs=>match rd vs rs with
  | some (e,cK,nb)=>cond (wI e) (w4 rd n cK nb) (some (e,cK,nb))
  | none=>none
inductive uH where
 | no
 | out (e:ai) (vs:List KV) (rs:List (List KV))
 | br (c:Bool) (x y:uH)
def uH.ev:uH->Option (ai×List KV×List (List KV))
 | .no=>none
 | .out e vs rs=>some (e,vs,rs)
 | .br c x y=>cond c x.ev y.ev
def uH.tell (P:Program) (S:aL) (bs:List Nat) (fs:List (Option Nat)) (A:aC):uH->Ks
 | .no=>.no
 | .out e vs rs=>.out e (S.tm A.next bs vs) (S.back P bs fs vs rs A)
 | .br c x y=>.br c (x.tell P S bs fs A) (y.tell P S bs fs A)
abbrev LFn:=List KV->List (List KV)->uH
def asa (P:Program) (S:aL) (F:LFn):bF->aC->Ks:=fun t A=>
 .br (S.fU P t A).ok ((F (S.fU P t A).vs (S.fU P t A).rs).tell P S (S.fU P t A).bs (S.fU P t A).fs A) .no
end
end Go.K
end
