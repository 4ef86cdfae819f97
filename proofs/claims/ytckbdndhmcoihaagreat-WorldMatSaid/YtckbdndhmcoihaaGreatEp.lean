/- Part of the proof of WorldMat: the machine, shown to be the model's, and plain models. No conditions. -/
import Derived.Test.YtckbdndhmcoihaaGreatDp
import Derived.LoopN
set_option linter.unusedSimpArgs false
set_option linter.unusedVariables false
section
namespace Go.K
open Go Go.aB
variable {P:Program} {E:Env}
theorem XZ {cfg:fE} {all:List Oper} {b:List Nat} {i:Nat} {y:Oper} : ∀ (xs:List Oper) (k:Nat),SG P cfg all b i y xs k=true->∀ (j:Nat) (x:Oper),xs[j]? = some x->k+j < i->K9 P cfg all x y=true->rV b i (k+j)=true\/(vU P cfg all x y=false/\(ace all (k+j) x i y).isSome=true)
 | [],k,_,j,x,hx,_,_=>by simp at hx
 | x0::xs,k,h,0,x,hx,bG,hc=>by
  simp at hx;subst hx;simp only [SG,aA,uB,mw] at h;rcases h.1 with ((h1 | h1) | h1) | h1
  ·have:=fR h1; omega
  ·rw [hc] at h1; simp at h1
  ·exact .inl h1
  ·exact .inr h1
 | x0::xs,k,h,j+1,x,hx,bG,hc=>by
  simp only [SG,aA] at h;have:=XZ xs (k+1) h.2 j x (by simpa using hx) (by omega) hc;rwa [show k+1+j=k+(j+1) by omega] at this
theorem QO {cfg:fE} {all:List Oper} {b:List Nat} : ∀ (os:List Oper) (k:Nat),Mg P cfg all b os k=true->∀ (i:Nat) (o:Oper),os[i]? = some o->SG P cfg all b (k+i) o all 0=true
 | [],k,_,i,o,ho=>by simp at ho
 | o0::os,k,h,0,o,ho=>by
  simp at ho;subst ho;simp only [Mg,aA] at h;exact h.1
 | o0::os,k,h,i+1,o,ho=>by
  simp only [Mg,aA] at h;have:=QO os (k+1) h.2 i o (by simpa using ho);rwa [show k+1+i=k+(i+1) by omega] at this
theorem X0 {cfg:fE} {all:List Oper} {b:List Nat} {i:Nat} {y:Oper} {p:Option Operand×Operand} : ∀ (xs:List Oper) (k j:Nat) (x:Oper),xs[j]? = some x->k+j < i->K9 P cfg all x y=true->rV b i (k+j)=false->ace all (k+j) x i y=some p->p∈FM P cfg all b i y xs k
 | [],k,j,x,hx,_,_,_,_=>by simp at hx
 | x0::xs,k,0,x,hx,bG,hm,hb,he=>by
  simp at hx;subst hx;have h1:(Nat.ble i k||!K9 P cfg all x0 y||rV b i k)=false:=by
   rw [hm,show rV b i k=false from hb];cases h:Nat.ble i k with
   | false=>rfl
   | true=>have:=fR h; omega
  simp only [FM];rw [h1,ba,show ace all k x0 i y=some p from he];exact List.mem_cons_self
 | x0::xs,k,j+1,x,hx,bG,hm,hb,he=>by
  have e:k+(j+1)=k+1+j:=by omega
  have:=X0 (b:=b) (p:=p) xs (k+1) j x (by simpa using hx) (show k+1+j < i by omega) hm (by rw [<- e]; exact hb) (by rw [<- e]; exact he);simp only [FM];cases (Nat.ble i k||!K9 P cfg all x0 y||rV b i k) with
  | true=>exact this
  | false=>
   rw [ba];split
   ·exact yW _ this
   ·exact this
theorem T8 {cfg:fE} {all:List Oper} {b:List Nat} {p:Option Operand×Operand} : ∀ (os:List Oper) (k i:Nat) (y:Oper),os[i]? = some y->p∈FM P cfg all b (k+i) y all 0->p∈aaB P cfg all b os k
 | [],k,i,y,hy,_=>by simp at hy
 | o::os,k,0,y,hy,h=>by
  simp at hy;subst hy;exact List.mem_append_left _ h
 | o::os,k,i+1,y,hy,h=>by
  refine List.mem_append_right _ (T8 os (k+1) i y (by simpa using hy) ?_);rwa [show k+1+i=k+(i+1) by omega]
structure T9 (P:Program) (cfg:fE) (all:List Oper):Prop where
 reg:tA P all
 kind:∀ o∈all,dE (cm P cfg o.op)<=3
 ord:∀ i j x y,all[i]? = some y->all[j]? = some x->j < i->K9 P cfg all x y=true->rV (fF [] all) i j=true\/(vU P cfg all x y=false/\∃ p,ace all j x i y=some p/\p∈Lb P cfg all)
 plain:∀ p,p∈Lb P cfg all->VF P cfg all=true
theorem anB {cfg:fE} {all:List Oper} (h:ana P cfg all=true):T9 P cfg all:=by
 unfold ana at h;simp only [aA] at h;refine ⟨Gq h.1.1.1,fun o ho=>fR (ig.1 h.1.1.2 o ho),fun i j x y hy hx bG hm=>?_,fun p hp=>?_⟩
 ·have:=QO all 0 h.1.2 i y hy
  rw [bM] at this;have:=XZ all 0 this j x hx (by omega) hm;rw [bM] at this;cases hb:rV (fF [] all) i j with
  | true=>exact .inl rfl
  | false=>
   rcases this with h1 | ⟨h1,h2⟩
   ·rw [hb] at h1; simp at h1
   ·obtain ⟨p,hp⟩:=Option.isSome_iff_exists.1 h2
    refine .inr ⟨h1,p,hp,T8 all 0 i y hy ?_⟩;rw [bM];exact X0 all 0 j x hx (by omega) hm (by rw [bM]; exact hb) (by rw [bM]; exact hp)
 ·have h2:=h.2
  simp only [uB] at h2;rcases h2 with h2 | h2
  ·rw [List.isEmpty_iff] at h2
   rw [h2] at hp;simp at hp
  ·exact h2
structure agd (P:Program) (cfg:fE) (all:List Oper):Prop where
 reg:tA P all
 Gk:∀ {i j:Nat} {x y:Oper},all[i]? = some y->all[j]? = some x->j < i->vU P cfg all x y=true->rV (fF [] all) i j=true
theorem T9.toT {cfg:fE} {all:List Oper} (hf:T9 P cfg all):agd P cfg all:=⟨hf.reg,fun {i j x y} hy hx bG hc=>by
 rcases hf.ord i j x y hy hx bG (by unfold K9; rw [hc]; rfl) with h | ⟨h,_⟩
 ·exact h
 ·rw [hc] at h; simp at h⟩
def X1 (P:Program) (cfg:fE) (all:List Oper) (i:Nat):Prop:=∀ j q,all[j]? = some q->Nat.ble 3 (dE (cm P cfg q.op))=true->(j < i->rV (fF [] all) i j=true)/\(i < j->rV (fF [] all) j i=true)
theorem C4 {x y:Oper} {p:Option Operand×Operand} (h:NR x y=some p):(∃ T,y.op = .load T p.2)/\((p.1=none/\SF x.op=true)\/∃ T a v,p.1=some a/\x.op = .store T a v):=by
 unfold NR at h;split at h
 ·rename_i a ha
  have hl:∃ T,y.op = .load T a:=by
   unfold aqQ at ha;split at ha
   ·rename_i T a' e; simp at ha; subst ha; exact ⟨T,e⟩
   ·simp at ha
  cases hs:SF x.op with
  | true=>
   rw [hs,ak] at h;simp at h;subst h;exact ⟨hl,.inl ⟨rfl,rfl⟩⟩
  | false=>
   rw [hs,ba] at h;split at h
   ·rename_i a2 ha2
    simp at h;subst h;refine ⟨hl,.inr ?_⟩;unfold XK at ha2;split at ha2
    ·rename_i T a3 v e; simp at ha2; subst ha2; exact ⟨T,_,v,rfl,e⟩
    ·simp at ha2
   ·simp at h
 ·simp at h
theorem age {all:List Oper} {i j:Nat} {x y:Oper} {p:Option Operand×Operand} (h:ace all j x i y=some p) :
  (NR x y=some p/\yA i p.2 all 0=true/\NQ j p.1 all=true)\/(NR y x=some p/\yA j p.2 all 0=true/\NQ i p.1 all=true):=by
 unfold ace at h;split at h
 ·rename_i q hq
  cases hb:(yA i q.2 all 0&&NQ j q.1 all) with
  | false=>rw [hb] at h; simp at h
  | true=>
   rw [hb,ak] at h;simp at h;subst h;simp only [aA] at hb;exact .inl ⟨hq,hb.1,hb.2⟩
 ·split at h
  ·rename_i q hq
   cases hb:(yA j q.2 all 0&&NQ i q.1 all) with
   | false=>rw [hb] at h; simp at h
   | true=>
    rw [hb,ak] at h;simp at h;subst h;simp only [aA] at hb;exact .inr ⟨hq,hb.1,hb.2⟩
  ·simp at h
theorem Iz {cfg:fE} {o:Oper} {T:TypeId} {a:Operand} (h:o.op = .load T a):dE (cm P cfg o.op)=1:=by rw [h]; rfl
theorem unordered {cfg:fE} {all:List Oper} (hf:T9 P cfg all) {i j:Nat} {o q:Oper} (ho:all[i]? = some o) (hq:all[j]? = some q) (hk:dE (cm P cfg o.op)≠0) (h3:Nat.ble 3 (dE (cm P cfg q.op))=true) :
  ((j < i->rV (fF [] all) i j=true)/\(i < j->rV (fF [] all) j i=true))\/∃ p,p∈Lb P cfg all/\NR q o=some p/\yA i p.2 all 0=true/\NQ j p.1 all=true:=by
 have yo:Nat.beq (dE (cm P cfg o.op)) 0=false:=by
  cases hb:Nat.beq (dE (cm P cfg o.op)) 0 with
  | false=>rfl
  | true=>exact absurd (bu hb) hk
 have hnl:∀ T a,q.op≠.load T a:=fun T a e=>by rw [Iz e] at h3; simp at h3
 rcases Nat.lt_trichotomy j i with h | h | h
 ·rcases hf.ord i j q o ho hq h (by unfold K9; rw [h3,yo]; simp) with h1 | ⟨_,p,h1,h2⟩
  ·exact .inl ⟨fun _=>h1,fun h'=>by omega⟩
  ·rcases age h1 with ⟨e1,e2,e3⟩ | ⟨e1,e2,e3⟩
   ·exact .inr ⟨p,h2,e1,e2,e3⟩
   ·obtain ⟨⟨T,e⟩,_⟩:=C4 e1
    exact absurd e (hnl _ _)
 ·exact .inl ⟨fun h'=>by omega,fun h'=>by omega⟩
 ·rcases hf.ord j i o q hq ho h (by unfold K9; rw [h3,yo]; simp) with h1 | ⟨_,p,h1,h2⟩
  ·exact .inl ⟨fun h'=>by omega,fun _=>h1⟩
  ·rcases age h1 with ⟨e1,e2,e3⟩ | ⟨e1,e2,e3⟩
   ·obtain ⟨⟨T,e⟩,_⟩:=C4 e1
    exact absurd e (hnl _ _)
   ·exact .inr ⟨p,h2,e1,e2,e3⟩
theorem QP {cfg:fE} {all:List Oper} (hf:T9 P cfg all) {i:Nat} {o:Oper} (ho:all[i]? = some o) (hk:dE (cm P cfg o.op)≠0) (hn:∀ T a,o.op≠.load T a):X1 P cfg all i:=fun j q hq h3=>by
 rcases unordered hf ho hq hk h3 with h | ⟨p,_,h,_⟩
 ·exact h
 ·obtain ⟨⟨T,e⟩,_⟩:=C4 h
  exact absurd e (hn _ _)
theorem Es {cfg:fE} {o:Oper} (h:dE (cm P cfg o.op)<=3):∀ f args,cm P cfg o.op≠.call f args:=by
 intro f args e;rw [e] at h;simp [dE] at h
theorem C5 {d:Tmp} {l:List Tmp} (h:d∈l):Qk (some d) l=true:=by
 simp only [Qk,List.any_eq_true];exact ⟨d,h,by simp⟩
theorem l8 {x:Tmp} : ∀ {xs:List Operand},Operand.tmp x∈xs->x∈tw xs
 | [],h=>by simp at h
 | y::ys,h=>by
  rcases fA.1 h with h | h
  ·subst h; simp [tw]
  ·have:=l8 h
   cases y <;> simp [tw,this]
section
variable {cfg:fE} {all:List Oper} {L:List Out} {t0:bO} {A0:aw}
theorem agf (hf:agd P cfg all) {S:Nat->Bool} (hc:r7 all S) {i:Nat} {o:Oper} (ho:all[i]? = some o) (rM:S i=false) (yx:xg all S i) {y:Tmp} (hy:y∈pb P cfg all o) :
  (kb S all L 0 t0).get y=(kb (fun j=>Nat.blt j i) all L 0 t0).get y:=by
 refine ns rfl fun j q hq hd=>?_;rw [bM];rcases Nat.lt_trichotomy j i with h | h | h
 ·have:rV (fF [] all) i j=true:=hf.Gk ho hq h (by
   unfold vU;rw [hd,C5 hy];rfl)
  rw [hc.ready hf.reg ho yx j this]
  symm; rw [cq]; exact h
 ·subst h
  rw [rM]
  symm
  cases hb:Nat.blt j j with
  | false=>rfl
  | true=>rw [cq] at hb; omega
 ·have hb:rV (fF [] all) j i=true:=hf.Gk hq ho h (by
   unfold vU;rw [hd,C5 hy];simp)
  have:S j=false:=by
   cases hs:S j with
   | false=>rfl
   | true=>have:=hc j i hs hb; rw [rM] at this; simp at this
  rw [this]
  symm
  cases hbb:Nat.blt j i with
  | false=>rfl
  | true=>rw [cq] at hbb; omega
theorem X2 (hf:T9 P cfg all) {S:Nat->Bool} (hc:r7 all S) {i:Nat} {o:Oper} (ho:all[i]? = some o) (rM:S i=false) (yx:xg all S i) (gQ:X1 P cfg all i) :
  ph P cfg S all L 0 A0=ph P cfg (fun j=>Nat.blt j i) all L 0 A0:=by
 refine J1 fun j q x hq hx ht=>?_;rw [bM];have h3:Nat.ble 3 (dE (cm P cfg q.op))=true:=by unfold turns at ht; simp only [aA] at ht; exact ht.2
 rcases Nat.lt_trichotomy j i with h | h | h
 ·have:rV (fF [] all) i j=true:=(gQ j q hq h3).1 h
  rw [hc.ready hf.reg ho yx j this]
  symm; rw [cq]; exact h
 ·subst h
  rw [rM]
  symm
  cases hb:Nat.blt j j with
  | false=>rfl
  | true=>rw [cq] at hb; omega
 ·have hb:rV (fF [] all) j i=true:=(gQ j q hq h3).2 h
  have:S j=false:=by
   cases hs:S j with
   | false=>rfl
   | true=>have:=hc j i hs hb; rw [rM] at this; simp at this
  rw [this]
  symm
  cases hbb:Nat.blt j i with
  | false=>rfl
  | true=>rw [cq] at hbb; omega
theorem Mu (hf:agd P cfg all) {S:Nat->Bool} (hc:r7 all S) {i:Nat} {o:Oper} {x:Out} (ho:all[i]? = some o) (hx:L[i]? = some x) (rM:S i=false) (y:Tmp) :
  (kb (cY S i) all L 0 t0).get y=(rW (kb S all L 0 t0) o.dst x.2.1).get y:=by
 rw [u5];by_cases hd:o.dst=some y
 ·rw [aY hd]
  have:=agc (S:=S) (y:=y) (os:=all) (L:=L) (k:=0) (i:=i) (t:=t0) ho hx hd (fun j q hq hqd bG=>by
   rw [bM];have hb:rV (fF [] all) j i=true:=hf.Gk hq ho bG (by
    unfold vU;rw [hqd,hd];simp [Xq])
   cases hs:S j with
   | false=>rfl
   | true=>have:=hc j i hs hb; rw [rM] at this; simp at this)
  rw [bM] at this;exact this
 ·rw [av hd]
  refine ns rfl fun j q hq hqd=>?_;rw [bM];have de:j≠i:=by
   intro e;subst e;rw [ho] at hq;simp at hq;subst hq;exact hd hqd
  unfold cY;have:Nat.beq j i=false:=by
   cases hb:Nat.beq j i with
   | false=>rfl
   | true=>exact absurd (bu hb) de
  rw [this,Bool.or_false]
theorem Bo {S:Nat->Bool} {i:Nat} {o:Oper} {x:Out} (ho:all[i]? = some o) (hx:L[i]? = some x) (ht:turns P cfg o x=false):ph P cfg (cY S i) all L 0 A0=ph P cfg S all L 0 A0:=by
 refine J1 fun j q y hq hy hty=>?_;rw [bM];have de:j≠i:=by
  intro e;subst e;rw [ho] at hq; rw [hx] at hy;simp at hq hy;subst hq hy;rw [ht] at hty; simp at hty
 unfold cY;have:Nat.beq j i=false:=by
  cases hb:Nat.beq j i with
  | false=>rfl
  | true=>exact absurd (bu hb) de
 rw [this,Bool.or_false]
theorem anC {i:Nat} {o:Oper} {x:Out} (ho:all[i]? = some o) (hx:L[i]? = some x) (ht:turns P cfg o x=true):ph P cfg (fun j=>Nat.blt j (i+1)) all L 0 A0=x.2.2:=by
 have key:∀ (os:List Oper) (L:List Out) (k i:Nat) (A:aw) (o:Oper) (x:Out),os[i]? = some o->L[i]? = some x->turns P cfg o x=true->ph P cfg (fun j=>Nat.blt j (k+i+1)) os L k A=x.2.2:=by
  intro os
  induction os with
  | nil=>intro L k i A o x ho; simp at ho
  | cons q os ih=>
   intro L k i A o x ho hx ht;cases L with
   | nil=>simp at hx
   | cons u L=>
    simp only [ph];have bG:Nat.blt k (k+i+1)=true:=by rw [cq]; omega
    rw [bG,Bj];cases i with
    | zero=>
     simp at ho hx;subst ho hx;rw [ht,ak];have:∀ (os:List Oper) (L:List Out) (m:Nat) (A:aw),k+1<=m->ph P cfg (fun j=>Nat.blt j (k+0+1)) os L m A=A:=by
      intro os
      induction os with
      | nil=>intro L m A _; cases L <;> rfl
      | cons q os ih=>
       intro L m A hm;cases L with
       | nil=>rfl
       | cons u L=>
        simp only [ph];have:Nat.blt m (k+0+1)=false:=by
         cases hb:Nat.blt m (k+0+1) with
         | false=>rfl
         | true=>rw [cq] at hb; omega
        rw [this,Bool.false_and,ba];exact ih L _ A (by omega)
     exact this os L (k+1) _ (aU _)
    | succ i=>
     have:=ih L (k+1) i (cond (turns P cfg q u) u.2.2 A) o x (by simpa using ho) (by simpa using hx) ht;rwa [show k+1+i+1=k+(i+1)+1 by omega] at this
 have:=key all L 0 i A0 o x ho hx ht;rwa [bM] at this
theorem apE (hf:T9 P cfg all) {S:Nat->Bool} (hc:r7 all S) {i:Nat} {o:Oper} {x:Out} (ho:all[i]? = some o) (hx:L[i]? = some x) (rM:S i=false) (yx:xg all S i) (ht:turns P cfg o x=true) :
  ph P cfg (cY S i) all L 0 A0=x.2.2:=by
 have h3:Nat.ble 3 (dE (cm P cfg o.op))=true:=by unfold turns at ht; simp only [aA] at ht; exact ht.2
 have hk:dE (cm P cfg o.op)≠0:=by have:=fR h3; omega
 have h1:ph P cfg (cY S i) all L 0 A0=ph P cfg (fun j=>Nat.blt j (i+1)) all L 0 A0:=by
  refine J1 fun j q y hq hy hty=>?_;rw [bM];have hq3:Nat.ble 3 (dE (cm P cfg q.op))=true:=by unfold turns at hty; simp only [aA] at hty; exact hty.2
  have gQ:X1 P cfg all i:=QP hf ho hk fun T a e=>by rw [Iz e] at h3; simp at h3
  rcases Nat.lt_trichotomy j i with h | h | h
  ·have:rV (fF [] all) i j=true:=(gQ j q hq hq3).1 h
   have:=hc.ready hf.reg ho yx j this;unfold cY;rw [this,Bool.true_or]
   symm; rw [cq]; omega
  ·subst h
   have:cY S j j=true:=by simp [cY]
   rw [this]
   symm; rw [cq]; omega
  ·have hb:rV (fF [] all) j i=true:=(gQ j q hq hq3).2 h
   have:S j=false:=by
    cases hs:S j with
    | false=>rfl
    | true=>have:=hc j i hs hb; rw [rM] at this; simp at this
   unfold cY;have de:Nat.beq j i=false:=by
    cases hb:Nat.beq j i with
    | false=>rfl
    | true=>have:=bu hb; omega
   rw [this,de]
   symm
   cases hbb:Nat.blt j (i+1) with
   | false=>rfl
   | true=>rw [cq] at hbb; omega
 rw [h1];exact anC ho hx ht
end
theorem ai1 {all:List Oper} {o:Oper} {j:Nat} {want:Bool} {d:Tmp} (hg:o.guard=some (j,want)) (hd:(all[j]?).bind (·.dst)=some d):d∈HV all o:=by
 unfold HV;rw [hg];simp [hd]
theorem FT {all:List Oper} {o:Oper} {t t1:bO} {wd:Bool} {N:Nat} {ρ:Ren} {a:Act} (ht:lK P E ρ t N a) (hl:∀ y∈HV all o,t1.get y=t.get y) (h:Ob all o t1 wd):Region.wanted o (yielded ⟨all⟩ a.tmps)=wd:=by
 rcases h with ⟨hg,rfl⟩ | ⟨j,want,d,hg,hd,h⟩
 ·unfold Region.wanted
  rw [hg]
 ·have KZ:=hl d (ai1 hg hd)
  have A5:=ht.val d;unfold Region.wanted;rw [hg];simp only;unfold yielded;have e:(⟨all⟩:Array Oper)[j]? = all[j]?:=by simp
  rw [e,hd];simp only [fy];rcases h with ⟨b,h1,rfl⟩ | ⟨l,h1,rfl⟩
  ·rw [<- KZ,h1] at A5
   have hcv:=A5.gi;cases hc:a.tmps[d]? with
   | none=>simp [jB,hc,undef] at hcv
   | some u=>
    have:u = .bool b:=by rw [<- hcv]; simp [jB,hc]
    subst this;rfl
  ·rw [<- KZ,h1] at A5
   obtain ⟨u,h2,h3⟩:=A5;obtain ⟨m,rfl,_⟩:=h2.QA;obtain ⟨m',h4,_⟩:=h3.Vu;cases hc:a.tmps[d]? with
   | none=>rfl
   | some u=>
    have:u = .tuple m':=by rw [<- h4]; simp [jB,hc]
    subst this;rfl
theorem QQ {t t1:bO} {N:Nat} {ρ:Ren} {a:Act} (ht:lK P E ρ t N a) {x:Operand} (h:∀ y,x = .tmp y->t1.get y=t.get y):VC P E ρ (ma t1 x) (a.eval x):=by
 have:=ht.ev x;cases x with
 | tmp y=>simp only [ma] at this ⊢; rw [h y rfl]; exact this
 | const v=>exact this
 | global g=>exact this
 | func f=>exact this
theorem anE {cfg:fE} {o:Oper} {t:bO} {A A1 A' : aw} {v:KV} (h:bf (xM (cm P cfg o.op) t A) (v,A1)) (hk:dE (cm P cfg o.op)=0):bf (xM (cm P cfg o.op) t A') (v,A'):=by
 generalize cm P cfg o.op=ins at h hk;cases ins with
 | pure f xs=>obtain ⟨u,h1,h2⟩:=bf.map h; simp at h2; obtain ⟨rfl,_⟩:=h2; exact h1.C3
 | read f xs=>simp [dE] at hk
 | act f xs=>simp [dE] at hk
 | look f xs=>obtain ⟨u,h1,h2⟩:=bf.map h; simp at h2; obtain ⟨rfl,_⟩:=h2; exact h1.C3
 | Eg g f xs=>obtain ⟨u,h1,h2⟩:=bf.map h; simp at h2; obtain ⟨rfl,_⟩:=h2; exact h1.C3
 | Ip g f xs=>simp [dE] at hk
 | call f xs=>exact h.elim
 | bad=>exact h.elim
theorem VW {cfg:fE} {S:Nat->Bool} (h:∀ i,S i=false):∀ {os:List Oper} {L:List Out} {k:Nat} {A:aw},ph P cfg S os L k A=A
 | [],L,k,A=>by cases L <;> rfl
 | o::os,[],k,A=>rfl
 | o::os,x::L,k,A=>by simp only [ph]; rw [h,Bool.false_and,ba]; exact VW h
theorem Oc {S:Nat->Bool} (h:∀ i,S i=false):∀ {os:List Oper} {L:List Out} {k:Nat} {t:bO},kb S os L k t=t
 | [],L,k,A=>by cases L <;> rfl
 | o::os,[],k,A=>rfl
 | o::os,x::L,k,A=>by simp only [kb]; rw [h,ba]; exact Oc h
theorem ato {A:aw} {o:kU} {b:Nat} (hb:b < A.next) (cs:List KV) (e:Nat):A.get b=some (.row cs e)↔(A.new o).get b=some (.row cs e):=by
 rw [aw.dz,av (by omega)]
theorem QR {A:aw} {o:kU} {b c:Nat} (h:b≠c\/((∀ cs e,A.get b≠some (.row cs e))/\∀ cs e,o≠.row cs e)) (cs:List KV) (e:Nat):A.get b=some (.row cs e)↔(A.put c o).get b=some (.row cs e):=by
 rw [aw.cz];by_cases hbc:b=c
 ·rw [aY hbc]
  rcases h with h | ⟨h1,h2⟩
  ·exact absurd hbc h
  ·exact ⟨fun q=>absurd q (h1 _ _),fun q=>absurd (by simpa using q) (h2 cs e)⟩
 ·rw [av hbc]
def Ua (A A' : aw):Prop:=A.next<=A'.next/\∀ b,b < A.next->∀ cs e,A.get b=some (.row cs e)↔A'.get b=some (.row cs e)
theorem HZ {A:aw} {o:kU} : Ua A (A.new o):=⟨by simp,fun _ hb cs e=>ato hb cs e⟩
theorem SM {A:aw} {c:Nat} {o o' : kU} (hc:A.get c=some o') (h' : ∀ cs e,o'≠.row cs e) (h:∀ cs e,o≠.row cs e):Ua A (A.put c o):=⟨by simp,fun b _ cs e=>by
 by_cases hbc:b=c
 ·subst hbc
  exact QR (.inr ⟨fun cs e q=>by rw [hc] at q; simp at q; exact h' cs e q,h⟩) cs e
 ·exact QR (.inl hbc) cs e⟩
theorem Ua.trans {A B C:aw} (h:Ua A B) (k:Ua B C):Ua A C:=⟨o7 h.1 k.1,fun b hb cs e=>(h.2 b hb cs e).trans (k.2 b (nI hb h.1) cs e)⟩
theorem Od {e sz b n f m:Nat} {base new:List KV} {ab an:Nat->KV} {A A' : aw} {v:KV} {more:Bool} (h:bf (XI e sz b n base ab A f m new an more) (v,A')):A' = A.put f (.bA (n+m) sz):=by
 obtain ⟨_,h⟩:=bf.lP h;simp only [fS] at h;exact h.2.symm
theorem X3 {e b n m:Nat} {base new:List KV} {ab an:Nat->KV} {A A' : aw} {v:KV} {more:Bool} (h:bf (aeX e b n base ab A m new an more) (v,A')):∃ o,A' = A.new (.arr o):=by
 obtain ⟨_,h⟩:=bf.lP h;simp only [fS] at h;exact ⟨_,h.2.symm⟩
theorem alL {e sz b:Nat} {A A' : aw} {xs:List KV} {v:KV} (h:bf (Qv e sz b A xs) (v,A')):Ua A A':=by
 unfold Qv at h;split at h
 ·obtain ⟨_,h⟩:=bf.cond h
  rw [Od h];exact HZ.trans (SM (o':=.bA 0 sz) (by simp) (by simp) (by simp))
 ·obtain ⟨_,h⟩:=bf.cond h
  rw [Od h];exact HZ.trans (SM (o':=.bA 0 sz) (by simp) (by simp) (by simp))
 ·split at h
  ·rename_i hf
   obtain ⟨_,h⟩:=bf.cond h;rw [Od h];exact SM hf (by simp) (by simp)
  ·exact h.elim
 ·exact h.elim
theorem Ub {e b:Nat} {A A' : aw} {xs:List KV} {v:KV} (h:bf (HX e b A xs) (v,A')):Ua A A':=by
 unfold HX at h;split at h
 ·obtain ⟨_,h⟩:=bf.cond h
  obtain ⟨o,rfl⟩:=X3 h;exact HZ
 ·split at h
  ·rename_i hf
   obtain ⟨_,h⟩:=bf.cond h;obtain ⟨o,rfl⟩:=X3 h;exact (SM hf (by simp) (by simp)).trans HZ
  ·exact h.elim
 ·exact h.elim
theorem ai2 {e sz b:Nat} {mt:Bool} {A A' : aw} {xs:List KV} {v:KV} (h:bf (Md e sz b mt A xs) (v,A')):Ua A A':=by
 unfold Md at h;split at h
 ·split at h
  ·rename_i y' _
   revert h
   cases as8 _ with
   | true=>exact fun h=>Ub h
   | false=>
    cases mt with
    | true=>exact fun h=>Ub h
    | false=>exact fun h=>alL h
  ·exact h.elim
 ·exact h.elim
theorem ar9 {c:Bool} {i:tB} {t:bO} {A:aw} {x:KV×aw} (h:bf (xM (cond c i .bad) t A) x):bf (xM i t A) x:=by
 cases c with
 | true=>exact h
 | false=>exact h.elim
theorem agh {cfg:fE} {o:Oper} {t:bO} {A A' : aw} {v:KV} (hs:SF o.op=true) (h:bf (xM (cm P cfg o.op) t A) (v,A')):Ua A A':=by
 revert hs h
 cases hop:o.op <;> intro hs h <;> simp [SF] at hs
 ·rename_i T
  have h:bf (xM (rN P T) t A) (v,A'):=h;unfold rN at h;split at h
  ·rename_i z _
   cases hb:(flat z&&z.cells.toList.all scalar&&jL (iG z).cells) with
   | false=>rw [hb] at h; exact h.elim
   | true=>
    rw [hb,ak] at h;have h:(KV.ptr A.next 0,A.new (.row (iG z).cells (pJ P T)))=(v,A'):=h;simp only [fS] at h;rw [<- h.2];exact HZ
  ·exact h.elim
 ·rename_i T x
  have h:bf (am4 (pJ P T) A [ma t x]) (v,A'):=h;unfold am4 at h;simp only at h;obtain ⟨_,h⟩:=bf.cond h;have h:(KV.ptr A.next 0,A.new (.row (ma t x).cells (pJ P T)))=(v,A'):=h;simp only [fS] at h;rw [<- h.2];exact HZ
 ·rename_i c
  split at hs
  ·rename_i hc
   have h:bf (xM (nm P cfg c) t A) (v,A'):=h;unfold nm at h;rw [hc] at h;simp only [CW] at h;unfold JU at h;split at h
   ·split at h
    ·split at h
     ·split at h
      ·exact ai2 (ar9 h)
      ·exact h.elim
     ·exact h.elim
    ·exact h.elim
   ·exact h.elim
  ·simp at hs
theorem acr {cfg:fE} {o:Oper} {T:TypeId} {a x:Operand} {t:bO} {A A' : aw} {v:KV} (ho:o.op = .store T a x) (h:bf (xM (cm P cfg o.op) t A) (v,A')) :
  A'.next=A.next/\∀ b,((∃ b2 off,ma t a = .ptr b2 off/\b≠b2)\/∃ U Tc c i k,ma t a = .ap U Tc c i k)->∀ cs e,A.get b=some (.row cs e)↔A'.get b=some (.row cs e):=by
 rw [ho] at h;have h:bf (XG P T A [ma t a,ma t x]) (v,A'):=h;unfold XG at h;split at h
 ·rename_i c off w heq
  simp only [List.cons.injEq,and_true] at heq;obtain ⟨_,h⟩:=bf.cond h;split at h
  ·split at h
   ·have h:(uC,_)=(v,A'):=h
    simp only [fS] at h;rw [<- h.2];refine ⟨rfl,fun b hb cs e=>QR (.inl ?_) cs e⟩;rcases hb with ⟨b2,atl,h1,h2⟩ | ⟨U,Tc,c',i,k,h1⟩
    ·rw [heq.1] at h1; simp at h1; rw [h1.1]; exact h2
    ·rw [heq.1] at h1; simp at h1
   ·exact h.elim
  ·exact h.elim
 ·rename_i U Tc c i k w heq
  split at h
  ·rename_i hA
   obtain ⟨_,h⟩:=bf.cond h;split at h
   ·have h:(uC,_)=(v,A'):=h
    simp only [fS] at h;rw [<- h.2];refine ⟨rfl,fun b _ cs e=>?_⟩;by_cases hbc:b=c
    ·subst hbc
     exact QR (.inr ⟨fun cs e q=>by rw [hA] at q; simp at q,by simp⟩) cs e
    ·exact QR (.inl hbc) cs e
   ·exact h.elim
  ·exact h.elim
 ·exact h.elim
theorem VX {t:bO} {nx:Nat} : ∀ {l:List (Option Operand×Operand)},VE t nx l=true->∀ p∈l,Mf t nx p=true
 | [],_,p,hp=>by simp at hp
 | q::l,h,p,hp=>by
  have h:Bool.rec (motive:=fun _=>Bool) false (VE t nx l) (Mf t nx q)=true:=h;cases hq:Mf t nx q with
  | false=>rw [hq] at h; simp at h
  | true=>
   rw [hq] at h;rcases fA.1 hp with rfl | hp
   ·exact hq
   ·exact VX h p hp
theorem acs {i:Nat} {x:Tmp} : ∀ (os:List Oper) (k:Nat),yA i (.tmp x) os k=true->∀ j o,os[j]? = some o->i<=k+j->o.dst≠some x
 | [],k,_,j,o,ho,_=>by simp at ho
 | q::os,k,h,0,o,ho,hle=>by
  simp at ho;subst ho;simp only [yA,aA,uB,mw] at h;rcases h.1 with h1 | h1
  ·rw [cq] at h1; omega
  ·intro e
   rw [e,C5 (by simp [tw])] at h1;simp at h1
 | q::os,k,h,j+1,o,ho,hle=>by
  simp only [yA,aA] at h;exact acs os (k+1) h.2 j o (by simpa using ho) (by omega)
section
variable {cfg:fE} {all:List Oper} {L:List Out} {t0:bO} {A0:aw}
theorem alM {tn t1:bO} {i:Nat} {x:Operand} (S9:∀ y,tn.get y=(kb (fun _=>true) all L 0 t0).get y) (za:∀ y,t1.get y=(kb (fun j=>Nat.blt j i) all L 0 t0).get y) (h:yA i x all 0=true):ma tn x=ma t1 x:=by
 cases x with
 | tmp y=>
  simp only [ma];rw [S9 y,za y,ns (S':=fun j=>Nat.blt j i) rfl fun j o ho hd=>?_];rw [bM]
  symm
  rw [cq];refine Nat.lt_of_not_le fun hle=>?_;exact acs all 0 h j o ho (by omega) hd
 | const v=>rfl
 | global g=>rfl
 | func f=>rfl
theorem anF (j:Nat):(∃ q x,all[j]? = some q/\L[j]? = some x/\turns P cfg q x=true/\ph P cfg (fun k=>Nat.blt k (j+1)) all L 0 A0=x.2.2)\/
  ((∀ q x,all[j]? = some q->L[j]? = some x->turns P cfg q x=false)/\ph P cfg (fun k=>Nat.blt k (j+1)) all L 0 A0=ph P cfg (fun k=>Nat.blt k j) all L 0 A0):=by
 by_cases h:∃ q x,all[j]? = some q/\L[j]? = some x/\turns P cfg q x=true
 ·obtain ⟨q,x,h1,h2,h3⟩:=h
  refine .inl ⟨q,x,h1,h2,h3,?_⟩;have:=anC (A0:=A0) h1 h2 h3;exact this
 ·have hn:∀ q x,all[j]? = some q->L[j]? = some x->turns P cfg q x=false:=fun q x h1 h2=>by
   cases ht:turns P cfg q x with
   | false=>rfl
   | true=>exact absurd ⟨q,x,h1,h2,ht⟩ h
  refine .inr ⟨hn,J1 fun k q x hq hx ht=>?_⟩;rw [bM];have de:k≠j:=fun e=>by subst e; rw [hn q x hq hx] at ht; simp at ht
  cases hb:Nat.blt k j with
  | true=>rw [cq] at hb ⊢; omega
  | false=>
   cases xA:Nat.blt k (j+1) with
   | false=>rfl
   | true=>
    rw [cq] at xA;have : ¬ k < j:=fun h=>by rw [<- cq,hb] at h; simp at h
    omega
theorem acu (hf:T9 P cfg all) {S:Nat->Bool} (hc:r7 all S):∀ n,∃ m,m<=n/\∀ j q x,j < n->all[j]? = some q->L[j]? = some x->turns P cfg q x=true->S j=Nat.blt j m
 | 0=>⟨0,aU 0,fun j q x hj=>by omega⟩
 | n+1=>by
  obtain ⟨m,hm,h⟩:=acu hf hc n;by_cases hn:∃ q x,all[n]? = some q/\L[n]? = some x/\turns P cfg q x=true/\S n=true
  ·obtain ⟨q,x,h1,h2,h3,h4⟩:=hn
   have hq3:Nat.ble 3 (dE (cm P cfg q.op))=true:=by unfold turns at h3; simp only [aA] at h3; exact h3.2
   have hk:dE (cm P cfg q.op)≠0:=by have:=fR hq3; omega
   have gQ:=QP hf h1 hk fun T a e=>by rw [Iz e] at hq3; simp at hq3
   refine ⟨n+1,aU _,fun j q' x' hj h5 h6 h7=>?_⟩;have hb:Nat.blt j (n+1)=true:=by rw [cq]; exact hj
   rw [hb];by_cases hjn:j=n
   ·subst hjn; exact h4
   ·have awo:Nat.ble 3 (dE (cm P cfg q'.op))=true:=by unfold turns at h7; simp only [aA] at h7; exact h7.2
    exact hc n j h4 ((gQ j q' h5 awo).1 (by omega))
  ·refine ⟨m,by omega,fun j q x hj h5 h6 h7=>?_⟩
   by_cases hjn:j=n
   ·subst hjn
    have hb:Nat.blt j m=false:=by
     cases hb:Nat.blt j m with
     | false=>rfl
     | true=>rw [cq] at hb; omega
    rw [hb];cases hs:S j with
    | false=>rfl
    | true=>exact absurd ⟨q,x,h5,h6,h7,hs⟩ hn
   ·exact h j q x (by omega) h5 h6 h7
theorem asa (hf:T9 P cfg all) {S:Nat->Bool} (hc:r7 all S):∃ m,(∀ j q x,all[j]? = some q->L[j]? = some x->turns P cfg q x=true->S j=Nat.blt j m)/\ph P cfg S all L 0 A0=ph P cfg (fun j=>Nat.blt j m) all L 0 A0:=by
 obtain ⟨m,_,h⟩:=acu (L:=L) hf hc all.length;have h' : ∀ j q x,all[j]? = some q->L[j]? = some x->turns P cfg q x=true->S j=Nat.blt j m:=fun j q x h1 h2 h3=>h j q x (dq.1 h1).1 h1 h2 h3;exact ⟨m,h',J1 fun j q x h1 h2 h3=>by rw [bM]; exact h' j q x h1 h2 h3⟩
def AtK (P:Program) (cfg:fE) (all:List Oper) (L:List Out) (t0:bO) (A0:aw):Prop:=∀ i o x,all[i]? = some o->L[i]? = some x->∃ t1,(∀ y,t1.get y=(kb (fun j=>Nat.blt j i) all L 0 t0).get y)/\(x.1=true->bf (xM (cm P cfg o.op) t1 (ph P cfg (fun j=>Nat.blt j i) all L 0 A0)) (x.2.1,x.2.2))
theorem anG (CQ:AtK P cfg all L t0 A0) (hpl:VF P cfg all=true):∀ j,A0.next<=(ph P cfg (fun k=>Nat.blt k j) all L 0 A0).next
 | 0=>by rw [VW (fun i=>by
   cases hb:Nat.blt i 0 with
   | false=>rfl
   | true=>rw [cq] at hb; omega)]; exact aU _
 | j+1=>by
  have ih:=anG CQ hpl j;rcases anF (P:=P) (cfg:=cfg) (all:=all) (L:=L) (A0:=A0) j with ⟨q,x,h1,h2,h3,h4⟩ | ⟨_,h4⟩
  ·rw [h4]
   obtain ⟨t1,_,hg⟩:=CQ j q x h1 h2;unfold turns at h3;simp only [aA] at h3;have hg:=hg h3.1;have hp:=ig.1 hpl q (jC h1);simp only [uB,h3.2,Hc,JK,false_or] at hp;rcases hp with hp | hp
   ·exact o7 ih (agh hp hg).1
   ·obtain ⟨a2,ha2⟩:=Option.isSome_iff_exists.1 hp
    unfold XK at ha2;split at ha2
    ·rename_i T a3 v e
     rw [(acr e hg).1]; exact ih
    ·simp at ha2
  ·rw [h4]; exact ih
theorem anH (hf:T9 P cfg all) {S:Nat->Bool} (hc:r7 all S) {i:Nat} {o:Oper} {T:TypeId} {a:Operand} (ho:all[i]? = some o) (Gp:o.op = .load T a) (rM:S i=false) (yx:xg all S i) (hns : ¬ X1 P cfg all i)
  (CQ:AtK P cfg all L t0 A0) {tn:bO} (S9:∀ y,tn.get y=(kb (fun _=>true) all L 0 t0).get y) (aq8:VE tn A0.next (Lb P cfg all)=true)
  {t1:bO} (za:∀ y,t1.get y=(kb (fun j=>Nat.blt j i) all L 0 t0).get y) {v:KV} {A1:aw} (hg:bf (xM (cm P cfg o.op) t1 (ph P cfg (fun j=>Nat.blt j i) all L 0 A0)) (v,A1)) :
  bf (xM (cm P cfg o.op) t1 (ph P cfg S all L 0 A0)) (v,ph P cfg S all L 0 A0):=by
 have hk:dE (cm P cfg o.op)≠0:=by rw [Iz Gp]; simp
 have hex:∃ p,p∈Lb P cfg all/\p.2=a/\yA i a all 0=true:=by
  refine Classical.byContradiction fun de=>hns fun j q hq h3=>?_;rcases unordered hf ho hq hk h3 with h | ⟨p,h1,h2,h3,_⟩
  ·exact h
  ·obtain ⟨⟨T',e⟩,_⟩:=C4 h2
   rw [Gp] at e;simp only [Op.load.injEq] at e;exact absurd ⟨p,h1,e.2.symm,by rw [e.2]; exact h3⟩ de
 obtain ⟨p,hp,hpa,hnd⟩:=hex;have A5:=alM S9 za hnd;have hpd:=VX aq8 p hp;have hpl:=hf.plain p hp;rw [Gp] at hg ⊢;have awp:∀ A,xM (cm P cfg (.load T a)) t1 A=(aaw P T A [ma t1 a]).map fun v=>(v,A):=fun _=>rfl;rw [awp] at hg ⊢;obtain ⟨u,S8,he⟩:=bf.map hg;simp only [fS] at he;obtain ⟨rfl,_⟩:=he;clear hg;have hg:=S8;clear S8;refine bf.C3 (f:=fun v=>(v,ph P cfg S all L 0 A0)) ?_;unfold Mf at hpd;rw [hpa,A5] at hpd;cases hv:ma t1 a with
 | tp U Tc m k es acc=>rw [hv] at hg; exact hg
 | ptr b off=>
  rw [hv] at hg hpd;simp only [aA] at hpd;have hb:=hpd.1;rw [cq] at hb;have hO:∃ cs e,(ph P cfg (fun j=>Nat.blt j i) all L 0 A0).get b=some (.row cs e):=by
   have hg:bf (match Xk P T,size? P T with
    | some ag,some n=>match (K.rowAt (ph P cfg (fun j=>Nat.blt j i) all L 0 A0) b).bind fun cs=>yy n (Eh off cs) with
     | some l=>cond ag (.ok (.agg l)) (match l with | [v]=>.ok v | _=>.no)
     | none=>.no
    | _,_=>.no) u:=hg
   split at hg
   ·split at hg
    ·rename_i l hl
     obtain ⟨cs,h1,_⟩:=dh.1 hl;unfold K.rowAt at h1;split at h1
     ·rename_i cu e h2; exact ⟨cu,e,h2⟩
     ·simp at h1
    ·exact hg.elim
   ·exact hg.elim
  obtain ⟨cs,e,hO⟩:=hO;obtain ⟨m,hm,gQ⟩:=asa (L:=L) (A0:=A0) hf hc;have step:∀ k,(∀ q x,all[k]? = some q->L[k]? = some x->turns P cfg q x=true->¬ ((k < i->rV (fF [] all) i k=true)/\(i < k->rV (fF [] all) k i=true)))->
    ((ph P cfg (fun j=>Nat.blt j k) all L 0 A0).get b=some (.row cs e)↔(ph P cfg (fun j=>Nat.blt j (k+1)) all L 0 A0).get b=some (.row cs e)):=by
   intro k hno;rcases anF (P:=P) (cfg:=cfg) (all:=all) (L:=L) (A0:=A0) k with ⟨q,x,h1,h2,h3,h4⟩ | ⟨_,h4⟩
   ·rw [h4]
    have h3':=h3;unfold turns at h3';simp only [aA] at h3';rcases unordered hf ho h1 hk h3'.2 with h5 | ⟨p',h5,h6,h7,h8⟩
    ·exact absurd h5 (hno q x h1 h2 h3)
    ·obtain ⟨tk,htk,hgk⟩:=CQ k q x h1 h2
     have hgk:=hgk h3'.1;obtain ⟨⟨T',e1⟩,e2⟩:=C4 h6;rw [Gp] at e1;simp only [Op.load.injEq] at e1;have anI:=VX aq8 p' h5;unfold Mf at anI;rw [<- e1.2,A5,hv] at anI;simp only [aA] at anI;rcases e2 with ⟨e2,e3⟩ | ⟨U,a2,v2,e2,e3⟩
     ·exact (agh e3 hgk).2 b (nI hb (anG CQ hpl k)) cs e
     ·refine (acr e3 hgk).2 b ?_ cs e
      rw [e2] at anI h8;have Vs:=alM S9 htk h8;have h9:=anI.2;simp only at h9;rw [Vs] at h9;split at h9
      ·rename_i b2 atl e4
       refine .inl ⟨b2,atl,e4,fun e5=>?_⟩;subst e5;simp at h9
      ·rename_i U' Tc' c' i' k' e4; exact .inr ⟨_,_,_,_,_,e4⟩
      ·simp at h9
   ·rw [h4]
  have avB:(ph P cfg S all L 0 A0).get b=some (.row cs e):=by
   rw [gQ];rcases Nat.le_total m i with hle | hle
   ·have down:∀ d k,k+d=i->m<=k->(ph P cfg (fun j=>Nat.blt j k) all L 0 A0).get b=some (.row cs e):=by
     intro d
     induction d with
     | zero=>intro k hk _; have:k=i:=by omega
             rw [this]; exact hO
     | succ d ih=>
      intro k hk XT;refine (step k fun q x h1 h2 h3 Mv=>?_).2 (ih (k+1) (by omega) (by omega));have h4:=hm k q x h1 h2 h3;have h5:S k=true:=hc.ready hf.reg ho yx k (Mv.1 (by omega));rw [h5] at h4;have h4:=h4.symm;rw [cq] at h4;omega
    exact down (i - m) m (by omega) (aU m)
   ·have up:∀ d,i+d<=m->(ph P cfg (fun j=>Nat.blt j (i+d)) all L 0 A0).get b=some (.row cs e):=by
     intro d
     induction d with
     | zero=>intro _; exact hO
     | succ d ih=>
      intro hd;refine (step (i+d) fun q x h1 h2 h3 Mv=>?_).1 (ih (by omega));have h4:=hm (i+d) q x h1 h2 h3;have h5:Nat.blt (i+d) m=true:=by rw [cq]; omega
      rw [h5] at h4;by_cases hd0:d=0
      ·subst hd0
       rw [CF] at h4;rw [rM] at h4; simp at h4
      ·have:=hc (i+d) i h4 (Mv.2 (by omega))
       rw [rM] at this; simp at this
    have:=up (m - i) (by omega);rwa [show i+(m - i)=m by omega] at this
  have KZ:K.rowAt (ph P cfg S all L 0 A0) b=K.rowAt (ph P cfg (fun j=>Nat.blt j i) all L 0 A0) b:=by
   unfold K.rowAt;rw [hO,avB]
  show bf (match Xk P T,size? P T with
    | some ag,some n=>match (K.rowAt (ph P cfg S all L 0 A0) b).bind fun cs=>yy n (Eh off cs) with
     | some l=>cond ag (.ok (.agg l)) (match l with | [v]=>.ok v | _=>.no)
     | none=>.no
    | _,_=>.no) u
  rw [KZ];exact hg
 | _=>rw [hv] at hpd; simp at hpd
end
theorem ai3 {R:Type} {cfg:fE} {bR:pt R} (j9:uZ P cfg.pc) (hm:P.follows .mixedOrders=true) {id:Nat} {all:List Oper} {N base:Nat} (hdN:all.all (KU N)=true) {k:bO->aw->Option R} {r:R} {t:bO} {A:aw} {B:St} {ρ:Ren} {a:Act} {w:World} {Q:Exit->Act->World->Prop}
  (Mv:ana P cfg all=true) (h:vI P cfg bR all (fun t' A'=>Bool.rec (motive:=fun _=>Option R) none (k t' A') (VE t' A.next (Lb P cfg all))) all t A=some r) (ht:lK P E ρ t N a) (hj:KJ P E A B ρ base w)
  (hq:∀ t' E' A' B' bd a' w',k t' A' = some r->lK P E' bd t' N a'->a'.defers=a.defers->Ev P base E A B ρ w E' A' B' bd w'->Q .normal a' w'):(Code.region id ⟨all⟩ true).wp P Q a w:=by
 have hf:=anB Mv;obtain ⟨L,tn,An,mW,hk⟩:=XX (fun o ho f args=>Es (hf.kind o ho) f args) h;obtain ⟨hlen,S9,hAn,CQ⟩:=mW.at;have hdk:VE tn A.next (Lb P cfg all)=true/\k tn An=some r:=by
  cases hd:VE tn A.next (Lb P cfg all) with
  | false=>simp only [hd] at hk; exact absurd hk (by simp)
  | true=>simp only [hd] at hk; exact ⟨rfl,hk⟩
 obtain ⟨aq8,hk⟩:=hdk;have awq:AtK P cfg all L t A:=fun i o x ho hx=>by obtain ⟨t1,q1,_,q3,_⟩:=CQ i o x ho hx; exact ⟨t1,q1,q3⟩
 have QS:Ev P base E A B ρ w E A B ρ w.drew:=(dR.refl hj.k).ev (l7.drew hj.s);refine wp_region_any hm ?_;show wpAny P .any ⟨all⟩ Q all.length (Array.replicate all.length false) a w.drew;have Gt:∀ i,(Array.replicate all.length false).getD i false=false:=by
  intro i;rw [jB,Array.getElem?_replicate];split <;> rfl
 let Inv:(Nat->Bool)->Act->World->Prop:=fun S a' w'=>∃ E' B' bd,a'.defers=a.defers/\Ev P base E A B ρ w.drew E' (ph P cfg S all L 0 A) B' bd w'/\lK P E' bd (kb S all L 0 t) N a'
 refine Hk hf.reg Inv ?_ ?_ ?_ all.length _ a w.drew (by simp) ?_ (fun i j hi _=>by
   have h2:(Array.replicate all.length false).getD i false=true:=hi;rw [Gt] at h2; simp at h2) ⟨E,B,ρ,rfl,?_,?_⟩
 ·
  rintro S S' a' w' hSS ⟨E',B',bd,h1,h2,h3⟩;have e1:ph P cfg S all L 0 A=ph P cfg S' all L 0 A:=J1 fun i o x ho _ _=>by rw [bM]; exact hSS i (dq.1 ho).1
  refine ⟨E',B',bd,h1,by rw [<- e1]; exact h2,h3.same fun y=>?_⟩;exact ns rfl fun i o ho _=>by rw [bM]; exact (hSS i (dq.1 ho).1).symm
 ·
  rintro S a' w' i o ⟨E',B',bd,h1,h2,h3⟩ hc ho rM yx _;have hi:i < L.length:=by rw [hlen]; exact (dq.1 ho).1
  have hx:L[i]? = some L[i]:=dr hi;obtain ⟨t1,za,hw,anJ,hno⟩:=CQ i o L[i] ho hx;have Et:∀ y∈pb P cfg all o,t1.get y=(kb S all L 0 t).get y:=fun y hy=>by rw [za y,agf hf.toT hc ho rM yx hy]
  have Oe:=FT h3 (fun y hy=>Et y (by unfold pb; exact List.mem_append_left _ hy)) hw;have Iy:∀ d,o.dst=some d->d < N:=by
   intro d ed;have:=ig.1 hdN o (jC ho);unfold KU at this;rw [ed] at this;simp only at this;rw [cq] at this;exact this
  have hoA:(⟨all⟩:Array Oper)[i]? = some o:=by simpa using ho
  unfold wpOp;rw [hoA];simp only [Oe];cases Ho:L[i].1 with
  | false=>
   simp only [JK,if_false];have hv:=hno Ho;refine ⟨E',B',bd,by rw [put_defers]; exact h1,?_,?_⟩
   ·rw [Bo ho hx (by unfold turns; rw [Ho]; rfl)]
    exact h2
   ·refine (h3.put Iy VC.undef).same fun y=>?_
    rw [Mu hf.toT hc ho hx rM y,hv]
  | true=>
   simp only [if_true];refine .inl ?_;have hg:=anJ Ho;have hgS:∃ A1,bf (xM (cm P cfg o.op) t1 (ph P cfg S all L 0 A)) (L[i].2.1,A1)/\ph P cfg (cY S i) all L 0 A=A1:=by
    by_cases yn:dE (cm P cfg o.op)=0
    ·refine ⟨_,anE hg yn,Bo ho hx ?_⟩
     unfold turns;rw [yn,show Nat.ble 3 0=false from rfl,Bool.and_false]
    ·by_cases gQ:X1 P cfg all i
     ·rw [X2 (L:=L) (A0:=A) hf hc ho rM yx gQ]
      refine ⟨_,hg,?_⟩;cases S9:turns P cfg o L[i] with
      | true=>exact apE hf hc ho hx rM yx S9
      | false=>
       have h4:=Er hg (by simpa [turns,Ho] using S9);rw [Bo ho hx S9,X2 (L:=L) (A0:=A) hf hc ho rM yx gQ,h4]
     ·have hex:∃ T a,o.op = .load T a:=Classical.byContradiction fun de=>gQ (QP hf ho yn fun T a e=>de ⟨T,a,e⟩)
      obtain ⟨T,a',Gp⟩:=hex;refine ⟨_,anH hf hc ho Gp rM yx gQ awq S9 aq8 za hg,Bo ho hx ?_⟩;unfold turns;rw [Iz Gp,show Nat.ble 3 1=false from rfl,Bool.and_false]
   obtain ⟨A1,hg1,hA1⟩:=hgS;refine N9 j9 hg1 (fun x hxm=>QQ h3 fun y e=>Et y ?_) h2.kj fun JG Lg wG v' JB h4 h5=>?_
   ·unfold pb
    subst e;exact List.mem_append_right _ (l8 hxm)
   ·refine ⟨JG,Lg,wG,by rw [put_defers]; exact h1,?_,?_⟩
    ·rw [hA1]; exact h2.trans h5
    ·refine ((h3.mono h5.le (h5.gN.le h2.gN.kA)).put Iy h4).same fun y=>?_
     rw [Mu hf.toT hc ho hx rM y]
 ·
  rintro S a' w' mi ⟨E',B',bd,h1,h2,h3⟩;have e1:ph P cfg S all L 0 A=An:=by rw [hAn]; exact J1 fun i o x ho _ _=>by rw [bM]; exact mi i (dq.1 ho).1
  rw [e1] at h2;refine hq tn E' An B' bd a' w' hk (h3.same fun y=>?_) h1 (QS.trans h2);rw [S9 y];exact ns rfl fun i o ho _=>by rw [bM]; exact (mi i (dq.1 ho).1).symm
 ·simp
 ·rw [VW Gt]
  exact .refl hj.k QS.gN.kA
 ·refine ht.same fun y=>?_
  rw [Oc Gt]
end Go.K
end
section
namespace Go.K
open Go Go.aB
variable {P:Program} {E:Env}
theorem awr {A:aw} {B:St} {cu:List Value} {cg:Nat} (h:fX P E A B):dR P E A B E A (B.new (.row cu cg true none)):=by
 have BR:∀ x,AR A E x->(B.new (.row cu cg true none)).get x=B.get x:=fun x q=>by have:=h.JY q; rw [St.dz,av (by omega)]
 refine ⟨⟨?_,?_,?_,h.apart,h.inj,h.kQ,h.lV,h.nQ,h.live,?_,?_,?_,?_,?_,h.ar.ij (Env.le_refl _) (fun _=>rfl) (fun _ _ e=>e) (fun _ _ e=>e) (aU _) (by simp) BR (fun _ _ e=>.inl e) (fun _ _ e=>.inl e) (fun b g e=>.inl ⟨b,e⟩) (fun _ _=>by simp) h.mem⟩,Env.le_refl _,aU _,?_,fun _ _ e=>.inl e,fun _ _ e=>.inl e,fun _ _ e=>.inl e,fun _ _ _ _=>by simp,fun _ q=>.inl q,fun _ q=>.inl (q.of (fun _=>rfl) (fun _ _ e=>e) BR),fun _ _ q=>.inl (by simpa using q),fun _ q=>.inl (q.of (fun _=>rfl) (fun _ _ e=>e) BR fun _ _=>by simp),nS afZ⟩
 ·intro b nK QG hb
  obtain ⟨x,c,h1,h2,h3⟩:=h.row b nK QG hb;have:=h.iV b x h1;exact ⟨x,c,h1,by rw [St.dz,av (by omega)]; exact h2,h3⟩
 ·intro b top Gs hb
  rcases h.bA b top Gs hb with h1 | ⟨g,h1,hp0,h2⟩
  ·exact .inl h1
  ·refine .inr ⟨g,h1,hp0,fun x hx c e own f k hg=>?_⟩
   rw [St.dz] at hg;split at hg
   ·simp at hg
   ·exact h2 x (by simpa using hx) c e own f k hg
 ·intro b r hb
  have:=h.nR b r hb;rw [St.dz,av (by omega)];exact h.z b r hb
 ·intro b x hb; have:=h.iV b x hb; rw [St.cC]; omega
 ·intro b r hb; have:=h.nR b r hb; rw [St.cC]; omega
 ·intro b g hb; have:=h.lr b g hb; rw [St.cC]; omega
 ·intro g hg; rw [St.cC] at hg; rw [St.la]; exact h.fresh g (by omega)
 ·intro g x hx; rw [St.la] at hx; rw [St.cC]; have:=h.mem g x hx; omega
 ·intro x hx _ _; rw [St.dz,av (by omega)]
structure Fr (E:Env) (A:aw) (B:St) (b0 y:Nat):Prop where
 lo:b0<=y
 hi:y < B.next
 un:∀ b,E.κ b≠some y
 z:E.z y=none
 nb : ¬ AT A E B y
theorem Fr.step {A A' : aw} {B B' : St} {E' : Env} {b0 y base:Nat} {ρ bd:Ren} {w w' : World} (h:Fr E A B b0 y) (k:Ev P base E A B ρ w E' A' B' bd w'):Fr E' A' B' b0 y/\B'.get y=B.get y:=by
 have hn:=k.gN.next;refine ⟨⟨h.lo,nI h.hi hn,fun b e=>?_,?_,fun q=>?_⟩,k.ij y h.hi h.un h.nb⟩
 ·rcases k.new b y e with e | e
  ·exact h.un b e
  ·have:=h.hi; omega
 ·cases hz:E'.z y with
  | none=>rfl
  | some r=>
   rcases k.wH y r hz with e | e | e
   ·rw [h.z] at e; simp at e
   ·exact absurd (.inl e) h.nb
   ·have:=h.hi; omega
 ·rcases k.pY y q with e | e
  ·exact h.nb e
  ·have:=h.hi; omega
theorem aws {E0:Env} {A0 A:aw} {B0 B:St} {ρ0 ρ bd:Ren} {w0 w w' : World} {base y cg:Nat} {nK cu:List Value} (h:Ev P base E0 A0 B0 ρ0 w0 E A B ρ w) (hy:Fr E A B B0.next y) (hold:B.get y=some (.row nK cg true none))
  (g:l7 base ρ B w bd (B.put y (.row cu cg true none)) w'):Ev P base E0 A0 B0 ρ0 w0 E A (B.put y (.row cu cg true none)) bd w':=by
 have hs:=h.kA;have BR:∀ x,AR A E x->(B.put y (.row cu cg true none)).get x=B.get x:=fun x q=>by
  rw [St.cz,av];intro e;subst e;exact hy.nb (.inl q)
 have Lf:∀ q,AF A E (B.put y (.row cu cg true none)) q->AF A E B q:=fun q r=>r.of (fun _=>rfl) (fun _ _ e=>e) BR;have hAT:∀ q,AT A E (B.put y (.row cu cg true none)) q->AT A E B q:=fun q r=>r.of (fun _=>rfl) (fun _ _ e=>e) BR fun _ _=>by simp
 refine ⟨⟨?_,?_,?_,hs.apart,hs.inj,hs.kQ,hs.lV,hs.nQ,hs.live,hs.iV,hs.nR,hs.lr,?_,?_,hs.ar.ij (Env.le_refl _) (fun _=>rfl) (fun _ _ e=>e) (fun _ _ e=>e) (aU _) (aU _) BR (fun _ _ e=>.inl e) (fun _ _ e=>.inl e) (fun b g e=>.inl ⟨b,e⟩) (fun _ _=>by simp) hs.mem⟩,h.gN.trans g,h.le,h.next,?_,h.new,h.wH,h.wI,?_,h.oX,fun q r=>h.pw q (Lf q r),?_,fun q r=>h.pY q (hAT q r),?_⟩
 ·intro b cs e hb
  obtain ⟨x,c,h1,h2,h3⟩:=hs.row b cs e hb;refine ⟨x,c,h1,?_,h3⟩;rw [St.cz,av (fun e=>hy.un b (by rw [<- e]; exact h1))];exact h2
 ·intro b top sz hb
  rcases hs.bA b top sz hb with h1 | ⟨q,h1,hp0,h2⟩
  ·exact .inl h1
  ·refine .inr ⟨q,h1,hp0,fun x hx c e own f k hg=>?_⟩
   rw [St.cz] at hg;split at hg
   ·simp at hg
   ·exact h2 x (by simpa using hx) c e own f k hg
 ·intro b r hb
  rw [St.cz,av]
  ·exact hs.z b r hb
  ·intro e
   subst e;rw [hy.z] at hb;simp at hb
 ·intro q hq; rw [St.vN]; exact hs.fresh q hq
 ·intro q x hx; rw [St.vN] at hx; exact hs.mem q x hx
 ·intro x hx hn ha
  rw [St.cz,av (fun e=>by have:=hy.lo; omega)];exact h.ij x hx hn ha
 ·intro q hq hn ha; rw [St.vN]; exact h.su q hq hn ha
 ·intro q x hx; rw [St.vN] at hx; exact h.yC q x hx
 ·intro x hx c e own cp hg
  rw [St.cz,av (fun e=>by have:=hy.lo; omega)] at hg;exact h.rows x hx c e own cp hg
theorem avC {E0:Env} {A0 A:aw} {B0 B:St} {ρ0 ρ:Ren} {w0 w:World} {base y cg:Nat} {cs:List KV} {cu:List Value} (h:Ev P base E0 A0 B0 ρ0 w0 E A B ρ w) (hy:Fr E A B B0.next y) (hold:B.get y=some (.row cu cg true none)) (hv:bC P E cs cu) :
  E.le (E.np A.next y)/\Ev P base E0 A0 B0 ρ0 w0 (E.np A.next y) (A.new (.row cs cg)) B ρ w:=by
 have hs:=h.kA;have hle:E.le (E.np A.next y):=⟨fun _ _ e=>e,fun b x e=>by
  have:=hs.lV b x e;simp only [Env.np]; rw [av (by omega)]; exact e,fun _ _ e=>e,fun _ _ e=>e⟩
 have hA:∀ (b:Nat) (v:KV),(A.new (.row cs cg)).get b=some (.arr v)->A.get b=some (.arr v):=fun b v hb=>by
  rw [aw.dz] at hb;split at hb
  ·simp at hb
  ·exact hb
 have hfz:∀ (b:Nat) (v:KV),(A.new (.row cs cg)).get b=some (.kV v)->A.get b=some (.kV v):=fun b v hb=>by
  rw [aw.dz] at hb;split at hb
  ·simp at hb
  ·exact hb
 have uf:∀ x,AR (A.new (.row cs cg)) (E.np A.next y) x->AR A E x:=fun _ q=>q.of (fun _=>rfl) hA;have Lf:∀ g,AF (A.new (.row cs cg)) (E.np A.next y) B g->AF A E B g:=fun _ q=>q.of (fun _=>rfl) hA fun _ _=>rfl;have hAT:∀ x,AT (A.new (.row cs cg)) (E.np A.next y) B x->AT A E B x:=fun _ q=>q.of (fun _=>rfl) hA (fun _ _=>rfl) fun _ _=>rfl;refine ⟨hle,⟨⟨?_,?_,hs.z,?_,?_,?_,?_,?_,?_,?_,hs.nR,hs.lr,hs.fresh,hs.mem,?_⟩,h.gN,Env.le_trans h.le hle,by have:=h.next; rw [aw.cC]; omega,h.ij,?_,h.wH,h.wI,h.su,fun x q=>h.oX x (uf x q),fun g q=>h.pw g (Lf g q),h.yC,fun x q=>h.pY x (hAT x q),h.rows⟩⟩
 ·intro b nK QG hb
  rw [aw.dz] at hb;split at hb
  ·rename_i e
   simp at hb;obtain ⟨rfl,rfl⟩:=hb;exact ⟨y,cu,by simp [Env.np,e],hold,hv.mono hle⟩
  ·obtain ⟨x,c,h1,h2,h3⟩:=hs.row b nK QG hb
   exact ⟨x,c,hle.κ _ _ h1,h2,h3.mono hle⟩
 ·intro b top Gs hb
  rw [aw.dz] at hb;split at hb
  ·simp at hb
  ·exact hs.bA b top Gs hb
 ·intro b x hb
  simp only [Env.np] at hb ⊢;split at hb
  ·simp at hb; subst hb; exact hy.z
  ·exact hs.apart b x hb
 ·intro b c x hb hc
  simp only [Env.np] at hb hc;split at hb <;> split at hc
  ·omega
  ·simp at hb; subst hb; exact absurd hc (hy.un c)
  ·simp at hc; subst hc; exact absurd hb (hy.un b)
  ·exact hs.inj b c x hb hc
 ·exact Hm.new (E:=E.np A.next y) (fun x z g a b c d e f hx hz=>hs.kQ x z g a b c d e f hx hz) (.inl fun _ _=>by simp)
 ·intro b x hb
  simp only [Env.np] at hb;rw [aw.cC];split at hb
  ·omega
  ·have:=hs.lV b x hb; omega
 ·intro b g hb; have:=hs.nQ b g hb; rw [aw.cC]; omega
 ·intro b o hb
  rw [aw.dz] at hb;rw [aw.cC];split at hb
  ·omega
  ·have:=hs.live b o hb; omega
 ·intro b x hb
  simp only [Env.np] at hb;split at hb
  ·simp at hb; have:=hy.hi; omega
  ·exact hs.iV b x hb
 ·have tD:∀ b,(E.np A.next y).α b=E.α b:=fun _=>rfl
  have JD:∀ c x,(E.np A.next y).κ c=some x->(c=A.next/\x=y)\/E.κ c=some x:=fun c x e=>by
   simp only [Env.np] at e;split at e
   ·rename_i e1; simp at e; exact .inl ⟨e1,e.symm⟩
   ·exact .inr e
  refine ⟨fun b v hb=>(hs.ar.arr b v (hA _ _ hb)).mono hle rfl fun _ _ _ _=>rfl,fun b v hb=>(hs.ar.kV b v (hfz _ _ hb)).mono hle rfl,fun x q=>?_,fun b c v u x L N L' N' h1 h2 h3 h4=>hs.ar.inj b c v u x L N L' N' (hA _ _ h1) (hA _ _ h2) h3 h4,
   fun b c v u x z L N L' N' cs e own g k cu e' rH k' h1 h2 h3 h4 h5 h6=>hs.ar.xH b c v u x z L N L' N' cs e own g k cu e' rH k' (hA _ _ h1) (hA _ _ h2) h3 h4 h5 h6,fun b x e=>?_,fun b p e=>?_,fun b x L N e=>hs.ar.iV b x L N e,fun b v x L N cs e own g k h1 h2 h3=>?_,fun b v hb=>?_⟩
  ·obtain ⟨h1,h2⟩:=hs.ar.z x (uf x q)
   refine ⟨h1,fun c e=>?_⟩;rcases JD c x e with ⟨_,rfl⟩ | e
   ·exact hy.nb (.inl (uf _ q))
   ·exact h2 c e
  ·rcases JD b x e with ⟨rfl,_⟩ | e
   ·cases hb:E.α A.next with
    | none=>exact hb
    | some p=>have:=hs.ar.lV _ p hb; omega
   ·exact hs.ar.dis b x e
  ·have:=hs.ar.lV b p e; rw [aw.cC]; omega
  ·obtain ⟨h4,h5,h6⟩:=hs.ar.vJ b v x L N cs e own g k (hA _ _ h1) h2 h3
   refine ⟨h4,h5,fun z hz de=>?_⟩;obtain ⟨h7,h8,h9⟩:=h6 z hz de;refine ⟨h7,fun q=>h8 (uf z q),fun c e'=>?_⟩;rcases JD c z e' with ⟨_,rfl⟩ | e'
   ·exact hy.nb (.inr ⟨g,⟨b,v,x,L,N,cs,e,own,k,hA _ _ h1,h2,h3⟩,hz⟩)
   ·exact h9 c e'
  ·obtain ⟨h1,h2⟩:=hs.ar.nk b v (hA _ _ hb)
   rw [aw.cC];refine ⟨by omega,?_⟩;cases hk:(E.np A.next y).κ b with
   | none=>rfl
   | some x=>
    rcases JD b x hk with ⟨e,_⟩ | e
    ·omega
    ·rw [h2] at e; simp at e
 ·intro b x hb
  simp only [Env.np] at hb;split at hb
  ·simp at hb; subst hb; exact .inr hy.lo
  ·exact h.new b x hb
theorem apF {cfg:fE} (j9:uZ P cfg.pc) {o:Oper} {p:Operand×List Operand} (hp:Mi o=some p) {t:bO} {A A' : aw} {v:KV} {base:Nat} {B:St} {ρ:Ren} {a:Act} {w:World} {next:Act->World->Prop} {Q:Exit->Act->World->Prop}
  (h:bf (xM (Hl P cfg t p) t A) (v,A')) (hv:∀ x∈p.1::p.2,VC P E ρ (ma t x) (a.eval x)) (hj:KJ P E A B ρ base w)
  (hk:∀ E' B' bd v' w',VC P E' bd v v'->Ev P base E A B ρ w E' A' B' bd w'->next (a.put o.dst v') w'):o.wp P a w next Q:=by
 classical
 have bm:compile P o.op = .call p.1 p.2:=by
  unfold Mi at hp;split at hp
  ·rename_i c ho hg
   split at hp
   ·rename_i d hc
    simp at hp;subst hp;rw [ho];exact aco (cfg:=fE.none) (show nm P fE.none c=_ by unfold nm; rw [hc])
   ·simp at hp
  ·simp at hp
 unfold Hl at h;split at h
 ·rename_i g hfv
  split at h
  ·rename_i F hF
   obtain ⟨u,h1,h2⟩:=bf.map h;simp only [fS] at h2;obtain ⟨rfl,rfl⟩:=h2;obtain ⟨hlen,hf⟩:=bf.cond h1;obtain ⟨hg,mW⟩:=j9 g F hF _ _ hf (bu hlen);have dt:=tz P o;rw [bm] at dt;obtain ⟨em,h3,h4⟩:=mid (xs:=p.1::p.2) hv;obtain ⟨y,ys,e,h5,h6⟩:=h3.cons_inv;simp only [List.map_cons,List.cons.injEq] at e;obtain ⟨rfl,rfl⟩:=e;rw [hfv] at h5;obtain ⟨l,m,e5,e6,e7⟩:=h5.JW;have:=e6.cw;subst this;have:=e7.cw;subst this;obtain ⟨cX,h7,h8⟩:=dt.2 ρ em a.eval g (p.2.map em) h4 hg.1 (by rw [e5]; simp only [yv]; rw [hg.1]; simp) hg.2;unfold Oper.wp;rw [h8 w];refine (mW E A B ρ base w cX ⟨p.2.map em,by rw [uY]; exact h6,h7⟩ hj).mono ?_;rintro e w' ⟨v',E',B',bd,rfl,h9,vV⟩;exact hk E' B' bd v' w' h9 vV
  ·exact h.elim
 ·exact h.elim
inductive acv (P:Program) (cfg:fE) (all:List Oper) (A:aw):List Oper->bO->List Out->bO->Prop where
 | nil {t:bO} : acv P cfg all A [] t [] t
 | cons {o:Oper} {os:List Oper} {t t1 t' : bO} {wd:Bool} {v:KV} {L:List Out}
   (same:∀ i,t1.get i=t.get i) (want:Ob all o t wd)
   (yes:wd=true->(ss all o=true/\v = .ao)\/(ss all o=false/\(bf (xM (cm P cfg o.op) t1 A) (v,A)\/∃ p,Mi o=some p/\bf (xM (Hl P cfg t1 p) t1 A) (v,A)))) (no:wd=false->v=uC/\ss all o=false)
   (rest:acv P cfg all A os (rW t1 o.dst v) L t'):acv P cfg all A (o::os) t ((wd,v,A)::L) t'
theorem tF {o:Oper} {T:TypeId} {d:Tmp} (h:ji o=some (T,d)):o.op = .alloc T/\o.guard=none/\o.dst=some d:=by
 unfold ji at h;split at h
 ·rename_i T' d' h1 h2 h3
  simp at h;obtain ⟨rfl,rfl⟩:=h;exact ⟨h1,h2,h3⟩
 ·simp at h
theorem FU {all:List Oper} {o:Oper} {T:TypeId} {d:Tmp} {x:Operand} (h:uQ all o=some (T,d,x)):o.op = .store T (.tmp d) x/\o.guard=none/\o.dst=none/\y6 d all=true:=by
 unfold uQ at h;split at h
 ·rename_i T' d' x' h1 h2 h3
  cases hb:y6 d' all with
  | false=>rw [hb] at h; simp at h
  | true=>
   rw [hb,ak] at h;simp at h;obtain ⟨rfl,rfl,rfl⟩:=h;exact ⟨h1,h2,h3,hb⟩
 ·simp at h
theorem VY {all:List Oper} {o:Oper} (h:ss all o=true):(∃ T d,ji o=some (T,d))\/∃ T d x,uQ all o=some (T,d,x):=by
 unfold ss at h;simp only [uB,Option.isSome_iff_exists] at h;rcases h with ⟨⟨T,d⟩,h⟩ | ⟨⟨T,d,x⟩,h⟩
 ·exact .inl ⟨T,d,h⟩
 ·exact .inr ⟨T,d,x,h⟩
theorem apG {all:List Oper} {o:Oper} (h:ss all o=true):o.guard=none:=by
 rcases VY h with ⟨T,d,h⟩ | ⟨T,d,x,h⟩
 ·exact (tF h).2.1
 ·exact (FU h).2.1
theorem IA {R:Type} {cfg:fE} {bR:pt R} {all:List Oper} {k:bO->aw->Option R} {r:R} : ∀ {os:List Oper} {t:bO} {A:aw},(∀ o∈os,ss all o=true\/dE (cm P cfg o.op)<=1\/(Mi o).isSome=true)->afL P cfg bR all k os t A=some r->
  ∃ L t',acv P cfg all A os t L t'/\k t' A=some r
 | [],t,A,_,h=>⟨[],t,.nil,h⟩
 | o::os,t,A,hn,h=>by
  have h:apo P cfg bR all o (afL P cfg bR all k os) t A=some r:=h;have NJ:=fun q hq=>hn q (yW o hq);unfold apo at h;cases hb:ss all o with
  | true=>
   rw [hb] at h;have h:afL P cfg bR all k os (rW t o.dst .ao) A=some r:=h;obtain ⟨L,t',h1,h2⟩:=IA NJ h;exact ⟨_,t',.cons (fun _=>rfl) (.inl ⟨apG hb,rfl⟩) (fun _=>.inl ⟨hb,rfl⟩) (fun e=>by simp at e) h1,h2⟩
  | false=>
   rw [hb] at h;cases hdy:Mi o with
   | some p=>
    simp only [hdy] at h;have h:Qy bR t A (fun v A=>afL P cfg bR all k os (rW t o.dst v) A) (Hl P cfg t p)=some r:=h;have hg:o.guard=none:=by
     unfold Mi at hdy;split at hdy
     ·assumption
     ·simp at hdy
    have aq9:Hl P cfg t p = .bad\/∃ g f,Hl P cfg t p = .Eg g f p.2:=by
     unfold Hl;split
     ·split
      ·exact .inr ⟨_,_,rfl⟩
      ·exact .inl rfl
     ·exact .inl rfl
    obtain ⟨v,A1,h1,h2⟩:=J0 (fun f args e=>by
     rcases aq9 with h | ⟨g,f',h⟩ <;> rw [h] at e <;> simp at e) h
    have e:A1=A:=by
     rcases aq9 with h | ⟨g,f',h⟩
     ·rw [h] at h1; exact h1.elim
     ·rw [h] at h1
      obtain ⟨u,_,h3⟩:=bf.map h1;simp at h3;exact h3.2.symm
    subst e;obtain ⟨L,t',h3,h4⟩:=IA NJ h2;exact ⟨_,t',.cons (fun _=>rfl) (.inl ⟨hg,rfl⟩) (fun _=>.inr ⟨hb,.inr ⟨p,hdy,h1⟩⟩) (fun e=>by simp at e) h3,h4⟩
   | none=>
   simp only [hdy] at h;have hk:dE (cm P cfg o.op)<=1:=by
    rcases hn o (by simp) with e | e | e
    ·rw [hb] at e; simp at e
    ·exact e
    ·rw [hdy] at e; simp at e
   have hk3:Nat.ble 3 (dE (cm P cfg o.op))=false:=by
    cases hc:Nat.ble 3 (dE (cm P cfg o.op)) with
    | false=>rfl
    | true=>have:=fR hc; omega
   have hnc:=Es (P:=P) (cfg:=cfg) (o:=o) (by omega);have h:BQ P cfg bR all o (afL P cfg bR all k os) t A=some r:=h;unfold BQ at h;cases hg:o.guard with
   | none=>
    rw [hg] at h;obtain ⟨v,A1,h1,h2⟩:=J0 hnc h;have e:=Er h1 hk3;subst e;obtain ⟨L,t',h3,h4⟩:=IA NJ h2;exact ⟨_,t',.cons (fun _=>rfl) (.inl ⟨hg,rfl⟩) (fun _=>.inr ⟨hb,.inl h1⟩) (fun e=>by simp at e) h3,h4⟩
   | some p=>
    obtain ⟨j,want⟩:=p;rw [hg] at h;obtain ⟨d,hd,h⟩:=Oa h;rcases h with ⟨b,t1,h1,h2,h3⟩ | ⟨l,h1,h2⟩
    ·rcases h3 with ⟨h3,h4⟩ | ⟨h3,h4⟩
     ·obtain ⟨v,A1,h5,h6⟩:=J0 hnc h4
      have e:=Er h5 hk3;subst e;obtain ⟨L,t',h7,h8⟩:=IA NJ h6;exact ⟨_,t',.cons h2 (.inr ⟨j,want,d,hg,hd,.inl ⟨b,h1,h3.symm⟩⟩) (fun _=>.inr ⟨hb,.inl h5⟩) (fun e=>by simp at e) h7,h8⟩
     ·obtain ⟨L,t',h7,h8⟩:=IA NJ h4
      exact ⟨_,t',.cons h2 (.inr ⟨j,want,d,hg,hd,.inl ⟨b,h1,h3.symm⟩⟩) (fun e=>by simp at e) (fun _=>⟨rfl,hb⟩) h7,h8⟩
    ·obtain ⟨L,t',h7,h8⟩:=IA NJ h2
     exact ⟨_,t',.cons (fun _=>rfl) (.inr ⟨j,want,d,hg,hd,.inr ⟨l,h1,rfl⟩⟩) (fun e=>by simp at e) (fun _=>⟨rfl,hb⟩) h7,h8⟩
theorem acv.at {cfg:fE} {all:List Oper} {A:aw} : ∀ {os:List Oper} {t t' : bO} {L:List Out},acv P cfg all A os t L t'->
  L.length=os.length/\(∀ y,t'.get y=(kb (fun _=>true) os L 0 t).get y)/\
  ∀ i o x,os[i]? = some o->L[i]? = some x->∃ t1,(∀ y,t1.get y=(kb (fun j=>Nat.blt j i) os L 0 t).get y)/\Ob all o t1 x.1/\(x.1=true->(ss all o=true/\x.2.1 = .ao)\/(ss all o=false/\(bf (xM (cm P cfg o.op) t1 A) (x.2.1,A)\/∃ p,Mi o=some p/\bf (xM (Hl P cfg t1 p) t1 A) (x.2.1,A))))/\(x.1=false->x.2.1=uC/\ss all o=false)
 | _,_,_,_,.nil=>⟨rfl,fun _=>rfl,fun i o x ho=>by simp at ho⟩
 | o::os,t,t',(wd,v,_)::L,.cons (t1:=t1) same want yes no rest=>by
  obtain ⟨h1,h2,h4⟩:=rest.at;have XY:∀ y,(rW t1 o.dst v).get y=(rW t o.dst v).get y:=fun y=>by rw [u5,u5,same]
  refine ⟨by simp [h1],fun y=>?_,fun i q x hq hx=>?_⟩
  ·rw [h2 y]
   simp only [kb,ak];rw [Ep];exact ns (XY y) fun _ _ _ _=>rfl
  ·cases i with
   | zero=>
    simp at hq hx;subst hq hx;have e0:∀ (os:List Oper) (L:List Out) (k:Nat) (t:bO),kb (fun j=>Nat.blt j 0) os L k t=t:=by
     intro os
     induction os with
     | nil=>intro L k t; cases L <;> rfl
     | cons o os ih=>intro L k t; cases L with
      | nil=>rfl
      | cons x L=>simp only [kb]; exact ih L _ t
    refine ⟨t1,fun y=>by rw [e0]; exact same y,?_,yes,no⟩;rcases want with h | ⟨j,wt,d,e2,e3,e4⟩
    ·exact .inl h
    ·exact .inr ⟨j,wt,d,e2,e3,by rw [same]; exact e4⟩
   | succ i=>
    obtain ⟨t2,h5,h6,h7,h8⟩:=h4 i q x (by simpa using hq) (by simpa using hx);have hsh:(fun j=>Nat.blt (j+1) (i+1))=fun j=>Nat.blt j i:=by
     funext j;cases hb:Nat.blt j i with
     | true=>rw [cq] at hb ⊢; omega
     | false=>
      cases hc:Nat.blt (j+1) (i+1) with
      | false=>rfl
      | true=>rw [cq] at hc; rw [show Nat.blt j i=true from by rw [cq]; omega] at hb; simp at hb
    have h01:Nat.blt 0 (i+1)=true:=by rw [cq]; omega
    refine ⟨t2,fun y=>?_,h6,h7,h8⟩;rw [h5 y];simp only [kb,h01,ak];rw [Ep,hsh];exact ns (XY y) fun _ _ _ _=>rfl
theorem IB {cfg:fE} {all:List Oper} {b:List Nat} {i:Nat} {y:Oper} : ∀ (xs:List Oper) (k:Nat),HY P cfg all b i y xs k=true->∀ (j:Nat) (x:Oper),xs[j]? = some x->k+j < i->vU P cfg all x y=true->rV b i (k+j)=true
 | [],k,_,j,x,hx,_,_=>by simp at hx
 | x0::xs,k,h,0,x,hx,bG,hc=>by
  simp at hx;subst hx;simp only [HY,aA,uB,mw] at h;rcases h.1 with (h1 | h1) | h1
  ·have:=fR h1; omega
  ·rw [hc] at h1; simp at h1
  ·exact h1
 | x0::xs,k,h,j+1,x,hx,bG,hc=>by
  simp only [HY,aA] at h;have:=IB xs (k+1) h.2 j x (by simpa using hx) (by omega) hc;rwa [show k+1+j=k+(j+1) by omega] at this
theorem Eu {cfg:fE} {all:List Oper} {b:List Nat} : ∀ (os:List Oper) (k:Nat),Cg P cfg all b os k=true->∀ (i:Nat) (o:Oper),os[i]? = some o->HY P cfg all b (k+i) o all 0=true
 | [],k,_,i,o,ho=>by simp at ho
 | o0::os,k,h,0,o,ho=>by
  simp at ho;subst ho;simp only [Cg,aA] at h;exact h.1
 | o0::os,k,h,i+1,o,ho=>by
  simp only [Cg,aA] at h;have:=Eu os (k+1) h.2 i o (by simpa using ho);rwa [show k+1+i=k+(i+1) by omega] at this
theorem Uc {i:Nat} {d:Tmp} : ∀ (os:List Oper) (k:Nat),Mh i d os k=true->∀ (j:Nat) (o:Oper),os[j]? = some o->k+j≠i->o.dst≠some d
 | [],k,_,j,o,ho,_=>by simp at ho
 | q::os,k,h,0,o,ho,de=>by
  simp at ho;subst ho;simp only [Mh,aA,uB,mw] at h;rcases h.1 with h1 | h1
  ·exact absurd (bu h1) (by simpa using de)
  ·intro e
   rw [e,C5 (by simp)] at h1;simp at h1
 | q::os,k,h,j+1,o,ho,de=>by
  simp only [Mh,aA] at h;exact Uc os (k+1) h.2 j o (by simpa using ho) (by omega)
theorem Pk {all:List Oper} {i:Nat} {d:Tmp} : ∀ (os:List Oper) (k:Nat),Ek all i d os k=true->∀ (j:Nat) (o:Oper),os[j]? = some o->k+j≠i->∀ T x,uQ all o≠some (T,d,x)
 | [],k,_,j,o,ho,_=>by simp at ho
 | q::os,k,h,0,o,ho,de=>by
  simp at ho;subst ho;simp only [Ek,aA,uB] at h;intro T x e;rcases h.1 with h1 | h1
  ·exact absurd (bu h1) (by simpa using de)
  ·rw [e] at h1
   simp at h1
 | q::os,k,h,j+1,o,ho,de=>by
  simp only [Ek,aA] at h;exact Pk os (k+1) h.2 j o (by simpa using ho) (by omega)
theorem QT {d:Tmp} : ∀ {os:List Oper},y6 d os=true->∃ (j:Nat) (o:Oper) (T:TypeId),os[j]? = some o/\ji o=some (T,d)
 | [],h=>by simp [y6] at h
 | o::os,h=>by
  simp only [y6,uB] at h;rcases h with h | h
  ·split at h
   ·rename_i T e he
    have:=bu h;subst this;exact ⟨0,o,T,rfl,he⟩
   ·simp at h
  ·obtain ⟨j,q,T,h1,h2⟩:=QT h
   exact ⟨j+1,q,T,by simpa using h1,h2⟩
structure aky (P:Program) (cfg:fE) (all:List Oper):Prop where
 ord:agd P cfg all
 kind:∀ o∈all,ss all o=true\/dE (cm P cfg o.op)<=1\/(Mi o).isSome=true
 dst:∀ (i:Nat) (o:Oper) (T:TypeId) (d:Tmp),all[i]? = some o->ji o=some (T,d)->∀ (j:Nat) (q:Oper),all[j]? = some q->j≠i->q.dst≠some d
 st:∀ (i:Nat) (o:Oper) (T:TypeId) (d:Tmp) (x:Operand),all[i]? = some o->uQ all o=some (T,d,x)->yA i x all 0=true/\(∀ (j:Nat) (q:Oper),all[j]? = some q->j≠i->∀ T' x',uQ all q≠some (T',d,x'))/\(∃ (j:Nat) (q:Oper) (T' : TypeId),j < i/\all[j]? = some q/\ji q=some (T',d))/\x≠.tmp d
theorem QU {all:List Oper} : ∀ (os:List Oper) (k:Nat),Qz all os k=true->∀ (i:Nat) (o:Oper),os[i]? = some o->
  (∀ T d,ji o=some (T,d)->Mh (k+i) d all 0=true)/\∀ T d x,uQ all o=some (T,d,x)->yA (k+i) x all 0=true/\Ek all (k+i) d all 0=true/\y6 d (all.take (k+i))=true/\x≠.tmp d
 | [],k,_,i,o,ho=>by simp at ho
 | o0::os,k,h,0,o,ho=>by
  simp at ho;subst ho;simp only [Qz,aA] at h;refine ⟨fun T d e=>?_,fun T d x e=>?_⟩
  ·have:=h.1.1
   rw [e] at this;exact this
  ·have:=h.1.2
   rw [e] at this;simp only [aA,mw] at this;refine ⟨this.1.1.1,this.1.1.2,this.1.2,fun e2=>?_⟩;have h3:=this.2;rw [e2,C5 (by simp [tw])] at h3;simp at h3
 | o0::os,k,h,i+1,o,ho=>by
  simp only [Qz,aA] at h;have:=QU os (k+1) h.2 i o (by simpa using ho);rwa [show k+1+i=k+(i+1) by omega] at this
theorem anK {cfg:fE} {all:List Oper} (h:XL P cfg all=true):aky P cfg all:=by
 unfold XL at h;simp only [aA] at h;obtain ⟨⟨⟨h1,h2⟩,h3⟩,h4⟩:=h;refine ⟨⟨Gq h1,fun {i j x y} hy hx bG hc=>?_⟩,fun o ho=>?_,fun i o T d ho he j q hq de=>?_,fun i o T d x ho he=>?_⟩
 ·have:=Eu all 0 h3 i y hy
  rw [bM] at this;have:=IB all 0 this j x hx (by omega) hc;rwa [bM] at this
 ·have:=ig.1 h2 o ho
  simp only [uB] at this;rcases this with (h | h) | h
  ·exact .inl h
  ·exact .inr (.inl (fR h))
  ·exact .inr (.inr h)
 ·have:=(QU all 0 h4 i o ho).1 T d he
  rw [bM] at this;exact Uc all 0 this j q hq (by omega)
 ·have:=(QU all 0 h4 i o ho).2 T d x he
  rw [bM] at this;refine ⟨this.1,fun j q hq de T' x'=>Pk all 0 this.2.1 j q hq (by omega) T' x',?_,this.2.2.2⟩;obtain ⟨j,q,T',h5,h6⟩:=QT this.2.2.1;rw [pF] at h5;split at h5
  ·rename_i bG; exact ⟨j,q,T',bG,h5,h6⟩
  ·simp at h5
theorem Fj {all:List Oper} {d:Tmp} {T:TypeId} {x:Operand} : ∀ {os:List Oper},uR all d os=some (T,x)->∃ (i:Nat) (o:Oper),os[i]? = some o/\uQ all o=some (T,d,x)
 | [],h=>by simp [uR] at h
 | o::os,h=>by
  unfold uR at h;split at h
  ·rename_i T' e x' he
   cases hb:Nat.beq d e with
   | true=>
    rw [hb,ak] at h;have:=bu hb;subst this;simp at h;obtain ⟨rfl,rfl⟩:=h;exact ⟨0,o,rfl,he⟩
   | false=>
    rw [hb,ba] at h;obtain ⟨i,q,h1,h2⟩:=Fj h;exact ⟨i+1,q,by simpa using h1,h2⟩
  ·obtain ⟨i,q,h1,h2⟩:=Fj h
   exact ⟨i+1,q,by simpa using h1,h2⟩
theorem Fk {all:List Oper} {d:Tmp} : ∀ {os:List Oper},uR all d os=none->∀ (i:Nat) (o:Oper),os[i]? = some o->∀ T x,uQ all o≠some (T,d,x)
 | [],_,i,o,ho=>by simp at ho
 | q::os,h,i,o,ho=>by
  unfold uR at h;intro T x e;split at h
  ·rename_i T' e' x' he
   cases hb:Nat.beq d e' with
   | true=>rw [hb] at h; simp at h
   | false=>
    rw [hb,ba] at h;cases i with
    | zero=>
     simp at ho;subst ho;rw [he] at e;simp at e;rw [e.2.1,yX] at hb;simp at hb
    | succ i=>exact Fk h i o (by simpa using ho) T x e
  ·rename_i hn
   cases i with
   | zero=>simp at ho; subst ho; rw [hn] at e; simp at e
   | succ i=>exact Fk h i o (by simpa using ho) T x e
theorem IC {all:List Oper} {t:bO} {T:TypeId} {d:Tmp} {cs:List KV} (h:y7 P all t T d=some cs):∃ z,vL P T=some z/\flat z=true/\z.cells.toList.all scalar=true/\jL (iG z).cells=true/\some (iG z).cells.length=size? P T/\
  (∀ T' x,uR all d all=some (T',x)->T=T'/\some (ma t x).cells.length=size? P T/\jL (ma t x).cells=true/\cs=(ma t x).cells)/\(uR all d all=none->cs=(iG z).cells):=by
 unfold y7 at h;split at h
 ·rename_i z hz
  cases hb:(flat z&&z.cells.toList.all scalar&&jL (iG z).cells&&decide (some (iG z).cells.length=size? P T)) with
  | false=>rw [hb] at h; simp at h
  | true=>
   rw [hb,ak] at h;simp only [aA,o5] at hb;refine ⟨z,hz,hb.1.1.1,hb.1.1.2,hb.1.2,hb.2,fun T' x hs=>?_,fun hs=>?_⟩
   ·rw [hs] at h
    simp only at h;cases hc:(Nat.beq T T'&&decide (some (ma t x).cells.length=size? P T)&&jL (ma t x).cells) with
    | false=>rw [hc] at h; simp at h
    | true=>
     rw [hc,ak] at h;simp only [aA,o5] at hc;exact ⟨bu hc.1.1,hc.1.2,hc.2,by simpa using h.symm⟩
   ·rw [hs] at h
    simpa using h.symm
 ·simp at h
theorem VZ {R:Type} {all:List Oper} {t0:bO} {k:bO->aw->Option R} {r:R} : ∀ {os:List Oper} {t:bO} {A:aw},acf P all t0 k os t A=some r->∀ o∈os,∀ T d,ji o=some (T,d)->∃ cs,y7 P all t0 T d=some cs
 | [],_,_,_,o,ho,_,_,_=>by simp at ho
 | q::os,t,A,h,o,ho,T,d,he=>by
  have h:Option.rec (motive:=fun _=>Option R) (acf P all t0 k os t A) (fun p=>
   Option.rec (motive:=fun _=>Option R) none (fun cs=>acf P all t0 k os (t.set (.ptr A.next 0) p.2) (A.new (.row cs (pJ P p.1)))) (y7 P all t0 p.1 p.2)) (ji q)=some r:=h
  cases hq:ji q with
  | none=>
   rw [hq] at h;rcases fA.1 ho with rfl | ho
   ·rw [hq] at he; simp at he
   ·exact VZ h o ho T d he
  | some p=>
   rw [hq] at h;cases hc:y7 P all t0 p.1 p.2 with
   | none=>simp only [hc] at h; exact absurd h (by simp)
   | some cs=>
    simp only [hc] at h;rcases fA.1 ho with rfl | ho
    ·rw [hq] at he
     simp at he;subst he;exact ⟨cs,hc⟩
    ·exact VZ h o ho T d he
end Go.K
end
section
namespace Go.K
open Go Go.aB
variable {P:Program} {E:Env}
theorem acw:∀ {l vs:List Value},l.length=vs.length->jJ 0 l vs=some vs
 | [],[],_=>rfl
 | [],_::_,h=>by simp at h
 | _::_,[],h=>by simp at h
 | x::l,v::vs,h=>by rw [yq,acw (by simpa using h)]; rfl
theorem ae0 {a:Act} {d:Tmp} {v:Value} (h:d < a.tmps.size):(a.put (some d) v).tmps.getD d undef=v:=by
 simp [Act.put,jB,h]
theorem ae1 {a:Act} {dst:Option Tmp} {d:Tmp} {v:Value} (h:dst≠some d):(a.put dst v).tmps.getD d undef=a.tmps.getD d undef:=by
 cases dst with
 | none=>rfl
 | some e=>
  have de:e≠d:=fun q=>h (by rw [q]);simp [Act.put,jB,Array.getElem?_setIfInBounds_ne de]
def awt (P:Program) (E:Env) (all:List Oper) (tn:bO) (S:Nat->Bool) (T:TypeId) (d:Tmp) (cu:List Value):Prop:=
 some cu.length=size? P T/\(∀ (i:Nat) (o:Oper) T' x,all[i]? = some o->uQ all o=some (T',d,x)->S i=true->bC P E (ma tn x).cells cu)/\
  ((∀ (i:Nat) (o:Oper) T' x,all[i]? = some o->uQ all o=some (T',d,x)->S i=false)->∃ z,vL P T=some z/\bC P E (iG z).cells cu)
def ae2 (P:Program) (E:Env) (A:aw) (B:St) (ρ:Ren) (b0:Nat) (all:List Oper) (tn:bO) (S:Nat->Bool) (a:Act) (y:Nat->Nat):Prop:=
 ∀ (j:Nat) (o:Oper) (T:TypeId) (d:Tmp),all[j]? = some o->ji o=some (T,d)->S j=true->
  VR ρ (H9 (y j)) (a.tmps.getD d undef)/\Fr E A B b0 (y j)/\(∃ cu,B.get (y j)=some (.row cu (pJ P T) true none)/\awt P E all tn S T d cu)/\
  ∀ (j' : Nat) (o' : Oper) (T' : TypeId) (d' : Tmp),all[j']? = some o'->ji o' = some (T',d')->S j' = true->y j' = y j->j' = j
theorem Lh {all:List Oper} {o:Oper} {T:TypeId} {d:Tmp} (h:ji o=some (T,d)):uQ all o=none:=by
 cases hb:uQ all o with
 | none=>rfl
 | some p=>
  obtain ⟨T',d',x⟩:=p;have h1:=(tF h).1;have h2:=(FU hb).1;rw [h1] at h2;simp at h2
theorem jr {S:Nat->Bool} {i j:Nat} (h:j≠i):cY S i j=S j:=by
 unfold cY;cases hb:Nat.beq j i with
 | false=>simp
 | true=>exact absurd (bu hb) h
theorem Cm {S:Nat->Bool} {i:Nat} : cY S i i=true:=by simp [cY]
theorem ae2.step {E' : Env} {A:aw} {B B' : St} {ρ bd:Ren} {base b0:Nat} {w w' : World} {all:List Oper} {tn:bO} {S:Nat->Bool} {a:Act} {y:Nat->Nat} {i:Nat} {o:Oper} {v' : Value} {cfg:fE} (h:ae2 P E A B ρ b0 all tn S a y) (hf:aky P cfg all)
  (ho:all[i]? = some o) (hb:ss all o=false) (k:Ev P base E A B ρ w E' A B' bd w') (mz:ρ.le bd):ae2 P E' A B' bd b0 all tn (cY S i) (a.put o.dst v') y:=by
 intro j q T d hq he hS;have de:∀ (m:Nat) (q:Oper),all[m]? = some q->ss all q=true->m≠i:=fun m q hm A6 e=>by
  subst e;rw [ho] at hm;simp at hm;subst hm;rw [hb] at A6;simp at A6
 have hal:∀ {q:Oper} {T:TypeId} {d:Tmp},ji q=some (T,d)->ss all q=true:=fun e=>by unfold ss; rw [e]; rfl
 have gQ:∀ {q:Oper} {T:TypeId} {d:Tmp} {x:Operand},uQ all q=some (T,d,x)->ss all q=true:=fun e=>by unfold ss; rw [e]; simp
 have hji:=de j q hq (hal he);rw [jr hji] at hS;obtain ⟨h1,h2,⟨cu,h3,h4,h5,h6⟩,h7⟩:=h j q T d hq he hS;obtain ⟨h8,h9⟩:=h2.step k;refine ⟨?_,h8,⟨cu,by rw [h9]; exact h3,h4,fun m q' T' x hm V1 hSm=>?_,fun hn=>?_⟩,fun j' o' T' d' BO K6 hS'=>?_⟩
 ·rw [ae1 (hf.dst j q T d hq he i o ho (Ne.symm hji))]
  exact h1.mono mz
 ·rw [jr (de m q' hm (gQ V1))] at hSm
  exact (h5 m q' T' x hm V1 hSm).mono k.le
 ·obtain ⟨z,vV,JF⟩:=h6 fun m q' T' x hm V1=>by
   have:=hn m q' T' x hm V1;rwa [jr (de m q' hm (gQ V1))] at this
  exact ⟨z,vV,JF.mono k.le⟩
 ·rw [jr (de j' o' BO (hal K6))] at hS'
  exact h7 j' o' T' d' BO K6 hS'
theorem V2 {R:Type} {all:List Oper} {tn:bO} {k:bO->aw->Option R} {r:R} {E0:Env} {A0:aw} {B0 B:St} {ρ0 ρ:Ren} {w0 w:World} {base N:Nat} {a:Act} {y:Nat->Nat} : ∀ (os:List Oper) (m:Nat) (t:bO) (E:Env) (A:aw),all.drop m=os->acf P all tn k os t A=some r->
  Ev P base E0 A0 B0 ρ0 w0 E A B ρ w->lK P E ρ t N a->(∀ (j:Nat) (o:Oper) T d,m<=j->all[j]? = some o->ji o=some (T,d)->d < N)->
  (∀ (j:Nat) (o:Oper) (T:TypeId) (d:Tmp),m<=j->all[j]? = some o->ji o=some (T,d)->VR ρ (H9 (y j)) (a.tmps.getD d undef)/\Fr E A B B0.next (y j)/\(∀ cs,y7 P all tn T d=some cs->∃ cu,B.get (y j)=some (.row cu (pJ P T) true none)/\bC P E cs cu)/\
   ∀ (j' : Nat) (o' : Oper) (T' : TypeId) (d' : Tmp),m<=j'->all[j']? = some o'->ji o' = some (T',d')->y j' = y j->j' = j)->
  ∃ t' E' A',k t' A' = some r/\lK P E' ρ t' N a/\Ev P base E0 A0 B0 ρ0 w0 E' A' B ρ w
 | [],m,t,E,A,_,h,yG,ht,_,_=>⟨t,E,A,h,ht,yG⟩
 | o::os,m,t,E,A,hd,h,yG,ht,hN,hb=>by
  have ho:all[m]? = some o:=by
   have:(all.drop m)[0]? = some o:=by rw [hd]; rfl
   rw [pQ] at this;simpa using this
  have hd' : all.drop (m+1)=os:=by rw [<- List.drop_drop,hd]; rfl
  have h:Option.rec (motive:=fun _=>Option R) (acf P all tn k os t A) (fun p=>
   Option.rec (motive:=fun _=>Option R) none (fun cs=>acf P all tn k os (t.set (.ptr A.next 0) p.2) (A.new (.row cs (pJ P p.1)))) (y7 P all tn p.1 p.2)) (ji o)=some r:=h
  cases hq:ji o with
  | none=>
   rw [hq] at h;exact V2 (y:=y) os (m+1) t E A hd' h yG ht (fun j o' T d hj=>hN j o' T d (by omega)) fun j o' T d hj ho' he=>by
    obtain ⟨h1,h2,h3,h4⟩:=hb j o' T d (by omega) ho' he;exact ⟨h1,h2,h3,fun j' o'' T' d' BO=>h4 j' o'' T' d' (by omega)⟩
  | some p=>
   obtain ⟨T,d⟩:=p;rw [hq] at h;cases hc:y7 P all tn T d with
   | none=>simp only [hc] at h; exact absurd h (by simp)
   | some cs=>
    simp only [hc] at h;obtain ⟨h1,h2,h3,h4⟩:=hb m o T d (aU m) ho hq;obtain ⟨cu,h5,h6⟩:=h3 cs hc;obtain ⟨hle,awu⟩:=avC (cs:=cs) yG h2 h5 h6;have JD:(E.np A.next (y m)).κ A.next=some (y m):=by simp [Env.np]
    refine V2 (y:=y) os (m+1) _ (E.np A.next (y m)) (A.new (.row cs (pJ P T))) hd' h awu ⟨ht.size,fun i=>?_,fun i hi=>?_⟩ (fun j o' T d hj=>hN j o' T d (by omega)) fun j o' T' d' hj ho' he=>?_
    ·rw [Trie.qT]
     by_cases hid:i=d
     ·subst hid
      rw [aY rfl];exact ⟨_,.BM JD,h1⟩
     ·rw [av hid]
      exact (ht.val i).mono hle (fun _ _ e=>e)
    ·rw [Trie.qT,av]
     ·exact ht.none i hi
     ·intro e
      subst e;exact absurd (hN m o T i (aU m) ho hq) (Nat.not_lt_of_le hi)
    ·obtain ⟨g1,g2,g3,g4⟩:=hb j o' T' d' (by omega) ho' he
     have awv:y j≠y m:=fun e=>by have:=h4 j o' T' d' (by omega) ho' he e; omega
     refine ⟨g1,⟨g2.lo,g2.hi,fun b e=>?_,g2.z,fun q=>?_⟩,fun nK hc0=>?_,fun j' o'' T'' d'' BO=>g4 j' o'' T'' d'' (by omega)⟩
     ·simp only [Env.np] at e
      split at e
      ·simp at e; exact awv e.symm
      ·exact g2.un b e
     ·have hA:∀ (b:Nat) (v:KV),(A.new (.row cs (pJ P T))).get b=some (.arr v)->A.get b=some (.arr v):=fun b v hb=>by
       rw [aw.dz] at hb;split at hb
       ·simp at hb
       ·exact hb
      exact g2.nb (q.of (fun _=>rfl) hA (fun _ _=>rfl) fun _ _=>rfl)
     ·obtain ⟨rf,g5,g6⟩:=g3 nK hc0
      exact ⟨rf,g5,g6.mono hle⟩
theorem anL {R:Type} {cfg:fE} {bR:pt R} (j9:uZ P cfg.pc) (hm:P.follows .mixedOrders=true) {id:Nat} {all:List Oper} {N base:Nat} (hdN:all.all (KU N)=true) {k:bO->aw->Option R} {r:R} {t:bO} {A:aw} {B:St} {ρ:Ren} {a:Act} {w:World} {Q:Exit->Act->World->Prop}
  (Mv:XL P cfg all=true) (h:afL P cfg bR all (fun t A=>acf P all t k all t A) all t A=some r) (ht:lK P E ρ t N a) (hj:KJ P E A B ρ base w)
  (hq:∀ t' E' A' B' bd a' w',k t' A' = some r->lK P E' bd t' N a'->a'.defers=a.defers->Ev P base E A B ρ w E' A' B' bd w'->Q .normal a' w'):(Code.region id ⟨all⟩ true).wp P Q a w:=by
 classical
 have hf:=anK Mv;obtain ⟨L,tn,mW,hk⟩:=IA hf.kind h;obtain ⟨hlen,S9,CQ⟩:=mW.at;have vP:=VZ hk;have QS:Ev P base E A B ρ w E A B ρ w.drew:=(dR.refl hj.k).ev (l7.drew hj.s);have Iy:∀ (i:Nat) (o:Oper),all[i]? = some o->∀ d,o.dst=some d->d < N:=by
  intro i o ho d ed;have:=ig.1 hdN o (jC ho);unfold KU at this;rw [ed] at this;simp only at this;rw [cq] at this;exact this
 refine wp_region_any hm ?_;show wpAny P .any ⟨all⟩ Q all.length (Array.replicate all.length false) a w.drew;have Gt:∀ i,(Array.replicate all.length false).getD i false=false:=by
  intro i;rw [jB,Array.getElem?_replicate];split <;> rfl
 let Inv:(Nat->Bool)->Act->World->Prop:=fun S a' w'=>∃ E' B' bd y,a'.defers=a.defers/\Ev P base E A B ρ w.drew E' A B' bd w'/\lK P E' bd (kb S all L 0 t) N a'/\ae2 P E' A B' bd B.next all tn S a' y
 refine Hk hf.ord.reg Inv ?_ ?_ ?_ all.length _ a w.drew (by simp) ?_ (fun i j hi _=>by
   have h2:(Array.replicate all.length false).getD i false=true:=hi;rw [Gt] at h2; simp at h2) ⟨E,B,ρ,fun _=>0,rfl,.refl hj.k QS.gN.kA,?_,?_⟩
 ·
  rintro S S' a' w' hSS ⟨E',B',bd,y,h1,h2,h3,h4⟩;have hS:∀ (i:Nat) (o:Oper),all[i]? = some o->S i=S' i:=fun i o ho=>hSS i (dq.1 ho).1;refine ⟨E',B',bd,y,h1,h2,h3.same fun z=>ns rfl fun i o ho _=>by rw [bM]; exact (hS i o ho).symm,fun j o T d ho he Ta=>?_⟩;obtain ⟨q1,q2,⟨cu,q3,q4,q5,q6⟩,q7⟩:=h4 j o T d ho he (by rw [hS j o ho]; exact Ta);exact ⟨q1,q2,⟨cu,q3,q4,fun m q T' x hm V1 hSm=>q5 m q T' x hm V1 (by rw [hS m q hm]; exact hSm),fun hn=>q6 fun m q T' x hm V1=>by rw [hS m q hm]; exact hn m q T' x hm V1⟩,fun j' o' T' d' BO K6 hS'=>q7 j' o' T' d' BO K6 (by rw [hS j' o' BO]; exact hS')⟩
 ·
  rintro S a' w' i o ⟨E',B',bd,y,h1,h2,h3,h4⟩ hc ho rM yx _;have hi:i < L.length:=by rw [hlen]; exact (dq.1 ho).1
  have hx:L[i]? = some L[i]:=dr hi;obtain ⟨t1,za,hw,anJ,hno⟩:=CQ i o L[i] ho hx;have Et:∀ z∈pb P cfg all o,t1.get z=(kb S all L 0 t).get z:=fun z hz=>by rw [za z,agf hf.ord hc ho rM yx hz]
  have Oe:=FT h3 (fun z hz=>Et z (by unfold pb; exact List.mem_append_left _ hz)) hw;have hoA:(⟨all⟩:Array Oper)[i]? = some o:=by simpa using ho
  unfold wpOp;rw [hoA];simp only [Oe];cases Ho:L[i].1 with
  | false=>
   simp only [JK,if_false];obtain ⟨hv,hnb⟩:=hno Ho;refine ⟨E',B',bd,y,by rw [put_defers]; exact h1,h2,?_,h4.step hf ho hnb (.refl h2.kA h2.gN.kA) (fun _ _ e=>e)⟩;refine (h3.put (Iy i o ho) VC.undef).same fun z=>?_;rw [Mu hf.ord hc ho hx rM z,hv]
  | true=>
   simp only [if_true];refine .inl ?_;rcases anJ Ho with ⟨V1,hv⟩ | ⟨hnb,hg⟩
   ·rcases VY V1 with ⟨T,d,he⟩ | ⟨T,d,x,he⟩
    ·
     obtain ⟨e1,e2,e3⟩:=tF he;obtain ⟨cs,K0⟩:=vP o (jC ho) T d he;obtain ⟨z,hz1,Ij,hz3,hz4,hz5,_⟩:=IC K0;have bm:compile P o.op = .make (Nv P T) []:=by rw [e1]; rfl
     obtain ⟨yD,v',w2,hr1,yp,hr3⟩:=aaH (em:=fun _=>undef) (dc:=a'.eval) (obj:=Hf (pJ P T) z) (mk:=H9) bm h2.gN.kA (fun x hx=>by simp at hx) (by simp only [Nv,hz1,fy,Ij,hz3,dk,ak]);unfold Oper.wp;rw [hr1];have fZ:d < a'.tmps.size:=by rw [h3.size]; exact Iy i o ho d e3
     have hnx:=h2.gN.next;have mz:=hr3.le h2.gN.kA;have gQ:=awr (cu:=z.cells.toList) (cg:=pJ P T) h2.kA;have yG:Ev P base E' A B' bd w' E' A (B'.new (Hf (pJ P T) z)) yD w2:=gQ.ev hr3;refine ⟨E',B'.new (Hf (pJ P T) z),yD,fun m=>if m=i then B'.next else y m,by rw [put_defers]; exact h1,h2.trans yG,?_,fun j q U c hq Ma hS=>?_⟩
     ·refine ((h3.mono (Env.le_refl _) mz).put (v:=.ao) (Iy i o ho) ⟨.chan none,.uW,by simp [VR]⟩).same fun z=>?_
      rw [Mu hf.ord hc ho hx rM z,hv]
     ·have hold:∀ (m:Nat) (q:Oper) (U:TypeId) (c:Tmp),all[m]? = some q->ji q=some (U,c)->cY S i m=true->m≠i->S m=true:=fun m q U c _ _ hS de=>by rwa [jr de] at hS
      have aaO:∀ (m:Nat) (q:Oper) (U:TypeId) (c:Tmp) (x:Operand),all[m]? = some q->uQ all q=some (U,c,x)->m≠i:=fun m q U c x hm A6 e=>by
       subst e;rw [ho] at hm;simp at hm;subst hm;rw [Lh he] at A6;simp at A6
      by_cases hji:j=i
      ·subst hji
       rw [ho] at hq;simp at hq;subst hq;rw [he] at Ma;simp at Ma;obtain ⟨rfl,rfl⟩:=Ma;simp only [if_true];refine ⟨?_,⟨hnx,by simp,fun b e=>?_,?_,fun q=>?_⟩,⟨z.cells.toList,by simp [Hf],?_,fun m q T' x hm A6 hSm=>?_,fun _=>⟨z,hz1,El hz4⟩⟩,fun j' o' T' d' BO K6 hS' hy=>?_⟩
       ·rw [e3,ae0 fZ]; exact yp
       ·have:=h2.kA.iV b _ e; omega
       ·cases hzz:E'.z B'.next with
        | none=>rfl
        | some r=>have:=h2.kA.nR _ r hzz; omega
       ·rcases q with q | ⟨g,_,q⟩
        ·obtain ⟨b,v,L',N',q1,q2⟩:=q
         have:=h2.kA.ar.iV b _ _ _ q2;omega
        ·rw [Hf,St.la] at q
         have:=h2.kA.mem g _ q;omega
       ·rw [<- (El (P:=P) (E:=E') hz4).length] at hz5
        exact hz5
       ·
        exfalso;have hmi:=aaO m q T' d x hm A6;rw [jr hmi] at hSm;obtain ⟨_,_,⟨j0,q0,T0,bG,hq0,he0⟩,_⟩:=hf.st m q T' d x hm A6;have:j0=j:=by
         by_cases hjj:j0=j
         ·exact hjj
         ·exact absurd (tF he0).2.2 (hf.dst j o T d ho he j0 q0 hq0 hjj)
        subst this;have hb:rV (fF [] all) m j0=true:=hf.ord.Gk hm hq0 bG (by
         unfold vU;rw [(tF he0).2.2,show Qk (some d) (pb P cfg all q)=true from C5 (by
          unfold pb;refine List.mem_append_right _ ?_;rw [(FU A6).1];exact l8 (show Operand.tmp d∈[Operand.tmp d,x] by simp))]
         rfl)
        have:=hc m j0 hSm hb;rw [rM] at this; simp at this
       ·by_cases N4:j' = j
        ·exact N4
        ·exfalso
         rw [av N4] at hy;have:=(h4 j' o' T' d' BO K6 (hold j' o' T' d' BO K6 hS' N4)).2.1.hi;omega
      ·simp only [av hji]
       obtain ⟨q1,q2,⟨cu,q3,q4,q5,q6⟩,q7⟩:=h4 j q U c hq Ma (hold j q U c hq Ma hS hji);obtain ⟨q8,q9⟩:=q2.step yG;refine ⟨?_,q8,⟨cu,by rw [q9]; exact q3,q4,fun m q' T' x hm A6 hSm=>?_,fun hn=>?_⟩,fun j' o' T' d' BO K6 hS' hy=>?_⟩
       ·rw [ae1 (hf.dst j q U c hq Ma i o ho (Ne.symm hji))]
        exact q1.mono mz
       ·rw [jr (aaO m q' T' c x hm A6)] at hSm
        exact q5 m q' T' x hm A6 hSm
       ·exact q6 fun m q' T' x hm A6=>by
         have:=hn m q' T' x hm A6;rwa [jr (aaO m q' T' c x hm A6)] at this
       ·by_cases N4:j' = i
        ·rw [aY N4] at hy
         have:=q2.hi;omega
        ·rw [av N4] at hy
         exact q7 j' o' T' d' BO K6 (hold j' o' T' d' BO K6 hS' N4) hy
    ·
     obtain ⟨e1,e2,e3,_⟩:=FU he;obtain ⟨hnd,agi,⟨j0,q0,T0,bG,hq0,he0⟩,hxd⟩:=hf.st i o T d x ho he;have hb0:rV (fF [] all) i j0=true:=hf.ord.Gk ho hq0 bG (by
      unfold vU;rw [(tF he0).2.2,show Qk (some d) (pb P cfg all o)=true from C5 (by
       unfold pb;refine List.mem_append_right _ ?_;rw [e1];exact l8 (show Operand.tmp d∈[Operand.tmp d,x] by simp))]
      rfl)
     have hS0:S j0=true:=hc.ready hf.ord.reg ho yx j0 hb0;obtain ⟨q1,q2,⟨nK,q3,q4,_,_⟩,q7⟩:=h4 j0 q0 T0 d hq0 he0 hS0;obtain ⟨cs,K0⟩:=vP q0 (jC hq0) T0 d he0;obtain ⟨z,_,_,_,_,_,hz6,hz7⟩:=IC K0;have aww:uR all d all=some (T,x):=by
      cases hs:uR all d all with
      | none=>exact absurd he (Fk hs i o ho T x)
      | some p=>
       obtain ⟨T2,x2⟩:=p;obtain ⟨i2,o2,h5,h6⟩:=Fj hs;by_cases hii:i2=i
       ·subst hii
        rw [ho] at h5;simp at h5;subst h5;rw [he] at h6;simp at h6;rw [h6.1,h6.2]
       ·exact absurd h6 (agi i2 o2 h5 hii T2 x2)
     obtain ⟨hT,hl,XQ,_⟩:=hz6 T x aww;subst hT;have A5:ma tn x=ma t1 x:=alM S9 za hnd;rw [A5] at hl XQ;have hxv:VC P E' bd (ma t1 x) (a'.eval x):=QQ h3 fun z e=>Et z (by
      unfold pb;refine List.mem_append_right _ ?_;rw [e1];subst e;exact l8 (show Operand.tmp z∈[Operand.tmp d,Operand.tmp z] by simp))
     obtain ⟨u,hu1,hu2⟩:=hxv;have atp:=hu1.cells (AX XQ);have mi:u.cells.toList.all scalar=true:=ig.2 (atp.scalar XQ);have atq:some u.cells.size=size? P T0:=by
      rw [<- hl];have:=atp.length;simp only [Array.length_toList] at this;rw [this]
     have bm:compile P o.op = .act (JL P T0) [.tmp d,x]:=by rw [e1]; rfl
     have dt:=tz P o;rw [bm] at dt
     let em:Operand->Value:=fun q=>if q = .tmp d then H9 (y j0) else u
     have hw:jJ 0 nK u.cells.toList=some u.cells.toList:=acw (by
      rw [<- atq] at q4;simp only [di] at q4;rw [q4]; simp)
     obtain ⟨yD,v',nx,w2,hr1,yp,hr3,hr4⟩:=dt bd B' (B'.put (y j0) (.row u.cells.toList (pJ P T0) true none)) base w' em a'.eval undef h2.gN.kA (fun q hq=>by
       rcases fA.1 hq with rfl | hq
       ·show VR bd (em (.tmp d)) (a'.tmps.getD d undef)
        simp only [em,if_true];exact q1
       ·simp only [List.mem_singleton] at hq
        subst hq;simp only [em,av hxd];exact hu2) (by
       have h1:em (.tmp d)=H9 (y j0):=by simp [em]
       have h2:em x=u:=by simp [em,hxd]
       simp [h1,h2,JL,aB.storeAt,H9,atq,St.Bk,dp,mi,q3,hw,St.hJ])
     have awx:=aws h2 q2 q3 hr4;have mz:=hr4.le h2.gN.kA;have BR:∀ x,AR A E' x->(B'.put (y j0) (.row u.cells.toList (pJ P T0) true none)).get x=B'.get x:=fun x q=>by
      rw [St.cz,av];intro e;subst e;exact q2.nb (.inl q)
     have hAT:∀ q,AT A E' (B'.put (y j0) (.row u.cells.toList (pJ P T0) true none)) q->AT A E' B' q:=fun q r=>r.of (fun _=>rfl) (fun _ _ e=>e) BR fun _ _=>by simp
     have hFr:∀ q,Fr E' A B' B.next q->Fr E' A (B'.put (y j0) (.row u.cells.toList (pJ P T0) true none)) B.next q:=fun q f=>⟨f.lo,f.hi,f.un,f.z,fun r=>f.nb (hAT q r)⟩
     have avD:∀ v:Value,a'.put o.dst v=a':=fun v=>by rw [e3]; rfl
     have agj:Inv (cY S i) (a'.put o.dst v') w2:=by
      rw [avD];refine ⟨E',_,yD,y,h1,awx,(h3.mono (Env.le_refl _) mz).same fun z=>?_,fun j q U c hq Ma hS=>?_⟩
      ·rw [Mu hf.ord hc ho hx rM z,e3]; rfl
      ·have hji:j≠i:=fun e=>by
        subst e;rw [ho] at hq;simp at hq;subst hq;rw [Lh Ma] at he;simp at he
       have hold:∀ (m:Nat) (q:Oper) (U:TypeId) (c:Tmp),all[m]? = some q->ji q=some (U,c)->cY S i m=true->S m=true:=fun m q U c hm Ma hS=>by
        have:m≠i:=fun e=>by
         subst e;rw [ho] at hm;simp at hm;subst hm;rw [Lh Ma] at he;simp at he
        rwa [jr this] at hS
       rw [jr hji] at hS;obtain ⟨p1,p2,⟨cu,p3,p4,p5,p6⟩,p7⟩:=h4 j q U c hq Ma hS;refine ⟨p1.mono mz,hFr _ p2,?_,fun j' o' T' d' BO K6 hS'=>p7 j' o' T' d' BO K6 (hold j' o' T' d' BO K6 hS')⟩;by_cases D0:j=j0
       ·subst D0
        rw [hq0] at hq;simp at hq;subst hq;rw [he0] at Ma;simp at Ma;obtain ⟨rfl,rfl⟩:=Ma;refine ⟨u.cells.toList,by simp,by simpa using atq,fun m q' T' x' hm A6 _=>?_,fun hn=>?_⟩
        ·have hmi:m=i:=by
          by_cases hmi:m=i
          ·exact hmi
          ·exact absurd A6 (agi m q' hm hmi T' x')
         subst hmi;rw [ho] at hm;simp at hm;subst hm;rw [he] at A6;simp at A6;rw [<- A6.2,A5];exact atp
        ·have:=hn i o T0 x ho he
         rw [Cm] at this;simp at this
       ·have hcd:c≠d:=fun e=>by
         subst e;exact absurd (tF he0).2.2 (hf.dst j q U c hq Ma j0 q0 hq0 (Ne.symm D0))
        have aaO:∀ (m:Nat) (q:Oper) (U:TypeId) (x:Operand),all[m]? = some q->uQ all q=some (U,c,x)->m≠i:=fun m q U x hm A6 e=>by
         subst e;rw [ho] at hm;simp at hm;subst hm;rw [he] at A6;simp at A6;exact hcd A6.2.1.symm
        refine ⟨cu,?_,p4,fun m q' T' x' hm A6 hSm=>?_,fun hn=>?_⟩
        ·rw [St.cz,av]
         ·exact p3
         ·intro e
          exact D0 ((p7 j0 q0 T0 d hq0 he0 hS0 e.symm).symm)
        ·rw [jr (aaO m q' T' x' hm A6)] at hSm
         exact p5 m q' T' x' hm A6 hSm
        ·exact p6 fun m q' T' x' hm A6=>by
          have:=hn m q' T' x' hm A6;rwa [jr (aaO m q' T' x' hm A6)] at this
     unfold Oper.wp;rw [hr1];cases nx with
     | value u'=>have:u' = v':=yp; subst this; exact agj
     | skip=>have:v' = undef:=yp; subst this; exact agj
     | _=>exact yp.elim
   ·
    have AU:∀ JG Lg wG v' JB,VC P JG wG L[i].2.1 v'->Ev P base E' A B' bd w' JG A Lg wG JB->Inv (cY S i) (a'.put o.dst v') JB:=fun JG Lg wG v' JB h5 h6=>by
     have mz:=h6.gN.le h2.gN.kA;refine ⟨JG,Lg,wG,y,by rw [put_defers]; exact h1,h2.trans h6,?_,h4.step hf ho hnb h6 mz⟩;refine ((h3.mono h6.le mz).put (Iy i o ho) h5).same fun z=>?_;rw [Mu hf.ord hc ho hx rM z]
    rcases hg with hg | ⟨p,hp,hg⟩
    ·refine N9 j9 hg (fun x hxm=>QQ h3 fun z e=>Et z ?_) h2.kj AU
     unfold pb;subst e;exact List.mem_append_right _ (l8 hxm)
    ·refine apF j9 hp hg (fun x hxm=>QQ h3 fun z e=>Et z ?_) h2.kj AU
     unfold pb;subst e;refine List.mem_append_right _ (l8 ?_);unfold Mi at hp;split at hp
     ·rename_i c JC _
      split at hp
      ·rename_i d uO
       simp at hp;subst hp;rw [JC];show Operand.tmp z∈aeY (nm P cfg c);unfold nm;rw [uO];exact hxm
      ·simp at hp
     ·simp at hp
 ·
  rintro S a' w' mi ⟨E',B',bd,y,h1,h2,h3,h4⟩;have hS:∀ (i:Nat) (o:Oper),all[i]? = some o->S i=true:=fun i o ho=>mi i (dq.1 ho).1;have awy:lK P E' bd tn N a':=h3.same fun z=>by
   rw [S9 z];exact ns rfl fun i o ho _=>by rw [bM]; exact (hS i o ho).symm
  obtain ⟨t',E2,A2,f1,f2,f3⟩:=V2 (y:=y) all 0 tn E' A rfl hk h2 awy (fun j o T d _ ho he=>Iy j o ho d (tF he).2.2) fun j o T d _ ho he=>by
   obtain ⟨q1,q2,⟨cu,q3,q4,q5,q6⟩,q7⟩:=h4 j o T d ho he (hS j o ho);refine ⟨q1,q2,fun cs K0=>⟨cu,q3,?_⟩,fun j' o' T' d' _ BO K6 hy=>q7 j' o' T' d' BO K6 (hS j' o' BO) hy⟩;obtain ⟨z,hz1,_,_,_,_,hz6,hz7⟩:=IC K0;cases hs:uR all d all with
   | some p=>
    obtain ⟨T2,x2⟩:=p;obtain ⟨i2,o2,h5,h6⟩:=Fj hs;rw [(hz6 T2 x2 hs).2.2.2];exact q5 i2 o2 T2 x2 h5 h6 (hS i2 o2 h5)
   | none=>
    rw [hz7 hs];obtain ⟨z',g1,g2⟩:=q6 fun m q' T' x hm A6=>absurd A6 (Fk hs m q' hm T' x);rw [hz1] at g1;simp at g1;subst g1;exact g2
  exact hq t' E2 A2 B' bd a' w' f1 f2 h1 (QS.trans f3)
 ·simp
 ·refine ht.same fun z=>?_
  rw [Oc Gt]
 ·intro j o T d ho he Ta
  have Ta:(Array.replicate all.length false).getD j false=true:=Ta;rw [Gt] at Ta;simp at Ta
end Go.K
end
section
namespace Go.K
open Go Go.aB
variable {P:Program} {E:Env}
theorem X4 {R:Type} {cfg:fE} {bR:pt R} {all:List Oper} {k:bO->aw->Option R} : ∀ (a b:List Oper),vI P cfg bR all k (a++b)=vI P cfg bR all (vI P cfg bR all k b) a
 | [],b=>rfl
 | o::a,b=>by
  show BQ P cfg bR all o (vI P cfg bR all k (a++b))=BQ P cfg bR all o (vI P cfg bR all (vI P cfg bR all k b) a);rw [X4 a b]
theorem akz {cfg:fE} {all:List Oper} {o:Oper} (h:dE (cm P cfg o.op)<=1):ss all o=false:=by
 cases hb:ss all o with
 | false=>rfl
 | true=>
  exfalso;rcases VY hb with ⟨T,d,e⟩ | ⟨T,d,x,e⟩
  ·rw [(tF e).1] at h
   have h:dE (rN P T)<=1:=h;unfold rN at h;split at h
   ·rename_i z _
    cases hc:(flat z&&z.cells.toList.all scalar&&jL (iG z).cells) <;> rw [hc] at h <;> simp [dE] at h
   ·simp [dE] at h
  ·rw [(FU e).1] at h
   have h:(3:Nat)<=1:=h;omega
theorem QV {R:Type} {cfg:fE} {bR:pt R} {all:List Oper} {k:bO->aw->Option R} {r:R} : ∀ {os:List Oper} {t:bO} {A:aw},(∀ o∈os,dE (cm P cfg o.op)<=1)->vI P cfg bR all k os t A=some r->
  ∃ L t',acv P cfg all A os t L t'/\k t' A=some r
 | [],t,A,_,h=>⟨[],t,.nil,h⟩
 | o::os,t,A,hn,h=>by
  have NJ:=fun q hq=>hn q (yW o hq);have hk:=hn o (by simp);have hb:=akz (all:=all) hk;have hk3:Nat.ble 3 (dE (cm P cfg o.op))=false:=by
   cases hc:Nat.ble 3 (dE (cm P cfg o.op)) with
   | false=>rfl
   | true=>have:=fR hc; omega
  have hnc:=Es (P:=P) (cfg:=cfg) (o:=o) (by omega);have h:BQ P cfg bR all o (vI P cfg bR all k os) t A=some r:=h;unfold BQ at h;cases hg:o.guard with
  | none=>
   rw [hg] at h;obtain ⟨v,A1,h1,h2⟩:=J0 hnc h;have e:=Er h1 hk3;subst e;obtain ⟨L,t',h3,h4⟩:=QV NJ h2;exact ⟨_,t',.cons (fun _=>rfl) (.inl ⟨hg,rfl⟩) (fun _=>.inr ⟨hb,.inl h1⟩) (fun e=>by simp at e) h3,h4⟩
  | some p=>
   obtain ⟨j,want⟩:=p;rw [hg] at h;obtain ⟨d,hd,h⟩:=Oa h;rcases h with ⟨b,t1,h1,h2,h3⟩ | ⟨l,h1,h2⟩
   ·rcases h3 with ⟨h3,h4⟩ | ⟨h3,h4⟩
    ·obtain ⟨v,A1,h5,h6⟩:=J0 hnc h4
     have e:=Er h5 hk3;subst e;obtain ⟨L,t',h7,h8⟩:=QV NJ h6;exact ⟨_,t',.cons h2 (.inr ⟨j,want,d,hg,hd,.inl ⟨b,h1,h3.symm⟩⟩) (fun _=>.inr ⟨hb,.inl h5⟩) (fun e=>by simp at e) h7,h8⟩
    ·obtain ⟨L,t',h7,h8⟩:=QV NJ h4
     exact ⟨_,t',.cons h2 (.inr ⟨j,want,d,hg,hd,.inl ⟨b,h1,h3.symm⟩⟩) (fun e=>by simp at e) (fun _=>⟨rfl,hb⟩) h7,h8⟩
   ·obtain ⟨L,t',h7,h8⟩:=QV NJ h2
    exact ⟨_,t',.cons (fun _=>rfl) (.inr ⟨j,want,d,hg,hd,.inr ⟨l,h1,rfl⟩⟩) (fun e=>by simp at e) (fun _=>⟨rfl,hb⟩) h7,h8⟩
section
variable {cfg:fE} {all os:List Oper} {L:List Out} {t0:bO} {m:Nat}
theorem agk (hf:agd P cfg all) (hos:∀ j q,os[j]? = some q->all[m+j]? = some q) {S:Nat->Bool} (hc:r7 all S) {i:Nat} {o:Oper} (ho:os[i]? = some o) (rM:S (m+i)=false) (yx:xg all S (m+i)) {y:Tmp} (hy:y∈pb P cfg all o) :
  (kb (fun j=>S (m+j)) os L 0 t0).get y=(kb (fun j=>Nat.blt j i) os L 0 t0).get y:=by
 refine ns rfl fun j q hq hd=>?_;rw [bM];have ho':=hos i o ho;have hq':=hos j q hq;rcases Nat.lt_trichotomy j i with h | h | h
 ·have:rV (fF [] all) (m+i) (m+j)=true:=hf.Gk ho' hq' (by omega) (by
   unfold vU;rw [hd,C5 hy];rfl)
  rw [hc.ready hf.reg ho' yx (m+j) this]
  symm; rw [cq]; exact h
 ·subst h
  rw [rM]
  symm
  cases hb:Nat.blt j j with
  | false=>rfl
  | true=>rw [cq] at hb; omega
 ·have hb:rV (fF [] all) (m+j) (m+i)=true:=hf.Gk hq' ho' (by omega) (by
   unfold vU;rw [hd,C5 hy];simp)
  have:S (m+j)=false:=by
   cases hs:S (m+j) with
   | false=>rfl
   | true=>have:=hc (m+j) (m+i) hs hb; rw [rM] at this; simp at this
  rw [this]
  symm
  cases hbb:Nat.blt j i with
  | false=>rfl
  | true=>rw [cq] at hbb; omega
theorem atr (hf:agd P cfg all) (hos:∀ j q,os[j]? = some q->all[m+j]? = some q) {S:Nat->Bool} (hc:r7 all S) {i:Nat} {o:Oper} {x:Out} (ho:os[i]? = some o) (hx:L[i]? = some x) (rM:S (m+i)=false) (y:Tmp) :
  (kb (fun j=>cY S (m+i) (m+j)) os L 0 t0).get y=(rW (kb (fun j=>S (m+j)) os L 0 t0) o.dst x.2.1).get y:=by
 have ara:(fun j=>cY S (m+i) (m+j))=cY (fun j=>S (m+j)) i:=by
  funext j;unfold cY;cases hb:Nat.beq j i with
  | true=>have:=bu hb; subst this; simp
  | false=>
   have de:=Nat.ne_of_beq_eq_false hb;cases xA:Nat.beq (m+j) (m+i) with
   | false=>rfl
   | true=>have:=bu xA; omega
 rw [ara,u5];by_cases hd:o.dst=some y
 ·rw [aY hd]
  have:=agc (S:=fun j=>S (m+j)) (y:=y) (os:=os) (L:=L) (k:=0) (i:=i) (t:=t0) ho hx hd (fun j q hq hqd bG=>by
   rw [bM];have hb:rV (fF [] all) (m+j) (m+i)=true:=hf.Gk (hos j q hq) (hos i o ho) (by omega) (by
    unfold vU;rw [hqd,hd];simp [Xq])
   cases hs:S (m+j) with
   | false=>rfl
   | true=>have:=hc (m+j) (m+i) hs hb; rw [rM] at this; simp at this)
  rw [bM] at this;exact this
 ·rw [av hd]
  refine ns rfl fun j q hq hqd=>?_;rw [bM];have de:j≠i:=by
   intro e;subst e;rw [ho] at hq;simp at hq;subst hq;exact hd hqd
  unfold cY;have:Nat.beq j i=false:=by
   cases hb:Nat.beq j i with
   | false=>rfl
   | true=>exact absurd (bu hb) de
  rw [this,Bool.or_false]
end
theorem Ud {cfg:fE} {b:List Nat} {i:Nat} : ∀ (os:List Oper) (k:Nat),Mj P cfg b i os k=true->∀ (j:Nat) (o:Oper),os[j]? = some o->(k+j < i->dE (cm P cfg o.op)=0\/rV b i (k+j)=true)/\(i < k+j->rV b (k+j) i=true)
 | [],k,_,j,o,ho=>by simp at ho
 | q::os,k,h,0,o,ho=>by
  simp at ho;subst ho;simp only [Mj,aA] at h;rw [CF];have h2:=h.1;cases hb:Nat.beq k i with
  | true=>have:=bu hb; exact ⟨fun e=>by omega,fun e=>by omega⟩
  | false=>
   rw [hb,ba] at h2;refine ⟨fun bG=>?_,fun bG=>?_⟩
   ·rw [show Nat.blt k i=true from by rw [cq]; exact bG,ak] at h2
    cases hz:Nat.beq (dE (cm P cfg q.op)) 0 with
    | true=>exact .inl (bu hz)
    | false=>rw [hz,ba] at h2; exact .inr h2
   ·have:Nat.blt k i=false:=by
     cases xA:Nat.blt k i with
     | false=>rfl
     | true=>rw [cq] at xA; omega
    rwa [this,ba] at h2
 | q::os,k,h,j+1,o,ho=>by
  simp only [Mj,aA] at h;have:=Ud os (k+1) h.2 j o (by simpa using ho);rwa [show k+1+j=k+(j+1) by omega] at this
theorem QW {cfg:fE} {b:List Nat} {all:List Oper} : ∀ (os:List Oper) (k:Nat),Ml P cfg b all os k=true->∀ (i:Nat) (o:Oper),os[i]? = some o->¬ dE (cm P cfg o.op)<=1->Mj P cfg b (k+i) all 0=true
 | [],k,_,i,o,ho,_=>by simp at ho
 | q::os,k,h,0,o,ho,hk=>by
  simp at ho;subst ho;simp only [Ml,aA] at h;have h2:=h.1;have:Nat.ble (dE (cm P cfg q.op)) 1=false:=by
   cases hb:Nat.ble (dE (cm P cfg q.op)) 1 with
   | false=>rfl
   | true=>exact absurd (fR hb) hk
  rw [this,ba] at h2;exact h2
 | q::os,k,h,i+1,o,ho,hk=>by
  simp only [Ml,aA] at h;have:=QW os (k+1) h.2 i o (by simpa using ho) hk;rwa [show k+1+i=k+(i+1) by omega] at this
theorem agl {cfg:fE} : ∀ (os:List Oper),∃ n,n<=os.length/\(∀ o∈os.take n,dE (cm P cfg o.op)<=1)/\(n=os.length\/∃ o,os[n]? = some o/\¬ dE (cm P cfg o.op)<=1)
 | []=>⟨0,by simp,by simp,by simp⟩
 | o::os=>by
  by_cases hk:dE (cm P cfg o.op)<=1
  ·obtain ⟨n,h1,h2,h3⟩:=agl (cfg:=cfg) os
   refine ⟨n+1,by simpa using h1,fun q hq=>?_,?_⟩
   ·simp only [List.take_succ_cons,fA] at hq
    rcases hq with rfl | hq
    ·exact hk
    ·exact h2 q hq
   ·rcases h3 with h3 | ⟨q,h3,h4⟩
    ·exact .inl (by simp [h3])
    ·exact .inr ⟨q,by simpa using h3,h4⟩
  ·exact ⟨0,by simp,by simp,.inr ⟨o,by simp,hk⟩⟩
theorem asb {R:Type} {cfg:fE} {bR:pt R} {all os:List Oper} {k:bO->aw->Option R} {r:R} {t:bO} {A:aw} (h:vI P cfg bR all k os t A=some r) :
  ∃ n L tn,n<=os.length/\(∀ o∈os.take n,dE (cm P cfg o.op)<=1)/\(n=os.length\/∃ o,os[n]? = some o/\¬ dE (cm P cfg o.op)<=1)/\acv P cfg all A (os.take n) t L tn/\vI P cfg bR all k (os.drop n) tn A=some r:=by
 obtain ⟨n,h1,h2,h3⟩:=agl (P:=P) (cfg:=cfg) os;rw [<- List.take_append_drop n os,X4] at h;obtain ⟨L,tn,h4,h5⟩:=QV h2 h;exact ⟨n,L,tn,h1,h2,h3,h4,h5⟩
theorem anM (S:Nat->Bool) (os:List Oper) (L:List Out) (t:bO):∀ (m:Nat),kb S os L m t=kb (fun j=>S (m+j)) os L 0 t:=by
 intro m
 induction m generalizing S with
 | zero=>simp only [bM]
 | succ m ih=>
  rw [Ep,ih];congr 1;funext j;rw [show m+j+1=m+1+j by omega]
theorem Og (S:Nat->Bool):∀ (os:List Oper) (L L2:List Out) (k:Nat) (t:bO),L.length<=os.length->kb S os (L++L2) k t=kb S (os.drop L.length) L2 (k+L.length) (kb S os L k t)
 | [],[],L2,k,t,_=>rfl
 | [],x::L,L2,k,t,h=>by simp at h
 | o::os,[],L2,k,t,_=>rfl
 | o::os,x::L,L2,k,t,h=>by
  simp only [List.cons_append,kb,CG,List.drop_succ_cons];rw [Og S os L L2 (k+1) _ (by simpa using h),show k+1+L.length=k+(L.length+1) by omega]
theorem aaP {S:Nat->Bool} {os:List Oper} {L L2:List Out} {t:bO} (h:L.length<=os.length) (hS:∀ j,L.length<=j->j < os.length->S j=false) (y:Tmp):(kb S os (L++L2) 0 t).get y=(kb S os L 0 t).get y:=by
 rw [Og S os L L2 0 t h,bM,anM];refine (ns (S':=fun _=>false) rfl fun i o ho _=>?_).trans (by rw [Oc fun _=>rfl]);rw [bM];rw [pQ] at ho;exact hS _ (by omega) (dq.1 ho).1
theorem X5 {S S' : Nat->Bool} : ∀ {os:List Oper} {L:List Out} {k:Nat} {t:bO},(∀ j,j < L.length->S (k+j)=S' (k+j))->kb S os L k t=kb S' os L k t
 | [],L,k,t,_=>by cases L <;> rfl
 | o::os,[],k,t,_=>rfl
 | o::os,x::L,k,t,h=>by
  simp only [kb];rw [show S k=S' k from by have:=h 0 (by simp); simpa using this];exact X5 fun j hj=>by have:=h (j+1) (by simpa using hj); rwa [show k+(j+1)=k+1+j by omega] at this
theorem anN {S:Nat->Bool} : ∀ {os:List Oper} {L:List Out} {n k:Nat} {t:bO},L.length<=n->kb S (os.take n) L k t=kb S os L k t
 | [],L,n,k,t,_=>by simp
 | o::os,[],n,k,t,_=>by cases n <;> rfl
 | o::os,x::L,0,k,t,h=>by simp at h
 | o::os,x::L,n+1,k,t,h=>by
  simp only [List.take_succ_cons,kb];exact anN (by simpa using h)
theorem apH {cfg:fE} {o:Oper} {p:Operand×List Operand} (h:Mi o=some p) : ¬ dE (cm P cfg o.op)<=1:=by
 unfold Mi at h;split at h
 ·rename_i c' awz _
  split at h
  ·rename_i d uO
   rw [awz];show ¬ dE (nm P cfg c')<=1;unfold nm;rw [uO];show ¬ (9:Nat)<=1;omega
  ·simp at h
 ·simp at h
theorem yH {t t' : bO} : ∀ {xs:List Operand},(∀ x∈xs,ma t x=ma t' x)->mX t xs=mX t' xs:=fun {xs} h=>by
 rw [uY,uY];exact List.map_congr_left h
theorem anO {R:Type} {bR:pt R} {t t' : bO} {A:aw} {k:KV->aw->Option R} {ins:tB} (h:∀ x∈aeY ins,ma t x=ma t' x):Qy bR t A k ins=Qy bR t' A k ins:=by
 cases ins with
 | pure f xs=>show (f (mX t xs)).run _=(f (mX t' xs)).run _; rw [yH (xs:=xs) h]
 | read f xs=>show (f A (mX t xs)).run _=(f A (mX t' xs)).run _; rw [yH (xs:=xs) h]
 | act f xs=>show (f A (mX t xs)).run _=(f A (mX t' xs)).run _; rw [yH (xs:=xs) h]
 | look f xs=>show (f (mX t xs)).run _=(f (mX t' xs)).run _; rw [yH (xs:=xs) h]
 | Eg g f xs=>show (f (mX t xs)).run _=(f (mX t' xs)).run _; rw [yH (xs:=xs) h]
 | Ip g f xs=>show (f (Ap A (mX t xs)).1).run (fun v=>k v (Ap A (mX t xs)).2)=(f (Ap A (mX t' xs)).1).run (fun v=>k v (Ap A (mX t' xs)).2); rw [yH (xs:=xs) h]
 | call f xs=>
  show Option.rec (motive:=fun _=>Option R) none (fun p=>bR p.1 p.2 A k) (Iq (mX t xs) (ma t f))=Option.rec (motive:=fun _=>Option R) none (fun p=>bR p.1 p.2 A k) (Iq (mX t' xs) (ma t' f));rw [yH fun x hx=>h x (yW f hx),h f (List.mem_cons_self ..)]
 | bad=>rfl
theorem alN {R:Type} {cfg:fE} {bR:pt R} (j9:uZ P cfg.pc) (xD:Mt P bR) (hm:P.follows .mixedOrders=true) {id:Nat} {all:List Oper} {N base:Nat} (hdN:all.all (KU N)=true) {k:bO->aw->Option R} {r:R} {t:bO} {A:aw} {B:St} {ρ:Ren} {a:Act} {w:World} {Q:Exit->Act->World->Prop}
  (Mv:NS P cfg all=true) (h:vI P cfg bR all k all t A=some r) (ht:lK P E ρ t N a) (hj:KJ P E A B ρ base w)
  (hq:∀ t' E' A' B' bd a' w',k t' A' = some r->lK P E' bd t' N a'->a'.defers=a.defers->Ev P base E A B ρ w E' A' B' bd w'->Q .normal a' w'):(Code.region id ⟨all⟩ true).wp P Q a w:=by
 unfold NS at Mv;split at Mv
 ·simp only [aA] at Mv
  obtain ⟨⟨awA,hcl⟩,har⟩:=Mv;have hf:agd P cfg all:=⟨Gq awA,fun {i j x y} hy hx bG uO=>by
   have:=Eu all 0 hcl i y hy;rw [bM] at this;have:=IB all 0 this j x hx (by omega) uO;rwa [bM] at this⟩
  have piv:∀ (i:Nat) (o:Oper),all[i]? = some o->¬ dE (cm P cfg o.op)<=1->∀ j q,all[j]? = some q->(j < i->dE (cm P cfg q.op)=0\/rV (fF [] all) i j=true)/\(i < j->rV (fF [] all) j i=true):=fun i o ho hk j q hq=>by
   have h1:=QW all 0 har i o ho hk;have h2:=Ud all 0 h1 j q hq;simpa only [bM] using h2
  have QS:Ev P base E A B ρ w E A B ρ w.drew:=(dR.refl hj.k).ev (l7.drew hj.s);have Iy:∀ (i:Nat) (o:Oper),all[i]? = some o->∀ d,o.dst=some d->d < N:=by
   intro i o ho d ed;have:=ig.1 hdN o (jC ho);unfold KU at this;rw [ed] at this;simp only at this;rw [cq] at this;exact this
  refine wp_region_any hm ?_;show wpAny P .any ⟨all⟩ Q all.length (Array.replicate all.length false) a w.drew;have Gt:∀ i,(Array.replicate all.length false).getD i false=false:=by
   intro i;rw [jB,Array.getElem?_replicate];split <;> rfl
  have e0:∀ (S:Nat->Bool),(fun j=>S (0+j))=S:=fun S=>by funext j; rw [bM]
  have hos:∀ j q,all[j]? = some q->all[0+j]? = some q:=fun j q hjq=>by rwa [bM]
  let au1:List Out->aw->Nat->Oper->Out->Prop:=fun L A2 i o x=>∃ t1,(∀ y,t1.get y=(kb (fun j=>Nat.blt j i) all L 0 t).get y)/\Ob all o t1 x.1/\(x.1=true->bf (xM (cm P cfg o.op) t1 A2) (x.2.1,A2))/\(x.1=false->x.2.1=uC)
  let Inv:(Nat->Bool)->Act->World->Prop:=fun S a' w'=>∃ n L A2 tn E' B' bd,n<=all.length/\L.length=n/\(∀ j,n<=j->j < all.length->S j=false)/\(n=all.length\/∃ o,all[n]? = some o/\¬ dE (cm P cfg o.op)<=1)/\
   (∀ j o,j < n->all[j]? = some o->¬ dE (cm P cfg o.op)<=1->S j=true)/\(∀ i o x,i < n->S i=false->all[i]? = some o->L[i]? = some x->au1 L A2 i o x)/\
   (∀ y,tn.get y=(kb (fun _=>true) all L 0 t).get y)/\vI P cfg bR all k (all.drop n) tn A2=some r/\a'.defers=a.defers/\Ev P base E A B ρ w.drew E' A2 B' bd w'/\lK P E' bd (kb S all L 0 t) N a'
  have begin:∀ (m:Nat) (S:Nat->Bool) (L:List Out) (A2:aw) (t2:bO) (a' : Act) (w' : World) (E' : Env) (B' : St) (bd:Ren),m<=all.length->L.length=m->(∀ j,m<=j->j < all.length->S j=false)->
    (∀ j o,j < m->all[j]? = some o->¬ dE (cm P cfg o.op)<=1->S j=true)->(∀ i o x,i < m->S i=false->all[i]? = some o->L[i]? = some x->au1 L A2 i o x)->
    (∀ y,t2.get y=(kb (fun _=>true) all L 0 t).get y)->vI P cfg bR all k (all.drop m) t2 A2=some r->a'.defers=a.defers->Ev P base E A B ρ w.drew E' A2 B' bd w'->lK P E' bd (kb S all L 0 t) N a'->Inv S a' w':=by
   intro m S L A2 t2 a' w' E' B' bd hml hL h1 h2 h3 h4 h5 h6 h7 h8;obtain ⟨n,L2,tn,g1,g2,g3,g4,g5⟩:=asb h5;rw [List.length_drop] at g1 g3;obtain ⟨k1,k2,k3⟩:=g4.at;rw [nH,List.length_drop,Nat.min_eq_left g1] at k1;have hLa:L.length<=all.length:=by omega
   have tail:∀ (S:Nat->Bool) (y:Tmp),(∀ j,j < m->S j=true)->(kb S all (L++L2) 0 t).get y=(kb (fun j=>S (m+j)) ((all.drop m).take n) L2 0 t2).get y:=fun S y hS=>by
    rw [Og S all L L2 0 t hLa,bM,anM,anN (by omega),hL];refine ns ?_ fun _ _ _ _=>rfl;rw [h4 y,X5 (S:=S) (S':=fun _=>true) fun j hj=>by rw [bM]; exact hS j (by omega)]
   refine ⟨m+n,L++L2,A2,tn,E',B',bd,by omega,by rw [nF]; omega,fun j hj1 N4=>h1 j (by omega) N4,?_,fun j o hj ho hk=>?_,fun i o x hi rM ho hx=>?_,fun y=>?_,by rwa [List.drop_drop] at g5,h6,h7,h8.same fun y=>aaP hLa (fun j hj1 N4=>h1 j (by omega) N4) y⟩
   ·rcases g3 with g3 | ⟨o,g3,g6⟩
    ·exact .inl (by omega)
    ·exact .inr ⟨o,by rwa [pQ] at g3,g6⟩
   ·by_cases hjm:j < m
    ·exact h2 j o hjm ho hk
    ·exfalso
     refine hk (g2 o (jC (i:=j - m) ?_));rw [pF,aY (by omega),pQ,show m+(j - m)=j by omega];exact ho
   ·by_cases him:i < m
    ·rw [r5 (by omega)] at hx
     obtain ⟨t1,q1,q2⟩:=h3 i o x him rM ho hx;exact ⟨t1,fun y=>by rw [q1 y]; exact (aaP hLa (fun j hj1 _=>by
      cases hb:Nat.blt j i with
      | false=>rfl
      | true=>rw [cq] at hb; omega) y).symm,q2⟩
    ·rw [uA (by omega),hL] at hx
     have hoi:((all.drop m).take n)[i - m]? = some o:=by rw [pF,aY (by omega),pQ,show m+(i - m)=i by omega]; exact ho
     obtain ⟨t1,q1,q2,q3,q4⟩:=k3 (i - m) o x hoi hx;have hk:=g2 o (jC hoi);refine ⟨t1,fun y=>?_,q2,fun Ho=>?_,fun Ho=>(q4 Ho).1⟩
     ·rw [q1 y,tail _ y fun j hj=>by rw [cq]; omega]
      refine ns rfl fun j q _ _=>?_;rw [bM];cases hb:Nat.blt (m+j) i with
      | true=>rw [cq] at hb ⊢; omega
      | false=>
       cases xA:Nat.blt j (i - m) with
       | false=>rfl
       | true=>
        rw [cq] at xA;have:Nat.blt (m+j) i=true:=by rw [cq]; omega
        rw [hb] at this; simp at this
     ·rcases q3 Ho with ⟨V1,_⟩ | ⟨_,hg⟩
      ·rw [akz hk] at V1; simp at V1
      ·rcases hg with hg | ⟨p,hp,_⟩
       ·exact hg
       ·exact absurd hk (apH hp)
   ·rw [k2 y,tail _ y fun _ _=>rfl]
  refine Hk hf.reg Inv ?_ ?_ ?_ all.length _ a w.drew (by simp) ?_ (fun i j hi _=>by
    have h2:(Array.replicate all.length false).getD i false=true:=hi;rw [Gt] at h2; simp at h2) (begin 0 _ [] A t a w.drew E B ρ (by omega) rfl (fun j _ _=>Gt j) (fun j _ hj=>by omega) (fun i _ _ hi=>by omega) (fun y=>by cases all <;> rfl) (by simpa using h) rfl (.refl hj.k QS.gN.kA) (ht.same fun y=>by cases all <;> rfl))
  ·
   rintro S S' a' w' hSS ⟨n,L,A2,tn,E',B',bd,h1,h2,h3,h4,h5,h6,h7,h8,h9,vV,JF⟩;refine ⟨n,L,A2,tn,E',B',bd,h1,h2,fun j hj1 N4=>by rw [<- hSS j N4]; exact h3 j hj1 N4,h4,fun j o hj ho hk=>by rw [<- hSS j (by omega)]; exact h5 j o hj ho hk,fun i o x hi rM ho hx=>h6 i o x hi (by rw [hSS i (by omega)]; exact rM) ho hx,h7,h8,h9,vV,JF.same fun z=>ns rfl fun i o ho _=>?_⟩;rw [bM];exact (hSS _ (dq.1 ho).1).symm
  ·
   rintro S a' w' i o ⟨n,L,A2,tn,E',B',bd,h1,h2,h3,h4,h5,h6,h7,h8,h9,vV,JF⟩ hcS ho rM yx _;have hil:i < all.length:=(dq.1 ho).1;have hoA:(⟨all⟩:Array Oper)[i]? = some o:=by simpa using ho
   rcases Nat.lt_trichotomy i n with xD | xD | xD
   ·
    have hkd:dE (cm P cfg o.op)<=1:=by
     by_cases hk:dE (cm P cfg o.op)<=1
     ·exact hk
     ·have:=h5 i o xD ho hk
      rw [rM] at this; simp at this
    have hi:i < L.length:=by omega
    have hx:L[i]? = some L[i]:=dr hi;obtain ⟨t1,za,hw,anJ,hno⟩:=h6 i o L[i] xD rM ho hx;have Et:∀ z∈pb P cfg all o,t1.get z=(kb S all L 0 t).get z:=fun z hz=>by
     have:=agk (m:=0) (L:=L) (t0:=t) hf hos hcS ho (by rw [bM]; exact rM) (by rw [bM]; exact yx) hz;rw [e0] at this;rw [za z,this]
    have XY:∀ z,(kb (cY S i) all L 0 t).get z=(rW (kb S all L 0 t) o.dst L[i].2.1).get z:=fun z=>by
     have:=atr (m:=0) (L:=L) (t0:=t) hf hos hcS ho hx (by rw [bM]; exact rM) z;rw [bM,e0,e0] at this;exact this
    have Oe:=FT JF (fun z hz=>Et z (by unfold pb; exact List.mem_append_left _ hz)) hw;have fin:∀ E2 B2 yD a2 w2,a2.defers=a'.defers->Ev P base E A B ρ w.drew E2 A2 B2 yD w2->lK P E2 yD (kb (cY S i) all L 0 t) N a2->Inv (cY S i) a2 w2:=fun E2 B2 yD a2 w2 q1 q2 q3=>
     ⟨n,L,A2,tn,E2,B2,yD,h1,h2,fun j hj1 N4=>by rw [jr (by omega)]; exact h3 j hj1 N4,h4,fun j q hj hjq hk=>by
      by_cases he:j=i
      ·subst he; exact Cm
      ·rw [jr he]; exact h5 j q hj hjq hk,fun j q x hj Ta hjq hxj=>h6 j q x hj (by
       by_cases he:j=i
       ·subst he; rw [Cm] at Ta; simp at Ta
       ·rwa [jr he] at Ta) hjq hxj,h7,h8,q1.trans h9,q2,q3⟩
    unfold wpOp;rw [hoA];simp only [Oe];cases Ho:L[i].1 with
    | false=>
     simp only [JK,if_false];refine fin E' B' bd _ _ (by rw [put_defers]) vV ?_;refine (JF.put (Iy i o ho) VC.undef).same fun z=>?_;rw [XY z,hno Ho]
    | true=>
     simp only [if_true];refine .inl (N9 j9 (anJ Ho) (fun x hxm=>QQ JF fun z e=>Et z ?_) vV.kj fun JG Lg wG v' JB h5 h6=>?_)
     ·unfold pb
      subst e;exact List.mem_append_right _ (l8 hxm)
     ·have mz:=h6.gN.le vV.gN.kA
      refine fin JG Lg wG _ _ (by rw [put_defers]) (vV.trans h6) ?_;refine ((JF.mono h6.le mz).put (Iy i o ho) h5).same fun z=>?_;rw [XY z]
   ·
    subst xD;rcases h4 with h4 | ⟨oc,JC,arb⟩
    ·omega
    rw [JC] at ho;simp at ho;subst ho;have Et:∀ z∈pb P cfg all oc,tn.get z=(kb S all L 0 t).get z:=fun z hz=>by
     have:=agk (m:=0) (L:=L) (t0:=t) hf hos hcS JC (by rw [bM]; exact rM) (by rw [bM]; exact yx) hz;rw [e0] at this;rw [this,h7 z,X5 (S:=fun _=>true) (S':=fun j=>Nat.blt j i) fun j hj=>by rw [bM]; symm; rw [cq]; omega]
    have yo:BQ P cfg bR all oc (vI P cfg bR all k (all.drop (i+1))) tn A2=some r:=by
     have:all.drop i=oc::all.drop (i+1):=by
      rw [List.drop_eq_getElem_cons hil];rw [dr hil] at JC;simp at JC;rw [JC]
     rw [this] at h8;exact h8
    have hLa:L.length<=all.length:=by omega
    have hdr:all.drop i=oc::all.drop (i+1):=by
     rw [List.drop_eq_getElem_cons hil];rw [dr hil] at JC;simp at JC;rw [JC]
    have one:∀ (S:Nat->Bool) (x:Out),S i=true->kb S all (L++[x]) 0 t=rW (kb S all L 0 t) oc.dst x.2.1:=fun S x hS=>by
     rw [Og S all L [x] 0 t hLa,bM,h2,hdr];simp only [kb,hS,ak];cases all.drop (i+1) <;> rfl
    have anP:∀ {t1:bO} {v:KV} {v' : Value} {E2:Env} {A3:aw} {B2:St} {yD:Ren} {w2:World},(∀ y,t1.get y=tn.get y)->vI P cfg bR all k (all.drop (i+1)) (rW t1 oc.dst v) A3=some r->VC P E2 yD v v'->Ev P base E' A2 B' bd w' E2 A3 B2 yD w2->Inv (cY S i) (a'.put oc.dst v') w2:=by
     intro t1 v v' E2 A3 B2 yD w2 za q1 q2 q3;have mz:=q3.gN.le vV.gN.kA;have e1:kb (cY S i) all L 0 t=kb S all L 0 t:=X5 fun j hj=>by rw [bM]; exact jr (by omega)
     refine begin (i+1) _ (L++[(true,v,A3)]) A3 _ _ w2 E2 B2 yD (by omega) (by simp [h2]) (fun j g1 g2=>by rw [jr (by omega)]; exact h3 j (by omega) g2) (fun j q hj hjq hk=>?_) (fun j q x hj Ta hjq hxj=>?_) (fun y=>?_) q1 (by rw [put_defers]; exact h9) (vV.trans q3) ?_
     ·by_cases he:j=i
      ·subst he; exact Cm
      ·rw [jr he]; exact h5 j q (by omega) hjq hk
     ·have he:j≠i:=by
       intro he;subst he;rw [Cm] at Ta; simp at Ta
      rw [jr he] at Ta;rw [r5 (by omega)] at hxj;have hz:dE (cm P cfg q.op)=0:=by
       rcases (piv i oc JC arb j q hjq).1 (by omega) with hz | hb
       ·exact hz
       ·have:=hcS.ready hf.reg JC yx j hb
        rw [Ta] at this; simp at this
      obtain ⟨t3,p1,p2,p3,p4⟩:=h6 j q x (by omega) Ta hjq hxj;exact ⟨t3,fun y=>by rw [p1 y]; exact (aaP hLa (fun j' hj1 _=>by
       cases hb:Nat.blt j' j with
       | false=>rfl
       | true=>rw [cq] at hb; omega) y).symm,p2,fun Ho=>anE (p3 Ho) hz,p4⟩
     ·rw [one _ _ rfl,u5,u5,za y,h7 y]
     ·refine ((JF.mono q3.le mz).put (Iy i oc JC) q2).same fun z=>?_
      rw [one _ _ Cm,e1]
    have hgt:∀ z∈HV all oc,tn.get z=(kb S all L 0 t).get z:=fun z hz=>Et z (by unfold pb; exact List.mem_append_left _ hz);have run:∀ {t1:bO},(∀ y,t1.get y=tn.get y)->Ob all oc tn true->Qy bR t1 A2 (fun v A=>vI P cfg bR all k (all.drop (i+1)) (rW t1 oc.dst v) A) (cm P cfg oc.op)=some r->wpOp P ⟨all⟩ Q i (Inv (cY S i)) a' w':=by
     intro t1 za hw ara;have Oe:=FT JF hgt hw;unfold wpOp;rw [hoA];simp only [Oe,if_true];rw [anO (t':=kb S all L 0 t) fun x hx=>by
      cases x with
      | tmp z=>
       have:=Et z (by unfold pb; exact List.mem_append_right _ (l8 hx));simp only [ma];rw [za z,this]
      | const v=>rfl
      | global g=>rfl
      | func f=>rfl] at ara
     exact .inl (acq j9 xD ara JF vV.kj fun E2 A2 B2 yD v v' w2 q1 q2 q3=>anP za q1 q2 q3)
    have skip:∀ {t1:bO},(∀ y,t1.get y=tn.get y)->Ob all oc tn false->vI P cfg bR all k (all.drop (i+1)) (rW t1 oc.dst uC) A2=some r->wpOp P ⟨all⟩ Q i (Inv (cY S i)) a' w':=by
     intro t1 za hw hop;have Oe:=FT JF hgt hw;unfold wpOp;rw [hoA];simp only [Oe,JK,if_false];exact anP za hop VC.undef (.refl vV.kA vV.gN.kA)
    unfold BQ at yo;cases hgd:oc.guard with
    | none=>
     rw [hgd] at yo;exact run (fun _=>rfl) (.inl ⟨hgd,rfl⟩) yo
    | some p=>
     obtain ⟨j,want⟩:=p;rw [hgd] at yo;obtain ⟨d,hd,yo⟩:=Oa yo;rcases yo with ⟨b,t1,h4,h5,h6⟩ | ⟨l,h4,h5⟩
     ·rcases h6 with ⟨h6,h7⟩ | ⟨h6,h7⟩
      ·exact run h5 (.inr ⟨j,want,d,hgd,hd,.inl ⟨b,h4,h6.symm⟩⟩) h7
      ·exact skip h5 (.inr ⟨j,want,d,hgd,hd,.inl ⟨b,h4,h6.symm⟩⟩) h7
     ·exact skip (fun _=>rfl) (.inr ⟨j,want,d,hgd,hd,.inr ⟨l,h4,rfl⟩⟩) h5
   ·
    rcases h4 with h4 | ⟨oc,JC,arb⟩
    ·omega
    have bG:n < all.length:=(dq.1 JC).1;have h1':=hcS.ready hf.reg ho yx n ((piv n oc JC arb i o ho).2 xD);have KX:=h3 n (by omega) bG;rw [h1'] at KX; simp at KX
  ·
   rintro S a' w' mi ⟨n,L,A2,tn,E',B',bd,h1,h2,h3,h4,h5,h6,h7,h8,h9,vV,JF⟩;have hmn:n=all.length:=by
    rcases h4 with h4 | ⟨oc,JC,arb⟩
    ·exact h4
    ·have bG:n < all.length:=(dq.1 JC).1
     have:=h3 n (by omega) bG;rw [mi _ bG] at this; simp at this
   rw [hmn,List.drop_length] at h8;refine hq tn E' A2 B' bd a' w' h8 (JF.same fun z=>?_) h9 (QS.trans vV);rw [h7 z];exact ns rfl fun j q hjq _=>by rw [bM]; exact (mi _ (dq.1 hjq).1).symm
  ·simp
 ·simp at Mv
end Go.K
end
section
namespace Go.K
open Go Go.aB
variable {P:Program} {E:Env}
inductive Sub (root:Code):Nat->Code->Prop where
 | root:Sub root 1 root
 | au2 {p:Nat} {a b:Code} : Sub root p (.seq a b)->Sub root (2 * p) a
 | au3 {p:Nat} {a b:Code} : Sub root p (.seq a b)->Sub root (2 * p+1) b
 | ats {p:Nat} {c:Operand} {a b:Code} : Sub root p (.cond c a b)->Sub root (2 * p) a
 | att {p:Nat} {c:Operand} {a b:Code} : Sub root p (.cond c a b)->Sub root (2 * p+1) b
 | block {p id:Nat} {a:Code} : Sub root p (.block id a)->Sub root (2 * p) a
 | loop {p:Nat} {a:Code} : Sub root p (.loop a)->Sub root (2 * p) a
 | scope {p:Nat} {a:Code} : Sub root p (.scope a)->Sub root (2 * p) a
def agm (P:Program) (N:Nat) {R:Type} (c:Code) (f:KE R->bO->aw->Option R):Prop:=
 ∀ (k:KE R) (r:R) (t:bO) (A:aw) (E:Env) (B:St) (ρ:Ren) (base:Nat) (a:Act) (w:World) (Q:Exit->Act->World->Prop),f k t A=some r->lK P E ρ t N a->KJ P E A B ρ base w->
  (∀ e t' E' A' B' bd a' w',k e t' A' = some r->lK P E' bd t' N a'->a'.defers=a.defers->Ev P base E A B ρ w E' A' B' bd w'->Q e.out a' w')->c.wp P Q a w
def SN (P:Program) (N:Nat) (body:Code) (F:bO->aw->CX):Prop:=∀ (R:Type) (k:KE R) (r:R) (t:bO) (A:aw) (E:Env) (B:St) (ρ:Ren) (base:Nat) (a:Act) (w:World) (Q:Exit->Act->World->Prop),VH F k t A=some r->lK P E ρ t N a->KJ P E A B ρ base w->
  (∀ e t' E' A' B' bd a' w',k e t' A' = some r->lK P E' bd t' N a'->a'.defers=a.defers->Ev P base E A B ρ w E' A' B' bd w'->Q e.out a' w')->Code.rounds P body Q iH a w
theorem X6 {c:Code} {Q:Exit->Act->World->Prop} (k:Nat):∀ {n:Nat} {a:Act} {w:World},Code.rounds P c Q n a w->Code.rounds P c Q (n+k) a w
 | 0,_,_,h=>h.elim
 | n+1,a,w,h=>by
  rw [show n+1+k=n+k+1 by omega,rounds_succ];rw [rounds_succ] at h;exact Code.wp_mono (fun e a w q=>by cases e <;> first | exact X6 k q | exact q) h
def arc (P:Program) (cfg:fE) (f:FuncId) (root:Code):Prop:=∀ p F body,cfg.lp f p=some F->Sub root p (.loop body)->∀ N,codeOk N body=true->SN P N body F
section
variable {R:Type} {cfg:fE} {bR:pt R} {L:Nat} {f:FuncId}
theorem X7 {N:Nat} {c:Code} {g:KE R->bO->aw->Option R} (hg:agm P N c g):∀ (n:Nat) (k:KE R) (r:R) (t:bO) (A:aw) (E:Env) (B:St) (ρ:Ren) (base:Nat) (a:Act) (w:World) (Q:Exit->Act->World->Prop),aaC g k n t A=some r->lK P E ρ t N a->KJ P E A B ρ base w->
  (∀ e t' E' A' B' bd a' w',k e t' A' = some r->lK P E' bd t' N a'->a'.defers=a.defers->Ev P base E A B ρ w E' A' B' bd w'->Q e.out a' w')->Code.rounds P c Q n a w
 | 0,k,r,t,A,E,B,ρ,base,a,w,Q,h,ht,hj,hq=>by exact absurd h (by simp [aaC])
 | n+1,k,r,t,A,E,B,ρ,base,a,w,Q,h,ht,hj,hq=>by
  rw [rounds_succ];have h:g (VG k (aaC g k n)) t A=some r:=h;refine hg _ r t A E B ρ base a w _ h ht hj fun e t' E' A' B' bd a' w' h1 h2 h3 h4=>?_;cases e with
  | normal=>
   have h1:aaC g k n t' A' = some r:=h1;exact X7 hg n k r t' A' E' B' bd base a' w' Q h1 h2 h4.kj fun e t'' JG A'' Lg wG a'' JB q1 q2 q3 q4=>hq e t'' JG A'' Lg wG a'' JB q1 q2 (q3.trans h3) (h4.trans q4)
  | exit id=>exact hq (.exit id) t' E' A' B' bd a' w' h1 h2 h3 h4
  | goto l=>exact hq (.goto l) t' E' A' B' bd a' w' h1 h2 h3 h4
  | ret=>exact hq .ret t' E' A' B' bd a' w' h1 h2 h3 h4
theorem X8 {N:Nat} {c:Code} {g:KE R->bO->aw->Option R} {F:bO->aw->CX} (hg:agm P N c g) (hF:SN P N c F):∀ (n:Nat) (k:KE R) (r:R) (t:bO) (A:aw) (E:Env) (B:St) (ρ:Ren) (base:Nat) (a:Act) (w:World) (Q:Exit->Act->World->Prop),aaD g F k n t A=some r->lK P E ρ t N a->KJ P E A B ρ base w->
  (∀ e t' E' A' B' bd a' w',k e t' A' = some r->lK P E' bd t' N a'->a'.defers=a.defers->Ev P base E A B ρ w E' A' B' bd w'->Q e.out a' w')->Code.rounds P c Q (iH+n) a w
 | 0,k,r,t,A,E,B,ρ,base,a,w,Q,h,ht,hj,hq=>hF R k r t A E B ρ base a w Q h ht hj hq
 | n+1,k,r,t,A,E,B,ρ,base,a,w,Q,h,ht,hj,hq=>by
  have h:Bool.rec (motive:=fun _=>Option R) (VH F k t A) (g (VG k (aaD g F k n)) t A) (alr (F t A))=some r:=h;cases ho:alr (F t A) with
  | false=>
   rw [ho] at h;exact X6 (n+1) (hF R k r t A E B ρ base a w Q h ht hj hq)
  | true=>
   rw [ho] at h;have h:g (VG k (aaD g F k n)) t A=some r:=h;rw [show iH+(n+1)=iH+n+1 by omega,rounds_succ];refine hg _ r t A E B ρ base a w _ h ht hj fun e t' E' A' B' bd a' w' h1 h2 h3 h4=>?_;cases e with
   | normal=>
    have h1:aaD g F k n t' A' = some r:=h1;exact X8 hg hF n k r t' A' E' B' bd base a' w' Q h1 h2 h4.kj fun e t'' JG A'' Lg wG a'' JB q1 q2 q3 q4=>hq e t'' JG A'' Lg wG a'' JB q1 q2 (q3.trans h3) (h4.trans q4)
   | exit id=>exact hq (.exit id) t' E' A' B' bd a' w' h1 h2 h3 h4
   | goto l=>exact hq (.goto l) t' E' A' B' bd a' w' h1 h2 h3 h4
   | ret=>exact hq .ret t' E' A' B' bd a' w' h1 h2 h3 h4
theorem mD (j9:uZ P cfg.pc) (xD:Mt P bR) (hm:P.follows .mixedOrders=true) {root:Code} (oY:arc P cfg f root) {N:Nat} : ∀ (c:Code) (p:Nat),Sub root p c->codeOk N c=true->agm P N c (rX P cfg bR L f c p)
 | .skip,p,_,_=>by
  intro k r t A E B ρ base a w Q h ht hj hq;exact wp_skip (hq .normal t E A B ρ a w h ht rfl (.refl hj.k hj.s))
 | .ret,p,_,_=>by
  intro k r t A E B ρ base a w Q h ht hj hq;exact wp_ret (hq .ret t E A B ρ a w h ht rfl (.refl hj.k hj.s))
 | .exit id,p,_,_=>by
  intro k r t A E B ρ base a w Q h ht hj hq;exact wp_exit (hq (.exit id) t E A B ρ a w h ht rfl (.refl hj.k hj.s))
 | .label l,p,_,_=>by
  intro k r t A E B ρ base a w Q h ht hj hq;exact wp_label (hq .normal t E A B ρ a w h ht rfl (.refl hj.k hj.s))
 | .goto l,p,_,_=>by
  intro k r t A E B ρ base a w Q h ht hj hq;exact wp_goto (hq (.goto l) t E A B ρ a w h ht rfl (.refl hj.k hj.s))
 | .region id ops false,p,_,hc=>by
  intro k r t A E B ρ base a w Q h ht hj hq;have h:vI P cfg bR ops.toList (fun t A=>k .normal t A) ops.toList t A=some r:=h;refine wp_region ?_;have:=QN (Q:=Q) (base:=base) j9 xD (N:=N) (all:=ops.toList) hc ops.toList 0 t E A B ρ a w (by simp) h ht hj fun t' E' A' B' bd a' w' h1 h2 h3 h4=>hq .normal t' E' A' B' bd a' w' h1 h2 h3 h4;rw [List.range_eq_range'];simpa using this
 | .region id ops true,p,_,hc=>by
  intro k r t A E B ρ base a w Q h ht hj hq;have h:afM P cfg bR ops.toList true (fun t A=>k .normal t A) t A=some r:=h;unfold afM at h;cases ho:ana P cfg ops.toList with
  | false=>
   rw [ho] at h;cases hcr:NS P cfg ops.toList with
   | true=>
    rw [hcr] at h;exact alN (all:=ops.toList) j9 xD hm hc hcr h ht hj fun t' E' A' B' bd a' w' h1 h2 h3 h4=>hq .normal t' E' A' B' bd a' w' h1 h2 h3 h4
   | false=>
    rw [hcr] at h;cases hb:XL P cfg ops.toList with
    | false=>rw [hb] at h; exact absurd h (by simp)
    | true=>
     rw [hb] at h;exact anL (all:=ops.toList) j9 hm hc hb h ht hj fun t' E' A' B' bd a' w' h1 h2 h3 h4=>hq .normal t' E' A' B' bd a' w' h1 h2 h3 h4
  | true=>
   rw [ho] at h;exact ai3 (all:=ops.toList) j9 hm hc ho h ht hj fun t' E' A' B' bd a' w' h1 h2 h3 h4=>hq .normal t' E' A' B' bd a' w' h1 h2 h3 h4
 | .seq x y,p,hs,hc=>by
  simp only [codeOk,aA] at hc;intro k r t A E B ρ base a w Q h ht hj hq;have h:rX P cfg bR L f x (2 * p) (VG k fun t A=>rX P cfg bR L f y (2 * p+1) k t A) t A=some r:=h;refine wp_seq ?_;refine mD j9 xD hm oY x (2 * p) hs.au2 hc.1 _ r t A E B ρ base a w _ h ht hj fun e t' E' A' B' bd a' w' h1 h2 h3 h4=>?_;cases e with
  | normal=>
   have h1:rX P cfg bR L f y (2 * p+1) k t' A' = some r:=h1;exact mD j9 xD hm oY y (2 * p+1) hs.au3 hc.2 k r t' A' E' B' bd base a' w' Q h1 h2 h4.kj fun e t'' JG A'' Lg wG a'' JB q1 q2 q3 q4=>hq e t'' JG A'' Lg wG a'' JB q1 q2 (q3.trans h3) (h4.trans q4)
  | exit id=>exact hq (.exit id) t' E' A' B' bd a' w' h1 h2 h3 h4
  | goto l=>exact hq (.goto l) t' E' A' B' bd a' w' h1 h2 h3 h4
  | ret=>exact hq .ret t' E' A' B' bd a' w' h1 h2 h3 h4
 | .cond c x y,p,hs,hc=>by
  simp only [codeOk,aA] at hc;intro k r t A E B ρ base a w Q h ht hj hq;have h:alq t c (fun t=>rX P cfg bR L f x (2 * p) k t A) (fun t=>rX P cfg bR L f y (2 * p+1) k t A)=some r:=h;have key:∃ t',(∀ i,t'.get i=t.get i)/\((a.eval c = .bool true/\rX P cfg bR L f x (2 * p) k t' A=some r)\/(a.eval c = .bool false/\rX P cfg bR L f y (2 * p+1) k t' A=some r)):=by
   have yG:=ht.ev c;cases c with
   | tmp d=>
    have h:BK.rec (motive:=fun _=>Option R) (fun b=>Bool.rec (motive:=fun _=>Option R) (rX P cfg bR L f y (2 * p+1) k (t.set (.bool false) d) A) (rX P cfg bR L f x (2 * p) k (t.set (.bool true) d) A) b) none none (xC ((t.get d).getD .ao))=some r:=h;cases hb:xC ((t.get d).getD .ao) with
    | no=>rw [hb] at h; exact absurd h (by simp)
    | na=>rw [hb] at h; exact absurd h (by simp)
    | bool b=>
     rw [hb] at h;have hbv:=FQ hb;have yG:VC P E ρ ((t.get d).getD .ao) (a.eval (.tmp d)):=yG;rw [hbv] at yG;have:=yG.gi;refine ⟨t.set (.bool b) d,N8 hb,?_⟩;cases b
     ·exact .inr ⟨this,h⟩
     ·exact .inl ⟨this,h⟩
   | const v=>
    have h:BK.rec (motive:=fun _=>Option R) (fun b=>Bool.rec (motive:=fun _=>Option R) (rX P cfg bR L f y (2 * p+1) k t A) (rX P cfg bR L f x (2 * p) k t A) b) none none (xC (ma t (.const v)))=some r:=h;cases hb:xC (ma t (.const v)) with
    | no=>rw [hb] at h; exact absurd h (by simp)
    | na=>rw [hb] at h; exact absurd h (by simp)
    | bool b=>
     rw [hb] at h;rw [FQ hb] at yG;have:=yG.gi;refine ⟨t,fun _=>rfl,?_⟩;cases b
     ·exact .inr ⟨this,h⟩
     ·exact .inl ⟨this,h⟩
   | global g=>exact absurd h (by simp [alq,ma,xC])
   | func g=>exact absurd h (by simp [alq,ma,xC])
  obtain ⟨t',KZ,h⟩:=key;have ht':=ht.same KZ;rcases h with ⟨hb,h⟩ | ⟨hb,h⟩
  ·exact wp_cond_true hb (mD j9 xD hm oY x (2 * p) hs.ats hc.1 k r t' A E B ρ base a w Q h ht' hj hq)
  ·exact wp_cond_false hb (mD j9 xD hm oY y (2 * p+1) hs.att hc.2 k r t' A E B ρ base a w Q h ht' hj hq)
 | .block id x,p,hs,hc=>by
  have hc:codeOk N x=true:=hc;intro k r t A E B ρ base a w Q h ht hj hq;have h:rX P cfg bR L f x (2 * p) (aqR id k) t A=some r:=h;refine wp_block ?_;refine mD j9 xD hm oY x (2 * p) hs.block hc _ r t A E B ρ base a w _ h ht hj fun e t' E' A' B' bd a' w' h1 h2 h3 h4=>?_;cases e with
  | normal=>exact hq .normal t' E' A' B' bd a' w' h1 h2 h3 h4
  | exit id'=>
   have h1:Bool.rec (motive:=fun _=>Option R) (k (.exit id') t' A') (k .normal t' A') (Nat.beq id' id)=some r:=h1;cases hb:Nat.beq id' id with
   | true=>
    rw [hb] at h1;have:=bu hb;simp only [ae.out,Exit.inBlock,aY this];exact hq .normal t' E' A' B' bd a' w' h1 h2 h3 h4
   | false=>
    rw [hb] at h1;have:=Nat.ne_of_beq_eq_false hb;simp only [ae.out,Exit.inBlock,av this];exact hq (.exit id') t' E' A' B' bd a' w' h1 h2 h3 h4
  | goto l=>exact hq (.goto l) t' E' A' B' bd a' w' h1 h2 h3 h4
  | ret=>exact hq .ret t' E' A' B' bd a' w' h1 h2 h3 h4
 | .loop x,p,hs,hc=>by
  have hc:codeOk N x=true:=hc;intro k r t A E B ρ base a w Q h ht hj hq;have h:Option.rec (motive:=fun _=>bO->aw->Option R) (aaC (rX P cfg bR L f x (2 * p)) k L) (fun F=>aaD (rX P cfg bR L f x (2 * p)) F k L) (cfg.lp f p) t A=some r:=h;cases hF:cfg.lp f p with
  | some F=>
   rw [hF] at h;exact wp_loop_rounds (iH+L) (X8 (mD j9 xD hm oY x (2 * p) hs.loop hc) (oY p F x hF hs N hc) L k r t A E B ρ base a w Q h ht hj hq)
  | none=>
   rw [hF] at h;exact wp_loop_rounds L (X7 (mD j9 xD hm oY x (2 * p) hs.loop hc) L k r t A E B ρ base a w Q h ht hj hq)
 | .scope x,p,hs,hc=>by
  have hc:codeOk N x=true:=hc;intro k r t A E B ρ base a w Q h ht hj hq;have h:rX P cfg bR L f x (2 * p) (afN k) t A=some r:=h;refine wp_scope_straight ?_;refine mD j9 xD hm oY x (2 * p) hs.scope hc _ r t A E B ρ base a w _ h ht hj fun e t' E' A' B' bd a' w' h1 h2 h3 h4=>?_;cases e with
  | normal=>exact hq .normal t' E' A' B' bd a' w' h1 h2 h3 h4
  | exit id=>exact hq (.exit id) t' E' A' B' bd a' w' h1 h2 h3 h4
  | goto l=>exact absurd h1 (by simp [afN])
  | ret=>exact hq .ret t' E' A' B' bd a' w' h1 h2 h3 h4
 | .rangeFunc ..,p,_,_ | .refuse _,p,_,_=>by
  intro k r t A E B ρ base a w Q h ht hj hq;exact absurd h (by simp [rX])
end
theorem ID:∀ (l:List KV) (i k:Nat) (t:bO),(pM l i t).get k=if i<=k/\k < i+l.length then l[k - i]? else t.get k
 | [],i,k,t=>by
  rw [pM,av];simp
 | v::l,i,k,t=>by
  rw [pM,ID l (i+1) k,Trie.qT];by_cases h1:k=i
  ·subst h1
   rw [av (by omega),aY rfl,aY (by simp)];simp
  ·by_cases h2:i+1<=k/\k < i+1+l.length
   ·rw [aY h2,aY (by simp; omega),show k - i=(k - (i+1))+1 by omega]
    simp
   ·rw [av h2,av h1,av (by simp; omega)]
theorem Gu {A:aw} {B:St} {base N:Nat} {w:World} {ρ:Ren} {t:bO} {a:Act} (hj:KJ P E A B ρ base w) (ht:lK P E ρ t N a):∀ (rs:List ResultVar) (vs:List KV),Mm P A t rs=some vs->
  ∃ cX,ug P E ρ vs cX/\(rs.mapM (aeU a)).run P w=Result.ok cX w
 | [],vs,h=>by simp [Mm] at h; subst h; exact ⟨[],⟨[],.nil,.nil⟩,by simp⟩
 | .tmp x::rs,vs,h=>by
  simp only [Mm] at h;obtain ⟨us,hu,rfl⟩:=cS.1 h;obtain ⟨us',⟨m,h1,h3⟩,h2⟩:=Gu hj ht rs us hu;obtain ⟨u,h4,h5⟩:=ht.ev (.tmp x);refine ⟨_::us',⟨u::m,.cons h4 h1,.cons h5 h3⟩,?_⟩;simp [List.mapM_cons,h2,Act.eval,aeU]
 | .cell x ty::rs,vs,h=>by
  simp only [Mm] at h;split at h
  ·rename_i v hv
   obtain ⟨us,hu,rfl⟩:=cS.1 h;obtain ⟨us',⟨m,h1,h3⟩,h2⟩:=Gu hj ht rs us hu;obtain ⟨u,h4,h5⟩:=ht.ev (.tmp x);have hg:bf (aaw P ty A [ma t (.tmp x)]) v:=by rw [hv]; exact rfl
   obtain ⟨z,h6,h7⟩:=ann E A B _ _ v hj.k (.cons h4 .nil) hg;have h6:loadAt P ty B u=some z:=h6;obtain ⟨ad,h8,z',h9,vV⟩:=TV (P:=P) hj.s.rel h5 h6;refine ⟨z'::us',⟨z::m,.cons h7 h1,.cons h9 h3⟩,?_⟩;have h8:a.tmps.getD x undef = .pointer (some ad):=h8;simp only [List.mapM_cons,Sem.run_bind,aeU,h8,asAddr,Sem.run_pure,kl,vV,h2]
  ·simp at h
theorem QX {ρ:Ren} {vs:List KV} {cX:List Value} (h:ug P E ρ vs cX):VC P E ρ (Ir vs) (if h:cX.toArray.size=1 then cX.toArray[0] else .tuple cX.toArray):=by
 obtain ⟨m,h1,h2⟩:=h
 match vs with
 | []=>
  rw [h1.cw] at h2;rw [h2.cw];exact ⟨_,.afO .nil,VR.mkTuple .nil⟩
 | [v]=>
  obtain ⟨u,rfl,h3⟩:=h1.fN;obtain ⟨y,ys,rfl,h4,h5⟩:=h2.cons_inv;rw [h5.cw];exact ⟨u,h3,h4⟩
 | v::v2::vs=>
  obtain ⟨u,us,rfl,h3,h4⟩:=h1.cons_inv;obtain ⟨u2,us2,rfl,h5,h6⟩:=h4.cons_inv;obtain ⟨y,ys,rfl,h7,h8⟩:=h2.cons_inv;obtain ⟨y2,ys2,rfl,h9,vV⟩:=h8.cons_inv;rw [dif_neg (by simp)];exact ⟨_,.afO (.cons h3 (.cons h5 h6)),VR.mkTuple (.cons h7 (.cons h9 vV))⟩
def alO (vs:List Value):Value:=if h:vs.toArray.size=1 then vs.toArray[0] else .tuple vs.toArray
theorem Oh {R:Type} {cfg:fE} {bR:pt R} (j9:uZ P cfg.pc) (xD:Mt P bR) (hm:P.follows .mixedOrders=true) (L:Nat) {f:FuncId} {fn:Func} {c:Code} (hf:P.funcs[f]? = some fn) (hb:fn.body=some c) (dt:codeOk fn.ntmps c=true) (oY:arc P cfg f c)
  {args:List KV} {A:aw} {k:List KV->aw->Option R} {r:R} (h:rX P cfg bR L f c 1 (anb P fn k) (pM args 0 .leaf) A=some r) {E:Env} {B:St} {ρ:Ren} {hZ:List Value} {base:Nat} {w:World} (hv:ug P E ρ args hZ) (hj:KJ P E A B ρ base w) :
  Calls P f hZ.toArray w fun e w'=>∃ vs cX E' A' B' bd,e = .returned (alO cX)/\ug P E' bd vs cX/\Ev P base E A B ρ w E' A' B' bd w'/\k vs A' = some r:=by
 refine calls_of_wp hf hb ?_;obtain ⟨apI,S6,Vs⟩:=hv;have hlen:hZ.length=args.length:=by rw [Vs.length,S6.length]
 have ht:lK P E ρ (pM args 0 .leaf) (max fn.ntmps args.length) { tmps:=hZ.toArray++Array.replicate (fn.ntmps - hZ.toArray.size) undef,defers:=[] }:=by
  have fZ:(hZ.toArray++Array.replicate (fn.ntmps - hZ.toArray.size) undef).size=max fn.ntmps args.length:=by
   simp [hlen];omega
  refine ⟨fZ,fun i=>?_,fun i hi=>?_⟩
  ·rw [ID]
   simp only [E7,true_and,bM,Nat.sub_zero,Trie.Sy];by_cases hi:i < args.length
   ·rw [aY hi]
    obtain ⟨u,hu⟩:∃ u,args[i]? = some u:=⟨_,dr hi⟩
    obtain ⟨m,h1,h2⟩:=S6.get hu;obtain ⟨u',h3,h4⟩:=Vs.get h1;rw [hu];have:(hZ.toArray++Array.replicate (fn.ntmps - hZ.toArray.size) undef).getD i undef=u':=by
     rw [jB,Array.getElem?_append_left (by simpa [hlen] using hi)];simp [h3]
    rw [this];exact ⟨m,h2,h4⟩
   ·rw [av hi]
    exact VC.ao
  ·rw [ID,av,Trie.Sy]
   simp only [E7,true_and,bM];have:=Nat.le_max_right fn.ntmps args.length;omega
 have akx:codeOk (max fn.ntmps args.length) c=true:=nM (Nat.le_max_left _ _) c dt;refine mD (L:=L) (f:=f) (N:=max fn.ntmps args.length) j9 xD hm oY c 1 .root akx _ r _ A E B ρ base _ w _ h ht hj fun e t' E' A' B' bd a' w' h1 h2 h3 h4=>?_;have fin:∀ vs,Mm P A' t' fn.results.toList=some vs->k vs A' = some r->∀ e:ae,(e = .normal\/e = .ret)->bodyPost P fn (fun e w'=>∃ vs cX E' A' B' bd,e = .returned (alO cX)/\ug P E' bd vs cX/\Ev P base E A B ρ w E' A' B' bd w'/\k vs A' = some r) e.out a' w':=by
  intro vs hr hk e he;obtain ⟨cX,hvs,mW⟩:=Gu (P:=P) h4.kj h2 _ _ hr;have anQ:(results fn a'.tmps).run P w' = .ok (if h:cX.toArray.size=1 then cX.toArray[0] else .tuple cX.toArray) w':=by
   rw [aca,Sem.run_bind,Array.mapM_eq_mapM_toList,Sem.run_map,mW];rfl
  have agn:bodyPost P fn (fun e w'=>∃ vs cX E' A' B' bd,e = .returned (alO cX)/\ug P E' bd vs cX/\Ev P base E A B ρ w E' A' B' bd w'/\k vs A' = some r) .ret a' w':=by
   exact ⟨h3,_,anQ,vs,cX,E',A',B',bd,rfl,hvs,h4,hk⟩
  rcases he with rfl | rfl
  ·exact agn
  ·exact agn
 cases e with
 | normal=>
  have h1:Option.rec (motive:=fun _=>Option R) none (fun vs=>k vs A') (Mm P A' t' fn.results.toList)=some r:=h1;cases hr:Mm P A' t' fn.results.toList with
  | none=>rw [hr] at h1; exact absurd h1 (by simp)
  | some vs=>rw [hr] at h1; exact fin vs hr h1 .normal (.inl rfl)
 | ret=>
  have h1:Option.rec (motive:=fun _=>Option R) none (fun vs=>k vs A') (Mm P A' t' fn.results.toList)=some r:=h1;cases hr:Mm P A' t' fn.results.toList with
  | none=>rw [hr] at h1; exact absurd h1 (by simp)
  | some vs=>rw [hr] at h1; exact fin vs hr h1 .ret (.inr rfl)
 | exit id=>exact absurd h1 (by simp [anb])
 | goto l=>exact absurd h1 (by simp [anb])
end Go.K
end
section
namespace Go.K
open Go Go.aB
variable {P:Program} {E:Env}
def akA (P:Program) (ac:FuncId->Option (List KV->aw->xB)):Prop:=∀ g F,ac g=some F->∀ {R:Type} (args:List KV) (A:aw) (k:KV->aw->Option R) (r:R),xB.run k (F args A)=some r->Cl P g/\
 ∀ (E:Env) (B:St) (ρ:Ren) (base:Nat) (w:World) (hZ:List Value),ug P E ρ args hZ->KJ P E A B ρ base w->
  Calls P g hZ.toArray w fun e w'=>∃ v v' E' A' B' bd,e = .returned v'/\VC P E' bd v v'/\Ev P base E A B ρ w E' A' B' bd w'/\k v A' = some r
theorem akA.none {P:Program} : akA P fun _=>.none:=fun g F h=>by simp at h
def Aw (P:Program) (cfg:fE):Prop:=akA P cfg.x.ac/\∀ f fn c,P.funcs[f]? = some fn->fn.body=some c->arc P cfg f c
theorem QY {R:Type} {cfg:fE} {bR:pt R} {L:Nat} {f:FuncId} {args:List KV} {A:aw} {k:List KV->aw->Option R} {r:R} (hP:P.funcs.toList.all o9=true) (h:aaE P cfg bR L f args A k=some r) :
  ∃ fn c, P.funcs[f]? = some fn ∧ fn.body = some c ∧ codeOk fn.ntmps c = true ∧ (fn.name == "runtime.NumGoroutine") = false ∧ rX P cfg bR L f c 1 (anb P fn k) (pM args 0 .leaf) A = some r := by
 unfold aaE at h;split at h
 ·rename_i fn hf
  split at h
  ·rename_i c hc
   have hf' : P.funcs[f]? = some fn:=by simpa using hf
   have dt:=ig.1 hP fn (jC hf);unfold o9 at dt;rw [hc] at dt;simp only [aA,mw] at dt;exact ⟨fn,c,hf',hc,dt.1,dt.2,h⟩
  ·simp at h
 ·simp at h
theorem xh {R:Type} {cfg:fE} (hP:P.funcs.toList.all o9=true) (hm:P.follows .mixedOrders=true) (j9:uZ P cfg.pc) (oY:Aw P cfg) (L:Nat):∀ n,Mt (R:=R) P (JV P cfg L n)
 | 0=>fun f args A k r h=>absurd h (by simp [JV])
 | n+1=>fun f args A k r h=>by
  have h:Bool.rec (motive:=fun _=>Option R) none (Option.rec (motive:=fun _=>Option R) (aaE P cfg (JV P cfg L n) L f args A fun vs B=>k (Ir vs) B) (fun F=>xB.run k (F args A)) (cfg.x.ac f)) (Nat.blt f yB)=some r:=h;cases hy:Nat.blt f yB with
  | false=>rw [hy] at h; exact absurd h (by simp)
  | true=>
   rw [hy] at h;cases hac:cfg.x.ac f with
   | some F=>
    rw [hac] at h;exact oY.1 f F hac args A k r h
   | none=>
    rw [hac] at h;have h:aaE P cfg (JV P cfg L n) L f args A (fun vs B=>k (Ir vs) B)=some r:=h;obtain ⟨fn,c,hf,hc,dt,hnm,h⟩:=QY hP h;refine ⟨⟨hy,fn,hf,by simp [hc],hnm⟩,fun E B ρ base w hZ hv hj=>?_⟩;refine (Oh j9 (xh hP hm j9 oY L n) hm L hf hc dt (oY.2 f fn c hf hc) h hv hj).mono ?_;rintro e w' ⟨vs,cX,E',A',B',bd,rfl,h1,h2,h3⟩;exact ⟨Ir vs,_,E',A',B',bd,rfl,QX h1,h2,h3⟩
def ZLe (E E0:Env):Prop:=∀ b r,E.z b=some r->∃ r0,E0.z b=some r0/\r0.cg=r.cg/\r0.cs=r.cs
theorem ZLe.of {E E0:Env} (h:E0.z=E.z):ZLe E E0:=fun b r e=>⟨r,by rw [h]; exact e,rfl,rfl⟩
mutual
theorem VK.zK {E0:Env} (hz:ZLe E E0):∀ {v:KV} {u:Value} {c:CK},VK P E v u->kindOk c v=true->VK P E0 v u
 | .int k n,u,c,h,_=>h
 | .bool b,u,c,h,_=>h
 | .str s,u,c,h,_=>h
 | .ts T m n es acc,u,c,h,hk=>by
  cases c <;> simp [kindOk] at hk;rename_i t;cases m <;> simp at hk;obtain ⟨ht,bK,h1,a,cap,rfl,h2,h3,h4⟩:=h.mC;simp only [VK];refine ⟨ht,bK,bC.zEs hz h1 ht.typed,a,cap,rfl,h2,?_,trivial⟩;refine h3.imp id ?_;rintro ⟨b,off,r,e1,e2,e3⟩;obtain ⟨r0,q1,q2,q3⟩:=hz b r e2;exact ⟨b,off,r0,e1,q1,by rw [q2]; exact e3.1,by rw [q3]; exact e3.2⟩
 | .agg cs,u,c,h,hk=>by cases c <;> simp [kindOk] at hk
 | .na cs,u,c,h,hk=>by cases c <;> simp [kindOk] at hk
 | .tp T Tc i k es acc,u,c,h,hk=>by cases c <;> simp [kindOk] at hk
 | .al T b o n,u,c,h,hk=>by cases c <;> simp [kindOk] at hk
 | .ap T Tc b i k,u,c,h,hk=>by cases c <;> simp [kindOk] at hk
 | .ptr b off,u,c,h,hk=>by cases c <;> simp [kindOk] at hk
 | .sl b off n cap,u,c,h,hk=>by cases c <;> simp [kindOk] at hk
 | .GZ,u,c,h,hk=>by cases c <;> simp [kindOk] at hk
 | .lX,u,c,h,hk=>by cases c <;> simp [kindOk] at hk
 | .CT,u,c,h,hk=>by cases c <;> simp [kindOk] at hk
 | .map b,u,c,h,hk=>by cases c <;> simp [kindOk] at hk
 | .fn f a b,u,c,h,hk=>by cases c <;> simp [kindOk] at hk
 | .Il,u,c,h,hk=>by cases c <;> simp [kindOk] at hk
 | .iface t x,u,c,h,hk=>by cases c <;> simp [kindOk] at hk
 | .Im,u,c,h,hk=>by cases c <;> simp [kindOk] at hk
 | .ao,u,c,h,hk=>by cases c <;> simp [kindOk] at hk
theorem VK.zE {E0:Env} (hz:ZLe E E0):∀ {v:KV} {u:Value} {l:Lay},VK P E v u->cP l v=true->VK P E0 v u
 | .int k n,u,l,h,_=>h
 | .bool b,u,l,h,_=>h
 | .str s,u,l,h,_=>h
 | .agg cs,u,l,h,hk=>by
  simp only [cP,aA] at hk;obtain ⟨m,rfl,h1⟩:=h.mh;exact .rU (bC.zKs hz h1 hk.2)
 | .ts T m n es acc,u,l,h,hk=>by
  have yo:∃ c,kindOk c (.ts T m n es acc)=true:=by
   simp only [cP,aA] at hk;cases ue:l.ks with
   | nil=>rw [ue] at hk; simp [aK] at hk
   | cons c cs=>rw [ue] at hk; simp only [aK,aA] at hk; exact ⟨c,hk.2.1⟩
  obtain ⟨c,hk⟩:=yo;cases c <;> simp [kindOk] at hk;rename_i t;cases m <;> simp at hk;obtain ⟨ht,bK,h1,a,cap,rfl,h2,h3,h4⟩:=h.mC;simp only [VK];refine ⟨ht,bK,bC.zEs hz h1 ht.typed,a,cap,rfl,h2,?_,trivial⟩;refine h3.imp id ?_;rintro ⟨b,off,r,e1,e2,e3⟩;obtain ⟨r0,q1,q2,q3⟩:=hz b r e2;exact ⟨b,off,r0,e1,q1,by rw [q2]; exact e3.1,by rw [q3]; exact e3.2⟩
 | .na cs,u,l,h,hk=>by simp [cP] at hk
 | .tp T Tc i k es acc,u,l,h,hk=>by
  obtain ⟨h1,_⟩:=jy hk;cases ue:l.ks with
  | nil=>rw [ue] at h1; simp [KV.cells,aK] at h1
  | cons c cs=>rw [ue] at h1; cases c <;> simp [KV.cells,aK,kindOk] at h1
 | .al T b o n,u,l,h,hk=>by
  obtain ⟨h1,_⟩:=jy hk;cases ue:l.ks with
  | nil=>rw [ue] at h1; simp [KV.cells,aK] at h1
  | cons c cs=>rw [ue] at h1; cases c <;> simp [KV.cells,aK,kindOk] at h1
 | .ap T Tc b i k,u,l,h,hk=>by
  obtain ⟨h1,_⟩:=jy hk;cases ue:l.ks with
  | nil=>rw [ue] at h1; simp [KV.cells,aK] at h1
  | cons c cs=>rw [ue] at h1; cases c <;> simp [KV.cells,aK,kindOk] at h1
 | .ptr b off,u,l,h,hk=>by
  obtain ⟨h1,_⟩:=jy hk;cases ue:l.ks with
  | nil=>rw [ue] at h1; simp [KV.cells,aK] at h1
  | cons c cs=>rw [ue] at h1; cases c <;> simp [KV.cells,aK,kindOk] at h1
 | .sl b off n cap,u,l,h,hk=>by
  obtain ⟨h1,_⟩:=jy hk;cases ue:l.ks with
  | nil=>rw [ue] at h1; simp [KV.cells,aK] at h1
  | cons c cs=>rw [ue] at h1; cases c <;> simp [KV.cells,aK,kindOk] at h1
 | .GZ,u,l,h,hk=>h
 | .lX,u,l,h,hk=>h
 | .CT,u,l,h,hk=>h
 | .map b,u,l,h,hk=>by
  obtain ⟨h1,_⟩:=jy hk;cases ue:l.ks with
  | nil=>rw [ue] at h1; simp [KV.cells,aK] at h1
  | cons c cs=>rw [ue] at h1; cases c <;> simp [KV.cells,aK,kindOk] at h1
 | .fn f a b,u,l,h,hk=>by
  obtain ⟨h1,_⟩:=jy hk;cases ue:l.ks with
  | nil=>rw [ue] at h1; simp [KV.cells,aK] at h1
  | cons c cs=>rw [ue] at h1; cases c <;> simp [KV.cells,aK,kindOk] at h1
 | .Il,u,l,h,hk=>h
 | .iface t x,u,l,h,hk=>by
  obtain ⟨h1,_⟩:=jy hk;cases ue:l.ks with
  | nil=>rw [ue] at h1; simp [KV.cells,aK] at h1
  | cons c cs=>rw [ue] at h1; cases c <;> simp [KV.cells,aK,kindOk] at h1
 | .Im,u,l,h,hk=>h
 | .ao,u,l,h,hk=>h
theorem bC.zKs {E0:Env} (hz:ZLe E E0):∀ {vs:List KV} {us:List Value} {ks:List CK},bC P E vs us->aK ks vs=true->bC P E0 vs us
 | [],us,ks,h,_=>by rw [h.cw]; exact .nil
 | v::vs,us,[],h,hk=>by simp [aK] at hk
 | v::vs,us,c::ks,h,hk=>by
  simp only [aK,aA] at hk;simp only [bC] at h ⊢;obtain ⟨y,ys,e,h1,h2⟩:=h;exact ⟨y,ys,e,VK.zK hz h1 hk.1,bC.zKs hz h2 hk.2⟩
theorem bC.zEs {E0:Env} (hz:ZLe E E0):∀ {vs:List KV} {us:List Value} {l:Lay},bC P E vs us->ga l vs=true->bC P E0 vs us
 | [],us,l,h,_=>by rw [h.cw]; exact .nil
 | v::vs,us,l,h,hk=>by
  simp only [ga,aA] at hk;simp only [bC] at h ⊢;obtain ⟨y,ys,e,h1,h2⟩:=h;exact ⟨y,ys,e,VK.zE hz h1 hk.1,bC.zEs hz h2 hk.2⟩
end
theorem VK.atu {E0:Env} (hz:ZLe E E0) {c:CK} {v:KV} {u:Value} (h:VK P E v u):VK P E0 (K.oW c v) u:=by
 have hn:=h.oW (c:=c);cases hk:kindOk c (K.oW c v) with
 | true=>exact hn.zK hz hk
 | false=>
  have:K.oW c v = .ao:=by
   revert hk
   unfold K.oW;split
   ·intro hk; simp [kindOk] at hk
   ·rename_i t t' m n es acc
    cases hb:Nat.beq t t' with
    | false=>intro _; rfl
    | true=>intro hk; simp [kindOk] at hk
   ·cases hb:kindOk c v with
    | false=>intro _; rfl
    | true=>intro hk; rw [ak,hb] at hk; simp at hk
  rw [this];exact .uW
theorem bC.anR {E0:Env} (hz:ZLe E E0):∀ {ks:List CK} {cs:List KV} {l:List Value},bC P E cs l->cs.length=ks.length->bC P E0 (K.CU ks cs) l
 | [],[],l,h,_=>by rw [h.cw]; exact .nil
 | [],_::_,_,_,e=>by simp at e
 | _::_,[],_,_,e=>by simp at e
 | c::ks,v::cs,l,h,e=>by
  obtain ⟨y,ys,rfl,h1,h2⟩:=h.cons_inv;exact .cons (h1.atu hz) (bC.anR hz h2 (by simpa using e))
theorem VK.auv {E0:Env} (hz:ZLe E E0) {l:Lay} {v:KV} {u:Value} (h:VK P E v u):VK P E0 (K.fe l v) u:=by
 unfold K.fe;split
 ·rename_i cs
  obtain ⟨m,rfl,h1⟩:=h.mh;cases hb:(l.agg&&Nat.beq cs.length l.ks.length) with
  | false=>exact .uW
  | true=>
   simp only [aA] at hb;exact .rU (h1.anR hz (bu hb.2))
 ·cases l.agg with
  | true=>exact .uW
  | false=>
   rw [ba];split
   ·exact h.atu hz
   ·exact .uW
theorem VK.avE {E0:Env} (hz:ZLe E E0) {t:TypeId} {v:KV} {u:Value} (h:VK P E v u):VK P E0 (K.XJ P t v) u:=by
 unfold K.XJ;cases hb:cP (bB P t) (K.fe (bB P t) v) with
 | false=>exact .uW
 | true=>exact VK.ax _ hb (h.auv hz)
theorem bC.QZ {E0:Env} (hz:ZLe E E0):∀ {ts:List TypeId} {vs:List KV} {us:List Value},bC P E vs us->vs.length=ts.length->bC P E0 (normArgs P ts vs) us
 | [],[],us,h,_=>by rw [h.cw]; exact .nil
 | [],_::_,_,_,e=>by simp at e
 | _::_,[],_,_,e=>by simp at e
 | t::ts,v::vs,us,h,e=>by
  obtain ⟨y,ys,rfl,h1,h2⟩:=h.cons_inv;exact .cons (h1.avE hz) (bC.QZ hz h2 (by simpa using e))
theorem IE:∀ (ts:List TypeId) (vs:List KV),y8 P ts vs=normArgs P ts vs
 | [],vs=>by cases vs <;> rfl
 | t::ts,[]=>rfl
 | t::ts,v::vs=>by simp [y8,normArgs,IE ts vs]
theorem Mw:∀ {ts:List TypeId} {vs:List KV},vs.length=ts.length->(normArgs P ts vs).length=ts.length
 | [],[],_=>rfl
 | [],_::_,e=>by simp at e
 | _::_,[],e=>by simp at e
 | t::ts,v::vs,e=>by simp [normArgs,Mw (ts:=ts) (vs:=vs) (by simpa using e)]
def Env.bare (E:Env):Env:={ E with κ:=fun _=>none,φ:=fun _=>none,α:=fun _=>none }
theorem fX.bare {A:aw} {B:St} (h:fX P E A B):fX P E.bare .empty B where
 row b cs cg hb:=by simp [aw.empty,aw.get] at hb
 bA b top sz hb:=by simp [aw.empty,aw.get] at hb
 z:=h.z
 apart b x e:=by simp [Env.bare] at e
 inj b c x e:=by simp [Env.bare] at e
 kQ b c g _ _ _ _ _ _ e:=by simp [Env.bare] at e
 lV b x e:=by simp [Env.bare] at e
 nQ b g e:=by simp [Env.bare] at e
 live b o hb:=by simp [aw.empty,aw.get] at hb
 iV b x e:=by simp [Env.bare] at e
 nR:=h.nR
 lr b g e:=by simp [Env.bare] at e
 fresh:=h.fresh
 mem:=h.mem
 ar:=by
  have hn:∀ b v,¬ aw.empty.get b=some (.arr v):=fun b v hb=>by simp [aw.empty,aw.get] at hb
  exact ⟨fun b v hb=>(hn b v hb).elim,fun b v hb=>by simp [aw.empty,aw.get] at hb,fun x ⟨b,v,_,_,hb,_⟩=>(hn b v hb).elim,fun b c v u x L N L' N' hb=>(hn b v hb).elim,fun b c v u x y L N L' N' cs e own g k cu e' rH k' hb=>(hn b v hb).elim,fun b x e=>by simp [Env.bare] at e,fun b p e=>by simp [Env.bare] at e,fun b x L N e=>by simp [Env.bare] at e,fun b v x L N cs e own g k hb=>(hn b v hb).elim,fun b v hb=>(hn b v hb).elim⟩
theorem anS {x:Nat} : ¬ AR .empty E.bare x:=fun ⟨b,v,_,_,hb,_⟩=>by simp [aw.empty,aw.get] at hb
theorem anT {B:St} {g:Nat} : ¬ AF .empty E.bare B g:=fun ⟨b,v,_,_,_,_,_,_,_,hb,_⟩=>by simp [aw.empty,aw.get] at hb
theorem atv {B:St} {y:Nat} : ¬ AT .empty E.bare B y:=fun q=>q.elim anS fun ⟨_,q,_⟩=>anT q
theorem Ev.bare {base:Nat} {A A1:aw} {B B1:St} {ρ od:Ren} {w w1:World} {E1:Env} (h:fX P E A B) (yG:Ev P base E.bare .empty B ρ w E1 A1 B1 od w1):Ev P base E A B ρ w { E with z:=E1.z } A B1 od w1:=by
 have hle:E.le { E with z:=E1.z }:=⟨fun _ _ e=>e,fun _ _ e=>e,yG.le.z,fun _ _ e=>e⟩
 have Oi:∀ x,x < B.next->B1.get x=B.get x:=fun x hx=>yG.ij x hx (fun b e=>by simp [Env.bare] at e) atv;have oe:∀ g,g < B.next->B1.members g=B.members g:=fun g hg=>yG.su g hg (fun b e=>by simp [Env.bare] at e) anT;have j6:=yG.gN.next;have QH:∀ b r,E1.z b=some r->E.z b=some r\/B.next<=b:=fun b r e=>by
  rcases yG.wH b r e with e | e | e
  ·exact .inl e
  ·exact (anS e).elim
  ·exact .inr e
 have uf:∀ y,AR A { E with z:=E1.z } y->AR A E y:=fun y q=>q;have au4:∀ g,AF A E B g->g < B.next:=fun g ⟨b,v,x,L,N,cs,e,own,k,h1,h2,h3⟩=>(h.ar.vJ b v x L N cs e own g k h1 h2 h3).1;have Lf:∀ g,AF A { E with z:=E1.z } B1 g->AF A E B g:=fun g ⟨b,v,x,L,N,cs,e,own,k,h1,h2,h3⟩=>⟨b,v,x,L,N,cs,e,own,k,h1,h2,by rw [<- Oi x (h.ar.iV b x L N h2)]; exact h3⟩
 refine ⟨⟨?_,?_,yG.kA.z,?_,h.inj,h.kQ,h.lV,h.nQ,h.live,?_,yG.kA.nR,?_,yG.kA.fresh,yG.kA.mem,h.ar.ij hle (fun _=>rfl) (fun _ _ e=>e) (fun _ _ e=>e) (aU _) j6 (fun x q=>Oi x (h.JY q)) QH (fun _ _ e=>.inl e) (fun b g e=>.inl ⟨b,e⟩) (fun g q=>oe g (au4 g q)) h.mem⟩,yG.gN,hle,aU _,fun x hx _ _=>Oi x hx,fun _ _ e=>.inl e,fun b r e=>(QH b r e).imp id .inr,fun _ _ e=>.inl ⟨_,e⟩,fun g hg _ _=>oe g hg,fun y q=>.inl (uf y q),fun g q=>.inl (Lf g q),yG.yC,fun y q=>.inl (q.imp (uf y) fun ⟨g,q1,q2⟩=>⟨g,Lf g q1,by rw [<- oe g (au4 g (Lf g q1))]; exact q2⟩),yG.rows⟩
 ·intro b cs cg hb
  obtain ⟨x,c,h1,h2,h3⟩:=h.row b cs cg hb;exact ⟨x,c,h1,by rw [Oi x (h.iV b x h1)]; exact h2,h3.mono hle⟩
 ·intro b top sz hb
  rcases h.bA b top sz hb with h1 | ⟨g,h1,h2,h3⟩
  ·exact .inl h1
  ·have hg:=h.lr b g h1
   refine .inr ⟨g,h1,h2,fun x hx cs e own f k hr=>?_⟩;rw [oe g hg] at hx;rw [Oi x (h.mem g x hx)] at hr;exact h3 x hx cs e own f k hr
 ·intro b x hb
  have hx:=h.iV b x hb;cases hz:E1.z x with
  | none=>rfl
  | some r=>
   rcases QH x r hz with e | e
   ·rw [h.apart b x hb] at e; simp at e
   ·omega
 ·intro b x hb; have:=h.iV b x hb; omega
 ·intro b g hb; have:=h.lr b g hb; omega
theorem atw {g:FuncId} {F:List KV->KR KV} (hy:Nat.blt g yB=true) (hP:P.funcs.toList.all o9=true) (hm:P.follows .mixedOrders=true)
  (h:∀ alP v,alP.length=(aG P g).length->bf (F (normArgs P (aG P g) alP)) v->∃ cfg L n,uZ P cfg.pc/\Aw P cfg/\cD P cfg L n g (normArgs P (aG P g) alP)=some v):bH P g F:=by
 intro args v hF hlen;obtain ⟨cfg,L,n,j9,oY,mW⟩:=h _ v hlen hF;have xD:=xh (R:=KV) hP hm j9 oY L n;obtain ⟨fn,c,hf,hc,dt,hnm,mW⟩:=QY hP mW;refine ⟨⟨hy,fn,hf,by simp [hc],hnm⟩,fun E A B ρ base w hZ hv hj=>?_⟩;obtain ⟨apI,S6,Vs⟩:=hv;have hv0:ug P E.bare ρ (normArgs P (aG P g) args) hZ:=⟨apI,bC.QZ (E:=E) (E0:=E.bare) (.of rfl) S6 hlen,Vs⟩
 refine (Oh j9 xD hm L hf hc dt (oY.2 g fn c hf hc) mW hv0 ⟨hj.k.bare,hj.s⟩).mono ?_;rintro e w' ⟨vs,cX,E0,A0,B1,od,rfl,⟨m,h1,h1'⟩,h2,h3⟩;have h3:Bool.rec (motive:=fun _=>Option KV) none (some (Ir (y8 P (uT P g) (Ap A0 vs).1))) (Nat.beq vs.length (uT P g).length)=some v:=h3;obtain ⟨E1,hf1,h1⟩:=JZ h2.kA h1;have yG:=Ev.bare hj.k (h2.trans (hf1.ev (.refl h2.gN.kA)));cases hb:Nat.beq vs.length (uT P g).length with
 | false=>rw [hb] at h3; exact absurd h3 (by simp)
 | true=>
  rw [hb] at h3;have h3:some (Ir (y8 P (uT P g) (Ap A0 vs).1))=some v:=h3;simp only [di] at h3;subst h3;refine ⟨_,_,B1,od,rfl,QX ⟨m,?_,h1'⟩,yG⟩;rw [IE];exact bC.QZ (E:=E1) (E0:={ E with z:=E1.z }) (.of rfl) h1 ((N7 A0 vs).trans (bu hb))
end Go.K
end
