/- Part of the proof of WorldMat: the machine, shown to be the model's, and plain models. No conditions. -/
import Derived.Test.YtckbdndhmcoihaaGreatDp
import Derived.LoopN
set_option linter.unusedSimpArgs false
set_option linter.unusedVariables false
section
namespace Go.K
open Go Go.aB
variable {P:Program} {E:Env}
theorem X1 {cfg:fE} {all:List Oper} {b:List Nat} {i:Nat} {y:Oper} : ∀ (xs:List Oper) (k:Nat),SI P cfg all b i y xs k=true->∀ (j:Nat) (x:Oper),xs[j]? = some x->k+j < i->Lc P cfg all x y=true->rX b i (k+j)=true\/(vW P cfg all x y=false/\(acg all (k+j) x i y).isSome=true)
 | [],k,_,j,x,hx,_,_=>by simp at hx
 | x0::xs,k,h,0,x,hx,bG,hc=>by
  simp at hx;subst hx;simp only [SI,aA,uD,mz] at h;rcases h.1 with ((h1 | h1) | h1) | h1
  ·have:=fR h1; omega
  ·rw [hc] at h1; simp at h1
  ·exact .inl h1
  ·exact .inr h1
 | x0::xs,k,h,j+1,x,hx,bG,hc=>by
  simp only [SI,aA] at h;have:=X1 xs (k+1) h.2 j x (by simpa using hx) (by omega) hc;rwa [show k+1+j=k+(j+1) by omega] at this
theorem QQ {cfg:fE} {all:List Oper} {b:List Nat} : ∀ (os:List Oper) (k:Nat),Mi P cfg all b os k=true->∀ (i:Nat) (o:Oper),os[i]? = some o->SI P cfg all b (k+i) o all 0=true
 | [],k,_,i,o,ho=>by simp at ho
 | o0::os,k,h,0,o,ho=>by
  simp at ho;subst ho;simp only [Mi,aA] at h;exact h.1
 | o0::os,k,h,i+1,o,ho=>by
  simp only [Mi,aA] at h;have:=QQ os (k+1) h.2 i o (by simpa using ho);rwa [show k+1+i=k+(i+1) by omega] at this
theorem X2 {cfg:fE} {all:List Oper} {b:List Nat} {i:Nat} {y:Oper} {p:Option Operand×Operand} : ∀ (xs:List Oper) (k j:Nat) (x:Oper),xs[j]? = some x->k+j < i->Lc P cfg all x y=true->rX b i (k+j)=false->acg all (k+j) x i y=some p->p∈FO P cfg all b i y xs k
 | [],k,j,x,hx,_,_,_,_=>by simp at hx
 | x0::xs,k,0,x,hx,bG,hm,hb,he=>by
  simp at hx;subst hx;have h1:(Nat.ble i k||!Lc P cfg all x0 y||rX b i k)=false:=by
   rw [hm,show rX b i k=false from hb];cases h:Nat.ble i k with
   | false=>rfl
   | true=>have:=fR h; omega
  simp only [FO];rw [h1,ba,show acg all k x0 i y=some p from he];exact List.mem_cons_self
 | x0::xs,k,j+1,x,hx,bG,hm,hb,he=>by
  have e:k+(j+1)=k+1+j:=by omega
  have:=X2 (b:=b) (p:=p) xs (k+1) j x (by simpa using hx) (show k+1+j < i by omega) hm (by rw [<- e]; exact hb) (by rw [<- e]; exact he);simp only [FO];cases (Nat.ble i k||!Lc P cfg all x0 y||rX b i k) with
  | true=>exact this
  | false=>
   rw [ba];split
   ·exact yY _ this
   ·exact this
theorem Ua {cfg:fE} {all:List Oper} {b:List Nat} {p:Option Operand×Operand} : ∀ (os:List Oper) (k i:Nat) (y:Oper),os[i]? = some y->p∈FO P cfg all b (k+i) y all 0->p∈aaD P cfg all b os k
 | [],k,i,y,hy,_=>by simp at hy
 | o::os,k,0,y,hy,h=>by
  simp at hy;subst hy;exact List.mem_append_left _ h
 | o::os,k,i+1,y,hy,h=>by
  refine List.mem_append_right _ (Ua os (k+1) i y (by simpa using hy) ?_);rwa [show k+1+i=k+(i+1) by omega]
structure Ub (P:Program) (cfg:fE) (all:List Oper):Prop where
 reg:tC P all
 kind:∀ o∈all,dE (cm P cfg o.op)<=3
 ord:∀ i j x y,all[i]? = some y->all[j]? = some x->j < i->Lc P cfg all x y=true->rX (fF [] all) i j=true\/(vW P cfg all x y=false/\∃ p,acg all j x i y=some p/\p∈Ld P cfg all)
 plain:∀ p,p∈Ld P cfg all->VH P cfg all=true
theorem anE {cfg:fE} {all:List Oper} (h:anc P cfg all=true):Ub P cfg all:=by
 unfold anc at h;simp only [aA] at h;refine ⟨Gs h.1.1.1,fun o ho=>fR (ij.1 h.1.1.2 o ho),fun i j x y hy hx bG hm=>?_,fun p hp=>?_⟩
 ·have:=QQ all 0 h.1.2 i y hy
  rw [bM] at this;have:=X1 all 0 this j x hx (by omega) hm;rw [bM] at this;cases hb:rX (fF [] all) i j with
  | true=>exact .inl rfl
  | false=>
   rcases this with h1 | ⟨h1,h2⟩
   ·rw [hb] at h1; simp at h1
   ·obtain ⟨p,hp⟩:=Option.isSome_iff_exists.1 h2
    refine .inr ⟨h1,p,hp,Ua all 0 i y hy ?_⟩;rw [bM];exact X2 all 0 j x hx (by omega) hm (by rw [bM]; exact hb) (by rw [bM]; exact hp)
 ·have h2:=h.2
  simp only [uD] at h2;rcases h2 with h2 | h2
  ·rw [List.isEmpty_iff] at h2
   rw [h2] at hp;simp at hp
  ·exact h2
structure agf (P:Program) (cfg:fE) (all:List Oper):Prop where
 reg:tC P all
 Gm:∀ {i j:Nat} {x y:Oper},all[i]? = some y->all[j]? = some x->j < i->vW P cfg all x y=true->rX (fF [] all) i j=true
theorem Ub.toT {cfg:fE} {all:List Oper} (hf:Ub P cfg all):agf P cfg all:=⟨hf.reg,fun {i j x y} hy hx bG hc=>by
 rcases hf.ord i j x y hy hx bG (by unfold Lc; rw [hc]; rfl) with h | ⟨h,_⟩
 ·exact h
 ·rw [hc] at h; simp at h⟩
def X3 (P:Program) (cfg:fE) (all:List Oper) (i:Nat):Prop:=∀ j q,all[j]? = some q->Nat.ble 3 (dE (cm P cfg q.op))=true->(j < i->rX (fF [] all) i j=true)/\(i < j->rX (fF [] all) j i=true)
theorem C6 {x y:Oper} {p:Option Operand×Operand} (h:NT x y=some p):(∃ T,y.op = .load T p.2)/\((p.1=none/\SH x.op=true)\/∃ T a v,p.1=some a/\x.op = .store T a v):=by
 unfold NT at h;split at h
 ·rename_i a ha
  have hl:∃ T,y.op = .load T a:=by
   unfold aqS at ha;split at ha
   ·rename_i T a' e; simp at ha; subst ha; exact ⟨T,e⟩
   ·simp at ha
  cases hs:SH x.op with
  | true=>
   rw [hs,ak] at h;simp at h;subst h;exact ⟨hl,.inl ⟨rfl,rfl⟩⟩
  | false=>
   rw [hs,ba] at h;split at h
   ·rename_i a2 ha2
    simp at h;subst h;refine ⟨hl,.inr ?_⟩;unfold XM at ha2;split at ha2
    ·rename_i T a3 v e; simp at ha2; subst ha2; exact ⟨T,_,v,rfl,e⟩
    ·simp at ha2
   ·simp at h
 ·simp at h
theorem agh {all:List Oper} {i j:Nat} {x y:Oper} {p:Option Operand×Operand} (h:acg all j x i y=some p) :
  (NT x y=some p/\yD i p.2 all 0=true/\NS j p.1 all=true)\/(NT y x=some p/\yD j p.2 all 0=true/\NS i p.1 all=true):=by
 unfold acg at h;split at h
 ·rename_i q hq
  cases hb:(yD i q.2 all 0&&NS j q.1 all) with
  | false=>rw [hb] at h; simp at h
  | true=>
   rw [hb,ak] at h;simp at h;subst h;simp only [aA] at hb;exact .inl ⟨hq,hb.1,hb.2⟩
 ·split at h
  ·rename_i q hq
   cases hb:(yD j q.2 all 0&&NS i q.1 all) with
   | false=>rw [hb] at h; simp at h
   | true=>
    rw [hb,ak] at h;simp at h;subst h;simp only [aA] at hb;exact .inr ⟨hq,hb.1,hb.2⟩
  ·simp at h
theorem IB {cfg:fE} {o:Oper} {T:TypeId} {a:Operand} (h:o.op = .load T a):dE (cm P cfg o.op)=1:=by rw [h]; rfl
theorem unordered {cfg:fE} {all:List Oper} (hf:Ub P cfg all) {i j:Nat} {o q:Oper} (ho:all[i]? = some o) (hq:all[j]? = some q) (hk:dE (cm P cfg o.op)≠0) (h3:Nat.ble 3 (dE (cm P cfg q.op))=true) :
  ((j < i->rX (fF [] all) i j=true)/\(i < j->rX (fF [] all) j i=true))\/∃ p,p∈Ld P cfg all/\NT q o=some p/\yD i p.2 all 0=true/\NS j p.1 all=true:=by
 have yq:Nat.beq (dE (cm P cfg o.op)) 0=false:=by
  cases hb:Nat.beq (dE (cm P cfg o.op)) 0 with
  | false=>rfl
  | true=>exact absurd (bu hb) hk
 have hnl:∀ T a,q.op≠.load T a:=fun T a e=>by rw [IB e] at h3; simp at h3
 rcases Nat.lt_trichotomy j i with h | h | h
 ·rcases hf.ord i j q o ho hq h (by unfold Lc; rw [h3,yq]; simp) with h1 | ⟨_,p,h1,h2⟩
  ·exact .inl ⟨fun _=>h1,fun h'=>by omega⟩
  ·rcases agh h1 with ⟨e1,e2,e3⟩ | ⟨e1,e2,e3⟩
   ·exact .inr ⟨p,h2,e1,e2,e3⟩
   ·obtain ⟨⟨T,e⟩,_⟩:=C6 e1
    exact absurd e (hnl _ _)
 ·exact .inl ⟨fun h'=>by omega,fun h'=>by omega⟩
 ·rcases hf.ord j i o q hq ho h (by unfold Lc; rw [h3,yq]; simp) with h1 | ⟨_,p,h1,h2⟩
  ·exact .inl ⟨fun h'=>by omega,fun _=>h1⟩
  ·rcases agh h1 with ⟨e1,e2,e3⟩ | ⟨e1,e2,e3⟩
   ·obtain ⟨⟨T,e⟩,_⟩:=C6 e1
    exact absurd e (hnl _ _)
   ·exact .inr ⟨p,h2,e1,e2,e3⟩
theorem QR {cfg:fE} {all:List Oper} (hf:Ub P cfg all) {i:Nat} {o:Oper} (ho:all[i]? = some o) (hk:dE (cm P cfg o.op)≠0) (hn:∀ T a,o.op≠.load T a):X3 P cfg all i:=fun j q hq h3=>by
 rcases unordered hf ho hq hk h3 with h | ⟨p,_,h,_⟩
 ·exact h
 ·obtain ⟨⟨T,e⟩,_⟩:=C6 h
  exact absurd e (hn _ _)
theorem Eu {cfg:fE} {o:Oper} (h:dE (cm P cfg o.op)<=3):∀ f args,cm P cfg o.op≠.call f args:=by
 intro f args e;rw [e] at h;simp [dE] at h
theorem C7 {d:Tmp} {l:List Tmp} (h:d∈l):Qm (some d) l=true:=by
 simp only [Qm,List.any_eq_true];exact ⟨d,h,by simp⟩
theorem l9 {x:Tmp} : ∀ {xs:List Operand},Operand.tmp x∈xs->x∈tA xs
 | [],h=>by simp at h
 | y::ys,h=>by
  rcases fA.1 h with h | h
  ·subst h; simp [tA]
  ·have:=l9 h
   cases y <;> simp [tA,this]
section
variable {cfg:fE} {all:List Oper} {L:List Out} {t0:bO} {A0:aw}
theorem agi (hf:agf P cfg all) {S:Nat->Bool} (hc:r9 all S) {i:Nat} {o:Oper} (ho:all[i]? = some o) (rO:S i=false) (yz:xj all S i) {y:Tmp} (hy:y∈pe P cfg all o) :
  (kd S all L 0 t0).get y=(kd (fun j=>Nat.blt j i) all L 0 t0).get y:=by
 refine nu rfl fun j q hq hd=>?_;rw [bM];rcases Nat.lt_trichotomy j i with h | h | h
 ·have:rX (fF [] all) i j=true:=hf.Gm ho hq h (by
   unfold vW;rw [hd,C7 hy];rfl)
  rw [hc.ready hf.reg ho yz j this]
  symm; rw [cq]; exact h
 ·subst h
  rw [rO]
  symm
  cases hb:Nat.blt j j with
  | false=>rfl
  | true=>rw [cq] at hb; omega
 ·have hb:rX (fF [] all) j i=true:=hf.Gm hq ho h (by
   unfold vW;rw [hd,C7 hy];simp)
  have:S j=false:=by
   cases hs:S j with
   | false=>rfl
   | true=>have:=hc j i hs hb; rw [rO] at this; simp at this
  rw [this]
  symm
  cases hbb:Nat.blt j i with
  | false=>rfl
  | true=>rw [cq] at hbb; omega
theorem X4 (hf:Ub P cfg all) {S:Nat->Bool} (hc:r9 all S) {i:Nat} {o:Oper} (ho:all[i]? = some o) (rO:S i=false) (yz:xj all S i) (gR:X3 P cfg all i) :
  pk P cfg S all L 0 A0=pk P cfg (fun j=>Nat.blt j i) all L 0 A0:=by
 refine J3 fun j q x hq hx ht=>?_;rw [bM];have h3:Nat.ble 3 (dE (cm P cfg q.op))=true:=by unfold turns at ht; simp only [aA] at ht; exact ht.2
 rcases Nat.lt_trichotomy j i with h | h | h
 ·have:rX (fF [] all) i j=true:=(gR j q hq h3).1 h
  rw [hc.ready hf.reg ho yz j this]
  symm; rw [cq]; exact h
 ·subst h
  rw [rO]
  symm
  cases hb:Nat.blt j j with
  | false=>rfl
  | true=>rw [cq] at hb; omega
 ·have hb:rX (fF [] all) j i=true:=(gR j q hq h3).2 h
  have:S j=false:=by
   cases hs:S j with
   | false=>rfl
   | true=>have:=hc j i hs hb; rw [rO] at this; simp at this
  rw [this]
  symm
  cases hbb:Nat.blt j i with
  | false=>rfl
  | true=>rw [cq] at hbb; omega
theorem Mw (hf:agf P cfg all) {S:Nat->Bool} (hc:r9 all S) {i:Nat} {o:Oper} {x:Out} (ho:all[i]? = some o) (hx:L[i]? = some x) (rO:S i=false) (y:Tmp) :
  (kd (cY S i) all L 0 t0).get y=(rY (kd S all L 0 t0) o.dst x.2.1).get y:=by
 rw [u7];by_cases hd:o.dst=some y
 ·rw [aY hd]
  have:=age (S:=S) (y:=y) (os:=all) (L:=L) (k:=0) (i:=i) (t:=t0) ho hx hd (fun j q hq hqd bG=>by
   rw [bM];have hb:rX (fF [] all) j i=true:=hf.Gm hq ho bG (by
    unfold vW;rw [hqd,hd];simp [Xs])
   cases hs:S j with
   | false=>rfl
   | true=>have:=hc j i hs hb; rw [rO] at this; simp at this)
  rw [bM] at this;exact this
 ·rw [av hd]
  refine nu rfl fun j q hq hqd=>?_;rw [bM];have de:j≠i:=by
   intro e;subst e;rw [ho] at hq;simp at hq;subst hq;exact hd hqd
  unfold cY;have:Nat.beq j i=false:=by
   cases hb:Nat.beq j i with
   | false=>rfl
   | true=>exact absurd (bu hb) de
  rw [this,Bool.or_false]
theorem Bq {S:Nat->Bool} {i:Nat} {o:Oper} {x:Out} (ho:all[i]? = some o) (hx:L[i]? = some x) (ht:turns P cfg o x=false):pk P cfg (cY S i) all L 0 A0=pk P cfg S all L 0 A0:=by
 refine J3 fun j q y hq hy hty=>?_;rw [bM];have de:j≠i:=by
  intro e;subst e;rw [ho] at hq; rw [hx] at hy;simp at hq hy;subst hq hy;rw [ht] at hty; simp at hty
 unfold cY;have:Nat.beq j i=false:=by
  cases hb:Nat.beq j i with
  | false=>rfl
  | true=>exact absurd (bu hb) de
 rw [this,Bool.or_false]
theorem anF {i:Nat} {o:Oper} {x:Out} (ho:all[i]? = some o) (hx:L[i]? = some x) (ht:turns P cfg o x=true):pk P cfg (fun j=>Nat.blt j (i+1)) all L 0 A0=x.2.2:=by
 have key:∀ (os:List Oper) (L:List Out) (k i:Nat) (A:aw) (o:Oper) (x:Out),os[i]? = some o->L[i]? = some x->turns P cfg o x=true->pk P cfg (fun j=>Nat.blt j (k+i+1)) os L k A=x.2.2:=by
  intro os
  induction os with
  | nil=>intro L k i A o x ho; simp at ho
  | cons q os ih=>
   intro L k i A o x ho hx ht;cases L with
   | nil=>simp at hx
   | cons u L=>
    simp only [pk];have bG:Nat.blt k (k+i+1)=true:=by rw [cq]; omega
    rw [bG,Bl];cases i with
    | zero=>
     simp at ho hx;subst ho hx;rw [ht,ak];have:∀ (os:List Oper) (L:List Out) (m:Nat) (A:aw),k+1<=m->pk P cfg (fun j=>Nat.blt j (k+0+1)) os L m A=A:=by
      intro os
      induction os with
      | nil=>intro L m A _; cases L <;> rfl
      | cons q os ih=>
       intro L m A hm;cases L with
       | nil=>rfl
       | cons u L=>
        simp only [pk];have:Nat.blt m (k+0+1)=false:=by
         cases hb:Nat.blt m (k+0+1) with
         | false=>rfl
         | true=>rw [cq] at hb; omega
        rw [this,Bool.false_and,ba];exact ih L _ A (by omega)
     exact this os L (k+1) _ (aU _)
    | succ i=>
     have:=ih L (k+1) i (cond (turns P cfg q u) u.2.2 A) o x (by simpa using ho) (by simpa using hx) ht;rwa [show k+1+i+1=k+(i+1)+1 by omega] at this
 have:=key all L 0 i A0 o x ho hx ht;rwa [bM] at this
theorem apG (hf:Ub P cfg all) {S:Nat->Bool} (hc:r9 all S) {i:Nat} {o:Oper} {x:Out} (ho:all[i]? = some o) (hx:L[i]? = some x) (rO:S i=false) (yz:xj all S i) (ht:turns P cfg o x=true) :
  pk P cfg (cY S i) all L 0 A0=x.2.2:=by
 have h3:Nat.ble 3 (dE (cm P cfg o.op))=true:=by unfold turns at ht; simp only [aA] at ht; exact ht.2
 have hk:dE (cm P cfg o.op)≠0:=by have:=fR h3; omega
 have h1:pk P cfg (cY S i) all L 0 A0=pk P cfg (fun j=>Nat.blt j (i+1)) all L 0 A0:=by
  refine J3 fun j q y hq hy hty=>?_;rw [bM];have hq3:Nat.ble 3 (dE (cm P cfg q.op))=true:=by unfold turns at hty; simp only [aA] at hty; exact hty.2
  have gR:X3 P cfg all i:=QR hf ho hk fun T a e=>by rw [IB e] at h3; simp at h3
  rcases Nat.lt_trichotomy j i with h | h | h
  ·have:rX (fF [] all) i j=true:=(gR j q hq hq3).1 h
   have:=hc.ready hf.reg ho yz j this;unfold cY;rw [this,Bool.true_or]
   symm; rw [cq]; omega
  ·subst h
   have:cY S j j=true:=by simp [cY]
   rw [this]
   symm; rw [cq]; omega
  ·have hb:rX (fF [] all) j i=true:=(gR j q hq hq3).2 h
   have:S j=false:=by
    cases hs:S j with
    | false=>rfl
    | true=>have:=hc j i hs hb; rw [rO] at this; simp at this
   unfold cY;have de:Nat.beq j i=false:=by
    cases hb:Nat.beq j i with
    | false=>rfl
    | true=>have:=bu hb; omega
   rw [this,de]
   symm
   cases hbb:Nat.blt j (i+1) with
   | false=>rfl
   | true=>rw [cq] at hbb; omega
 rw [h1];exact anF ho hx ht
end
theorem ai3 {all:List Oper} {o:Oper} {j:Nat} {want:Bool} {d:Tmp} (hg:o.guard=some (j,want)) (hd:(all[j]?).bind (·.dst)=some d):d∈HX all o:=by
 unfold HX;rw [hg];simp [hd]
theorem FV {all:List Oper} {o:Oper} {t t1:bO} {wd:Bool} {N:Nat} {ρ:Ren} {a:Act} (ht:lL P E ρ t N a) (hl:∀ y∈HX all o,t1.get y=t.get y) (h:Od all o t1 wd):Region.wanted o (yielded ⟨all⟩ a.tmps)=wd:=by
 rcases h with ⟨hg,rfl⟩ | ⟨j,want,d,hg,hd,h⟩
 ·unfold Region.wanted
  rw [hg]
 ·have K3:=hl d (ai3 hg hd)
  have A7:=ht.val d;unfold Region.wanted;rw [hg];simp only;unfold yielded;have e:(⟨all⟩:Array Oper)[j]? = all[j]?:=by simp
  rw [e,hd];simp only [fy];rcases h with ⟨b,h1,rfl⟩ | ⟨l,h1,rfl⟩
  ·rw [<- K3,h1] at A7
   have hcv:=A7.gi;cases hc:a.tmps[d]? with
   | none=>simp [jC,hc,undef] at hcv
   | some u=>
    have:u = .bool b:=by rw [<- hcv]; simp [jC,hc]
    subst this;rfl
  ·rw [<- K3,h1] at A7
   obtain ⟨u,h2,h3⟩:=A7;obtain ⟨m,rfl,_⟩:=h2.QC;obtain ⟨m',h4,_⟩:=h3.Vw;cases hc:a.tmps[d]? with
   | none=>rfl
   | some u=>
    have:u = .tuple m':=by rw [<- h4]; simp [jC,hc]
    subst this;rfl
theorem QS {t t1:bO} {N:Nat} {ρ:Ren} {a:Act} (ht:lL P E ρ t N a) {x:Operand} (h:∀ y,x = .tmp y->t1.get y=t.get y):VC P E ρ (mc t1 x) (a.eval x):=by
 have:=ht.ev x;cases x with
 | tmp y=>simp only [mc] at this ⊢; rw [h y rfl]; exact this
 | const v=>exact this
 | global g=>exact this
 | func f=>exact this
theorem anG {cfg:fE} {o:Oper} {t:bO} {A A1 A' : aw} {v:KV} (h:bf (xO (cm P cfg o.op) t A) (v,A1)) (hk:dE (cm P cfg o.op)=0):bf (xO (cm P cfg o.op) t A') (v,A'):=by
 generalize cm P cfg o.op=ins at h hk;cases ins with
 | pure f xs=>obtain ⟨u,h1,h2⟩:=bf.map h; simp at h2; obtain ⟨rfl,_⟩:=h2; exact h1.C5
 | read f xs=>simp [dE] at hk
 | act f xs=>simp [dE] at hk
 | look f xs=>obtain ⟨u,h1,h2⟩:=bf.map h; simp at h2; obtain ⟨rfl,_⟩:=h2; exact h1.C5
 | Ei g f xs=>obtain ⟨u,h1,h2⟩:=bf.map h; simp at h2; obtain ⟨rfl,_⟩:=h2; exact h1.C5
 | Ir g f xs=>simp [dE] at hk
 | call f xs=>exact h.elim
 | bad=>exact h.elim
theorem VY {cfg:fE} {S:Nat->Bool} (h:∀ i,S i=false):∀ {os:List Oper} {L:List Out} {k:Nat} {A:aw},pk P cfg S os L k A=A
 | [],L,k,A=>by cases L <;> rfl
 | o::os,[],k,A=>rfl
 | o::os,x::L,k,A=>by simp only [pk]; rw [h,Bool.false_and,ba]; exact VY h
theorem Oe {S:Nat->Bool} (h:∀ i,S i=false):∀ {os:List Oper} {L:List Out} {k:Nat} {t:bO},kd S os L k t=t
 | [],L,k,A=>by cases L <;> rfl
 | o::os,[],k,A=>rfl
 | o::os,x::L,k,A=>by simp only [kd]; rw [h,ba]; exact Oe h
theorem atq {A:aw} {o:kV} {b:Nat} (hb:b < A.next) (cs:List KV) (e:Nat):A.get b=some (.row cs e)↔(A.new o).get b=some (.row cs e):=by
 rw [aw.dz,av (by omega)]
theorem QT {A:aw} {o:kV} {b c:Nat} (h:b≠c\/((∀ cs e,A.get b≠some (.row cs e))/\∀ cs e,o≠.row cs e)) (cs:List KV) (e:Nat):A.get b=some (.row cs e)↔(A.put c o).get b=some (.row cs e):=by
 rw [aw.cz];by_cases hbc:b=c
 ·rw [aY hbc]
  rcases h with h | ⟨h1,h2⟩
  ·exact absurd hbc h
  ·exact ⟨fun q=>absurd q (h1 _ _),fun q=>absurd (by simpa using q) (h2 cs e)⟩
 ·rw [av hbc]
def Uc (A A' : aw):Prop:=A.next<=A'.next/\∀ b,b < A.next->∀ cs e,A.get b=some (.row cs e)↔A'.get b=some (.row cs e)
theorem H4 {A:aw} {o:kV} : Uc A (A.new o):=⟨by simp,fun _ hb cs e=>atq hb cs e⟩
theorem SP {A:aw} {c:Nat} {o o' : kV} (hc:A.get c=some o') (h' : ∀ cs e,o'≠.row cs e) (h:∀ cs e,o≠.row cs e):Uc A (A.put c o):=⟨by simp,fun b _ cs e=>by
 by_cases hbc:b=c
 ·subst hbc
  exact QT (.inr ⟨fun cs e q=>by rw [hc] at q; simp at q; exact h' cs e q,h⟩) cs e
 ·exact QT (.inl hbc) cs e⟩
theorem Uc.trans {A B C:aw} (h:Uc A B) (k:Uc B C):Uc A C:=⟨o9 h.1 k.1,fun b hb cs e=>(h.2 b hb cs e).trans (k.2 b (nK hb h.1) cs e)⟩
theorem Og {e sz b n f m:Nat} {base new:List KV} {ab an:Nat->KV} {A A' : aw} {v:KV} {more:Bool} (h:bf (XK e sz b n base ab A f m new an more) (v,A')):A' = A.put f (.bA (n+m) sz):=by
 obtain ⟨_,h⟩:=bf.lQ h;simp only [fS] at h;exact h.2.symm
theorem X5 {e b n m:Nat} {base new:List KV} {ab an:Nat->KV} {A A' : aw} {v:KV} {more:Bool} (h:bf (aeZ e b n base ab A m new an more) (v,A')):∃ o,A' = A.new (.arr o):=by
 obtain ⟨_,h⟩:=bf.lQ h;simp only [fS] at h;exact ⟨_,h.2.symm⟩
theorem alN {e sz b:Nat} {A A' : aw} {xs:List KV} {v:KV} (h:bf (Qx e sz b A xs) (v,A')):Uc A A':=by
 unfold Qx at h;split at h
 ·obtain ⟨_,h⟩:=bf.cond h
  rw [Og h];exact H4.trans (SP (o':=.bA 0 sz) (by simp) (by simp) (by simp))
 ·obtain ⟨_,h⟩:=bf.cond h
  rw [Og h];exact H4.trans (SP (o':=.bA 0 sz) (by simp) (by simp) (by simp))
 ·split at h
  ·rename_i hf
   obtain ⟨_,h⟩:=bf.cond h;rw [Og h];exact SP hf (by simp) (by simp)
  ·exact h.elim
 ·exact h.elim
theorem Ud {e b:Nat} {A A' : aw} {xs:List KV} {v:KV} (h:bf (HZ e b A xs) (v,A')):Uc A A':=by
 unfold HZ at h;split at h
 ·obtain ⟨_,h⟩:=bf.cond h
  obtain ⟨o,rfl⟩:=X5 h;exact H4
 ·split at h
  ·rename_i hf
   obtain ⟨_,h⟩:=bf.cond h;obtain ⟨o,rfl⟩:=X5 h;exact (SP hf (by simp) (by simp)).trans H4
  ·exact h.elim
 ·exact h.elim
theorem ai4 {e sz b:Nat} {mt:Bool} {A A' : aw} {xs:List KV} {v:KV} (h:bf (Mg e sz b mt A xs) (v,A')):Uc A A':=by
 unfold Mg at h;split at h
 ·split at h
  ·rename_i y' _
   revert h
   cases ata _ with
   | true=>exact fun h=>Ud h
   | false=>
    cases mt with
    | true=>exact fun h=>Ud h
    | false=>exact fun h=>alN h
  ·exact h.elim
 ·exact h.elim
theorem asb {c:Bool} {i:tD} {t:bO} {A:aw} {x:KV×aw} (h:bf (xO (cond c i .bad) t A) x):bf (xO i t A) x:=by
 cases c with
 | true=>exact h
 | false=>exact h.elim
theorem agj {cfg:fE} {o:Oper} {t:bO} {A A' : aw} {v:KV} (hs:SH o.op=true) (h:bf (xO (cm P cfg o.op) t A) (v,A')):Uc A A':=by
 revert hs h
 cases hop:o.op <;> intro hs h <;> simp [SH] at hs
 ·rename_i T
  have h:bf (xO (rP P T) t A) (v,A'):=h;unfold rP at h;split at h
  ·rename_i z _
   cases hb:(flat z&&z.cells.toList.all scalar&&jM (iH z).cells) with
   | false=>rw [hb] at h; exact h.elim
   | true=>
    rw [hb,ak] at h;have h:(KV.ptr A.next 0,A.new (.row (iH z).cells (pL P T)))=(v,A'):=h;simp only [fS] at h;rw [<- h.2];exact H4
  ·exact h.elim
 ·rename_i T x
  have h:bf (am6 (pL P T) A [mc t x]) (v,A'):=h;unfold am6 at h;simp only at h;obtain ⟨_,h⟩:=bf.cond h;have h:(KV.ptr A.next 0,A.new (.row (mc t x).cells (pL P T)))=(v,A'):=h;simp only [fS] at h;rw [<- h.2];exact H4
 ·rename_i c
  split at hs
  ·rename_i hc
   have h:bf (xO (np P cfg c) t A) (v,A'):=h;unfold np at h;rw [hc] at h;simp only [CY] at h;unfold JW at h;split at h
   ·split at h
    ·split at h
     ·split at h
      ·exact ai4 (asb h)
      ·exact h.elim
     ·exact h.elim
    ·exact h.elim
   ·exact h.elim
  ·simp at hs
theorem acu {cfg:fE} {o:Oper} {T:TypeId} {a x:Operand} {t:bO} {A A' : aw} {v:KV} (ho:o.op = .store T a x) (h:bf (xO (cm P cfg o.op) t A) (v,A')) :
  A'.next=A.next/\∀ b,((∃ b2 off,mc t a = .ptr b2 off/\b≠b2)\/∃ U Tc c i k,mc t a = .ap U Tc c i k)->∀ cs e,A.get b=some (.row cs e)↔A'.get b=some (.row cs e):=by
 rw [ho] at h;have h:bf (XI P T A [mc t a,mc t x]) (v,A'):=h;unfold XI at h;split at h
 ·rename_i c off w heq
  simp only [List.cons.injEq,and_true] at heq;obtain ⟨_,h⟩:=bf.cond h;split at h
  ·split at h
   ·have h:(uE,_)=(v,A'):=h
    simp only [fS] at h;rw [<- h.2];refine ⟨rfl,fun b hb cs e=>QT (.inl ?_) cs e⟩;rcases hb with ⟨b2,atn,h1,h2⟩ | ⟨U,Tc,c',i,k,h1⟩
    ·rw [heq.1] at h1; simp at h1; rw [h1.1]; exact h2
    ·rw [heq.1] at h1; simp at h1
   ·exact h.elim
  ·exact h.elim
 ·rename_i U Tc c i k w heq
  split at h
  ·rename_i hA
   obtain ⟨_,h⟩:=bf.cond h;split at h
   ·have h:(uE,_)=(v,A'):=h
    simp only [fS] at h;rw [<- h.2];refine ⟨rfl,fun b _ cs e=>?_⟩;by_cases hbc:b=c
    ·subst hbc
     exact QT (.inr ⟨fun cs e q=>by rw [hA] at q; simp at q,by simp⟩) cs e
    ·exact QT (.inl hbc) cs e
   ·exact h.elim
  ·exact h.elim
 ·exact h.elim
theorem VZ {t:bO} {nx:Nat} : ∀ {l:List (Option Operand×Operand)},VG t nx l=true->∀ p∈l,Mh t nx p=true
 | [],_,p,hp=>by simp at hp
 | q::l,h,p,hp=>by
  have h:Bool.rec (motive:=fun _=>Bool) false (VG t nx l) (Mh t nx q)=true:=h;cases hq:Mh t nx q with
  | false=>rw [hq] at h; simp at h
  | true=>
   rw [hq] at h;rcases fA.1 hp with rfl | hp
   ·exact hq
   ·exact VZ h p hp
theorem acv {i:Nat} {x:Tmp} : ∀ (os:List Oper) (k:Nat),yD i (.tmp x) os k=true->∀ j o,os[j]? = some o->i<=k+j->o.dst≠some x
 | [],k,_,j,o,ho,_=>by simp at ho
 | q::os,k,h,0,o,ho,hle=>by
  simp at ho;subst ho;simp only [yD,aA,uD,mz] at h;rcases h.1 with h1 | h1
  ·rw [cq] at h1; omega
  ·intro e
   rw [e,C7 (by simp [tA])] at h1;simp at h1
 | q::os,k,h,j+1,o,ho,hle=>by
  simp only [yD,aA] at h;exact acv os (k+1) h.2 j o (by simpa using ho) (by omega)
section
variable {cfg:fE} {all:List Oper} {L:List Out} {t0:bO} {A0:aw}
theorem alO {tn t1:bO} {i:Nat} {x:Operand} (Tb:∀ y,tn.get y=(kd (fun _=>true) all L 0 t0).get y) (zc:∀ y,t1.get y=(kd (fun j=>Nat.blt j i) all L 0 t0).get y) (h:yD i x all 0=true):mc tn x=mc t1 x:=by
 cases x with
 | tmp y=>
  simp only [mc];rw [Tb y,zc y,nu (S':=fun j=>Nat.blt j i) rfl fun j o ho hd=>?_];rw [bM]
  symm
  rw [cq];refine Nat.lt_of_not_le fun hle=>?_;exact acv all 0 h j o ho (by omega) hd
 | const v=>rfl
 | global g=>rfl
 | func f=>rfl
theorem anH (j:Nat):(∃ q x,all[j]? = some q/\L[j]? = some x/\turns P cfg q x=true/\pk P cfg (fun k=>Nat.blt k (j+1)) all L 0 A0=x.2.2)\/
  ((∀ q x,all[j]? = some q->L[j]? = some x->turns P cfg q x=false)/\pk P cfg (fun k=>Nat.blt k (j+1)) all L 0 A0=pk P cfg (fun k=>Nat.blt k j) all L 0 A0):=by
 by_cases h:∃ q x,all[j]? = some q/\L[j]? = some x/\turns P cfg q x=true
 ·obtain ⟨q,x,h1,h2,h3⟩:=h
  refine .inl ⟨q,x,h1,h2,h3,?_⟩;have:=anF (A0:=A0) h1 h2 h3;exact this
 ·have hn:∀ q x,all[j]? = some q->L[j]? = some x->turns P cfg q x=false:=fun q x h1 h2=>by
   cases ht:turns P cfg q x with
   | false=>rfl
   | true=>exact absurd ⟨q,x,h1,h2,ht⟩ h
  refine .inr ⟨hn,J3 fun k q x hq hx ht=>?_⟩;rw [bM];have de:k≠j:=fun e=>by subst e; rw [hn q x hq hx] at ht; simp at ht
  cases hb:Nat.blt k j with
  | true=>rw [cq] at hb ⊢; omega
  | false=>
   cases xD:Nat.blt k (j+1) with
   | false=>rfl
   | true=>
    rw [cq] at xD;have : ¬ k < j:=fun h=>by rw [<- cq,hb] at h; simp at h
    omega
theorem acw (hf:Ub P cfg all) {S:Nat->Bool} (hc:r9 all S):∀ n,∃ m,m<=n/\∀ j q x,j < n->all[j]? = some q->L[j]? = some x->turns P cfg q x=true->S j=Nat.blt j m
 | 0=>⟨0,aU 0,fun j q x hj=>by omega⟩
 | n+1=>by
  obtain ⟨m,hm,h⟩:=acw hf hc n;by_cases hn:∃ q x,all[n]? = some q/\L[n]? = some x/\turns P cfg q x=true/\S n=true
  ·obtain ⟨q,x,h1,h2,h3,h4⟩:=hn
   have hq3:Nat.ble 3 (dE (cm P cfg q.op))=true:=by unfold turns at h3; simp only [aA] at h3; exact h3.2
   have hk:dE (cm P cfg q.op)≠0:=by have:=fR hq3; omega
   have gR:=QR hf h1 hk fun T a e=>by rw [IB e] at hq3; simp at hq3
   refine ⟨n+1,aU _,fun j q' x' hj h5 h6 h7=>?_⟩;have hb:Nat.blt j (n+1)=true:=by rw [cq]; exact hj
   rw [hb];by_cases hjn:j=n
   ·subst hjn; exact h4
   ·have awq:Nat.ble 3 (dE (cm P cfg q'.op))=true:=by unfold turns at h7; simp only [aA] at h7; exact h7.2
    exact hc n j h4 ((gR j q' h5 awq).1 (by omega))
  ·refine ⟨m,by omega,fun j q x hj h5 h6 h7=>?_⟩
   by_cases hjn:j=n
   ·subst hjn
    have hb:Nat.blt j m=false:=by
     cases hb:Nat.blt j m with
     | false=>rfl
     | true=>rw [cq] at hb; omega
    rw [hb];cases hs:S j with
    | false=>rfl
    | true=>exact absurd ⟨q,x,h5,h6,h7,hs⟩ hn
   ·exact h j q x (by omega) h5 h6 h7
theorem asc (hf:Ub P cfg all) {S:Nat->Bool} (hc:r9 all S):∃ m,(∀ j q x,all[j]? = some q->L[j]? = some x->turns P cfg q x=true->S j=Nat.blt j m)/\pk P cfg S all L 0 A0=pk P cfg (fun j=>Nat.blt j m) all L 0 A0:=by
 obtain ⟨m,_,h⟩:=acw (L:=L) hf hc all.length;have h' : ∀ j q x,all[j]? = some q->L[j]? = some x->turns P cfg q x=true->S j=Nat.blt j m:=fun j q x h1 h2 h3=>h j q x (dq.1 h1).1 h1 h2 h3;exact ⟨m,h',J3 fun j q x h1 h2 h3=>by rw [bM]; exact h' j q x h1 h2 h3⟩
def AtK (P:Program) (cfg:fE) (all:List Oper) (L:List Out) (t0:bO) (A0:aw):Prop:=∀ i o x,all[i]? = some o->L[i]? = some x->∃ t1,(∀ y,t1.get y=(kd (fun j=>Nat.blt j i) all L 0 t0).get y)/\(x.1=true->bf (xO (cm P cfg o.op) t1 (pk P cfg (fun j=>Nat.blt j i) all L 0 A0)) (x.2.1,x.2.2))
theorem anI (CS:AtK P cfg all L t0 A0) (hpl:VH P cfg all=true):∀ j,A0.next<=(pk P cfg (fun k=>Nat.blt k j) all L 0 A0).next
 | 0=>by rw [VY (fun i=>by
   cases hb:Nat.blt i 0 with
   | false=>rfl
   | true=>rw [cq] at hb; omega)]; exact aU _
 | j+1=>by
  have ih:=anI CS hpl j;rcases anH (P:=P) (cfg:=cfg) (all:=all) (L:=L) (A0:=A0) j with ⟨q,x,h1,h2,h3,h4⟩ | ⟨_,h4⟩
  ·rw [h4]
   obtain ⟨t1,_,hg⟩:=CS j q x h1 h2;unfold turns at h3;simp only [aA] at h3;have hg:=hg h3.1;have hp:=ij.1 hpl q (jD h1);simp only [uD,h3.2,Hf,JM,false_or] at hp;rcases hp with hp | hp
   ·exact o9 ih (agj hp hg).1
   ·obtain ⟨a2,ha2⟩:=Option.isSome_iff_exists.1 hp
    unfold XM at ha2;split at ha2
    ·rename_i T a3 v e
     rw [(acu e hg).1]; exact ih
    ·simp at ha2
  ·rw [h4]; exact ih
theorem anJ (hf:Ub P cfg all) {S:Nat->Bool} (hc:r9 all S) {i:Nat} {o:Oper} {T:TypeId} {a:Operand} (ho:all[i]? = some o) (Gr:o.op = .load T a) (rO:S i=false) (yz:xj all S i) (hns : ¬ X3 P cfg all i)
  (CS:AtK P cfg all L t0 A0) {tn:bO} (Tb:∀ y,tn.get y=(kd (fun _=>true) all L 0 t0).get y) (ara:VG tn A0.next (Ld P cfg all)=true)
  {t1:bO} (zc:∀ y,t1.get y=(kd (fun j=>Nat.blt j i) all L 0 t0).get y) {v:KV} {A1:aw} (hg:bf (xO (cm P cfg o.op) t1 (pk P cfg (fun j=>Nat.blt j i) all L 0 A0)) (v,A1)) :
  bf (xO (cm P cfg o.op) t1 (pk P cfg S all L 0 A0)) (v,pk P cfg S all L 0 A0):=by
 have hk:dE (cm P cfg o.op)≠0:=by rw [IB Gr]; simp
 have hex:∃ p,p∈Ld P cfg all/\p.2=a/\yD i a all 0=true:=by
  refine Classical.byContradiction fun de=>hns fun j q hq h3=>?_;rcases unordered hf ho hq hk h3 with h | ⟨p,h1,h2,h3,_⟩
  ·exact h
  ·obtain ⟨⟨T',e⟩,_⟩:=C6 h2
   rw [Gr] at e;simp only [Op.load.injEq] at e;exact absurd ⟨p,h1,e.2.symm,by rw [e.2]; exact h3⟩ de
 obtain ⟨p,hp,hpa,hnd⟩:=hex;have A7:=alO Tb zc hnd;have hpd:=VZ ara p hp;have hpl:=hf.plain p hp;rw [Gr] at hg ⊢;have awr:∀ A,xO (cm P cfg (.load T a)) t1 A=(aay P T A [mc t1 a]).map fun v=>(v,A):=fun _=>rfl;rw [awr] at hg ⊢;obtain ⟨u,Ta,he⟩:=bf.map hg;simp only [fS] at he;obtain ⟨rfl,_⟩:=he;clear hg;have hg:=Ta;clear Ta;refine bf.C5 (f:=fun v=>(v,pk P cfg S all L 0 A0)) ?_;unfold Mh at hpd;rw [hpa,A7] at hpd;cases hv:mc t1 a with
 | tp U Tc m k es acc=>rw [hv] at hg; exact hg
 | ptr b off=>
  rw [hv] at hg hpd;simp only [aA] at hpd;have hb:=hpd.1;rw [cq] at hb;have hQ:∃ cs e,(pk P cfg (fun j=>Nat.blt j i) all L 0 A0).get b=some (.row cs e):=by
   have hg:bf (match Xm P T,size? P T with
    | some ag,some n=>match (K.rowAt (pk P cfg (fun j=>Nat.blt j i) all L 0 A0) b).bind fun cs=>yA n (Ej off cs) with
     | some l=>cond ag (.ok (.agg l)) (match l with | [v]=>.ok v | _=>.no)
     | none=>.no
    | _,_=>.no) u:=hg
   split at hg
   ·split at hg
    ·rename_i l hl
     obtain ⟨cs,h1,_⟩:=dh.1 hl;unfold K.rowAt at h1;split at h1
     ·rename_i cu e h2; exact ⟨cu,e,h2⟩
     ·simp at h1
    ·exact hg.elim
   ·exact hg.elim
  obtain ⟨cs,e,hQ⟩:=hQ;obtain ⟨m,hm,gR⟩:=asc (L:=L) (A0:=A0) hf hc;have step:∀ k,(∀ q x,all[k]? = some q->L[k]? = some x->turns P cfg q x=true->¬ ((k < i->rX (fF [] all) i k=true)/\(i < k->rX (fF [] all) k i=true)))->
    ((pk P cfg (fun j=>Nat.blt j k) all L 0 A0).get b=some (.row cs e)↔(pk P cfg (fun j=>Nat.blt j (k+1)) all L 0 A0).get b=some (.row cs e)):=by
   intro k hno;rcases anH (P:=P) (cfg:=cfg) (all:=all) (L:=L) (A0:=A0) k with ⟨q,x,h1,h2,h3,h4⟩ | ⟨_,h4⟩
   ·rw [h4]
    have h3':=h3;unfold turns at h3';simp only [aA] at h3';rcases unordered hf ho h1 hk h3'.2 with h5 | ⟨p',h5,h6,h7,h8⟩
    ·exact absurd h5 (hno q x h1 h2 h3)
    ·obtain ⟨tk,htk,hgk⟩:=CS k q x h1 h2
     have hgk:=hgk h3'.1;obtain ⟨⟨T',e1⟩,e2⟩:=C6 h6;rw [Gr] at e1;simp only [Op.load.injEq] at e1;have anK:=VZ ara p' h5;unfold Mh at anK;rw [<- e1.2,A7,hv] at anK;simp only [aA] at anK;rcases e2 with ⟨e2,e3⟩ | ⟨U,a2,v2,e2,e3⟩
     ·exact (agj e3 hgk).2 b (nK hb (anI CS hpl k)) cs e
     ·refine (acu e3 hgk).2 b ?_ cs e
      rw [e2] at anK h8;have Vu:=alO Tb htk h8;have h9:=anK.2;simp only at h9;rw [Vu] at h9;split at h9
      ·rename_i b2 atn e4
       refine .inl ⟨b2,atn,e4,fun e5=>?_⟩;subst e5;simp at h9
      ·rename_i U' Tc' c' i' k' e4; exact .inr ⟨_,_,_,_,_,e4⟩
      ·simp at h9
   ·rw [h4]
  have avD:(pk P cfg S all L 0 A0).get b=some (.row cs e):=by
   rw [gR];rcases Nat.le_total m i with hle | hle
   ·have down:∀ d k,k+d=i->m<=k->(pk P cfg (fun j=>Nat.blt j k) all L 0 A0).get b=some (.row cs e):=by
     intro d
     induction d with
     | zero=>intro k hk _; have:k=i:=by omega
             rw [this]; exact hQ
     | succ d ih=>
      intro k hk XV;refine (step k fun q x h1 h2 h3 Mx=>?_).2 (ih (k+1) (by omega) (by omega));have h4:=hm k q x h1 h2 h3;have h5:S k=true:=hc.ready hf.reg ho yz k (Mx.1 (by omega));rw [h5] at h4;have h4:=h4.symm;rw [cq] at h4;omega
    exact down (i - m) m (by omega) (aU m)
   ·have up:∀ d,i+d<=m->(pk P cfg (fun j=>Nat.blt j (i+d)) all L 0 A0).get b=some (.row cs e):=by
     intro d
     induction d with
     | zero=>intro _; exact hQ
     | succ d ih=>
      intro hd;refine (step (i+d) fun q x h1 h2 h3 Mx=>?_).1 (ih (by omega));have h4:=hm (i+d) q x h1 h2 h3;have h5:Nat.blt (i+d) m=true:=by rw [cq]; omega
      rw [h5] at h4;by_cases hd0:d=0
      ·subst hd0
       rw [CH] at h4;rw [rO] at h4; simp at h4
      ·have:=hc (i+d) i h4 (Mx.2 (by omega))
       rw [rO] at this; simp at this
    have:=up (m - i) (by omega);rwa [show i+(m - i)=m by omega] at this
  have K3:K.rowAt (pk P cfg S all L 0 A0) b=K.rowAt (pk P cfg (fun j=>Nat.blt j i) all L 0 A0) b:=by
   unfold K.rowAt;rw [hQ,avD]
  show bf (match Xm P T,size? P T with
    | some ag,some n=>match (K.rowAt (pk P cfg S all L 0 A0) b).bind fun cs=>yA n (Ej off cs) with
     | some l=>cond ag (.ok (.agg l)) (match l with | [v]=>.ok v | _=>.no)
     | none=>.no
    | _,_=>.no) u
  rw [K3];exact hg
 | _=>rw [hv] at hpd; simp at hpd
end
theorem ai5 {R:Type} {cfg:fE} {bR:px R} (kb:u6 P cfg.pc) (hm:P.follows .mixedOrders=true) {id:Nat} {all:List Oper} {N base:Nat} (hdN:all.all (KX N)=true) {k:bO->aw->Option R} {r:R} {t:bO} {A:aw} {B:St} {ρ:Ren} {a:Act} {w:World} {Q:Exit->Act->World->Prop}
  (Mx:anc P cfg all=true) (h:vK P cfg bR all (fun t' A'=>Bool.rec (motive:=fun _=>Option R) none (k t' A') (VG t' A.next (Ld P cfg all))) all t A=some r) (ht:lL P E ρ t N a) (hj:KJ P E A B ρ base w)
  (hq:∀ t' E' A' B' bd a' w',k t' A' = some r->lL P E' bd t' N a'->a'.defers=a.defers->Ev P base E A B ρ w E' A' B' bd w'->Q .normal a' w'):(Code.region id ⟨all⟩ true).wp P Q a w:=by
 have hf:=anE Mx;obtain ⟨L,tn,An,mX,hk⟩:=XZ (fun o ho f args=>Eu (hf.kind o ho) f args) h;obtain ⟨hlen,Tb,hAn,CS⟩:=mX.at;have hdk:VG tn A.next (Ld P cfg all)=true/\k tn An=some r:=by
  cases hd:VG tn A.next (Ld P cfg all) with
  | false=>simp only [hd] at hk; exact absurd hk (by simp)
  | true=>simp only [hd] at hk; exact ⟨rfl,hk⟩
 obtain ⟨ara,hk⟩:=hdk;have aws:AtK P cfg all L t A:=fun i o x ho hx=>by obtain ⟨t1,q1,_,q3,_⟩:=CS i o x ho hx; exact ⟨t1,q1,q3⟩
 have QU:Ev P base E A B ρ w E A B ρ w.drew:=(dR.refl hj.k).ev (l8.drew hj.s);refine wp_region_any hm ?_;show wpAny P .any ⟨all⟩ Q all.length (Array.replicate all.length false) a w.drew;have Gv:∀ i,(Array.replicate all.length false).getD i false=false:=by
  intro i;rw [jC,Array.getElem?_replicate];split <;> rfl
 let Inv:(Nat->Bool)->Act->World->Prop:=fun S a' w'=>∃ E' B' bd,a'.defers=a.defers/\Ev P base E A B ρ w.drew E' (pk P cfg S all L 0 A) B' bd w'/\lL P E' bd (kd S all L 0 t) N a'
 refine Hm hf.reg Inv ?_ ?_ ?_ all.length _ a w.drew (by simp) ?_ (fun i j hi _=>by
   have h2:(Array.replicate all.length false).getD i false=true:=hi;rw [Gv] at h2; simp at h2) ⟨E,B,ρ,rfl,?_,?_⟩
 ·
  rintro S S' a' w' hSS ⟨E',B',bd,h1,h2,h3⟩;have e1:pk P cfg S all L 0 A=pk P cfg S' all L 0 A:=J3 fun i o x ho _ _=>by rw [bM]; exact hSS i (dq.1 ho).1
  refine ⟨E',B',bd,h1,by rw [<- e1]; exact h2,h3.same fun y=>?_⟩;exact nu rfl fun i o ho _=>by rw [bM]; exact (hSS i (dq.1 ho).1).symm
 ·
  rintro S a' w' i o ⟨E',B',bd,h1,h2,h3⟩ hc ho rO yz _;have hi:i < L.length:=by rw [hlen]; exact (dq.1 ho).1
  have hx:L[i]? = some L[i]:=dr hi;obtain ⟨t1,zc,hw,anL,hno⟩:=CS i o L[i] ho hx;have Ew:∀ y∈pe P cfg all o,t1.get y=(kd S all L 0 t).get y:=fun y hy=>by rw [zc y,agi hf.toT hc ho rO yz hy]
  have Oh:=FV h3 (fun y hy=>Ew y (by unfold pe; exact List.mem_append_left _ hy)) hw;have IA:∀ d,o.dst=some d->d < N:=by
   intro d ed;have:=ij.1 hdN o (jD ho);unfold KX at this;rw [ed] at this;simp only at this;rw [cq] at this;exact this
  have hoA:(⟨all⟩:Array Oper)[i]? = some o:=by simpa using ho
  unfold wpOp;rw [hoA];simp only [Oh];cases Hq:L[i].1 with
  | false=>
   simp only [JM,if_false];have hv:=hno Hq;refine ⟨E',B',bd,by rw [put_defers]; exact h1,?_,?_⟩
   ·rw [Bq ho hx (by unfold turns; rw [Hq]; rfl)]
    exact h2
   ·refine (h3.put IA VC.undef).same fun y=>?_
    rw [Mw hf.toT hc ho hx rO y,hv]
  | true=>
   simp only [if_true];refine .inl ?_;have hg:=anL Hq;have hgS:∃ A1,bf (xO (cm P cfg o.op) t1 (pk P cfg S all L 0 A)) (L[i].2.1,A1)/\pk P cfg (cY S i) all L 0 A=A1:=by
    by_cases yp:dE (cm P cfg o.op)=0
    ·refine ⟨_,anG hg yp,Bq ho hx ?_⟩
     unfold turns;rw [yp,show Nat.ble 3 0=false from rfl,Bool.and_false]
    ·by_cases gR:X3 P cfg all i
     ·rw [X4 (L:=L) (A0:=A) hf hc ho rO yz gR]
      refine ⟨_,hg,?_⟩;cases Tb:turns P cfg o L[i] with
      | true=>exact apG hf hc ho hx rO yz Tb
      | false=>
       have h4:=Et hg (by simpa [turns,Hq] using Tb);rw [Bq ho hx Tb,X4 (L:=L) (A0:=A) hf hc ho rO yz gR,h4]
     ·have hex:∃ T a,o.op = .load T a:=Classical.byContradiction fun de=>gR (QR hf ho yp fun T a e=>de ⟨T,a,e⟩)
      obtain ⟨T,a',Gr⟩:=hex;refine ⟨_,anJ hf hc ho Gr rO yz gR aws Tb ara zc hg,Bq ho hx ?_⟩;unfold turns;rw [IB Gr,show Nat.ble 3 1=false from rfl,Bool.and_false]
   obtain ⟨A1,hg1,hA1⟩:=hgS;refine Ob kb hg1 (fun x hxm=>QS h3 fun y e=>Ew y ?_) h2.kj fun JI Li wJ v' JD h4 h5=>?_
   ·unfold pe
    subst e;exact List.mem_append_right _ (l9 hxm)
   ·refine ⟨JI,Li,wJ,by rw [put_defers]; exact h1,?_,?_⟩
    ·rw [hA1]; exact h2.trans h5
    ·refine ((h3.mono h5.le (h5.gP.le h2.gP.kC)).put IA h4).same fun y=>?_
     rw [Mw hf.toT hc ho hx rO y]
 ·
  rintro S a' w' mj ⟨E',B',bd,h1,h2,h3⟩;have e1:pk P cfg S all L 0 A=An:=by rw [hAn]; exact J3 fun i o x ho _ _=>by rw [bM]; exact mj i (dq.1 ho).1
  rw [e1] at h2;refine hq tn E' An B' bd a' w' hk (h3.same fun y=>?_) h1 (QU.trans h2);rw [Tb y];exact nu rfl fun i o ho _=>by rw [bM]; exact (mj i (dq.1 ho).1).symm
 ·simp
 ·rw [VY Gv]
  exact .refl hj.k QU.gP.kC
 ·refine ht.same fun y=>?_
  rw [Oe Gv]
end Go.K
end
section
namespace Go.K
open Go Go.aB
variable {P:Program} {E:Env}
theorem awt {A:aw} {B:St} {cu:List Value} {cg:Nat} (h:fX P E A B):dR P E A B E A (B.new (.row cu cg true none)):=by
 have BT:∀ x,AR A E x->(B.new (.row cu cg true none)).get x=B.get x:=fun x q=>by have:=h.J0 q; rw [St.dz,av (by omega)]
 refine ⟨⟨?_,?_,?_,h.apart,h.inj,h.kR,h.lW,h.nS,h.live,?_,?_,?_,?_,?_,h.ar.ik (Env.le_refl _) (fun _=>rfl) (fun _ _ e=>e) (fun _ _ e=>e) (aU _) (by simp) BT (fun _ _ e=>.inl e) (fun _ _ e=>.inl e) (fun b g e=>.inl ⟨b,e⟩) (fun _ _=>by simp) h.mem⟩,Env.le_refl _,aU _,?_,fun _ _ e=>.inl e,fun _ _ e=>.inl e,fun _ _ e=>.inl e,fun _ _ _ _=>by simp,fun _ q=>.inl q,fun _ q=>.inl (q.of (fun _=>rfl) (fun _ _ e=>e) BT),fun _ _ q=>.inl (by simpa using q),fun _ q=>.inl (q.of (fun _=>rfl) (fun _ _ e=>e) BT fun _ _=>by simp),nU af1⟩
 ·intro b nM QI hb
  obtain ⟨x,c,h1,h2,h3⟩:=h.row b nM QI hb;have:=h.iW b x h1;exact ⟨x,c,h1,by rw [St.dz,av (by omega)]; exact h2,h3⟩
 ·intro b top Gu hb
  rcases h.bA b top Gu hb with h1 | ⟨g,h1,hp0,h2⟩
  ·exact .inl h1
  ·refine .inr ⟨g,h1,hp0,fun x hx c e own f k hg=>?_⟩
   rw [St.dz] at hg;split at hg
   ·simp at hg
   ·exact h2 x (by simpa using hx) c e own f k hg
 ·intro b r hb
  have:=h.nT b r hb;rw [St.dz,av (by omega)];exact h.z b r hb
 ·intro b x hb; have:=h.iW b x hb; rw [St.cC]; omega
 ·intro b r hb; have:=h.nT b r hb; rw [St.cC]; omega
 ·intro b g hb; have:=h.lu b g hb; rw [St.cC]; omega
 ·intro g hg; rw [St.cC] at hg; rw [St.lh]; exact h.fresh g (by omega)
 ·intro g x hx; rw [St.lh] at hx; rw [St.cC]; have:=h.mem g x hx; omega
 ·intro x hx _ _; rw [St.dz,av (by omega)]
structure Fr (E:Env) (A:aw) (B:St) (b0 y:Nat):Prop where
 lo:b0<=y
 hi:y < B.next
 un:∀ b,E.κ b≠some y
 z:E.z y=none
 nc : ¬ AT A E B y
theorem Fr.step {A A' : aw} {B B' : St} {E' : Env} {b0 y base:Nat} {ρ bd:Ren} {w w' : World} (h:Fr E A B b0 y) (k:Ev P base E A B ρ w E' A' B' bd w'):Fr E' A' B' b0 y/\B'.get y=B.get y:=by
 have hn:=k.gP.next;refine ⟨⟨h.lo,nK h.hi hn,fun b e=>?_,?_,fun q=>?_⟩,k.ik y h.hi h.un h.nc⟩
 ·rcases k.new b y e with e | e
  ·exact h.un b e
  ·have:=h.hi; omega
 ·cases hz:E'.z y with
  | none=>rfl
  | some r=>
   rcases k.wK y r hz with e | e | e
   ·rw [h.z] at e; simp at e
   ·exact absurd (.inl e) h.nc
   ·have:=h.hi; omega
 ·rcases k.p0 y q with e | e
  ·exact h.nc e
  ·have:=h.hi; omega
theorem awu {E0:Env} {A0 A:aw} {B0 B:St} {ρ0 ρ bd:Ren} {w0 w w' : World} {base y cg:Nat} {nM cu:List Value} (h:Ev P base E0 A0 B0 ρ0 w0 E A B ρ w) (hy:Fr E A B B0.next y) (hold:B.get y=some (.row nM cg true none))
  (g:l8 base ρ B w bd (B.put y (.row cu cg true none)) w'):Ev P base E0 A0 B0 ρ0 w0 E A (B.put y (.row cu cg true none)) bd w':=by
 have hs:=h.kC;have BT:∀ x,AR A E x->(B.put y (.row cu cg true none)).get x=B.get x:=fun x q=>by
  rw [St.cz,av];intro e;subst e;exact hy.nc (.inl q)
 have Lh:∀ q,AF A E (B.put y (.row cu cg true none)) q->AF A E B q:=fun q r=>r.of (fun _=>rfl) (fun _ _ e=>e) BT;have hAT:∀ q,AT A E (B.put y (.row cu cg true none)) q->AT A E B q:=fun q r=>r.of (fun _=>rfl) (fun _ _ e=>e) BT fun _ _=>by simp
 refine ⟨⟨?_,?_,?_,hs.apart,hs.inj,hs.kR,hs.lW,hs.nS,hs.live,hs.iW,hs.nT,hs.lu,?_,?_,hs.ar.ik (Env.le_refl _) (fun _=>rfl) (fun _ _ e=>e) (fun _ _ e=>e) (aU _) (aU _) BT (fun _ _ e=>.inl e) (fun _ _ e=>.inl e) (fun b g e=>.inl ⟨b,e⟩) (fun _ _=>by simp) hs.mem⟩,h.gP.trans g,h.le,h.next,?_,h.new,h.wK,h.wL,?_,h.oZ,fun q r=>h.py q (Lh q r),?_,fun q r=>h.p0 q (hAT q r),?_⟩
 ·intro b cs e hb
  obtain ⟨x,c,h1,h2,h3⟩:=hs.row b cs e hb;refine ⟨x,c,h1,?_,h3⟩;rw [St.cz,av (fun e=>hy.un b (by rw [<- e]; exact h1))];exact h2
 ·intro b top sz hb
  rcases hs.bA b top sz hb with h1 | ⟨q,h1,hp0,h2⟩
  ·exact .inl h1
  ·refine .inr ⟨q,h1,hp0,fun x hx c e own f k hg=>?_⟩
   rw [St.cz] at hg;split at hg
   ·simp at hg
   ·exact h2 x (by simpa using hx) c e own f k hg
 ·intro b r hb
  rw [St.cz,av]
  ·exact hs.z b r hb
  ·intro e
   subst e;rw [hy.z] at hb;simp at hb
 ·intro q hq; rw [St.vP]; exact hs.fresh q hq
 ·intro q x hx; rw [St.vP] at hx; exact hs.mem q x hx
 ·intro x hx hn ha
  rw [St.cz,av (fun e=>by have:=hy.lo; omega)];exact h.ik x hx hn ha
 ·intro q hq hn ha; rw [St.vP]; exact h.sA q hq hn ha
 ·intro q x hx; rw [St.vP] at hx; exact h.yE q x hx
 ·intro x hx c e own cp hg
  rw [St.cz,av (fun e=>by have:=hy.lo; omega)] at hg;exact h.rows x hx c e own cp hg
theorem avE {E0:Env} {A0 A:aw} {B0 B:St} {ρ0 ρ:Ren} {w0 w:World} {base y cg:Nat} {cs:List KV} {cu:List Value} (h:Ev P base E0 A0 B0 ρ0 w0 E A B ρ w) (hy:Fr E A B B0.next y) (hold:B.get y=some (.row cu cg true none)) (hv:bC P E cs cu) :
  E.le (E.ns A.next y)/\Ev P base E0 A0 B0 ρ0 w0 (E.ns A.next y) (A.new (.row cs cg)) B ρ w:=by
 have hs:=h.kC;have hle:E.le (E.ns A.next y):=⟨fun _ _ e=>e,fun b x e=>by
  have:=hs.lW b x e;simp only [Env.ns]; rw [av (by omega)]; exact e,fun _ _ e=>e,fun _ _ e=>e⟩
 have hA:∀ (b:Nat) (v:KV),(A.new (.row cs cg)).get b=some (.arr v)->A.get b=some (.arr v):=fun b v hb=>by
  rw [aw.dz] at hb;split at hb
  ·simp at hb
  ·exact hb
 have hfz:∀ (b:Nat) (v:KV),(A.new (.row cs cg)).get b=some (.kW v)->A.get b=some (.kW v):=fun b v hb=>by
  rw [aw.dz] at hb;split at hb
  ·simp at hb
  ·exact hb
 have uh:∀ x,AR (A.new (.row cs cg)) (E.ns A.next y) x->AR A E x:=fun _ q=>q.of (fun _=>rfl) hA;have Lh:∀ g,AF (A.new (.row cs cg)) (E.ns A.next y) B g->AF A E B g:=fun _ q=>q.of (fun _=>rfl) hA fun _ _=>rfl;have hAT:∀ x,AT (A.new (.row cs cg)) (E.ns A.next y) B x->AT A E B x:=fun _ q=>q.of (fun _=>rfl) hA (fun _ _=>rfl) fun _ _=>rfl;refine ⟨hle,⟨⟨?_,?_,hs.z,?_,?_,?_,?_,?_,?_,?_,hs.nT,hs.lu,hs.fresh,hs.mem,?_⟩,h.gP,Env.le_trans h.le hle,by have:=h.next; rw [aw.cC]; omega,h.ik,?_,h.wK,h.wL,h.sA,fun x q=>h.oZ x (uh x q),fun g q=>h.py g (Lh g q),h.yE,fun x q=>h.p0 x (hAT x q),h.rows⟩⟩
 ·intro b nM QI hb
  rw [aw.dz] at hb;split at hb
  ·rename_i e
   simp at hb;obtain ⟨rfl,rfl⟩:=hb;exact ⟨y,cu,by simp [Env.ns,e],hold,hv.mono hle⟩
  ·obtain ⟨x,c,h1,h2,h3⟩:=hs.row b nM QI hb
   exact ⟨x,c,hle.κ _ _ h1,h2,h3.mono hle⟩
 ·intro b top Gu hb
  rw [aw.dz] at hb;split at hb
  ·simp at hb
  ·exact hs.bA b top Gu hb
 ·intro b x hb
  simp only [Env.ns] at hb ⊢;split at hb
  ·simp at hb; subst hb; exact hy.z
  ·exact hs.apart b x hb
 ·intro b c x hb hc
  simp only [Env.ns] at hb hc;split at hb <;> split at hc
  ·omega
  ·simp at hb; subst hb; exact absurd hc (hy.un c)
  ·simp at hc; subst hc; exact absurd hb (hy.un b)
  ·exact hs.inj b c x hb hc
 ·exact Ho.new (E:=E.ns A.next y) (fun x z g a b c d e f hx hz=>hs.kR x z g a b c d e f hx hz) (.inl fun _ _=>by simp)
 ·intro b x hb
  simp only [Env.ns] at hb;rw [aw.cC];split at hb
  ·omega
  ·have:=hs.lW b x hb; omega
 ·intro b g hb; have:=hs.nS b g hb; rw [aw.cC]; omega
 ·intro b o hb
  rw [aw.dz] at hb;rw [aw.cC];split at hb
  ·omega
  ·have:=hs.live b o hb; omega
 ·intro b x hb
  simp only [Env.ns] at hb;split at hb
  ·simp at hb; have:=hy.hi; omega
  ·exact hs.iW b x hb
 ·have tF:∀ b,(E.ns A.next y).α b=E.α b:=fun _=>rfl
  have JF:∀ c x,(E.ns A.next y).κ c=some x->(c=A.next/\x=y)\/E.κ c=some x:=fun c x e=>by
   simp only [Env.ns] at e;split at e
   ·rename_i e1; simp at e; exact .inl ⟨e1,e.symm⟩
   ·exact .inr e
  refine ⟨fun b v hb=>(hs.ar.arr b v (hA _ _ hb)).mono hle rfl fun _ _ _ _=>rfl,fun b v hb=>(hs.ar.kW b v (hfz _ _ hb)).mono hle rfl,fun x q=>?_,fun b c v u x L N L' N' h1 h2 h3 h4=>hs.ar.inj b c v u x L N L' N' (hA _ _ h1) (hA _ _ h2) h3 h4,
   fun b c v u x z L N L' N' cs e own g k cu e' rJ k' h1 h2 h3 h4 h5 h6=>hs.ar.xK b c v u x z L N L' N' cs e own g k cu e' rJ k' (hA _ _ h1) (hA _ _ h2) h3 h4 h5 h6,fun b x e=>?_,fun b p e=>?_,fun b x L N e=>hs.ar.iW b x L N e,fun b v x L N cs e own g k h1 h2 h3=>?_,fun b v hb=>?_⟩
  ·obtain ⟨h1,h2⟩:=hs.ar.z x (uh x q)
   refine ⟨h1,fun c e=>?_⟩;rcases JF c x e with ⟨_,rfl⟩ | e
   ·exact hy.nc (.inl (uh _ q))
   ·exact h2 c e
  ·rcases JF b x e with ⟨rfl,_⟩ | e
   ·cases hb:E.α A.next with
    | none=>exact hb
    | some p=>have:=hs.ar.lW _ p hb; omega
   ·exact hs.ar.dis b x e
  ·have:=hs.ar.lW b p e; rw [aw.cC]; omega
  ·obtain ⟨h4,h5,h6⟩:=hs.ar.vL b v x L N cs e own g k (hA _ _ h1) h2 h3
   refine ⟨h4,h5,fun z hz de=>?_⟩;obtain ⟨h7,h8,h9⟩:=h6 z hz de;refine ⟨h7,fun q=>h8 (uh z q),fun c e'=>?_⟩;rcases JF c z e' with ⟨_,rfl⟩ | e'
   ·exact hy.nc (.inr ⟨g,⟨b,v,x,L,N,cs,e,own,k,hA _ _ h1,h2,h3⟩,hz⟩)
   ·exact h9 c e'
  ·obtain ⟨h1,h2⟩:=hs.ar.nk b v (hA _ _ hb)
   rw [aw.cC];refine ⟨by omega,?_⟩;cases hk:(E.ns A.next y).κ b with
   | none=>rfl
   | some x=>
    rcases JF b x hk with ⟨e,_⟩ | e
    ·omega
    ·rw [h2] at e; simp at e
 ·intro b x hb
  simp only [Env.ns] at hb;split at hb
  ·simp at hb; subst hb; exact .inr hy.lo
  ·exact h.new b x hb
theorem apH {cfg:fE} (kb:u6 P cfg.pc) {o:Oper} {p:Operand×List Operand} (hp:Ml o=some p) {t:bO} {A A' : aw} {v:KV} {base:Nat} {B:St} {ρ:Ren} {a:Act} {w:World} {next:Act->World->Prop} {Q:Exit->Act->World->Prop}
  (h:bf (xO (Hn P cfg t p) t A) (v,A')) (hv:∀ x∈p.1::p.2,VC P E ρ (mc t x) (a.eval x)) (hj:KJ P E A B ρ base w)
  (hk:∀ E' B' bd v' w',VC P E' bd v v'->Ev P base E A B ρ w E' A' B' bd w'->next (a.put o.dst v') w'):o.wp P a w next Q:=by
 classical
 have bm:compile P o.op = .call p.1 p.2:=by
  unfold Ml at hp;split at hp
  ·rename_i c ho hg
   split at hp
   ·rename_i d hc
    simp at hp;subst hp;rw [ho];exact acq (cfg:=fE.none) (show np P fE.none c=_ by unfold np; rw [hc])
   ·simp at hp
  ·simp at hp
 unfold Hn at h;split at h
 ·rename_i g hfv
  split at h
  ·rename_i F hF
   obtain ⟨u,h1,h2⟩:=bf.map h;simp only [fS] at h2;obtain ⟨rfl,rfl⟩:=h2;obtain ⟨hlen,hf⟩:=bf.cond h1;obtain ⟨hg,mX⟩:=kb g F hF _ _ hf (bu hlen);have dt:=tB P o;rw [bm] at dt;obtain ⟨em,h3,h4⟩:=mid (xs:=p.1::p.2) hv;obtain ⟨y,ys,e,h5,h6⟩:=h3.cons_inv;simp only [List.map_cons,List.cons.injEq] at e;obtain ⟨rfl,rfl⟩:=e;rw [hfv] at h5;obtain ⟨l,m,e5,e6,e7⟩:=h5.JY;have:=e6.cw;subst this;have:=e7.cw;subst this;obtain ⟨cX,h7,h8⟩:=dt.2 ρ em a.eval g (p.2.map em) h4 hg.1 (by rw [e5]; simp only [yx]; rw [hg.1]; simp) hg.2;unfold Oper.wp;rw [h8 w];refine (mX E A B ρ base w cX ⟨p.2.map em,by rw [u5]; exact h6,h7⟩ hj).mono ?_;rintro e w' ⟨v',E',B',bd,rfl,h9,vX⟩;exact hk E' B' bd v' w' h9 vX
  ·exact h.elim
 ·exact h.elim
inductive acx (P:Program) (cfg:fE) (all:List Oper) (A:aw):List Oper->bO->List Out->bO->Prop where
 | nil {t:bO} : acx P cfg all A [] t [] t
 | cons {o:Oper} {os:List Oper} {t t1 t' : bO} {wd:Bool} {v:KV} {L:List Out}
   (same:∀ i,t1.get i=t.get i) (want:Od all o t wd)
   (yes:wd=true->(sv all o=true/\v = .ao)\/(sv all o=false/\(bf (xO (cm P cfg o.op) t1 A) (v,A)\/∃ p,Ml o=some p/\bf (xO (Hn P cfg t1 p) t1 A) (v,A)))) (no:wd=false->v=uE/\sv all o=false)
   (rest:acx P cfg all A os (rY t1 o.dst v) L t'):acx P cfg all A (o::os) t ((wd,v,A)::L) t'
theorem tH {o:Oper} {T:TypeId} {d:Tmp} (h:jk o=some (T,d)):o.op = .alloc T/\o.guard=none/\o.dst=some d:=by
 unfold jk at h;split at h
 ·rename_i T' d' h1 h2 h3
  simp at h;obtain ⟨rfl,rfl⟩:=h;exact ⟨h1,h2,h3⟩
 ·simp at h
theorem FW {all:List Oper} {o:Oper} {T:TypeId} {d:Tmp} {x:Operand} (h:uT all o=some (T,d,x)):o.op = .store T (.tmp d) x/\o.guard=none/\o.dst=none/\y8 d all=true:=by
 unfold uT at h;split at h
 ·rename_i T' d' x' h1 h2 h3
  cases hb:y8 d' all with
  | false=>rw [hb] at h; simp at h
  | true=>
   rw [hb,ak] at h;simp at h;obtain ⟨rfl,rfl,rfl⟩:=h;exact ⟨h1,h2,h3,hb⟩
 ·simp at h
theorem V1 {all:List Oper} {o:Oper} (h:sv all o=true):(∃ T d,jk o=some (T,d))\/∃ T d x,uT all o=some (T,d,x):=by
 unfold sv at h;simp only [uD,Option.isSome_iff_exists] at h;rcases h with ⟨⟨T,d⟩,h⟩ | ⟨⟨T,d,x⟩,h⟩
 ·exact .inl ⟨T,d,h⟩
 ·exact .inr ⟨T,d,x,h⟩
theorem apI {all:List Oper} {o:Oper} (h:sv all o=true):o.guard=none:=by
 rcases V1 h with ⟨T,d,h⟩ | ⟨T,d,x,h⟩
 ·exact (tH h).2.1
 ·exact (FW h).2.1
theorem IC {R:Type} {cfg:fE} {bR:px R} {all:List Oper} {k:bO->aw->Option R} {r:R} : ∀ {os:List Oper} {t:bO} {A:aw},(∀ o∈os,sv all o=true\/dE (cm P cfg o.op)<=1\/(Ml o).isSome=true)->afN P cfg bR all k os t A=some r->
  ∃ L t',acx P cfg all A os t L t'/\k t' A=some r
 | [],t,A,_,h=>⟨[],t,.nil,h⟩
 | o::os,t,A,hn,h=>by
  have h:apr P cfg bR all o (afN P cfg bR all k os) t A=some r:=h;have NL:=fun q hq=>hn q (yY o hq);unfold apr at h;cases hb:sv all o with
  | true=>
   rw [hb] at h;have h:afN P cfg bR all k os (rY t o.dst .ao) A=some r:=h;obtain ⟨L,t',h1,h2⟩:=IC NL h;exact ⟨_,t',.cons (fun _=>rfl) (.inl ⟨apI hb,rfl⟩) (fun _=>.inl ⟨hb,rfl⟩) (fun e=>by simp at e) h1,h2⟩
  | false=>
   rw [hb] at h;cases hdy:Ml o with
   | some p=>
    simp only [hdy] at h;have h:QA bR t A (fun v A=>afN P cfg bR all k os (rY t o.dst v) A) (Hn P cfg t p)=some r:=h;have hg:o.guard=none:=by
     unfold Ml at hdy;split at hdy
     ·assumption
     ·simp at hdy
    have arb:Hn P cfg t p = .bad\/∃ g f,Hn P cfg t p = .Ei g f p.2:=by
     unfold Hn;split
     ·split
      ·exact .inr ⟨_,_,rfl⟩
      ·exact .inl rfl
     ·exact .inl rfl
    obtain ⟨v,A1,h1,h2⟩:=J2 (fun f args e=>by
     rcases arb with h | ⟨g,f',h⟩ <;> rw [h] at e <;> simp at e) h
    have e:A1=A:=by
     rcases arb with h | ⟨g,f',h⟩
     ·rw [h] at h1; exact h1.elim
     ·rw [h] at h1
      obtain ⟨u,_,h3⟩:=bf.map h1;simp at h3;exact h3.2.symm
    subst e;obtain ⟨L,t',h3,h4⟩:=IC NL h2;exact ⟨_,t',.cons (fun _=>rfl) (.inl ⟨hg,rfl⟩) (fun _=>.inr ⟨hb,.inr ⟨p,hdy,h1⟩⟩) (fun e=>by simp at e) h3,h4⟩
   | none=>
   simp only [hdy] at h;have hk:dE (cm P cfg o.op)<=1:=by
    rcases hn o (by simp) with e | e | e
    ·rw [hb] at e; simp at e
    ·exact e
    ·rw [hdy] at e; simp at e
   have hk3:Nat.ble 3 (dE (cm P cfg o.op))=false:=by
    cases hc:Nat.ble 3 (dE (cm P cfg o.op)) with
    | false=>rfl
    | true=>have:=fR hc; omega
   have hnc:=Eu (P:=P) (cfg:=cfg) (o:=o) (by omega);have h:BS P cfg bR all o (afN P cfg bR all k os) t A=some r:=h;unfold BS at h;cases hg:o.guard with
   | none=>
    rw [hg] at h;obtain ⟨v,A1,h1,h2⟩:=J2 hnc h;have e:=Et h1 hk3;subst e;obtain ⟨L,t',h3,h4⟩:=IC NL h2;exact ⟨_,t',.cons (fun _=>rfl) (.inl ⟨hg,rfl⟩) (fun _=>.inr ⟨hb,.inl h1⟩) (fun e=>by simp at e) h3,h4⟩
   | some p=>
    obtain ⟨j,want⟩:=p;rw [hg] at h;obtain ⟨d,hd,h⟩:=Oc h;rcases h with ⟨b,t1,h1,h2,h3⟩ | ⟨l,h1,h2⟩
    ·rcases h3 with ⟨h3,h4⟩ | ⟨h3,h4⟩
     ·obtain ⟨v,A1,h5,h6⟩:=J2 hnc h4
      have e:=Et h5 hk3;subst e;obtain ⟨L,t',h7,h8⟩:=IC NL h6;exact ⟨_,t',.cons h2 (.inr ⟨j,want,d,hg,hd,.inl ⟨b,h1,h3.symm⟩⟩) (fun _=>.inr ⟨hb,.inl h5⟩) (fun e=>by simp at e) h7,h8⟩
     ·obtain ⟨L,t',h7,h8⟩:=IC NL h4
      exact ⟨_,t',.cons h2 (.inr ⟨j,want,d,hg,hd,.inl ⟨b,h1,h3.symm⟩⟩) (fun e=>by simp at e) (fun _=>⟨rfl,hb⟩) h7,h8⟩
    ·obtain ⟨L,t',h7,h8⟩:=IC NL h2
     exact ⟨_,t',.cons (fun _=>rfl) (.inr ⟨j,want,d,hg,hd,.inr ⟨l,h1,rfl⟩⟩) (fun e=>by simp at e) (fun _=>⟨rfl,hb⟩) h7,h8⟩
theorem acx.at {cfg:fE} {all:List Oper} {A:aw} : ∀ {os:List Oper} {t t' : bO} {L:List Out},acx P cfg all A os t L t'->
  L.length=os.length/\(∀ y,t'.get y=(kd (fun _=>true) os L 0 t).get y)/\
  ∀ i o x,os[i]? = some o->L[i]? = some x->∃ t1,(∀ y,t1.get y=(kd (fun j=>Nat.blt j i) os L 0 t).get y)/\Od all o t1 x.1/\(x.1=true->(sv all o=true/\x.2.1 = .ao)\/(sv all o=false/\(bf (xO (cm P cfg o.op) t1 A) (x.2.1,A)\/∃ p,Ml o=some p/\bf (xO (Hn P cfg t1 p) t1 A) (x.2.1,A))))/\(x.1=false->x.2.1=uE/\sv all o=false)
 | _,_,_,_,.nil=>⟨rfl,fun _=>rfl,fun i o x ho=>by simp at ho⟩
 | o::os,t,t',(wd,v,_)::L,.cons (t1:=t1) same want yes no rest=>by
  obtain ⟨h1,h2,h4⟩:=rest.at;have X0:∀ y,(rY t1 o.dst v).get y=(rY t o.dst v).get y:=fun y=>by rw [u7,u7,same]
  refine ⟨by simp [h1],fun y=>?_,fun i q x hq hx=>?_⟩
  ·rw [h2 y]
   simp only [kd,ak];rw [Es];exact nu (X0 y) fun _ _ _ _=>rfl
  ·cases i with
   | zero=>
    simp at hq hx;subst hq hx;have e0:∀ (os:List Oper) (L:List Out) (k:Nat) (t:bO),kd (fun j=>Nat.blt j 0) os L k t=t:=by
     intro os
     induction os with
     | nil=>intro L k t; cases L <;> rfl
     | cons o os ih=>intro L k t; cases L with
      | nil=>rfl
      | cons x L=>simp only [kd]; exact ih L _ t
    refine ⟨t1,fun y=>by rw [e0]; exact same y,?_,yes,no⟩;rcases want with h | ⟨j,wt,d,e2,e3,e4⟩
    ·exact .inl h
    ·exact .inr ⟨j,wt,d,e2,e3,by rw [same]; exact e4⟩
   | succ i=>
    obtain ⟨t2,h5,h6,h7,h8⟩:=h4 i q x (by simpa using hq) (by simpa using hx);have hsh:(fun j=>Nat.blt (j+1) (i+1))=fun j=>Nat.blt j i:=by
     funext j;cases hb:Nat.blt j i with
     | true=>rw [cq] at hb ⊢; omega
     | false=>
      cases hc:Nat.blt (j+1) (i+1) with
      | false=>rfl
      | true=>rw [cq] at hc; rw [show Nat.blt j i=true from by rw [cq]; omega] at hb; simp at hb
    have h01:Nat.blt 0 (i+1)=true:=by rw [cq]; omega
    refine ⟨t2,fun y=>?_,h6,h7,h8⟩;rw [h5 y];simp only [kd,h01,ak];rw [Es,hsh];exact nu (X0 y) fun _ _ _ _=>rfl
theorem ID {cfg:fE} {all:List Oper} {b:List Nat} {i:Nat} {y:Oper} : ∀ (xs:List Oper) (k:Nat),H0 P cfg all b i y xs k=true->∀ (j:Nat) (x:Oper),xs[j]? = some x->k+j < i->vW P cfg all x y=true->rX b i (k+j)=true
 | [],k,_,j,x,hx,_,_=>by simp at hx
 | x0::xs,k,h,0,x,hx,bG,hc=>by
  simp at hx;subst hx;simp only [H0,aA,uD,mz] at h;rcases h.1 with (h1 | h1) | h1
  ·have:=fR h1; omega
  ·rw [hc] at h1; simp at h1
  ·exact h1
 | x0::xs,k,h,j+1,x,hx,bG,hc=>by
  simp only [H0,aA] at h;have:=ID xs (k+1) h.2 j x (by simpa using hx) (by omega) hc;rwa [show k+1+j=k+(j+1) by omega] at this
theorem Ex {cfg:fE} {all:List Oper} {b:List Nat} : ∀ (os:List Oper) (k:Nat),Ci P cfg all b os k=true->∀ (i:Nat) (o:Oper),os[i]? = some o->H0 P cfg all b (k+i) o all 0=true
 | [],k,_,i,o,ho=>by simp at ho
 | o0::os,k,h,0,o,ho=>by
  simp at ho;subst ho;simp only [Ci,aA] at h;exact h.1
 | o0::os,k,h,i+1,o,ho=>by
  simp only [Ci,aA] at h;have:=Ex os (k+1) h.2 i o (by simpa using ho);rwa [show k+1+i=k+(i+1) by omega] at this
theorem Ue {i:Nat} {d:Tmp} : ∀ (os:List Oper) (k:Nat),Mj i d os k=true->∀ (j:Nat) (o:Oper),os[j]? = some o->k+j≠i->o.dst≠some d
 | [],k,_,j,o,ho,_=>by simp at ho
 | q::os,k,h,0,o,ho,de=>by
  simp at ho;subst ho;simp only [Mj,aA,uD,mz] at h;rcases h.1 with h1 | h1
  ·exact absurd (bu h1) (by simpa using de)
  ·intro e
   rw [e,C7 (by simp)] at h1;simp at h1
 | q::os,k,h,j+1,o,ho,de=>by
  simp only [Mj,aA] at h;exact Ue os (k+1) h.2 j o (by simpa using ho) (by omega)
theorem Pm {all:List Oper} {i:Nat} {d:Tmp} : ∀ (os:List Oper) (k:Nat),Em all i d os k=true->∀ (j:Nat) (o:Oper),os[j]? = some o->k+j≠i->∀ T x,uT all o≠some (T,d,x)
 | [],k,_,j,o,ho,_=>by simp at ho
 | q::os,k,h,0,o,ho,de=>by
  simp at ho;subst ho;simp only [Em,aA,uD] at h;intro T x e;rcases h.1 with h1 | h1
  ·exact absurd (bu h1) (by simpa using de)
  ·rw [e] at h1
   simp at h1
 | q::os,k,h,j+1,o,ho,de=>by
  simp only [Em,aA] at h;exact Pm os (k+1) h.2 j o (by simpa using ho) (by omega)
theorem QV {d:Tmp} : ∀ {os:List Oper},y8 d os=true->∃ (j:Nat) (o:Oper) (T:TypeId),os[j]? = some o/\jk o=some (T,d)
 | [],h=>by simp [y8] at h
 | o::os,h=>by
  simp only [y8,uD] at h;rcases h with h | h
  ·split at h
   ·rename_i T e he
    have:=bu h;subst this;exact ⟨0,o,T,rfl,he⟩
   ·simp at h
  ·obtain ⟨j,q,T,h1,h2⟩:=QV h
   exact ⟨j+1,q,T,by simpa using h1,h2⟩
structure akA (P:Program) (cfg:fE) (all:List Oper):Prop where
 ord:agf P cfg all
 kind:∀ o∈all,sv all o=true\/dE (cm P cfg o.op)<=1\/(Ml o).isSome=true
 dst:∀ (i:Nat) (o:Oper) (T:TypeId) (d:Tmp),all[i]? = some o->jk o=some (T,d)->∀ (j:Nat) (q:Oper),all[j]? = some q->j≠i->q.dst≠some d
 st:∀ (i:Nat) (o:Oper) (T:TypeId) (d:Tmp) (x:Operand),all[i]? = some o->uT all o=some (T,d,x)->yD i x all 0=true/\(∀ (j:Nat) (q:Oper),all[j]? = some q->j≠i->∀ T' x',uT all q≠some (T',d,x'))/\(∃ (j:Nat) (q:Oper) (T' : TypeId),j < i/\all[j]? = some q/\jk q=some (T',d))/\x≠.tmp d
theorem QW {all:List Oper} : ∀ (os:List Oper) (k:Nat),QB all os k=true->∀ (i:Nat) (o:Oper),os[i]? = some o->
  (∀ T d,jk o=some (T,d)->Mj (k+i) d all 0=true)/\∀ T d x,uT all o=some (T,d,x)->yD (k+i) x all 0=true/\Em all (k+i) d all 0=true/\y8 d (all.take (k+i))=true/\x≠.tmp d
 | [],k,_,i,o,ho=>by simp at ho
 | o0::os,k,h,0,o,ho=>by
  simp at ho;subst ho;simp only [QB,aA] at h;refine ⟨fun T d e=>?_,fun T d x e=>?_⟩
  ·have:=h.1.1
   rw [e] at this;exact this
  ·have:=h.1.2
   rw [e] at this;simp only [aA,mz] at this;refine ⟨this.1.1.1,this.1.1.2,this.1.2,fun e2=>?_⟩;have h3:=this.2;rw [e2,C7 (by simp [tA])] at h3;simp at h3
 | o0::os,k,h,i+1,o,ho=>by
  simp only [QB,aA] at h;have:=QW os (k+1) h.2 i o (by simpa using ho);rwa [show k+1+i=k+(i+1) by omega] at this
theorem anM {cfg:fE} {all:List Oper} (h:XN P cfg all=true):akA P cfg all:=by
 unfold XN at h;simp only [aA] at h;obtain ⟨⟨⟨h1,h2⟩,h3⟩,h4⟩:=h;refine ⟨⟨Gs h1,fun {i j x y} hy hx bG hc=>?_⟩,fun o ho=>?_,fun i o T d ho he j q hq de=>?_,fun i o T d x ho he=>?_⟩
 ·have:=Ex all 0 h3 i y hy
  rw [bM] at this;have:=ID all 0 this j x hx (by omega) hc;rwa [bM] at this
 ·have:=ij.1 h2 o ho
  simp only [uD] at this;rcases this with (h | h) | h
  ·exact .inl h
  ·exact .inr (.inl (fR h))
  ·exact .inr (.inr h)
 ·have:=(QW all 0 h4 i o ho).1 T d he
  rw [bM] at this;exact Ue all 0 this j q hq (by omega)
 ·have:=(QW all 0 h4 i o ho).2 T d x he
  rw [bM] at this;refine ⟨this.1,fun j q hq de T' x'=>Pm all 0 this.2.1 j q hq (by omega) T' x',?_,this.2.2.2⟩;obtain ⟨j,q,T',h5,h6⟩:=QV this.2.2.1;rw [pH] at h5;split at h5
  ·rename_i bG; exact ⟨j,q,T',bG,h5,h6⟩
  ·simp at h5
theorem Fl {all:List Oper} {d:Tmp} {T:TypeId} {x:Operand} : ∀ {os:List Oper},uU all d os=some (T,x)->∃ (i:Nat) (o:Oper),os[i]? = some o/\uT all o=some (T,d,x)
 | [],h=>by simp [uU] at h
 | o::os,h=>by
  unfold uU at h;split at h
  ·rename_i T' e x' he
   cases hb:Nat.beq d e with
   | true=>
    rw [hb,ak] at h;have:=bu hb;subst this;simp at h;obtain ⟨rfl,rfl⟩:=h;exact ⟨0,o,rfl,he⟩
   | false=>
    rw [hb,ba] at h;obtain ⟨i,q,h1,h2⟩:=Fl h;exact ⟨i+1,q,by simpa using h1,h2⟩
  ·obtain ⟨i,q,h1,h2⟩:=Fl h
   exact ⟨i+1,q,by simpa using h1,h2⟩
theorem Fm {all:List Oper} {d:Tmp} : ∀ {os:List Oper},uU all d os=none->∀ (i:Nat) (o:Oper),os[i]? = some o->∀ T x,uT all o≠some (T,d,x)
 | [],_,i,o,ho=>by simp at ho
 | q::os,h,i,o,ho=>by
  unfold uU at h;intro T x e;split at h
  ·rename_i T' e' x' he
   cases hb:Nat.beq d e' with
   | true=>rw [hb] at h; simp at h
   | false=>
    rw [hb,ba] at h;cases i with
    | zero=>
     simp at ho;subst ho;rw [he] at e;simp at e;rw [e.2.1,yZ] at hb;simp at hb
    | succ i=>exact Fm h i o (by simpa using ho) T x e
  ·rename_i hn
   cases i with
   | zero=>simp at ho; subst ho; rw [hn] at e; simp at e
   | succ i=>exact Fm h i o (by simpa using ho) T x e
theorem IE {all:List Oper} {t:bO} {T:TypeId} {d:Tmp} {cs:List KV} (h:y9 P all t T d=some cs):∃ z,vN P T=some z/\flat z=true/\z.cells.toList.all scalar=true/\jM (iH z).cells=true/\some (iH z).cells.length=size? P T/\
  (∀ T' x,uU all d all=some (T',x)->T=T'/\some (mc t x).cells.length=size? P T/\jM (mc t x).cells=true/\cs=(mc t x).cells)/\(uU all d all=none->cs=(iH z).cells):=by
 unfold y9 at h;split at h
 ·rename_i z hz
  cases hb:(flat z&&z.cells.toList.all scalar&&jM (iH z).cells&&decide (some (iH z).cells.length=size? P T)) with
  | false=>rw [hb] at h; simp at h
  | true=>
   rw [hb,ak] at h;simp only [aA,o7] at hb;refine ⟨z,hz,hb.1.1.1,hb.1.1.2,hb.1.2,hb.2,fun T' x hs=>?_,fun hs=>?_⟩
   ·rw [hs] at h
    simp only at h;cases hc:(Nat.beq T T'&&decide (some (mc t x).cells.length=size? P T)&&jM (mc t x).cells) with
    | false=>rw [hc] at h; simp at h
    | true=>
     rw [hc,ak] at h;simp only [aA,o7] at hc;exact ⟨bu hc.1.1,hc.1.2,hc.2,by simpa using h.symm⟩
   ·rw [hs] at h
    simpa using h.symm
 ·simp at h
theorem V2 {R:Type} {all:List Oper} {t0:bO} {k:bO->aw->Option R} {r:R} : ∀ {os:List Oper} {t:bO} {A:aw},ach P all t0 k os t A=some r->∀ o∈os,∀ T d,jk o=some (T,d)->∃ cs,y9 P all t0 T d=some cs
 | [],_,_,_,o,ho,_,_,_=>by simp at ho
 | q::os,t,A,h,o,ho,T,d,he=>by
  have h:Option.rec (motive:=fun _=>Option R) (ach P all t0 k os t A) (fun p=>
   Option.rec (motive:=fun _=>Option R) none (fun cs=>ach P all t0 k os (t.set (.ptr A.next 0) p.2) (A.new (.row cs (pL P p.1)))) (y9 P all t0 p.1 p.2)) (jk q)=some r:=h
  cases hq:jk q with
  | none=>
   rw [hq] at h;rcases fA.1 ho with rfl | ho
   ·rw [hq] at he; simp at he
   ·exact V2 h o ho T d he
  | some p=>
   rw [hq] at h;cases hc:y9 P all t0 p.1 p.2 with
   | none=>simp only [hc] at h; exact absurd h (by simp)
   | some cs=>
    simp only [hc] at h;rcases fA.1 ho with rfl | ho
    ·rw [hq] at he
     simp at he;subst he;exact ⟨cs,hc⟩
    ·exact V2 h o ho T d he
end Go.K
end
section
namespace Go.K
open Go Go.aB
variable {P:Program} {E:Env}
theorem acy:∀ {l vs:List Value},l.length=vs.length->jK 0 l vs=some vs
 | [],[],_=>rfl
 | [],_::_,h=>by simp at h
 | _::_,[],h=>by simp at h
 | x::l,v::vs,h=>by rw [yu,acy (by simpa using h)]; rfl
theorem ae2 {a:Act} {d:Tmp} {v:Value} (h:d < a.tmps.size):(a.put (some d) v).tmps.getD d undef=v:=by
 simp [Act.put,jC,h]
theorem ae3 {a:Act} {dst:Option Tmp} {d:Tmp} {v:Value} (h:dst≠some d):(a.put dst v).tmps.getD d undef=a.tmps.getD d undef:=by
 cases dst with
 | none=>rfl
 | some e=>
  have de:e≠d:=fun q=>h (by rw [q]);simp [Act.put,jC,Array.getElem?_setIfInBounds_ne de]
def awv (P:Program) (E:Env) (all:List Oper) (tn:bO) (S:Nat->Bool) (T:TypeId) (d:Tmp) (cu:List Value):Prop:=
 some cu.length=size? P T/\(∀ (i:Nat) (o:Oper) T' x,all[i]? = some o->uT all o=some (T',d,x)->S i=true->bC P E (mc tn x).cells cu)/\
  ((∀ (i:Nat) (o:Oper) T' x,all[i]? = some o->uT all o=some (T',d,x)->S i=false)->∃ z,vN P T=some z/\bC P E (iH z).cells cu)
def ae4 (P:Program) (E:Env) (A:aw) (B:St) (ρ:Ren) (b0:Nat) (all:List Oper) (tn:bO) (S:Nat->Bool) (a:Act) (y:Nat->Nat):Prop:=
 ∀ (j:Nat) (o:Oper) (T:TypeId) (d:Tmp),all[j]? = some o->jk o=some (T,d)->S j=true->
  VR ρ (Ib (y j)) (a.tmps.getD d undef)/\Fr E A B b0 (y j)/\(∃ cu,B.get (y j)=some (.row cu (pL P T) true none)/\awv P E all tn S T d cu)/\
  ∀ (j' : Nat) (o' : Oper) (T' : TypeId) (d' : Tmp),all[j']? = some o'->jk o' = some (T',d')->S j' = true->y j' = y j->j' = j
theorem Lj {all:List Oper} {o:Oper} {T:TypeId} {d:Tmp} (h:jk o=some (T,d)):uT all o=none:=by
 cases hb:uT all o with
 | none=>rfl
 | some p=>
  obtain ⟨T',d',x⟩:=p;have h1:=(tH h).1;have h2:=(FW hb).1;rw [h1] at h2;simp at h2
theorem jt {S:Nat->Bool} {i j:Nat} (h:j≠i):cY S i j=S j:=by
 unfold cY;cases hb:Nat.beq j i with
 | false=>simp
 | true=>exact absurd (bu hb) h
theorem Cp {S:Nat->Bool} {i:Nat} : cY S i i=true:=by simp [cY]
theorem ae4.step {E' : Env} {A:aw} {B B' : St} {ρ bd:Ren} {base b0:Nat} {w w' : World} {all:List Oper} {tn:bO} {S:Nat->Bool} {a:Act} {y:Nat->Nat} {i:Nat} {o:Oper} {v' : Value} {cfg:fE} (h:ae4 P E A B ρ b0 all tn S a y) (hf:akA P cfg all)
  (ho:all[i]? = some o) (hb:sv all o=false) (k:Ev P base E A B ρ w E' A B' bd w') (mA:ρ.le bd):ae4 P E' A B' bd b0 all tn (cY S i) (a.put o.dst v') y:=by
 intro j q T d hq he hS;have de:∀ (m:Nat) (q:Oper),all[m]? = some q->sv all q=true->m≠i:=fun m q hm A8 e=>by
  subst e;rw [ho] at hm;simp at hm;subst hm;rw [hb] at A8;simp at A8
 have hal:∀ {q:Oper} {T:TypeId} {d:Tmp},jk q=some (T,d)->sv all q=true:=fun e=>by unfold sv; rw [e]; rfl
 have gR:∀ {q:Oper} {T:TypeId} {d:Tmp} {x:Operand},uT all q=some (T,d,x)->sv all q=true:=fun e=>by unfold sv; rw [e]; simp
 have hji:=de j q hq (hal he);rw [jt hji] at hS;obtain ⟨h1,h2,⟨cu,h3,h4,h5,h6⟩,h7⟩:=h j q T d hq he hS;obtain ⟨h8,h9⟩:=h2.step k;refine ⟨?_,h8,⟨cu,by rw [h9]; exact h3,h4,fun m q' T' x hm V3 hSm=>?_,fun hn=>?_⟩,fun j' o' T' d' BQ K8 hS'=>?_⟩
 ·rw [ae3 (hf.dst j q T d hq he i o ho (Ne.symm hji))]
  exact h1.mono mA
 ·rw [jt (de m q' hm (gR V3))] at hSm
  exact (h5 m q' T' x hm V3 hSm).mono k.le
 ·obtain ⟨z,vX,JH⟩:=h6 fun m q' T' x hm V3=>by
   have:=hn m q' T' x hm V3;rwa [jt (de m q' hm (gR V3))] at this
  exact ⟨z,vX,JH.mono k.le⟩
 ·rw [jt (de j' o' BQ (hal K8))] at hS'
  exact h7 j' o' T' d' BQ K8 hS'
theorem V4 {R:Type} {all:List Oper} {tn:bO} {k:bO->aw->Option R} {r:R} {E0:Env} {A0:aw} {B0 B:St} {ρ0 ρ:Ren} {w0 w:World} {base N:Nat} {a:Act} {y:Nat->Nat} : ∀ (os:List Oper) (m:Nat) (t:bO) (E:Env) (A:aw),all.drop m=os->ach P all tn k os t A=some r->
  Ev P base E0 A0 B0 ρ0 w0 E A B ρ w->lL P E ρ t N a->(∀ (j:Nat) (o:Oper) T d,m<=j->all[j]? = some o->jk o=some (T,d)->d < N)->
  (∀ (j:Nat) (o:Oper) (T:TypeId) (d:Tmp),m<=j->all[j]? = some o->jk o=some (T,d)->VR ρ (Ib (y j)) (a.tmps.getD d undef)/\Fr E A B B0.next (y j)/\(∀ cs,y9 P all tn T d=some cs->∃ cu,B.get (y j)=some (.row cu (pL P T) true none)/\bC P E cs cu)/\
   ∀ (j' : Nat) (o' : Oper) (T' : TypeId) (d' : Tmp),m<=j'->all[j']? = some o'->jk o' = some (T',d')->y j' = y j->j' = j)->
  ∃ t' E' A',k t' A' = some r/\lL P E' ρ t' N a/\Ev P base E0 A0 B0 ρ0 w0 E' A' B ρ w
 | [],m,t,E,A,_,h,yI,ht,_,_=>⟨t,E,A,h,ht,yI⟩
 | o::os,m,t,E,A,hd,h,yI,ht,hN,hb=>by
  have ho:all[m]? = some o:=by
   have:(all.drop m)[0]? = some o:=by rw [hd]; rfl
   rw [pS] at this;simpa using this
  have hd' : all.drop (m+1)=os:=by rw [<- List.drop_drop,hd]; rfl
  have h:Option.rec (motive:=fun _=>Option R) (ach P all tn k os t A) (fun p=>
   Option.rec (motive:=fun _=>Option R) none (fun cs=>ach P all tn k os (t.set (.ptr A.next 0) p.2) (A.new (.row cs (pL P p.1)))) (y9 P all tn p.1 p.2)) (jk o)=some r:=h
  cases hq:jk o with
  | none=>
   rw [hq] at h;exact V4 (y:=y) os (m+1) t E A hd' h yI ht (fun j o' T d hj=>hN j o' T d (by omega)) fun j o' T d hj ho' he=>by
    obtain ⟨h1,h2,h3,h4⟩:=hb j o' T d (by omega) ho' he;exact ⟨h1,h2,h3,fun j' o'' T' d' BQ=>h4 j' o'' T' d' (by omega)⟩
  | some p=>
   obtain ⟨T,d⟩:=p;rw [hq] at h;cases hc:y9 P all tn T d with
   | none=>simp only [hc] at h; exact absurd h (by simp)
   | some cs=>
    simp only [hc] at h;obtain ⟨h1,h2,h3,h4⟩:=hb m o T d (aU m) ho hq;obtain ⟨cu,h5,h6⟩:=h3 cs hc;obtain ⟨hle,aww⟩:=avE (cs:=cs) yI h2 h5 h6;have JF:(E.ns A.next (y m)).κ A.next=some (y m):=by simp [Env.ns]
    refine V4 (y:=y) os (m+1) _ (E.ns A.next (y m)) (A.new (.row cs (pL P T))) hd' h aww ⟨ht.size,fun i=>?_,fun i hi=>?_⟩ (fun j o' T d hj=>hN j o' T d (by omega)) fun j o' T' d' hj ho' he=>?_
    ·rw [Trie.qV]
     by_cases hid:i=d
     ·subst hid
      rw [aY rfl];exact ⟨_,.BO JF,h1⟩
     ·rw [av hid]
      exact (ht.val i).mono hle (fun _ _ e=>e)
    ·rw [Trie.qV,av]
     ·exact ht.none i hi
     ·intro e
      subst e;exact absurd (hN m o T i (aU m) ho hq) (Nat.not_lt_of_le hi)
    ·obtain ⟨g1,g2,g3,g4⟩:=hb j o' T' d' (by omega) ho' he
     have awx:y j≠y m:=fun e=>by have:=h4 j o' T' d' (by omega) ho' he e; omega
     refine ⟨g1,⟨g2.lo,g2.hi,fun b e=>?_,g2.z,fun q=>?_⟩,fun nM hc0=>?_,fun j' o'' T'' d'' BQ=>g4 j' o'' T'' d'' (by omega)⟩
     ·simp only [Env.ns] at e
      split at e
      ·simp at e; exact awx e.symm
      ·exact g2.un b e
     ·have hA:∀ (b:Nat) (v:KV),(A.new (.row cs (pL P T))).get b=some (.arr v)->A.get b=some (.arr v):=fun b v hb=>by
       rw [aw.dz] at hb;split at hb
       ·simp at hb
       ·exact hb
      exact g2.nc (q.of (fun _=>rfl) hA (fun _ _=>rfl) fun _ _=>rfl)
     ·obtain ⟨ri,g5,g6⟩:=g3 nM hc0
      exact ⟨ri,g5,g6.mono hle⟩
theorem anN {R:Type} {cfg:fE} {bR:px R} (kb:u6 P cfg.pc) (hm:P.follows .mixedOrders=true) {id:Nat} {all:List Oper} {N base:Nat} (hdN:all.all (KX N)=true) {k:bO->aw->Option R} {r:R} {t:bO} {A:aw} {B:St} {ρ:Ren} {a:Act} {w:World} {Q:Exit->Act->World->Prop}
  (Mx:XN P cfg all=true) (h:afN P cfg bR all (fun t A=>ach P all t k all t A) all t A=some r) (ht:lL P E ρ t N a) (hj:KJ P E A B ρ base w)
  (hq:∀ t' E' A' B' bd a' w',k t' A' = some r->lL P E' bd t' N a'->a'.defers=a.defers->Ev P base E A B ρ w E' A' B' bd w'->Q .normal a' w'):(Code.region id ⟨all⟩ true).wp P Q a w:=by
 classical
 have hf:=anM Mx;obtain ⟨L,tn,mX,hk⟩:=IC hf.kind h;obtain ⟨hlen,Tb,CS⟩:=mX.at;have vR:=V2 hk;have QU:Ev P base E A B ρ w E A B ρ w.drew:=(dR.refl hj.k).ev (l8.drew hj.s);have IA:∀ (i:Nat) (o:Oper),all[i]? = some o->∀ d,o.dst=some d->d < N:=by
  intro i o ho d ed;have:=ij.1 hdN o (jD ho);unfold KX at this;rw [ed] at this;simp only at this;rw [cq] at this;exact this
 refine wp_region_any hm ?_;show wpAny P .any ⟨all⟩ Q all.length (Array.replicate all.length false) a w.drew;have Gv:∀ i,(Array.replicate all.length false).getD i false=false:=by
  intro i;rw [jC,Array.getElem?_replicate];split <;> rfl
 let Inv:(Nat->Bool)->Act->World->Prop:=fun S a' w'=>∃ E' B' bd y,a'.defers=a.defers/\Ev P base E A B ρ w.drew E' A B' bd w'/\lL P E' bd (kd S all L 0 t) N a'/\ae4 P E' A B' bd B.next all tn S a' y
 refine Hm hf.ord.reg Inv ?_ ?_ ?_ all.length _ a w.drew (by simp) ?_ (fun i j hi _=>by
   have h2:(Array.replicate all.length false).getD i false=true:=hi;rw [Gv] at h2; simp at h2) ⟨E,B,ρ,fun _=>0,rfl,.refl hj.k QU.gP.kC,?_,?_⟩
 ·
  rintro S S' a' w' hSS ⟨E',B',bd,y,h1,h2,h3,h4⟩;have hS:∀ (i:Nat) (o:Oper),all[i]? = some o->S i=S' i:=fun i o ho=>hSS i (dq.1 ho).1;refine ⟨E',B',bd,y,h1,h2,h3.same fun z=>nu rfl fun i o ho _=>by rw [bM]; exact (hS i o ho).symm,fun j o T d ho he Td=>?_⟩;obtain ⟨q1,q2,⟨cu,q3,q4,q5,q6⟩,q7⟩:=h4 j o T d ho he (by rw [hS j o ho]; exact Td);exact ⟨q1,q2,⟨cu,q3,q4,fun m q T' x hm V3 hSm=>q5 m q T' x hm V3 (by rw [hS m q hm]; exact hSm),fun hn=>q6 fun m q T' x hm V3=>by rw [hS m q hm]; exact hn m q T' x hm V3⟩,fun j' o' T' d' BQ K8 hS'=>q7 j' o' T' d' BQ K8 (by rw [hS j' o' BQ]; exact hS')⟩
 ·
  rintro S a' w' i o ⟨E',B',bd,y,h1,h2,h3,h4⟩ hc ho rO yz _;have hi:i < L.length:=by rw [hlen]; exact (dq.1 ho).1
  have hx:L[i]? = some L[i]:=dr hi;obtain ⟨t1,zc,hw,anL,hno⟩:=CS i o L[i] ho hx;have Ew:∀ z∈pe P cfg all o,t1.get z=(kd S all L 0 t).get z:=fun z hz=>by rw [zc z,agi hf.ord hc ho rO yz hz]
  have Oh:=FV h3 (fun z hz=>Ew z (by unfold pe; exact List.mem_append_left _ hz)) hw;have hoA:(⟨all⟩:Array Oper)[i]? = some o:=by simpa using ho
  unfold wpOp;rw [hoA];simp only [Oh];cases Hq:L[i].1 with
  | false=>
   simp only [JM,if_false];obtain ⟨hv,hnb⟩:=hno Hq;refine ⟨E',B',bd,y,by rw [put_defers]; exact h1,h2,?_,h4.step hf ho hnb (.refl h2.kC h2.gP.kC) (fun _ _ e=>e)⟩;refine (h3.put (IA i o ho) VC.undef).same fun z=>?_;rw [Mw hf.ord hc ho hx rO z,hv]
  | true=>
   simp only [if_true];refine .inl ?_;rcases anL Hq with ⟨V3,hv⟩ | ⟨hnb,hg⟩
   ·rcases V1 V3 with ⟨T,d,he⟩ | ⟨T,d,x,he⟩
    ·
     obtain ⟨e1,e2,e3⟩:=tH he;obtain ⟨cs,K5⟩:=vR o (jD ho) T d he;obtain ⟨z,hz1,Il,hz3,hz4,hz5,_⟩:=IE K5;have bm:compile P o.op = .make (Nx P T) []:=by rw [e1]; rfl
     obtain ⟨yF,v',w2,hr1,yr,hr3⟩:=aaJ (em:=fun _=>undef) (dc:=a'.eval) (obj:=Hh (pL P T) z) (mk:=Ib) bm h2.gP.kC (fun x hx=>by simp at hx) (by simp only [Nx,hz1,fy,Il,hz3,dk,ak]);unfold Oper.wp;rw [hr1];have fZ:d < a'.tmps.size:=by rw [h3.size]; exact IA i o ho d e3
     have hnx:=h2.gP.next;have mA:=hr3.le h2.gP.kC;have gR:=awt (cu:=z.cells.toList) (cg:=pL P T) h2.kC;have yI:Ev P base E' A B' bd w' E' A (B'.new (Hh (pL P T) z)) yF w2:=gR.ev hr3;refine ⟨E',B'.new (Hh (pL P T) z),yF,fun m=>if m=i then B'.next else y m,by rw [put_defers]; exact h1,h2.trans yI,?_,fun j q U c hq Mc hS=>?_⟩
     ·refine ((h3.mono (Env.le_refl _) mA).put (v:=.ao) (IA i o ho) ⟨.chan none,.uY,by simp [VR]⟩).same fun z=>?_
      rw [Mw hf.ord hc ho hx rO z,hv]
     ·have hold:∀ (m:Nat) (q:Oper) (U:TypeId) (c:Tmp),all[m]? = some q->jk q=some (U,c)->cY S i m=true->m≠i->S m=true:=fun m q U c _ _ hS de=>by rwa [jt de] at hS
      have aaQ:∀ (m:Nat) (q:Oper) (U:TypeId) (c:Tmp) (x:Operand),all[m]? = some q->uT all q=some (U,c,x)->m≠i:=fun m q U c x hm A8 e=>by
       subst e;rw [ho] at hm;simp at hm;subst hm;rw [Lj he] at A8;simp at A8
      by_cases hji:j=i
      ·subst hji
       rw [ho] at hq;simp at hq;subst hq;rw [he] at Mc;simp at Mc;obtain ⟨rfl,rfl⟩:=Mc;simp only [if_true];refine ⟨?_,⟨hnx,by simp,fun b e=>?_,?_,fun q=>?_⟩,⟨z.cells.toList,by simp [Hh],?_,fun m q T' x hm A8 hSm=>?_,fun _=>⟨z,hz1,En hz4⟩⟩,fun j' o' T' d' BQ K8 hS' hy=>?_⟩
       ·rw [e3,ae2 fZ]; exact yr
       ·have:=h2.kC.iW b _ e; omega
       ·cases hzz:E'.z B'.next with
        | none=>rfl
        | some r=>have:=h2.kC.nT _ r hzz; omega
       ·rcases q with q | ⟨g,_,q⟩
        ·obtain ⟨b,v,L',N',q1,q2⟩:=q
         have:=h2.kC.ar.iW b _ _ _ q2;omega
        ·rw [Hh,St.lh] at q
         have:=h2.kC.mem g _ q;omega
       ·rw [<- (En (P:=P) (E:=E') hz4).length] at hz5
        exact hz5
       ·
        exfalso;have hmi:=aaQ m q T' d x hm A8;rw [jt hmi] at hSm;obtain ⟨_,_,⟨j0,q0,T0,bG,hq0,he0⟩,_⟩:=hf.st m q T' d x hm A8;have:j0=j:=by
         by_cases hjj:j0=j
         ·exact hjj
         ·exact absurd (tH he0).2.2 (hf.dst j o T d ho he j0 q0 hq0 hjj)
        subst this;have hb:rX (fF [] all) m j0=true:=hf.ord.Gm hm hq0 bG (by
         unfold vW;rw [(tH he0).2.2,show Qm (some d) (pe P cfg all q)=true from C7 (by
          unfold pe;refine List.mem_append_right _ ?_;rw [(FW A8).1];exact l9 (show Operand.tmp d∈[Operand.tmp d,x] by simp))]
         rfl)
        have:=hc m j0 hSm hb;rw [rO] at this; simp at this
       ·by_cases N6:j' = j
        ·exact N6
        ·exfalso
         rw [av N6] at hy;have:=(h4 j' o' T' d' BQ K8 (hold j' o' T' d' BQ K8 hS' N6)).2.1.hi;omega
      ·simp only [av hji]
       obtain ⟨q1,q2,⟨cu,q3,q4,q5,q6⟩,q7⟩:=h4 j q U c hq Mc (hold j q U c hq Mc hS hji);obtain ⟨q8,q9⟩:=q2.step yI;refine ⟨?_,q8,⟨cu,by rw [q9]; exact q3,q4,fun m q' T' x hm A8 hSm=>?_,fun hn=>?_⟩,fun j' o' T' d' BQ K8 hS' hy=>?_⟩
       ·rw [ae3 (hf.dst j q U c hq Mc i o ho (Ne.symm hji))]
        exact q1.mono mA
       ·rw [jt (aaQ m q' T' c x hm A8)] at hSm
        exact q5 m q' T' x hm A8 hSm
       ·exact q6 fun m q' T' x hm A8=>by
         have:=hn m q' T' x hm A8;rwa [jt (aaQ m q' T' c x hm A8)] at this
       ·by_cases N6:j' = i
        ·rw [aY N6] at hy
         have:=q2.hi;omega
        ·rw [av N6] at hy
         exact q7 j' o' T' d' BQ K8 (hold j' o' T' d' BQ K8 hS' N6) hy
    ·
     obtain ⟨e1,e2,e3,_⟩:=FW he;obtain ⟨hnd,agk,⟨j0,q0,T0,bG,hq0,he0⟩,hxd⟩:=hf.st i o T d x ho he;have hb0:rX (fF [] all) i j0=true:=hf.ord.Gm ho hq0 bG (by
      unfold vW;rw [(tH he0).2.2,show Qm (some d) (pe P cfg all o)=true from C7 (by
       unfold pe;refine List.mem_append_right _ ?_;rw [e1];exact l9 (show Operand.tmp d∈[Operand.tmp d,x] by simp))]
      rfl)
     have hS0:S j0=true:=hc.ready hf.ord.reg ho yz j0 hb0;obtain ⟨q1,q2,⟨nM,q3,q4,_,_⟩,q7⟩:=h4 j0 q0 T0 d hq0 he0 hS0;obtain ⟨cs,K5⟩:=vR q0 (jD hq0) T0 d he0;obtain ⟨z,_,_,_,_,_,hz6,hz7⟩:=IE K5;have awy:uU all d all=some (T,x):=by
      cases hs:uU all d all with
      | none=>exact absurd he (Fm hs i o ho T x)
      | some p=>
       obtain ⟨T2,x2⟩:=p;obtain ⟨i2,o2,h5,h6⟩:=Fl hs;by_cases hii:i2=i
       ·subst hii
        rw [ho] at h5;simp at h5;subst h5;rw [he] at h6;simp at h6;rw [h6.1,h6.2]
       ·exact absurd h6 (agk i2 o2 h5 hii T2 x2)
     obtain ⟨hT,hl,XS,_⟩:=hz6 T x awy;subst hT;have A7:mc tn x=mc t1 x:=alO Tb zc hnd;rw [A7] at hl XS;have hxv:VC P E' bd (mc t1 x) (a'.eval x):=QS h3 fun z e=>Ew z (by
      unfold pe;refine List.mem_append_right _ ?_;rw [e1];subst e;exact l9 (show Operand.tmp z∈[Operand.tmp d,Operand.tmp z] by simp))
     obtain ⟨u,hu1,hu2⟩:=hxv;have atr:=hu1.cells (AZ XS);have mj:u.cells.toList.all scalar=true:=ij.2 (atr.scalar XS);have ats:some u.cells.size=size? P T0:=by
      rw [<- hl];have:=atr.length;simp only [Array.length_toList] at this;rw [this]
     have bm:compile P o.op = .act (JN P T0) [.tmp d,x]:=by rw [e1]; rfl
     have dt:=tB P o;rw [bm] at dt
     let em:Operand->Value:=fun q=>if q = .tmp d then Ib (y j0) else u
     have hw:jK 0 nM u.cells.toList=some u.cells.toList:=acy (by
      rw [<- ats] at q4;simp only [di] at q4;rw [q4]; simp)
     obtain ⟨yF,v',nx,w2,hr1,yr,hr3,hr4⟩:=dt bd B' (B'.put (y j0) (.row u.cells.toList (pL P T0) true none)) base w' em a'.eval undef h2.gP.kC (fun q hq=>by
       rcases fA.1 hq with rfl | hq
       ·show VR bd (em (.tmp d)) (a'.tmps.getD d undef)
        simp only [em,if_true];exact q1
       ·simp only [List.mem_singleton] at hq
        subst hq;simp only [em,av hxd];exact hu2) (by
       have h1:em (.tmp d)=Ib (y j0):=by simp [em]
       have h2:em x=u:=by simp [em,hxd]
       simp [h1,h2,JN,aB.storeAt,Ib,ats,St.Bm,dp,mj,q3,hw,St.hO])
     have awz:=awu h2 q2 q3 hr4;have mA:=hr4.le h2.gP.kC;have BT:∀ x,AR A E' x->(B'.put (y j0) (.row u.cells.toList (pL P T0) true none)).get x=B'.get x:=fun x q=>by
      rw [St.cz,av];intro e;subst e;exact q2.nc (.inl q)
     have hAT:∀ q,AT A E' (B'.put (y j0) (.row u.cells.toList (pL P T0) true none)) q->AT A E' B' q:=fun q r=>r.of (fun _=>rfl) (fun _ _ e=>e) BT fun _ _=>by simp
     have hFr:∀ q,Fr E' A B' B.next q->Fr E' A (B'.put (y j0) (.row u.cells.toList (pL P T0) true none)) B.next q:=fun q f=>⟨f.lo,f.hi,f.un,f.z,fun r=>f.nc (hAT q r)⟩
     have avF:∀ v:Value,a'.put o.dst v=a':=fun v=>by rw [e3]; rfl
     have agl:Inv (cY S i) (a'.put o.dst v') w2:=by
      rw [avF];refine ⟨E',_,yF,y,h1,awz,(h3.mono (Env.le_refl _) mA).same fun z=>?_,fun j q U c hq Mc hS=>?_⟩
      ·rw [Mw hf.ord hc ho hx rO z,e3]; rfl
      ·have hji:j≠i:=fun e=>by
        subst e;rw [ho] at hq;simp at hq;subst hq;rw [Lj Mc] at he;simp at he
       have hold:∀ (m:Nat) (q:Oper) (U:TypeId) (c:Tmp),all[m]? = some q->jk q=some (U,c)->cY S i m=true->S m=true:=fun m q U c hm Mc hS=>by
        have:m≠i:=fun e=>by
         subst e;rw [ho] at hm;simp at hm;subst hm;rw [Lj Mc] at he;simp at he
        rwa [jt this] at hS
       rw [jt hji] at hS;obtain ⟨p1,p2,⟨cu,p3,p4,p5,p6⟩,p7⟩:=h4 j q U c hq Mc hS;refine ⟨p1.mono mA,hFr _ p2,?_,fun j' o' T' d' BQ K8 hS'=>p7 j' o' T' d' BQ K8 (hold j' o' T' d' BQ K8 hS')⟩;by_cases D2:j=j0
       ·subst D2
        rw [hq0] at hq;simp at hq;subst hq;rw [he0] at Mc;simp at Mc;obtain ⟨rfl,rfl⟩:=Mc;refine ⟨u.cells.toList,by simp,by simpa using ats,fun m q' T' x' hm A8 _=>?_,fun hn=>?_⟩
        ·have hmi:m=i:=by
          by_cases hmi:m=i
          ·exact hmi
          ·exact absurd A8 (agk m q' hm hmi T' x')
         subst hmi;rw [ho] at hm;simp at hm;subst hm;rw [he] at A8;simp at A8;rw [<- A8.2,A7];exact atr
        ·have:=hn i o T0 x ho he
         rw [Cp] at this;simp at this
       ·have hcd:c≠d:=fun e=>by
         subst e;exact absurd (tH he0).2.2 (hf.dst j q U c hq Mc j0 q0 hq0 (Ne.symm D2))
        have aaQ:∀ (m:Nat) (q:Oper) (U:TypeId) (x:Operand),all[m]? = some q->uT all q=some (U,c,x)->m≠i:=fun m q U x hm A8 e=>by
         subst e;rw [ho] at hm;simp at hm;subst hm;rw [he] at A8;simp at A8;exact hcd A8.2.1.symm
        refine ⟨cu,?_,p4,fun m q' T' x' hm A8 hSm=>?_,fun hn=>?_⟩
        ·rw [St.cz,av]
         ·exact p3
         ·intro e
          exact D2 ((p7 j0 q0 T0 d hq0 he0 hS0 e.symm).symm)
        ·rw [jt (aaQ m q' T' x' hm A8)] at hSm
         exact p5 m q' T' x' hm A8 hSm
        ·exact p6 fun m q' T' x' hm A8=>by
          have:=hn m q' T' x' hm A8;rwa [jt (aaQ m q' T' x' hm A8)] at this
     unfold Oper.wp;rw [hr1];cases nx with
     | value u'=>have:u' = v':=yr; subst this; exact agl
     | skip=>have:v' = undef:=yr; subst this; exact agl
     | _=>exact yr.elim
   ·
    have AW:∀ JI Li wJ v' JD,VC P JI wJ L[i].2.1 v'->Ev P base E' A B' bd w' JI A Li wJ JD->Inv (cY S i) (a'.put o.dst v') JD:=fun JI Li wJ v' JD h5 h6=>by
     have mA:=h6.gP.le h2.gP.kC;refine ⟨JI,Li,wJ,y,by rw [put_defers]; exact h1,h2.trans h6,?_,h4.step hf ho hnb h6 mA⟩;refine ((h3.mono h6.le mA).put (IA i o ho) h5).same fun z=>?_;rw [Mw hf.ord hc ho hx rO z]
    rcases hg with hg | ⟨p,hp,hg⟩
    ·refine Ob kb hg (fun x hxm=>QS h3 fun z e=>Ew z ?_) h2.kj AW
     unfold pe;subst e;exact List.mem_append_right _ (l9 hxm)
    ·refine apH kb hp hg (fun x hxm=>QS h3 fun z e=>Ew z ?_) h2.kj AW
     unfold pe;subst e;refine List.mem_append_right _ (l9 ?_);unfold Ml at hp;split at hp
     ·rename_i c JE _
      split at hp
      ·rename_i d uR
       simp at hp;subst hp;rw [JE];show Operand.tmp z∈ae0 (np P cfg c);unfold np;rw [uR];exact hxm
      ·simp at hp
     ·simp at hp
 ·
  rintro S a' w' mj ⟨E',B',bd,y,h1,h2,h3,h4⟩;have hS:∀ (i:Nat) (o:Oper),all[i]? = some o->S i=true:=fun i o ho=>mj i (dq.1 ho).1;have awA:lL P E' bd tn N a':=h3.same fun z=>by
   rw [Tb z];exact nu rfl fun i o ho _=>by rw [bM]; exact (hS i o ho).symm
  obtain ⟨t',E2,A2,f1,f2,f3⟩:=V4 (y:=y) all 0 tn E' A rfl hk h2 awA (fun j o T d _ ho he=>IA j o ho d (tH he).2.2) fun j o T d _ ho he=>by
   obtain ⟨q1,q2,⟨cu,q3,q4,q5,q6⟩,q7⟩:=h4 j o T d ho he (hS j o ho);refine ⟨q1,q2,fun cs K5=>⟨cu,q3,?_⟩,fun j' o' T' d' _ BQ K8 hy=>q7 j' o' T' d' BQ K8 (hS j' o' BQ) hy⟩;obtain ⟨z,hz1,_,_,_,_,hz6,hz7⟩:=IE K5;cases hs:uU all d all with
   | some p=>
    obtain ⟨T2,x2⟩:=p;obtain ⟨i2,o2,h5,h6⟩:=Fl hs;rw [(hz6 T2 x2 hs).2.2.2];exact q5 i2 o2 T2 x2 h5 h6 (hS i2 o2 h5)
   | none=>
    rw [hz7 hs];obtain ⟨z',g1,g2⟩:=q6 fun m q' T' x hm A8=>absurd A8 (Fm hs m q' hm T' x);rw [hz1] at g1;simp at g1;subst g1;exact g2
  exact hq t' E2 A2 B' bd a' w' f1 f2 h1 (QU.trans f3)
 ·simp
 ·refine ht.same fun z=>?_
  rw [Oe Gv]
 ·intro j o T d ho he Td
  have Td:(Array.replicate all.length false).getD j false=true:=Td;rw [Gv] at Td;simp at Td
end Go.K
end
section
namespace Go.K
open Go Go.aB
variable {P:Program} {E:Env}
theorem X6 {R:Type} {cfg:fE} {bR:px R} {all:List Oper} {k:bO->aw->Option R} : ∀ (a b:List Oper),vK P cfg bR all k (a++b)=vK P cfg bR all (vK P cfg bR all k b) a
 | [],b=>rfl
 | o::a,b=>by
  show BS P cfg bR all o (vK P cfg bR all k (a++b))=BS P cfg bR all o (vK P cfg bR all (vK P cfg bR all k b) a);rw [X6 a b]
theorem akB {cfg:fE} {all:List Oper} {o:Oper} (h:dE (cm P cfg o.op)<=1):sv all o=false:=by
 cases hb:sv all o with
 | false=>rfl
 | true=>
  exfalso;rcases V1 hb with ⟨T,d,e⟩ | ⟨T,d,x,e⟩
  ·rw [(tH e).1] at h
   have h:dE (rP P T)<=1:=h;unfold rP at h;split at h
   ·rename_i z _
    cases hc:(flat z&&z.cells.toList.all scalar&&jM (iH z).cells) <;> rw [hc] at h <;> simp [dE] at h
   ·simp [dE] at h
  ·rw [(FW e).1] at h
   have h:(3:Nat)<=1:=h;omega
theorem QX {R:Type} {cfg:fE} {bR:px R} {all:List Oper} {k:bO->aw->Option R} {r:R} : ∀ {os:List Oper} {t:bO} {A:aw},(∀ o∈os,dE (cm P cfg o.op)<=1)->vK P cfg bR all k os t A=some r->
  ∃ L t',acx P cfg all A os t L t'/\k t' A=some r
 | [],t,A,_,h=>⟨[],t,.nil,h⟩
 | o::os,t,A,hn,h=>by
  have NL:=fun q hq=>hn q (yY o hq);have hk:=hn o (by simp);have hb:=akB (all:=all) hk;have hk3:Nat.ble 3 (dE (cm P cfg o.op))=false:=by
   cases hc:Nat.ble 3 (dE (cm P cfg o.op)) with
   | false=>rfl
   | true=>have:=fR hc; omega
  have hnc:=Eu (P:=P) (cfg:=cfg) (o:=o) (by omega);have h:BS P cfg bR all o (vK P cfg bR all k os) t A=some r:=h;unfold BS at h;cases hg:o.guard with
  | none=>
   rw [hg] at h;obtain ⟨v,A1,h1,h2⟩:=J2 hnc h;have e:=Et h1 hk3;subst e;obtain ⟨L,t',h3,h4⟩:=QX NL h2;exact ⟨_,t',.cons (fun _=>rfl) (.inl ⟨hg,rfl⟩) (fun _=>.inr ⟨hb,.inl h1⟩) (fun e=>by simp at e) h3,h4⟩
  | some p=>
   obtain ⟨j,want⟩:=p;rw [hg] at h;obtain ⟨d,hd,h⟩:=Oc h;rcases h with ⟨b,t1,h1,h2,h3⟩ | ⟨l,h1,h2⟩
   ·rcases h3 with ⟨h3,h4⟩ | ⟨h3,h4⟩
    ·obtain ⟨v,A1,h5,h6⟩:=J2 hnc h4
     have e:=Et h5 hk3;subst e;obtain ⟨L,t',h7,h8⟩:=QX NL h6;exact ⟨_,t',.cons h2 (.inr ⟨j,want,d,hg,hd,.inl ⟨b,h1,h3.symm⟩⟩) (fun _=>.inr ⟨hb,.inl h5⟩) (fun e=>by simp at e) h7,h8⟩
    ·obtain ⟨L,t',h7,h8⟩:=QX NL h4
     exact ⟨_,t',.cons h2 (.inr ⟨j,want,d,hg,hd,.inl ⟨b,h1,h3.symm⟩⟩) (fun e=>by simp at e) (fun _=>⟨rfl,hb⟩) h7,h8⟩
   ·obtain ⟨L,t',h7,h8⟩:=QX NL h2
    exact ⟨_,t',.cons (fun _=>rfl) (.inr ⟨j,want,d,hg,hd,.inr ⟨l,h1,rfl⟩⟩) (fun e=>by simp at e) (fun _=>⟨rfl,hb⟩) h7,h8⟩
section
variable {cfg:fE} {all os:List Oper} {L:List Out} {t0:bO} {m:Nat}
theorem agm (hf:agf P cfg all) (hos:∀ j q,os[j]? = some q->all[m+j]? = some q) {S:Nat->Bool} (hc:r9 all S) {i:Nat} {o:Oper} (ho:os[i]? = some o) (rO:S (m+i)=false) (yz:xj all S (m+i)) {y:Tmp} (hy:y∈pe P cfg all o) :
  (kd (fun j=>S (m+j)) os L 0 t0).get y=(kd (fun j=>Nat.blt j i) os L 0 t0).get y:=by
 refine nu rfl fun j q hq hd=>?_;rw [bM];have ho':=hos i o ho;have hq':=hos j q hq;rcases Nat.lt_trichotomy j i with h | h | h
 ·have:rX (fF [] all) (m+i) (m+j)=true:=hf.Gm ho' hq' (by omega) (by
   unfold vW;rw [hd,C7 hy];rfl)
  rw [hc.ready hf.reg ho' yz (m+j) this]
  symm; rw [cq]; exact h
 ·subst h
  rw [rO]
  symm
  cases hb:Nat.blt j j with
  | false=>rfl
  | true=>rw [cq] at hb; omega
 ·have hb:rX (fF [] all) (m+j) (m+i)=true:=hf.Gm hq' ho' (by omega) (by
   unfold vW;rw [hd,C7 hy];simp)
  have:S (m+j)=false:=by
   cases hs:S (m+j) with
   | false=>rfl
   | true=>have:=hc (m+j) (m+i) hs hb; rw [rO] at this; simp at this
  rw [this]
  symm
  cases hbb:Nat.blt j i with
  | false=>rfl
  | true=>rw [cq] at hbb; omega
theorem att (hf:agf P cfg all) (hos:∀ j q,os[j]? = some q->all[m+j]? = some q) {S:Nat->Bool} (hc:r9 all S) {i:Nat} {o:Oper} {x:Out} (ho:os[i]? = some o) (hx:L[i]? = some x) (rO:S (m+i)=false) (y:Tmp) :
  (kd (fun j=>cY S (m+i) (m+j)) os L 0 t0).get y=(rY (kd (fun j=>S (m+j)) os L 0 t0) o.dst x.2.1).get y:=by
 have arc:(fun j=>cY S (m+i) (m+j))=cY (fun j=>S (m+j)) i:=by
  funext j;unfold cY;cases hb:Nat.beq j i with
  | true=>have:=bu hb; subst this; simp
  | false=>
   have de:=Nat.ne_of_beq_eq_false hb;cases xD:Nat.beq (m+j) (m+i) with
   | false=>rfl
   | true=>have:=bu xD; omega
 rw [arc,u7];by_cases hd:o.dst=some y
 ·rw [aY hd]
  have:=age (S:=fun j=>S (m+j)) (y:=y) (os:=os) (L:=L) (k:=0) (i:=i) (t:=t0) ho hx hd (fun j q hq hqd bG=>by
   rw [bM];have hb:rX (fF [] all) (m+j) (m+i)=true:=hf.Gm (hos j q hq) (hos i o ho) (by omega) (by
    unfold vW;rw [hqd,hd];simp [Xs])
   cases hs:S (m+j) with
   | false=>rfl
   | true=>have:=hc (m+j) (m+i) hs hb; rw [rO] at this; simp at this)
  rw [bM] at this;exact this
 ·rw [av hd]
  refine nu rfl fun j q hq hqd=>?_;rw [bM];have de:j≠i:=by
   intro e;subst e;rw [ho] at hq;simp at hq;subst hq;exact hd hqd
  unfold cY;have:Nat.beq j i=false:=by
   cases hb:Nat.beq j i with
   | false=>rfl
   | true=>exact absurd (bu hb) de
  rw [this,Bool.or_false]
end
theorem Uf {cfg:fE} {b:List Nat} {i:Nat} : ∀ (os:List Oper) (k:Nat),Mm P cfg b i os k=true->∀ (j:Nat) (o:Oper),os[j]? = some o->(k+j < i->dE (cm P cfg o.op)=0\/rX b i (k+j)=true)/\(i < k+j->rX b (k+j) i=true)
 | [],k,_,j,o,ho=>by simp at ho
 | q::os,k,h,0,o,ho=>by
  simp at ho;subst ho;simp only [Mm,aA] at h;rw [CH];have h2:=h.1;cases hb:Nat.beq k i with
  | true=>have:=bu hb; exact ⟨fun e=>by omega,fun e=>by omega⟩
  | false=>
   rw [hb,ba] at h2;refine ⟨fun bG=>?_,fun bG=>?_⟩
   ·rw [show Nat.blt k i=true from by rw [cq]; exact bG,ak] at h2
    cases hz:Nat.beq (dE (cm P cfg q.op)) 0 with
    | true=>exact .inl (bu hz)
    | false=>rw [hz,ba] at h2; exact .inr h2
   ·have:Nat.blt k i=false:=by
     cases xD:Nat.blt k i with
     | false=>rfl
     | true=>rw [cq] at xD; omega
    rwa [this,ba] at h2
 | q::os,k,h,j+1,o,ho=>by
  simp only [Mm,aA] at h;have:=Uf os (k+1) h.2 j o (by simpa using ho);rwa [show k+1+j=k+(j+1) by omega] at this
theorem QY {cfg:fE} {b:List Nat} {all:List Oper} : ∀ (os:List Oper) (k:Nat),Mn P cfg b all os k=true->∀ (i:Nat) (o:Oper),os[i]? = some o->¬ dE (cm P cfg o.op)<=1->Mm P cfg b (k+i) all 0=true
 | [],k,_,i,o,ho,_=>by simp at ho
 | q::os,k,h,0,o,ho,hk=>by
  simp at ho;subst ho;simp only [Mn,aA] at h;have h2:=h.1;have:Nat.ble (dE (cm P cfg q.op)) 1=false:=by
   cases hb:Nat.ble (dE (cm P cfg q.op)) 1 with
   | false=>rfl
   | true=>exact absurd (fR hb) hk
  rw [this,ba] at h2;exact h2
 | q::os,k,h,i+1,o,ho,hk=>by
  simp only [Mn,aA] at h;have:=QY os (k+1) h.2 i o (by simpa using ho) hk;rwa [show k+1+i=k+(i+1) by omega] at this
theorem agn {cfg:fE} : ∀ (os:List Oper),∃ n,n<=os.length/\(∀ o∈os.take n,dE (cm P cfg o.op)<=1)/\(n=os.length\/∃ o,os[n]? = some o/\¬ dE (cm P cfg o.op)<=1)
 | []=>⟨0,by simp,by simp,by simp⟩
 | o::os=>by
  by_cases hk:dE (cm P cfg o.op)<=1
  ·obtain ⟨n,h1,h2,h3⟩:=agn (cfg:=cfg) os
   refine ⟨n+1,by simpa using h1,fun q hq=>?_,?_⟩
   ·simp only [List.take_succ_cons,fA] at hq
    rcases hq with rfl | hq
    ·exact hk
    ·exact h2 q hq
   ·rcases h3 with h3 | ⟨q,h3,h4⟩
    ·exact .inl (by simp [h3])
    ·exact .inr ⟨q,by simpa using h3,h4⟩
  ·exact ⟨0,by simp,by simp,.inr ⟨o,by simp,hk⟩⟩
theorem asd {R:Type} {cfg:fE} {bR:px R} {all os:List Oper} {k:bO->aw->Option R} {r:R} {t:bO} {A:aw} (h:vK P cfg bR all k os t A=some r) :
  ∃ n L tn,n<=os.length/\(∀ o∈os.take n,dE (cm P cfg o.op)<=1)/\(n=os.length\/∃ o,os[n]? = some o/\¬ dE (cm P cfg o.op)<=1)/\acx P cfg all A (os.take n) t L tn/\vK P cfg bR all k (os.drop n) tn A=some r:=by
 obtain ⟨n,h1,h2,h3⟩:=agn (P:=P) (cfg:=cfg) os;rw [<- List.take_append_drop n os,X6] at h;obtain ⟨L,tn,h4,h5⟩:=QX h2 h;exact ⟨n,L,tn,h1,h2,h3,h4,h5⟩
theorem anO (S:Nat->Bool) (os:List Oper) (L:List Out) (t:bO):∀ (m:Nat),kd S os L m t=kd (fun j=>S (m+j)) os L 0 t:=by
 intro m
 induction m generalizing S with
 | zero=>simp only [bM]
 | succ m ih=>
  rw [Es,ih];congr 1;funext j;rw [show m+j+1=m+1+j by omega]
theorem Oi (S:Nat->Bool):∀ (os:List Oper) (L L2:List Out) (k:Nat) (t:bO),L.length<=os.length->kd S os (L++L2) k t=kd S (os.drop L.length) L2 (k+L.length) (kd S os L k t)
 | [],[],L2,k,t,_=>rfl
 | [],x::L,L2,k,t,h=>by simp at h
 | o::os,[],L2,k,t,_=>rfl
 | o::os,x::L,L2,k,t,h=>by
  simp only [List.cons_append,kd,CI,List.drop_succ_cons];rw [Oi S os L L2 (k+1) _ (by simpa using h),show k+1+L.length=k+(L.length+1) by omega]
theorem aaR {S:Nat->Bool} {os:List Oper} {L L2:List Out} {t:bO} (h:L.length<=os.length) (hS:∀ j,L.length<=j->j < os.length->S j=false) (y:Tmp):(kd S os (L++L2) 0 t).get y=(kd S os L 0 t).get y:=by
 rw [Oi S os L L2 0 t h,bM,anO];refine (nu (S':=fun _=>false) rfl fun i o ho _=>?_).trans (by rw [Oe fun _=>rfl]);rw [bM];rw [pS] at ho;exact hS _ (by omega) (dq.1 ho).1
theorem X7 {S S' : Nat->Bool} : ∀ {os:List Oper} {L:List Out} {k:Nat} {t:bO},(∀ j,j < L.length->S (k+j)=S' (k+j))->kd S os L k t=kd S' os L k t
 | [],L,k,t,_=>by cases L <;> rfl
 | o::os,[],k,t,_=>rfl
 | o::os,x::L,k,t,h=>by
  simp only [kd];rw [show S k=S' k from by have:=h 0 (by simp); simpa using this];exact X7 fun j hj=>by have:=h (j+1) (by simpa using hj); rwa [show k+(j+1)=k+1+j by omega] at this
theorem anP {S:Nat->Bool} : ∀ {os:List Oper} {L:List Out} {n k:Nat} {t:bO},L.length<=n->kd S (os.take n) L k t=kd S os L k t
 | [],L,n,k,t,_=>by simp
 | o::os,[],n,k,t,_=>by cases n <;> rfl
 | o::os,x::L,0,k,t,h=>by simp at h
 | o::os,x::L,n+1,k,t,h=>by
  simp only [List.take_succ_cons,kd];exact anP (by simpa using h)
theorem apJ {cfg:fE} {o:Oper} {p:Operand×List Operand} (h:Ml o=some p) : ¬ dE (cm P cfg o.op)<=1:=by
 unfold Ml at h;split at h
 ·rename_i c' awB _
  split at h
  ·rename_i d uR
   rw [awB];show ¬ dE (np P cfg c')<=1;unfold np;rw [uR];show ¬ (9:Nat)<=1;omega
  ·simp at h
 ·simp at h
theorem yJ {t t' : bO} : ∀ {xs:List Operand},(∀ x∈xs,mc t x=mc t' x)->mZ t xs=mZ t' xs:=fun {xs} h=>by
 rw [u5,u5];exact List.map_congr_left h
theorem anQ {R:Type} {bR:px R} {t t' : bO} {A:aw} {k:KV->aw->Option R} {ins:tD} (h:∀ x∈ae0 ins,mc t x=mc t' x):QA bR t A k ins=QA bR t' A k ins:=by
 cases ins with
 | pure f xs=>show (f (mZ t xs)).run _=(f (mZ t' xs)).run _; rw [yJ (xs:=xs) h]
 | read f xs=>show (f A (mZ t xs)).run _=(f A (mZ t' xs)).run _; rw [yJ (xs:=xs) h]
 | act f xs=>show (f A (mZ t xs)).run _=(f A (mZ t' xs)).run _; rw [yJ (xs:=xs) h]
 | look f xs=>show (f (mZ t xs)).run _=(f (mZ t' xs)).run _; rw [yJ (xs:=xs) h]
 | Ei g f xs=>show (f (mZ t xs)).run _=(f (mZ t' xs)).run _; rw [yJ (xs:=xs) h]
 | Ir g f xs=>show (f (Ar A (mZ t xs)).1).run (fun v=>k v (Ar A (mZ t xs)).2)=(f (Ar A (mZ t' xs)).1).run (fun v=>k v (Ar A (mZ t' xs)).2); rw [yJ (xs:=xs) h]
 | call f xs=>
  show Option.rec (motive:=fun _=>Option R) none (fun p=>bR p.1 p.2 A k) (Iu (mZ t xs) (mc t f))=Option.rec (motive:=fun _=>Option R) none (fun p=>bR p.1 p.2 A k) (Iu (mZ t' xs) (mc t' f));rw [yJ fun x hx=>h x (yY f hx),h f (List.mem_cons_self ..)]
 | bad=>rfl
theorem alP {R:Type} {cfg:fE} {bR:px R} (kb:u6 P cfg.pc) (xG:Mv P bR) (hm:P.follows .mixedOrders=true) {id:Nat} {all:List Oper} {N base:Nat} (hdN:all.all (KX N)=true) {k:bO->aw->Option R} {r:R} {t:bO} {A:aw} {B:St} {ρ:Ren} {a:Act} {w:World} {Q:Exit->Act->World->Prop}
  (Mx:NU P cfg all=true) (h:vK P cfg bR all k all t A=some r) (ht:lL P E ρ t N a) (hj:KJ P E A B ρ base w)
  (hq:∀ t' E' A' B' bd a' w',k t' A' = some r->lL P E' bd t' N a'->a'.defers=a.defers->Ev P base E A B ρ w E' A' B' bd w'->Q .normal a' w'):(Code.region id ⟨all⟩ true).wp P Q a w:=by
 unfold NU at Mx;split at Mx
 ·simp only [aA] at Mx
  obtain ⟨⟨awC,hcl⟩,har⟩:=Mx;have hf:agf P cfg all:=⟨Gs awC,fun {i j x y} hy hx bG uR=>by
   have:=Ex all 0 hcl i y hy;rw [bM] at this;have:=ID all 0 this j x hx (by omega) uR;rwa [bM] at this⟩
  have piv:∀ (i:Nat) (o:Oper),all[i]? = some o->¬ dE (cm P cfg o.op)<=1->∀ j q,all[j]? = some q->(j < i->dE (cm P cfg q.op)=0\/rX (fF [] all) i j=true)/\(i < j->rX (fF [] all) j i=true):=fun i o ho hk j q hq=>by
   have h1:=QY all 0 har i o ho hk;have h2:=Uf all 0 h1 j q hq;simpa only [bM] using h2
  have QU:Ev P base E A B ρ w E A B ρ w.drew:=(dR.refl hj.k).ev (l8.drew hj.s);have IA:∀ (i:Nat) (o:Oper),all[i]? = some o->∀ d,o.dst=some d->d < N:=by
   intro i o ho d ed;have:=ij.1 hdN o (jD ho);unfold KX at this;rw [ed] at this;simp only at this;rw [cq] at this;exact this
  refine wp_region_any hm ?_;show wpAny P .any ⟨all⟩ Q all.length (Array.replicate all.length false) a w.drew;have Gv:∀ i,(Array.replicate all.length false).getD i false=false:=by
   intro i;rw [jC,Array.getElem?_replicate];split <;> rfl
  have e0:∀ (S:Nat->Bool),(fun j=>S (0+j))=S:=fun S=>by funext j; rw [bM]
  have hos:∀ j q,all[j]? = some q->all[0+j]? = some q:=fun j q hjq=>by rwa [bM]
  let au3:List Out->aw->Nat->Oper->Out->Prop:=fun L A2 i o x=>∃ t1,(∀ y,t1.get y=(kd (fun j=>Nat.blt j i) all L 0 t).get y)/\Od all o t1 x.1/\(x.1=true->bf (xO (cm P cfg o.op) t1 A2) (x.2.1,A2))/\(x.1=false->x.2.1=uE)
  let Inv:(Nat->Bool)->Act->World->Prop:=fun S a' w'=>∃ n L A2 tn E' B' bd,n<=all.length/\L.length=n/\(∀ j,n<=j->j < all.length->S j=false)/\(n=all.length\/∃ o,all[n]? = some o/\¬ dE (cm P cfg o.op)<=1)/\
   (∀ j o,j < n->all[j]? = some o->¬ dE (cm P cfg o.op)<=1->S j=true)/\(∀ i o x,i < n->S i=false->all[i]? = some o->L[i]? = some x->au3 L A2 i o x)/\
   (∀ y,tn.get y=(kd (fun _=>true) all L 0 t).get y)/\vK P cfg bR all k (all.drop n) tn A2=some r/\a'.defers=a.defers/\Ev P base E A B ρ w.drew E' A2 B' bd w'/\lL P E' bd (kd S all L 0 t) N a'
  have begin:∀ (m:Nat) (S:Nat->Bool) (L:List Out) (A2:aw) (t2:bO) (a' : Act) (w' : World) (E' : Env) (B' : St) (bd:Ren),m<=all.length->L.length=m->(∀ j,m<=j->j < all.length->S j=false)->
    (∀ j o,j < m->all[j]? = some o->¬ dE (cm P cfg o.op)<=1->S j=true)->(∀ i o x,i < m->S i=false->all[i]? = some o->L[i]? = some x->au3 L A2 i o x)->
    (∀ y,t2.get y=(kd (fun _=>true) all L 0 t).get y)->vK P cfg bR all k (all.drop m) t2 A2=some r->a'.defers=a.defers->Ev P base E A B ρ w.drew E' A2 B' bd w'->lL P E' bd (kd S all L 0 t) N a'->Inv S a' w':=by
   intro m S L A2 t2 a' w' E' B' bd hml hL h1 h2 h3 h4 h5 h6 h7 h8;obtain ⟨n,L2,tn,g1,g2,g3,g4,g5⟩:=asd h5;rw [List.length_drop] at g1 g3;obtain ⟨k1,k2,k3⟩:=g4.at;rw [nJ,List.length_drop,Nat.min_eq_left g1] at k1;have hLa:L.length<=all.length:=by omega
   have tail:∀ (S:Nat->Bool) (y:Tmp),(∀ j,j < m->S j=true)->(kd S all (L++L2) 0 t).get y=(kd (fun j=>S (m+j)) ((all.drop m).take n) L2 0 t2).get y:=fun S y hS=>by
    rw [Oi S all L L2 0 t hLa,bM,anO,anP (by omega),hL];refine nu ?_ fun _ _ _ _=>rfl;rw [h4 y,X7 (S:=S) (S':=fun _=>true) fun j hj=>by rw [bM]; exact hS j (by omega)]
   refine ⟨m+n,L++L2,A2,tn,E',B',bd,by omega,by rw [nH]; omega,fun j hj1 N6=>h1 j (by omega) N6,?_,fun j o hj ho hk=>?_,fun i o x hi rO ho hx=>?_,fun y=>?_,by rwa [List.drop_drop] at g5,h6,h7,h8.same fun y=>aaR hLa (fun j hj1 N6=>h1 j (by omega) N6) y⟩
   ·rcases g3 with g3 | ⟨o,g3,g6⟩
    ·exact .inl (by omega)
    ·exact .inr ⟨o,by rwa [pS] at g3,g6⟩
   ·by_cases hjm:j < m
    ·exact h2 j o hjm ho hk
    ·exfalso
     refine hk (g2 o (jD (i:=j - m) ?_));rw [pH,aY (by omega),pS,show m+(j - m)=j by omega];exact ho
   ·by_cases him:i < m
    ·rw [r7 (by omega)] at hx
     obtain ⟨t1,q1,q2⟩:=h3 i o x him rO ho hx;exact ⟨t1,fun y=>by rw [q1 y]; exact (aaR hLa (fun j hj1 _=>by
      cases hb:Nat.blt j i with
      | false=>rfl
      | true=>rw [cq] at hb; omega) y).symm,q2⟩
    ·rw [uC (by omega),hL] at hx
     have hoi:((all.drop m).take n)[i - m]? = some o:=by rw [pH,aY (by omega),pS,show m+(i - m)=i by omega]; exact ho
     obtain ⟨t1,q1,q2,q3,q4⟩:=k3 (i - m) o x hoi hx;have hk:=g2 o (jD hoi);refine ⟨t1,fun y=>?_,q2,fun Hq=>?_,fun Hq=>(q4 Hq).1⟩
     ·rw [q1 y,tail _ y fun j hj=>by rw [cq]; omega]
      refine nu rfl fun j q _ _=>?_;rw [bM];cases hb:Nat.blt (m+j) i with
      | true=>rw [cq] at hb ⊢; omega
      | false=>
       cases xD:Nat.blt j (i - m) with
       | false=>rfl
       | true=>
        rw [cq] at xD;have:Nat.blt (m+j) i=true:=by rw [cq]; omega
        rw [hb] at this; simp at this
     ·rcases q3 Hq with ⟨V3,_⟩ | ⟨_,hg⟩
      ·rw [akB hk] at V3; simp at V3
      ·rcases hg with hg | ⟨p,hp,_⟩
       ·exact hg
       ·exact absurd hk (apJ hp)
   ·rw [k2 y,tail _ y fun _ _=>rfl]
  refine Hm hf.reg Inv ?_ ?_ ?_ all.length _ a w.drew (by simp) ?_ (fun i j hi _=>by
    have h2:(Array.replicate all.length false).getD i false=true:=hi;rw [Gv] at h2; simp at h2) (begin 0 _ [] A t a w.drew E B ρ (by omega) rfl (fun j _ _=>Gv j) (fun j _ hj=>by omega) (fun i _ _ hi=>by omega) (fun y=>by cases all <;> rfl) (by simpa using h) rfl (.refl hj.k QU.gP.kC) (ht.same fun y=>by cases all <;> rfl))
  ·
   rintro S S' a' w' hSS ⟨n,L,A2,tn,E',B',bd,h1,h2,h3,h4,h5,h6,h7,h8,h9,vX,JH⟩;refine ⟨n,L,A2,tn,E',B',bd,h1,h2,fun j hj1 N6=>by rw [<- hSS j N6]; exact h3 j hj1 N6,h4,fun j o hj ho hk=>by rw [<- hSS j (by omega)]; exact h5 j o hj ho hk,fun i o x hi rO ho hx=>h6 i o x hi (by rw [hSS i (by omega)]; exact rO) ho hx,h7,h8,h9,vX,JH.same fun z=>nu rfl fun i o ho _=>?_⟩;rw [bM];exact (hSS _ (dq.1 ho).1).symm
  ·
   rintro S a' w' i o ⟨n,L,A2,tn,E',B',bd,h1,h2,h3,h4,h5,h6,h7,h8,h9,vX,JH⟩ hcS ho rO yz _;have hil:i < all.length:=(dq.1 ho).1;have hoA:(⟨all⟩:Array Oper)[i]? = some o:=by simpa using ho
   rcases Nat.lt_trichotomy i n with xG | xG | xG
   ·
    have hkd:dE (cm P cfg o.op)<=1:=by
     by_cases hk:dE (cm P cfg o.op)<=1
     ·exact hk
     ·have:=h5 i o xG ho hk
      rw [rO] at this; simp at this
    have hi:i < L.length:=by omega
    have hx:L[i]? = some L[i]:=dr hi;obtain ⟨t1,zc,hw,anL,hno⟩:=h6 i o L[i] xG rO ho hx;have Ew:∀ z∈pe P cfg all o,t1.get z=(kd S all L 0 t).get z:=fun z hz=>by
     have:=agm (m:=0) (L:=L) (t0:=t) hf hos hcS ho (by rw [bM]; exact rO) (by rw [bM]; exact yz) hz;rw [e0] at this;rw [zc z,this]
    have X0:∀ z,(kd (cY S i) all L 0 t).get z=(rY (kd S all L 0 t) o.dst L[i].2.1).get z:=fun z=>by
     have:=att (m:=0) (L:=L) (t0:=t) hf hos hcS ho hx (by rw [bM]; exact rO) z;rw [bM,e0,e0] at this;exact this
    have Oh:=FV JH (fun z hz=>Ew z (by unfold pe; exact List.mem_append_left _ hz)) hw;have fin:∀ E2 B2 yF a2 w2,a2.defers=a'.defers->Ev P base E A B ρ w.drew E2 A2 B2 yF w2->lL P E2 yF (kd (cY S i) all L 0 t) N a2->Inv (cY S i) a2 w2:=fun E2 B2 yF a2 w2 q1 q2 q3=>
     ⟨n,L,A2,tn,E2,B2,yF,h1,h2,fun j hj1 N6=>by rw [jt (by omega)]; exact h3 j hj1 N6,h4,fun j q hj hjq hk=>by
      by_cases he:j=i
      ·subst he; exact Cp
      ·rw [jt he]; exact h5 j q hj hjq hk,fun j q x hj Td hjq hxj=>h6 j q x hj (by
       by_cases he:j=i
       ·subst he; rw [Cp] at Td; simp at Td
       ·rwa [jt he] at Td) hjq hxj,h7,h8,q1.trans h9,q2,q3⟩
    unfold wpOp;rw [hoA];simp only [Oh];cases Hq:L[i].1 with
    | false=>
     simp only [JM,if_false];refine fin E' B' bd _ _ (by rw [put_defers]) vX ?_;refine (JH.put (IA i o ho) VC.undef).same fun z=>?_;rw [X0 z,hno Hq]
    | true=>
     simp only [if_true];refine .inl (Ob kb (anL Hq) (fun x hxm=>QS JH fun z e=>Ew z ?_) vX.kj fun JI Li wJ v' JD h5 h6=>?_)
     ·unfold pe
      subst e;exact List.mem_append_right _ (l9 hxm)
     ·have mA:=h6.gP.le vX.gP.kC
      refine fin JI Li wJ _ _ (by rw [put_defers]) (vX.trans h6) ?_;refine ((JH.mono h6.le mA).put (IA i o ho) h5).same fun z=>?_;rw [X0 z]
   ·
    subst xG;rcases h4 with h4 | ⟨oc,JE,ard⟩
    ·omega
    rw [JE] at ho;simp at ho;subst ho;have Ew:∀ z∈pe P cfg all oc,tn.get z=(kd S all L 0 t).get z:=fun z hz=>by
     have:=agm (m:=0) (L:=L) (t0:=t) hf hos hcS JE (by rw [bM]; exact rO) (by rw [bM]; exact yz) hz;rw [e0] at this;rw [this,h7 z,X7 (S:=fun _=>true) (S':=fun j=>Nat.blt j i) fun j hj=>by rw [bM]; symm; rw [cq]; omega]
    have yq:BS P cfg bR all oc (vK P cfg bR all k (all.drop (i+1))) tn A2=some r:=by
     have:all.drop i=oc::all.drop (i+1):=by
      rw [List.drop_eq_getElem_cons hil];rw [dr hil] at JE;simp at JE;rw [JE]
     rw [this] at h8;exact h8
    have hLa:L.length<=all.length:=by omega
    have hdr:all.drop i=oc::all.drop (i+1):=by
     rw [List.drop_eq_getElem_cons hil];rw [dr hil] at JE;simp at JE;rw [JE]
    have one:∀ (S:Nat->Bool) (x:Out),S i=true->kd S all (L++[x]) 0 t=rY (kd S all L 0 t) oc.dst x.2.1:=fun S x hS=>by
     rw [Oi S all L [x] 0 t hLa,bM,h2,hdr];simp only [kd,hS,ak];cases all.drop (i+1) <;> rfl
    have anR:∀ {t1:bO} {v:KV} {v' : Value} {E2:Env} {A3:aw} {B2:St} {yF:Ren} {w2:World},(∀ y,t1.get y=tn.get y)->vK P cfg bR all k (all.drop (i+1)) (rY t1 oc.dst v) A3=some r->VC P E2 yF v v'->Ev P base E' A2 B' bd w' E2 A3 B2 yF w2->Inv (cY S i) (a'.put oc.dst v') w2:=by
     intro t1 v v' E2 A3 B2 yF w2 zc q1 q2 q3;have mA:=q3.gP.le vX.gP.kC;have e1:kd (cY S i) all L 0 t=kd S all L 0 t:=X7 fun j hj=>by rw [bM]; exact jt (by omega)
     refine begin (i+1) _ (L++[(true,v,A3)]) A3 _ _ w2 E2 B2 yF (by omega) (by simp [h2]) (fun j g1 g2=>by rw [jt (by omega)]; exact h3 j (by omega) g2) (fun j q hj hjq hk=>?_) (fun j q x hj Td hjq hxj=>?_) (fun y=>?_) q1 (by rw [put_defers]; exact h9) (vX.trans q3) ?_
     ·by_cases he:j=i
      ·subst he; exact Cp
      ·rw [jt he]; exact h5 j q (by omega) hjq hk
     ·have he:j≠i:=by
       intro he;subst he;rw [Cp] at Td; simp at Td
      rw [jt he] at Td;rw [r7 (by omega)] at hxj;have hz:dE (cm P cfg q.op)=0:=by
       rcases (piv i oc JE ard j q hjq).1 (by omega) with hz | hb
       ·exact hz
       ·have:=hcS.ready hf.reg JE yz j hb
        rw [Td] at this; simp at this
      obtain ⟨t3,p1,p2,p3,p4⟩:=h6 j q x (by omega) Td hjq hxj;exact ⟨t3,fun y=>by rw [p1 y]; exact (aaR hLa (fun j' hj1 _=>by
       cases hb:Nat.blt j' j with
       | false=>rfl
       | true=>rw [cq] at hb; omega) y).symm,p2,fun Hq=>anG (p3 Hq) hz,p4⟩
     ·rw [one _ _ rfl,u7,u7,zc y,h7 y]
     ·refine ((JH.mono q3.le mA).put (IA i oc JE) q2).same fun z=>?_
      rw [one _ _ Cp,e1]
    have hgt:∀ z∈HX all oc,tn.get z=(kd S all L 0 t).get z:=fun z hz=>Ew z (by unfold pe; exact List.mem_append_left _ hz);have run:∀ {t1:bO},(∀ y,t1.get y=tn.get y)->Od all oc tn true->QA bR t1 A2 (fun v A=>vK P cfg bR all k (all.drop (i+1)) (rY t1 oc.dst v) A) (cm P cfg oc.op)=some r->wpOp P ⟨all⟩ Q i (Inv (cY S i)) a' w':=by
     intro t1 zc hw arc;have Oh:=FV JH hgt hw;unfold wpOp;rw [hoA];simp only [Oh,if_true];rw [anQ (t':=kd S all L 0 t) fun x hx=>by
      cases x with
      | tmp z=>
       have:=Ew z (by unfold pe; exact List.mem_append_right _ (l9 hx));simp only [mc];rw [zc z,this]
      | const v=>rfl
      | global g=>rfl
      | func f=>rfl] at arc
     exact .inl (acs kb xG arc JH vX.kj fun E2 A2 B2 yF v v' w2 q1 q2 q3=>anR zc q1 q2 q3)
    have skip:∀ {t1:bO},(∀ y,t1.get y=tn.get y)->Od all oc tn false->vK P cfg bR all k (all.drop (i+1)) (rY t1 oc.dst uE) A2=some r->wpOp P ⟨all⟩ Q i (Inv (cY S i)) a' w':=by
     intro t1 zc hw hop;have Oh:=FV JH hgt hw;unfold wpOp;rw [hoA];simp only [Oh,JM,if_false];exact anR zc hop VC.undef (.refl vX.kC vX.gP.kC)
    unfold BS at yq;cases hgd:oc.guard with
    | none=>
     rw [hgd] at yq;exact run (fun _=>rfl) (.inl ⟨hgd,rfl⟩) yq
    | some p=>
     obtain ⟨j,want⟩:=p;rw [hgd] at yq;obtain ⟨d,hd,yq⟩:=Oc yq;rcases yq with ⟨b,t1,h4,h5,h6⟩ | ⟨l,h4,h5⟩
     ·rcases h6 with ⟨h6,h7⟩ | ⟨h6,h7⟩
      ·exact run h5 (.inr ⟨j,want,d,hgd,hd,.inl ⟨b,h4,h6.symm⟩⟩) h7
      ·exact skip h5 (.inr ⟨j,want,d,hgd,hd,.inl ⟨b,h4,h6.symm⟩⟩) h7
     ·exact skip (fun _=>rfl) (.inr ⟨j,want,d,hgd,hd,.inr ⟨l,h4,rfl⟩⟩) h5
   ·
    rcases h4 with h4 | ⟨oc,JE,ard⟩
    ·omega
    have bG:n < all.length:=(dq.1 JE).1;have h1':=hcS.ready hf.reg ho yz n ((piv n oc JE ard i o ho).2 xG);have KZ:=h3 n (by omega) bG;rw [h1'] at KZ; simp at KZ
  ·
   rintro S a' w' mj ⟨n,L,A2,tn,E',B',bd,h1,h2,h3,h4,h5,h6,h7,h8,h9,vX,JH⟩;have hmn:n=all.length:=by
    rcases h4 with h4 | ⟨oc,JE,ard⟩
    ·exact h4
    ·have bG:n < all.length:=(dq.1 JE).1
     have:=h3 n (by omega) bG;rw [mj _ bG] at this; simp at this
   rw [hmn,List.drop_length] at h8;refine hq tn E' A2 B' bd a' w' h8 (JH.same fun z=>?_) h9 (QU.trans vX);rw [h7 z];exact nu rfl fun j q hjq _=>by rw [bM]; exact (mj _ (dq.1 hjq).1).symm
  ·simp
 ·simp at Mx
end Go.K
end
section
namespace Go.K
open Go Go.aB
variable {P:Program} {E:Env}
inductive Sub (root:Code):Nat->Code->Prop where
 | root:Sub root 1 root
 | au4 {p:Nat} {a b:Code} : Sub root p (.seq a b)->Sub root (2 * p) a
 | au5 {p:Nat} {a b:Code} : Sub root p (.seq a b)->Sub root (2 * p+1) b
 | atu {p:Nat} {c:Operand} {a b:Code} : Sub root p (.cond c a b)->Sub root (2 * p) a
 | atv {p:Nat} {c:Operand} {a b:Code} : Sub root p (.cond c a b)->Sub root (2 * p+1) b
 | block {p id:Nat} {a:Code} : Sub root p (.block id a)->Sub root (2 * p) a
 | loop {p:Nat} {a:Code} : Sub root p (.loop a)->Sub root (2 * p) a
 | scope {p:Nat} {a:Code} : Sub root p (.scope a)->Sub root (2 * p) a
def ago (P:Program) (N:Nat) {R:Type} (c:Code) (f:KE R->bO->aw->Option R):Prop:=
 ∀ (k:KE R) (r:R) (t:bO) (A:aw) (E:Env) (B:St) (ρ:Ren) (base:Nat) (a:Act) (w:World) (Q:Exit->Act->World->Prop),f k t A=some r->lL P E ρ t N a->KJ P E A B ρ base w->
  (∀ e t' E' A' B' bd a' w',k e t' A' = some r->lL P E' bd t' N a'->a'.defers=a.defers->Ev P base E A B ρ w E' A' B' bd w'->Q e.out a' w')->c.wp P Q a w
def SQ (P:Program) (N:Nat) (body:Code) (F:bO->aw->CZ):Prop:=∀ (R:Type) (k:KE R) (r:R) (t:bO) (A:aw) (E:Env) (B:St) (ρ:Ren) (base:Nat) (a:Act) (w:World) (Q:Exit->Act->World->Prop),VJ F k t A=some r->lL P E ρ t N a->KJ P E A B ρ base w->
  (∀ e t' E' A' B' bd a' w',k e t' A' = some r->lL P E' bd t' N a'->a'.defers=a.defers->Ev P base E A B ρ w E' A' B' bd w'->Q e.out a' w')->Code.rounds P body Q iI a w
theorem X8 {c:Code} {Q:Exit->Act->World->Prop} (k:Nat):∀ {n:Nat} {a:Act} {w:World},Code.rounds P c Q n a w->Code.rounds P c Q (n+k) a w
 | 0,_,_,h=>h.elim
 | n+1,a,w,h=>by
  rw [show n+1+k=n+k+1 by omega,rounds_succ];rw [rounds_succ] at h;exact Code.wp_mono (fun e a w q=>by cases e <;> first | exact X8 k q | exact q) h
def are (P:Program) (cfg:fE) (f:FuncId) (root:Code):Prop:=∀ p F body,cfg.lp f p=some F->Sub root p (.loop body)->∀ N,codeOk N body=true->SQ P N body F
section
variable {R:Type} {cfg:fE} {bR:px R} {L:Nat} {f:FuncId}
theorem X9 {N:Nat} {c:Code} {g:KE R->bO->aw->Option R} (hg:ago P N c g):∀ (n:Nat) (k:KE R) (r:R) (t:bO) (A:aw) (E:Env) (B:St) (ρ:Ren) (base:Nat) (a:Act) (w:World) (Q:Exit->Act->World->Prop),aaE g k n t A=some r->lL P E ρ t N a->KJ P E A B ρ base w->
  (∀ e t' E' A' B' bd a' w',k e t' A' = some r->lL P E' bd t' N a'->a'.defers=a.defers->Ev P base E A B ρ w E' A' B' bd w'->Q e.out a' w')->Code.rounds P c Q n a w
 | 0,k,r,t,A,E,B,ρ,base,a,w,Q,h,ht,hj,hq=>by exact absurd h (by simp [aaE])
 | n+1,k,r,t,A,E,B,ρ,base,a,w,Q,h,ht,hj,hq=>by
  rw [rounds_succ];have h:g (VI k (aaE g k n)) t A=some r:=h;refine hg _ r t A E B ρ base a w _ h ht hj fun e t' E' A' B' bd a' w' h1 h2 h3 h4=>?_;cases e with
  | normal=>
   have h1:aaE g k n t' A' = some r:=h1;exact X9 hg n k r t' A' E' B' bd base a' w' Q h1 h2 h4.kj fun e t'' JI A'' Li wJ a'' JD q1 q2 q3 q4=>hq e t'' JI A'' Li wJ a'' JD q1 q2 (q3.trans h3) (h4.trans q4)
  | exit id=>exact hq (.exit id) t' E' A' B' bd a' w' h1 h2 h3 h4
  | goto l=>exact hq (.goto l) t' E' A' B' bd a' w' h1 h2 h3 h4
  | ret=>exact hq .ret t' E' A' B' bd a' w' h1 h2 h3 h4
theorem Ya {N:Nat} {c:Code} {g:KE R->bO->aw->Option R} {F:bO->aw->CZ} (hg:ago P N c g) (hF:SQ P N c F):∀ (n:Nat) (k:KE R) (r:R) (t:bO) (A:aw) (E:Env) (B:St) (ρ:Ren) (base:Nat) (a:Act) (w:World) (Q:Exit->Act->World->Prop),aaF g F k n t A=some r->lL P E ρ t N a->KJ P E A B ρ base w->
  (∀ e t' E' A' B' bd a' w',k e t' A' = some r->lL P E' bd t' N a'->a'.defers=a.defers->Ev P base E A B ρ w E' A' B' bd w'->Q e.out a' w')->Code.rounds P c Q (iI+n) a w
 | 0,k,r,t,A,E,B,ρ,base,a,w,Q,h,ht,hj,hq=>hF R k r t A E B ρ base a w Q h ht hj hq
 | n+1,k,r,t,A,E,B,ρ,base,a,w,Q,h,ht,hj,hq=>by
  have h:Bool.rec (motive:=fun _=>Option R) (VJ F k t A) (g (VI k (aaF g F k n)) t A) (alu (F t A))=some r:=h;cases ho:alu (F t A) with
  | false=>
   rw [ho] at h;exact X8 (n+1) (hF R k r t A E B ρ base a w Q h ht hj hq)
  | true=>
   rw [ho] at h;have h:g (VI k (aaF g F k n)) t A=some r:=h;rw [show iI+(n+1)=iI+n+1 by omega,rounds_succ];refine hg _ r t A E B ρ base a w _ h ht hj fun e t' E' A' B' bd a' w' h1 h2 h3 h4=>?_;cases e with
   | normal=>
    have h1:aaF g F k n t' A' = some r:=h1;exact Ya hg hF n k r t' A' E' B' bd base a' w' Q h1 h2 h4.kj fun e t'' JI A'' Li wJ a'' JD q1 q2 q3 q4=>hq e t'' JI A'' Li wJ a'' JD q1 q2 (q3.trans h3) (h4.trans q4)
   | exit id=>exact hq (.exit id) t' E' A' B' bd a' w' h1 h2 h3 h4
   | goto l=>exact hq (.goto l) t' E' A' B' bd a' w' h1 h2 h3 h4
   | ret=>exact hq .ret t' E' A' B' bd a' w' h1 h2 h3 h4
theorem mF (kb:u6 P cfg.pc) (xG:Mv P bR) (hm:P.follows .mixedOrders=true) {root:Code} (o4:are P cfg f root) {N:Nat} : ∀ (c:Code) (p:Nat),Sub root p c->codeOk N c=true->ago P N c (rZ P cfg bR L f c p)
 | .skip,p,_,_=>by
  intro k r t A E B ρ base a w Q h ht hj hq;exact wp_skip (hq .normal t E A B ρ a w h ht rfl (.refl hj.k hj.s))
 | .ret,p,_,_=>by
  intro k r t A E B ρ base a w Q h ht hj hq;exact wp_ret (hq .ret t E A B ρ a w h ht rfl (.refl hj.k hj.s))
 | .exit id,p,_,_=>by
  intro k r t A E B ρ base a w Q h ht hj hq;exact wp_exit (hq (.exit id) t E A B ρ a w h ht rfl (.refl hj.k hj.s))
 | .label l,p,_,_=>by
  intro k r t A E B ρ base a w Q h ht hj hq;exact wp_label (hq .normal t E A B ρ a w h ht rfl (.refl hj.k hj.s))
 | .goto l,p,_,_=>by
  intro k r t A E B ρ base a w Q h ht hj hq;exact wp_goto (hq (.goto l) t E A B ρ a w h ht rfl (.refl hj.k hj.s))
 | .region id ops false,p,_,hc=>by
  intro k r t A E B ρ base a w Q h ht hj hq;have h:vK P cfg bR ops.toList (fun t A=>k .normal t A) ops.toList t A=some r:=h;refine wp_region ?_;have:=QP (Q:=Q) (base:=base) kb xG (N:=N) (all:=ops.toList) hc ops.toList 0 t E A B ρ a w (by simp) h ht hj fun t' E' A' B' bd a' w' h1 h2 h3 h4=>hq .normal t' E' A' B' bd a' w' h1 h2 h3 h4;rw [List.range_eq_range'];simpa using this
 | .region id ops true,p,_,hc=>by
  intro k r t A E B ρ base a w Q h ht hj hq;have h:afO P cfg bR ops.toList true (fun t A=>k .normal t A) t A=some r:=h;unfold afO at h;cases ho:anc P cfg ops.toList with
  | false=>
   rw [ho] at h;cases hcr:NU P cfg ops.toList with
   | true=>
    rw [hcr] at h;exact alP (all:=ops.toList) kb xG hm hc hcr h ht hj fun t' E' A' B' bd a' w' h1 h2 h3 h4=>hq .normal t' E' A' B' bd a' w' h1 h2 h3 h4
   | false=>
    rw [hcr] at h;cases hb:XN P cfg ops.toList with
    | false=>rw [hb] at h; exact absurd h (by simp)
    | true=>
     rw [hb] at h;exact anN (all:=ops.toList) kb hm hc hb h ht hj fun t' E' A' B' bd a' w' h1 h2 h3 h4=>hq .normal t' E' A' B' bd a' w' h1 h2 h3 h4
  | true=>
   rw [ho] at h;exact ai5 (all:=ops.toList) kb hm hc ho h ht hj fun t' E' A' B' bd a' w' h1 h2 h3 h4=>hq .normal t' E' A' B' bd a' w' h1 h2 h3 h4
 | .seq x y,p,hs,hc=>by
  simp only [codeOk,aA] at hc;intro k r t A E B ρ base a w Q h ht hj hq;have h:rZ P cfg bR L f x (2 * p) (VI k fun t A=>rZ P cfg bR L f y (2 * p+1) k t A) t A=some r:=h;refine wp_seq ?_;refine mF kb xG hm o4 x (2 * p) hs.au4 hc.1 _ r t A E B ρ base a w _ h ht hj fun e t' E' A' B' bd a' w' h1 h2 h3 h4=>?_;cases e with
  | normal=>
   have h1:rZ P cfg bR L f y (2 * p+1) k t' A' = some r:=h1;exact mF kb xG hm o4 y (2 * p+1) hs.au5 hc.2 k r t' A' E' B' bd base a' w' Q h1 h2 h4.kj fun e t'' JI A'' Li wJ a'' JD q1 q2 q3 q4=>hq e t'' JI A'' Li wJ a'' JD q1 q2 (q3.trans h3) (h4.trans q4)
  | exit id=>exact hq (.exit id) t' E' A' B' bd a' w' h1 h2 h3 h4
  | goto l=>exact hq (.goto l) t' E' A' B' bd a' w' h1 h2 h3 h4
  | ret=>exact hq .ret t' E' A' B' bd a' w' h1 h2 h3 h4
 | .cond c x y,p,hs,hc=>by
  simp only [codeOk,aA] at hc;intro k r t A E B ρ base a w Q h ht hj hq;have h:als t c (fun t=>rZ P cfg bR L f x (2 * p) k t A) (fun t=>rZ P cfg bR L f y (2 * p+1) k t A)=some r:=h;have key:∃ t',(∀ i,t'.get i=t.get i)/\((a.eval c = .bool true/\rZ P cfg bR L f x (2 * p) k t' A=some r)\/(a.eval c = .bool false/\rZ P cfg bR L f y (2 * p+1) k t' A=some r)):=by
   have yI:=ht.ev c;cases c with
   | tmp d=>
    have h:BK.rec (motive:=fun _=>Option R) (fun b=>Bool.rec (motive:=fun _=>Option R) (rZ P cfg bR L f y (2 * p+1) k (t.set (.bool false) d) A) (rZ P cfg bR L f x (2 * p) k (t.set (.bool true) d) A) b) none none (xF ((t.get d).getD .ao))=some r:=h;cases hb:xF ((t.get d).getD .ao) with
    | no=>rw [hb] at h; exact absurd h (by simp)
    | nb=>rw [hb] at h; exact absurd h (by simp)
    | bool b=>
     rw [hb] at h;have hbv:=FU hb;have yI:VC P E ρ ((t.get d).getD .ao) (a.eval (.tmp d)):=yI;rw [hbv] at yI;have:=yI.gi;refine ⟨t.set (.bool b) d,Oa hb,?_⟩;cases b
     ·exact .inr ⟨this,h⟩
     ·exact .inl ⟨this,h⟩
   | const v=>
    have h:BK.rec (motive:=fun _=>Option R) (fun b=>Bool.rec (motive:=fun _=>Option R) (rZ P cfg bR L f y (2 * p+1) k t A) (rZ P cfg bR L f x (2 * p) k t A) b) none none (xF (mc t (.const v)))=some r:=h;cases hb:xF (mc t (.const v)) with
    | no=>rw [hb] at h; exact absurd h (by simp)
    | nb=>rw [hb] at h; exact absurd h (by simp)
    | bool b=>
     rw [hb] at h;rw [FU hb] at yI;have:=yI.gi;refine ⟨t,fun _=>rfl,?_⟩;cases b
     ·exact .inr ⟨this,h⟩
     ·exact .inl ⟨this,h⟩
   | global g=>exact absurd h (by simp [als,mc,xF])
   | func g=>exact absurd h (by simp [als,mc,xF])
  obtain ⟨t',K3,h⟩:=key;have ht':=ht.same K3;rcases h with ⟨hb,h⟩ | ⟨hb,h⟩
  ·exact wp_cond_true hb (mF kb xG hm o4 x (2 * p) hs.atu hc.1 k r t' A E B ρ base a w Q h ht' hj hq)
  ·exact wp_cond_false hb (mF kb xG hm o4 y (2 * p+1) hs.atv hc.2 k r t' A E B ρ base a w Q h ht' hj hq)
 | .block id x,p,hs,hc=>by
  have hc:codeOk N x=true:=hc;intro k r t A E B ρ base a w Q h ht hj hq;have h:rZ P cfg bR L f x (2 * p) (aqT id k) t A=some r:=h;refine wp_block ?_;refine mF kb xG hm o4 x (2 * p) hs.block hc _ r t A E B ρ base a w _ h ht hj fun e t' E' A' B' bd a' w' h1 h2 h3 h4=>?_;cases e with
  | normal=>exact hq .normal t' E' A' B' bd a' w' h1 h2 h3 h4
  | exit id'=>
   have h1:Bool.rec (motive:=fun _=>Option R) (k (.exit id') t' A') (k .normal t' A') (Nat.beq id' id)=some r:=h1;cases hb:Nat.beq id' id with
   | true=>
    rw [hb] at h1;have:=bu hb;simp only [ae.out,Exit.inBlock,aY this];exact hq .normal t' E' A' B' bd a' w' h1 h2 h3 h4
   | false=>
    rw [hb] at h1;have:=Nat.ne_of_beq_eq_false hb;simp only [ae.out,Exit.inBlock,av this];exact hq (.exit id') t' E' A' B' bd a' w' h1 h2 h3 h4
  | goto l=>exact hq (.goto l) t' E' A' B' bd a' w' h1 h2 h3 h4
  | ret=>exact hq .ret t' E' A' B' bd a' w' h1 h2 h3 h4
 | .loop x,p,hs,hc=>by
  have hc:codeOk N x=true:=hc;intro k r t A E B ρ base a w Q h ht hj hq;have h:Option.rec (motive:=fun _=>bO->aw->Option R) (aaE (rZ P cfg bR L f x (2 * p)) k L) (fun F=>aaF (rZ P cfg bR L f x (2 * p)) F k L) (cfg.lp f p) t A=some r:=h;cases hF:cfg.lp f p with
  | some F=>
   rw [hF] at h;exact wp_loop_rounds (iI+L) (Ya (mF kb xG hm o4 x (2 * p) hs.loop hc) (o4 p F x hF hs N hc) L k r t A E B ρ base a w Q h ht hj hq)
  | none=>
   rw [hF] at h;exact wp_loop_rounds L (X9 (mF kb xG hm o4 x (2 * p) hs.loop hc) L k r t A E B ρ base a w Q h ht hj hq)
 | .scope x,p,hs,hc=>by
  have hc:codeOk N x=true:=hc;intro k r t A E B ρ base a w Q h ht hj hq;have h:rZ P cfg bR L f x (2 * p) (afP k) t A=some r:=h;refine wp_scope_straight ?_;refine mF kb xG hm o4 x (2 * p) hs.scope hc _ r t A E B ρ base a w _ h ht hj fun e t' E' A' B' bd a' w' h1 h2 h3 h4=>?_;cases e with
  | normal=>exact hq .normal t' E' A' B' bd a' w' h1 h2 h3 h4
  | exit id=>exact hq (.exit id) t' E' A' B' bd a' w' h1 h2 h3 h4
  | goto l=>exact absurd h1 (by simp [afP])
  | ret=>exact hq .ret t' E' A' B' bd a' w' h1 h2 h3 h4
 | .rangeFunc ..,p,_,_ | .refuse _,p,_,_=>by
  intro k r t A E B ρ base a w Q h ht hj hq;exact absurd h (by simp [rZ])
end
theorem IG:∀ (l:List KV) (i k:Nat) (t:bO),(pO l i t).get k=if i<=k/\k < i+l.length then l[k - i]? else t.get k
 | [],i,k,t=>by
  rw [pO,av];simp
 | v::l,i,k,t=>by
  rw [pO,IG l (i+1) k,Trie.qV];by_cases h1:k=i
  ·subst h1
   rw [av (by omega),aY rfl,aY (by simp)];simp
  ·by_cases h2:i+1<=k/\k < i+1+l.length
   ·rw [aY h2,aY (by simp; omega),show k - i=(k - (i+1))+1 by omega]
    simp
   ·rw [av h2,av h1,av (by simp; omega)]
theorem Gw {A:aw} {B:St} {base N:Nat} {w:World} {ρ:Ren} {t:bO} {a:Act} (hj:KJ P E A B ρ base w) (ht:lL P E ρ t N a):∀ (rs:List ResultVar) (vs:List KV),Mo P A t rs=some vs->
  ∃ cX,ui P E ρ vs cX/\(rs.mapM (aeW a)).run P w=Result.ok cX w
 | [],vs,h=>by simp [Mo] at h; subst h; exact ⟨[],⟨[],.nil,.nil⟩,by simp⟩
 | .tmp x::rs,vs,h=>by
  simp only [Mo] at h;obtain ⟨us,hu,rfl⟩:=cS.1 h;obtain ⟨us',⟨m,h1,h3⟩,h2⟩:=Gw hj ht rs us hu;obtain ⟨u,h4,h5⟩:=ht.ev (.tmp x);refine ⟨_::us',⟨u::m,.cons h4 h1,.cons h5 h3⟩,?_⟩;simp [List.mapM_cons,h2,Act.eval,aeW]
 | .cell x ty::rs,vs,h=>by
  simp only [Mo] at h;split at h
  ·rename_i v hv
   obtain ⟨us,hu,rfl⟩:=cS.1 h;obtain ⟨us',⟨m,h1,h3⟩,h2⟩:=Gw hj ht rs us hu;obtain ⟨u,h4,h5⟩:=ht.ev (.tmp x);have hg:bf (aay P ty A [mc t (.tmp x)]) v:=by rw [hv]; exact rfl
   obtain ⟨z,h6,h7⟩:=anp E A B _ _ v hj.k (.cons h4 .nil) hg;have h6:loadAt P ty B u=some z:=h6;obtain ⟨ad,h8,z',h9,vX⟩:=TX (P:=P) hj.s.rel h5 h6;refine ⟨z'::us',⟨z::m,.cons h7 h1,.cons h9 h3⟩,?_⟩;have h8:a.tmps.getD x undef = .pointer (some ad):=h8;simp only [List.mapM_cons,Sem.run_bind,aeW,h8,asAddr,Sem.run_pure,ko,vX,h2]
  ·simp at h
theorem QZ {ρ:Ren} {vs:List KV} {cX:List Value} (h:ui P E ρ vs cX):VC P E ρ (Iv vs) (if h:cX.toArray.size=1 then cX.toArray[0] else .tuple cX.toArray):=by
 obtain ⟨m,h1,h2⟩:=h
 match vs with
 | []=>
  rw [h1.cw] at h2;rw [h2.cw];exact ⟨_,.afQ .nil,VR.mkTuple .nil⟩
 | [v]=>
  obtain ⟨u,rfl,h3⟩:=h1.fN;obtain ⟨y,ys,rfl,h4,h5⟩:=h2.cons_inv;rw [h5.cw];exact ⟨u,h3,h4⟩
 | v::v2::vs=>
  obtain ⟨u,us,rfl,h3,h4⟩:=h1.cons_inv;obtain ⟨u2,us2,rfl,h5,h6⟩:=h4.cons_inv;obtain ⟨y,ys,rfl,h7,h8⟩:=h2.cons_inv;obtain ⟨y2,ys2,rfl,h9,vX⟩:=h8.cons_inv;rw [dif_neg (by simp)];exact ⟨_,.afQ (.cons h3 (.cons h5 h6)),VR.mkTuple (.cons h7 (.cons h9 vX))⟩
def alQ (vs:List Value):Value:=if h:vs.toArray.size=1 then vs.toArray[0] else .tuple vs.toArray
theorem Oj {R:Type} {cfg:fE} {bR:px R} (kb:u6 P cfg.pc) (xG:Mv P bR) (hm:P.follows .mixedOrders=true) (L:Nat) {f:FuncId} {fn:Func} {c:Code} (hf:P.funcs[f]? = some fn) (hb:fn.body=some c) (dt:codeOk fn.ntmps c=true) (o4:are P cfg f c)
  {args:List KV} {A:aw} {k:List KV->aw->Option R} {r:R} (h:rZ P cfg bR L f c 1 (ane P fn k) (pO args 0 .leaf) A=some r) {E:Env} {B:St} {ρ:Ren} {ib:List Value} {base:Nat} {w:World} (hv:ui P E ρ args ib) (hj:KJ P E A B ρ base w) :
  Calls P f ib.toArray w fun e w'=>∃ vs cX E' A' B' bd,e = .returned (alQ cX)/\ui P E' bd vs cX/\Ev P base E A B ρ w E' A' B' bd w'/\k vs A' = some r:=by
 refine calls_of_wp hf hb ?_;obtain ⟨apK,S8,Vu⟩:=hv;have hlen:ib.length=args.length:=by rw [Vu.length,S8.length]
 have ht:lL P E ρ (pO args 0 .leaf) (max fn.ntmps args.length) { tmps:=ib.toArray++Array.replicate (fn.ntmps - ib.toArray.size) undef,defers:=[] }:=by
  have fZ:(ib.toArray++Array.replicate (fn.ntmps - ib.toArray.size) undef).size=max fn.ntmps args.length:=by
   simp [hlen];omega
  refine ⟨fZ,fun i=>?_,fun i hi=>?_⟩
  ·rw [IG]
   simp only [E9,true_and,bM,Nat.sub_zero,Trie.SA];by_cases hi:i < args.length
   ·rw [aY hi]
    obtain ⟨u,hu⟩:∃ u,args[i]? = some u:=⟨_,dr hi⟩
    obtain ⟨m,h1,h2⟩:=S8.get hu;obtain ⟨u',h3,h4⟩:=Vu.get h1;rw [hu];have:(ib.toArray++Array.replicate (fn.ntmps - ib.toArray.size) undef).getD i undef=u':=by
     rw [jC,Array.getElem?_append_left (by simpa [hlen] using hi)];simp [h3]
    rw [this];exact ⟨m,h2,h4⟩
   ·rw [av hi]
    exact VC.ao
  ·rw [IG,av,Trie.SA]
   simp only [E9,true_and,bM];have:=Nat.le_max_right fn.ntmps args.length;omega
 have akz:codeOk (max fn.ntmps args.length) c=true:=nP (Nat.le_max_left _ _) c dt;refine mF (L:=L) (f:=f) (N:=max fn.ntmps args.length) kb xG hm o4 c 1 .root akz _ r _ A E B ρ base _ w _ h ht hj fun e t' E' A' B' bd a' w' h1 h2 h3 h4=>?_;have fin:∀ vs,Mo P A' t' fn.results.toList=some vs->k vs A' = some r->∀ e:ae,(e = .normal\/e = .ret)->bodyPost P fn (fun e w'=>∃ vs cX E' A' B' bd,e = .returned (alQ cX)/\ui P E' bd vs cX/\Ev P base E A B ρ w E' A' B' bd w'/\k vs A' = some r) e.out a' w':=by
  intro vs hr hk e he;obtain ⟨cX,hvs,mX⟩:=Gw (P:=P) h4.kj h2 _ _ hr;have anS:(results fn a'.tmps).run P w' = .ok (if h:cX.toArray.size=1 then cX.toArray[0] else .tuple cX.toArray) w':=by
   rw [acd,Sem.run_bind,Array.mapM_eq_mapM_toList,Sem.run_map,mX];rfl
  have agp:bodyPost P fn (fun e w'=>∃ vs cX E' A' B' bd,e = .returned (alQ cX)/\ui P E' bd vs cX/\Ev P base E A B ρ w E' A' B' bd w'/\k vs A' = some r) .ret a' w':=by
   exact ⟨h3,_,anS,vs,cX,E',A',B',bd,rfl,hvs,h4,hk⟩
  rcases he with rfl | rfl
  ·exact agp
  ·exact agp
 cases e with
 | normal=>
  have h1:Option.rec (motive:=fun _=>Option R) none (fun vs=>k vs A') (Mo P A' t' fn.results.toList)=some r:=h1;cases hr:Mo P A' t' fn.results.toList with
  | none=>rw [hr] at h1; exact absurd h1 (by simp)
  | some vs=>rw [hr] at h1; exact fin vs hr h1 .normal (.inl rfl)
 | ret=>
  have h1:Option.rec (motive:=fun _=>Option R) none (fun vs=>k vs A') (Mo P A' t' fn.results.toList)=some r:=h1;cases hr:Mo P A' t' fn.results.toList with
  | none=>rw [hr] at h1; exact absurd h1 (by simp)
  | some vs=>rw [hr] at h1; exact fin vs hr h1 .ret (.inr rfl)
 | exit id=>exact absurd h1 (by simp [ane])
 | goto l=>exact absurd h1 (by simp [ane])
end Go.K
end
section
namespace Go.K
open Go Go.aB
variable {P:Program} {E:Env}
def akC (P:Program) (ac:FuncId->Option (List KV->aw->xE)):Prop:=∀ g F,ac g=some F->∀ {R:Type} (args:List KV) (A:aw) (k:KV->aw->Option R) (r:R),xE.run k (F args A)=some r->Cn P g/\
 ∀ (E:Env) (B:St) (ρ:Ren) (base:Nat) (w:World) (ib:List Value),ui P E ρ args ib->KJ P E A B ρ base w->
  Calls P g ib.toArray w fun e w'=>∃ v v' E' A' B' bd,e = .returned v'/\VC P E' bd v v'/\Ev P base E A B ρ w E' A' B' bd w'/\k v A' = some r
theorem akC.none {P:Program} : akC P fun _=>.none:=fun g F h=>by simp at h
def Ay (P:Program) (cfg:fE):Prop:=akC P cfg.x.ac/\∀ f fn c,P.funcs[f]? = some fn->fn.body=some c->are P cfg f c
theorem Q0 {R:Type} {cfg:fE} {bR:px R} {L:Nat} {f:FuncId} {args:List KV} {A:aw} {k:List KV->aw->Option R} {r:R} (hP:P.funcs.toList.all pd=true) (h:aaG P cfg bR L f args A k=some r) :
  ∃ fn c, P.funcs[f]? = some fn ∧ fn.body = some c ∧ codeOk fn.ntmps c = true ∧ (fn.name == "runtime.NumGoroutine") = false ∧ rZ P cfg bR L f c 1 (ane P fn k) (pO args 0 .leaf) A = some r := by
 unfold aaG at h;split at h
 ·rename_i fn hf
  split at h
  ·rename_i c hc
   have hf' : P.funcs[f]? = some fn:=by simpa using hf
   have dt:=ij.1 hP fn (jD hf);unfold pd at dt;rw [hc] at dt;simp only [aA,mz] at dt;exact ⟨fn,c,hf',hc,dt.1,dt.2,h⟩
  ·simp at h
 ·simp at h
theorem xk {R:Type} {cfg:fE} (hP:P.funcs.toList.all pd=true) (hm:P.follows .mixedOrders=true) (kb:u6 P cfg.pc) (o4:Ay P cfg) (L:Nat):∀ n,Mv (R:=R) P (JX P cfg L n)
 | 0=>fun f args A k r h=>absurd h (by simp [JX])
 | n+1=>fun f args A k r h=>by
  have h:Bool.rec (motive:=fun _=>Option R) none (Option.rec (motive:=fun _=>Option R) (aaG P cfg (JX P cfg L n) L f args A fun vs B=>k (Iv vs) B) (fun F=>xE.run k (F args A)) (cfg.x.ac f)) (Nat.blt f yB)=some r:=h;cases hy:Nat.blt f yB with
  | false=>rw [hy] at h; exact absurd h (by simp)
  | true=>
   rw [hy] at h;cases hac:cfg.x.ac f with
   | some F=>
    rw [hac] at h;exact o4.1 f F hac args A k r h
   | none=>
    rw [hac] at h;have h:aaG P cfg (JX P cfg L n) L f args A (fun vs B=>k (Iv vs) B)=some r:=h;obtain ⟨fn,c,hf,hc,dt,hnm,h⟩:=Q0 hP h;refine ⟨⟨hy,fn,hf,by simp [hc],hnm⟩,fun E B ρ base w ib hv hj=>?_⟩;refine (Oj kb (xk hP hm kb o4 L n) hm L hf hc dt (o4.2 f fn c hf hc) h hv hj).mono ?_;rintro e w' ⟨vs,cX,E',A',B',bd,rfl,h1,h2,h3⟩;exact ⟨Iv vs,_,E',A',B',bd,rfl,QZ h1,h2,h3⟩
def ZLe (E E0:Env):Prop:=∀ b r,E.z b=some r->∃ r0,E0.z b=some r0/\r0.cg=r.cg/\r0.cs=r.cs
theorem ZLe.of {E E0:Env} (h:E0.z=E.z):ZLe E E0:=fun b r e=>⟨r,by rw [h]; exact e,rfl,rfl⟩
mutual
theorem VK.zK {E0:Env} (hz:ZLe E E0):∀ {v:KV} {u:Value} {c:CK},VK P E v u->kindOk c v=true->VK P E0 v u
 | .int k n,u,c,h,_=>h
 | .bool b,u,c,h,_=>h
 | .str s,u,c,h,_=>h
 | .ts T m n es acc,u,c,h,hk=>by
  cases c <;> simp [kindOk] at hk;rename_i t;cases m <;> simp at hk;obtain ⟨ht,bK,h1,a,cap,rfl,h2,h3,h4⟩:=h.mD;simp only [VK];refine ⟨ht,bK,bC.zEs hz h1 ht.typed,a,cap,rfl,h2,?_,trivial⟩;refine h3.imp id ?_;rintro ⟨b,off,r,e1,e2,e3⟩;obtain ⟨r0,q1,q2,q3⟩:=hz b r e2;exact ⟨b,off,r0,e1,q1,by rw [q2]; exact e3.1,by rw [q3]; exact e3.2⟩
 | .agg cs,u,c,h,hk=>by cases c <;> simp [kindOk] at hk
 | .nb cs,u,c,h,hk=>by cases c <;> simp [kindOk] at hk
 | .tp T Tc i k es acc,u,c,h,hk=>by cases c <;> simp [kindOk] at hk
 | .al T b o n,u,c,h,hk=>by cases c <;> simp [kindOk] at hk
 | .ap T Tc b i k,u,c,h,hk=>by cases c <;> simp [kindOk] at hk
 | .ptr b off,u,c,h,hk=>by cases c <;> simp [kindOk] at hk
 | .sl b off n cap,u,c,h,hk=>by cases c <;> simp [kindOk] at hk
 | .G1,u,c,h,hk=>by cases c <;> simp [kindOk] at hk
 | .lY,u,c,h,hk=>by cases c <;> simp [kindOk] at hk
 | .CV,u,c,h,hk=>by cases c <;> simp [kindOk] at hk
 | .map b,u,c,h,hk=>by cases c <;> simp [kindOk] at hk
 | .fn f a b,u,c,h,hk=>by cases c <;> simp [kindOk] at hk
 | .Ip,u,c,h,hk=>by cases c <;> simp [kindOk] at hk
 | .iface t x,u,c,h,hk=>by cases c <;> simp [kindOk] at hk
 | .Iq,u,c,h,hk=>by cases c <;> simp [kindOk] at hk
 | .ao,u,c,h,hk=>by cases c <;> simp [kindOk] at hk
theorem VK.zE {E0:Env} (hz:ZLe E E0):∀ {v:KV} {u:Value} {l:Lay},VK P E v u->cP l v=true->VK P E0 v u
 | .int k n,u,l,h,_=>h
 | .bool b,u,l,h,_=>h
 | .str s,u,l,h,_=>h
 | .agg cs,u,l,h,hk=>by
  simp only [cP,aA] at hk;obtain ⟨m,rfl,h1⟩:=h.mi;exact .rW (bC.zKs hz h1 hk.2)
 | .ts T m n es acc,u,l,h,hk=>by
  have yq:∃ c,kindOk c (.ts T m n es acc)=true:=by
   simp only [cP,aA] at hk;cases ug:l.ks with
   | nil=>rw [ug] at hk; simp [aK] at hk
   | cons c cs=>rw [ug] at hk; simp only [aK,aA] at hk; exact ⟨c,hk.2.1⟩
  obtain ⟨c,hk⟩:=yq;cases c <;> simp [kindOk] at hk;rename_i t;cases m <;> simp at hk;obtain ⟨ht,bK,h1,a,cap,rfl,h2,h3,h4⟩:=h.mD;simp only [VK];refine ⟨ht,bK,bC.zEs hz h1 ht.typed,a,cap,rfl,h2,?_,trivial⟩;refine h3.imp id ?_;rintro ⟨b,off,r,e1,e2,e3⟩;obtain ⟨r0,q1,q2,q3⟩:=hz b r e2;exact ⟨b,off,r0,e1,q1,by rw [q2]; exact e3.1,by rw [q3]; exact e3.2⟩
 | .nb cs,u,l,h,hk=>by simp [cP] at hk
 | .tp T Tc i k es acc,u,l,h,hk=>by
  obtain ⟨h1,_⟩:=jz hk;cases ug:l.ks with
  | nil=>rw [ug] at h1; simp [KV.cells,aK] at h1
  | cons c cs=>rw [ug] at h1; cases c <;> simp [KV.cells,aK,kindOk] at h1
 | .al T b o n,u,l,h,hk=>by
  obtain ⟨h1,_⟩:=jz hk;cases ug:l.ks with
  | nil=>rw [ug] at h1; simp [KV.cells,aK] at h1
  | cons c cs=>rw [ug] at h1; cases c <;> simp [KV.cells,aK,kindOk] at h1
 | .ap T Tc b i k,u,l,h,hk=>by
  obtain ⟨h1,_⟩:=jz hk;cases ug:l.ks with
  | nil=>rw [ug] at h1; simp [KV.cells,aK] at h1
  | cons c cs=>rw [ug] at h1; cases c <;> simp [KV.cells,aK,kindOk] at h1
 | .ptr b off,u,l,h,hk=>by
  obtain ⟨h1,_⟩:=jz hk;cases ug:l.ks with
  | nil=>rw [ug] at h1; simp [KV.cells,aK] at h1
  | cons c cs=>rw [ug] at h1; cases c <;> simp [KV.cells,aK,kindOk] at h1
 | .sl b off n cap,u,l,h,hk=>by
  obtain ⟨h1,_⟩:=jz hk;cases ug:l.ks with
  | nil=>rw [ug] at h1; simp [KV.cells,aK] at h1
  | cons c cs=>rw [ug] at h1; cases c <;> simp [KV.cells,aK,kindOk] at h1
 | .G1,u,l,h,hk=>h
 | .lY,u,l,h,hk=>h
 | .CV,u,l,h,hk=>h
 | .map b,u,l,h,hk=>by
  obtain ⟨h1,_⟩:=jz hk;cases ug:l.ks with
  | nil=>rw [ug] at h1; simp [KV.cells,aK] at h1
  | cons c cs=>rw [ug] at h1; cases c <;> simp [KV.cells,aK,kindOk] at h1
 | .fn f a b,u,l,h,hk=>by
  obtain ⟨h1,_⟩:=jz hk;cases ug:l.ks with
  | nil=>rw [ug] at h1; simp [KV.cells,aK] at h1
  | cons c cs=>rw [ug] at h1; cases c <;> simp [KV.cells,aK,kindOk] at h1
 | .Ip,u,l,h,hk=>h
 | .iface t x,u,l,h,hk=>by
  obtain ⟨h1,_⟩:=jz hk;cases ug:l.ks with
  | nil=>rw [ug] at h1; simp [KV.cells,aK] at h1
  | cons c cs=>rw [ug] at h1; cases c <;> simp [KV.cells,aK,kindOk] at h1
 | .Iq,u,l,h,hk=>h
 | .ao,u,l,h,hk=>h
theorem bC.zKs {E0:Env} (hz:ZLe E E0):∀ {vs:List KV} {us:List Value} {ks:List CK},bC P E vs us->aK ks vs=true->bC P E0 vs us
 | [],us,ks,h,_=>by rw [h.cw]; exact .nil
 | v::vs,us,[],h,hk=>by simp [aK] at hk
 | v::vs,us,c::ks,h,hk=>by
  simp only [aK,aA] at hk;simp only [bC] at h ⊢;obtain ⟨y,ys,e,h1,h2⟩:=h;exact ⟨y,ys,e,VK.zK hz h1 hk.1,bC.zKs hz h2 hk.2⟩
theorem bC.zEs {E0:Env} (hz:ZLe E E0):∀ {vs:List KV} {us:List Value} {l:Lay},bC P E vs us->ga l vs=true->bC P E0 vs us
 | [],us,l,h,_=>by rw [h.cw]; exact .nil
 | v::vs,us,l,h,hk=>by
  simp only [ga,aA] at hk;simp only [bC] at h ⊢;obtain ⟨y,ys,e,h1,h2⟩:=h;exact ⟨y,ys,e,VK.zE hz h1 hk.1,bC.zEs hz h2 hk.2⟩
end
theorem VK.atw {E0:Env} (hz:ZLe E E0) {c:CK} {v:KV} {u:Value} (h:VK P E v u):VK P E0 (K.oY c v) u:=by
 have hn:=h.oY (c:=c);cases hk:kindOk c (K.oY c v) with
 | true=>exact hn.zK hz hk
 | false=>
  have:K.oY c v = .ao:=by
   revert hk
   unfold K.oY;split
   ·intro hk; simp [kindOk] at hk
   ·rename_i t t' m n es acc
    cases hb:Nat.beq t t' with
    | false=>intro _; rfl
    | true=>intro hk; simp [kindOk] at hk
   ·cases hb:kindOk c v with
    | false=>intro _; rfl
    | true=>intro hk; rw [ak,hb] at hk; simp at hk
  rw [this];exact .uY
theorem bC.anT {E0:Env} (hz:ZLe E E0):∀ {ks:List CK} {cs:List KV} {l:List Value},bC P E cs l->cs.length=ks.length->bC P E0 (K.CW ks cs) l
 | [],[],l,h,_=>by rw [h.cw]; exact .nil
 | [],_::_,_,_,e=>by simp at e
 | _::_,[],_,_,e=>by simp at e
 | c::ks,v::cs,l,h,e=>by
  obtain ⟨y,ys,rfl,h1,h2⟩:=h.cons_inv;exact .cons (h1.atw hz) (bC.anT hz h2 (by simpa using e))
theorem VK.auy {E0:Env} (hz:ZLe E E0) {l:Lay} {v:KV} {u:Value} (h:VK P E v u):VK P E0 (K.fe l v) u:=by
 unfold K.fe;split
 ·rename_i cs
  obtain ⟨m,rfl,h1⟩:=h.mi;cases hb:(l.agg&&Nat.beq cs.length l.ks.length) with
  | false=>exact .uY
  | true=>
   simp only [aA] at hb;exact .rW (h1.anT hz (bu hb.2))
 ·cases l.agg with
  | true=>exact .uY
  | false=>
   rw [ba];split
   ·exact h.atw hz
   ·exact .uY
theorem VK.avG {E0:Env} (hz:ZLe E E0) {t:TypeId} {v:KV} {u:Value} (h:VK P E v u):VK P E0 (K.XL P t v) u:=by
 unfold K.XL;cases hb:cP (bB P t) (K.fe (bB P t) v) with
 | false=>exact .uY
 | true=>exact VK.ax _ hb (h.auy hz)
theorem bC.Q1 {E0:Env} (hz:ZLe E E0):∀ {ts:List TypeId} {vs:List KV} {us:List Value},bC P E vs us->vs.length=ts.length->bC P E0 (normArgs P ts vs) us
 | [],[],us,h,_=>by rw [h.cw]; exact .nil
 | [],_::_,_,_,e=>by simp at e
 | _::_,[],_,_,e=>by simp at e
 | t::ts,v::vs,us,h,e=>by
  obtain ⟨y,ys,rfl,h1,h2⟩:=h.cons_inv;exact .cons (h1.avG hz) (bC.Q1 hz h2 (by simpa using e))
theorem II:∀ (ts:List TypeId) (vs:List KV),za P ts vs=normArgs P ts vs
 | [],vs=>by cases vs <;> rfl
 | t::ts,[]=>rfl
 | t::ts,v::vs=>by simp [za,normArgs,II ts vs]
theorem Mz:∀ {ts:List TypeId} {vs:List KV},vs.length=ts.length->(normArgs P ts vs).length=ts.length
 | [],[],_=>rfl
 | [],_::_,e=>by simp at e
 | _::_,[],e=>by simp at e
 | t::ts,v::vs,e=>by simp [normArgs,Mz (ts:=ts) (vs:=vs) (by simpa using e)]
def Env.bare (E:Env):Env:={ E with κ:=fun _=>none,φ:=fun _=>none,α:=fun _=>none }
theorem fX.bare {A:aw} {B:St} (h:fX P E A B):fX P E.bare .empty B where
 row b cs cg hb:=by simp [aw.empty,aw.get] at hb
 bA b top sz hb:=by simp [aw.empty,aw.get] at hb
 z:=h.z
 apart b x e:=by simp [Env.bare] at e
 inj b c x e:=by simp [Env.bare] at e
 kR b c g _ _ _ _ _ _ e:=by simp [Env.bare] at e
 lW b x e:=by simp [Env.bare] at e
 nS b g e:=by simp [Env.bare] at e
 live b o hb:=by simp [aw.empty,aw.get] at hb
 iW b x e:=by simp [Env.bare] at e
 nT:=h.nT
 lu b g e:=by simp [Env.bare] at e
 fresh:=h.fresh
 mem:=h.mem
 ar:=by
  have hn:∀ b v,¬ aw.empty.get b=some (.arr v):=fun b v hb=>by simp [aw.empty,aw.get] at hb
  exact ⟨fun b v hb=>(hn b v hb).elim,fun b v hb=>by simp [aw.empty,aw.get] at hb,fun x ⟨b,v,_,_,hb,_⟩=>(hn b v hb).elim,fun b c v u x L N L' N' hb=>(hn b v hb).elim,fun b c v u x y L N L' N' cs e own g k cu e' rJ k' hb=>(hn b v hb).elim,fun b x e=>by simp [Env.bare] at e,fun b p e=>by simp [Env.bare] at e,fun b x L N e=>by simp [Env.bare] at e,fun b v x L N cs e own g k hb=>(hn b v hb).elim,fun b v hb=>(hn b v hb).elim⟩
theorem anU {x:Nat} : ¬ AR .empty E.bare x:=fun ⟨b,v,_,_,hb,_⟩=>by simp [aw.empty,aw.get] at hb
theorem anV {B:St} {g:Nat} : ¬ AF .empty E.bare B g:=fun ⟨b,v,_,_,_,_,_,_,_,hb,_⟩=>by simp [aw.empty,aw.get] at hb
theorem atx {B:St} {y:Nat} : ¬ AT .empty E.bare B y:=fun q=>q.elim anU fun ⟨_,q,_⟩=>anV q
theorem Ev.bare {base:Nat} {A A1:aw} {B B1:St} {ρ og:Ren} {w w1:World} {E1:Env} (h:fX P E A B) (yI:Ev P base E.bare .empty B ρ w E1 A1 B1 og w1):Ev P base E A B ρ w { E with z:=E1.z } A B1 og w1:=by
 have hle:E.le { E with z:=E1.z }:=⟨fun _ _ e=>e,fun _ _ e=>e,yI.le.z,fun _ _ e=>e⟩
 have Ol:∀ x,x < B.next->B1.get x=B.get x:=fun x hx=>yI.ik x hx (fun b e=>by simp [Env.bare] at e) atx;have oh:∀ g,g < B.next->B1.members g=B.members g:=fun g hg=>yI.sA g hg (fun b e=>by simp [Env.bare] at e) anV;have j7:=yI.gP.next;have QJ:∀ b r,E1.z b=some r->E.z b=some r\/B.next<=b:=fun b r e=>by
  rcases yI.wK b r e with e | e | e
  ·exact .inl e
  ·exact (anU e).elim
  ·exact .inr e
 have uh:∀ y,AR A { E with z:=E1.z } y->AR A E y:=fun y q=>q;have au6:∀ g,AF A E B g->g < B.next:=fun g ⟨b,v,x,L,N,cs,e,own,k,h1,h2,h3⟩=>(h.ar.vL b v x L N cs e own g k h1 h2 h3).1;have Lh:∀ g,AF A { E with z:=E1.z } B1 g->AF A E B g:=fun g ⟨b,v,x,L,N,cs,e,own,k,h1,h2,h3⟩=>⟨b,v,x,L,N,cs,e,own,k,h1,h2,by rw [<- Ol x (h.ar.iW b x L N h2)]; exact h3⟩
 refine ⟨⟨?_,?_,yI.kC.z,?_,h.inj,h.kR,h.lW,h.nS,h.live,?_,yI.kC.nT,?_,yI.kC.fresh,yI.kC.mem,h.ar.ik hle (fun _=>rfl) (fun _ _ e=>e) (fun _ _ e=>e) (aU _) j7 (fun x q=>Ol x (h.J0 q)) QJ (fun _ _ e=>.inl e) (fun b g e=>.inl ⟨b,e⟩) (fun g q=>oh g (au6 g q)) h.mem⟩,yI.gP,hle,aU _,fun x hx _ _=>Ol x hx,fun _ _ e=>.inl e,fun b r e=>(QJ b r e).imp id .inr,fun _ _ e=>.inl ⟨_,e⟩,fun g hg _ _=>oh g hg,fun y q=>.inl (uh y q),fun g q=>.inl (Lh g q),yI.yE,fun y q=>.inl (q.imp (uh y) fun ⟨g,q1,q2⟩=>⟨g,Lh g q1,by rw [<- oh g (au6 g (Lh g q1))]; exact q2⟩),yI.rows⟩
 ·intro b cs cg hb
  obtain ⟨x,c,h1,h2,h3⟩:=h.row b cs cg hb;exact ⟨x,c,h1,by rw [Ol x (h.iW b x h1)]; exact h2,h3.mono hle⟩
 ·intro b top sz hb
  rcases h.bA b top sz hb with h1 | ⟨g,h1,h2,h3⟩
  ·exact .inl h1
  ·have hg:=h.lu b g h1
   refine .inr ⟨g,h1,h2,fun x hx cs e own f k hr=>?_⟩;rw [oh g hg] at hx;rw [Ol x (h.mem g x hx)] at hr;exact h3 x hx cs e own f k hr
 ·intro b x hb
  have hx:=h.iW b x hb;cases hz:E1.z x with
  | none=>rfl
  | some r=>
   rcases QJ x r hz with e | e
   ·rw [h.apart b x hb] at e; simp at e
   ·omega
 ·intro b x hb; have:=h.iW b x hb; omega
 ·intro b g hb; have:=h.lu b g hb; omega
theorem aty {g:FuncId} {F:List KV->KR KV} (hy:Nat.blt g yB=true) (hP:P.funcs.toList.all pd=true) (hm:P.follows .mixedOrders=true)
  (h:∀ alR v,alR.length=(aG P g).length->bf (F (normArgs P (aG P g) alR)) v->∃ cfg L n,u6 P cfg.pc/\Ay P cfg/\cD P cfg L n g (normArgs P (aG P g) alR)=some v):bH P g F:=by
 intro args v hF hlen;obtain ⟨cfg,L,n,kb,o4,mX⟩:=h _ v hlen hF;have xG:=xk (R:=KV) hP hm kb o4 L n;obtain ⟨fn,c,hf,hc,dt,hnm,mX⟩:=Q0 hP mX;refine ⟨⟨hy,fn,hf,by simp [hc],hnm⟩,fun E A B ρ base w ib hv hj=>?_⟩;obtain ⟨apK,S8,Vu⟩:=hv;have hv0:ui P E.bare ρ (normArgs P (aG P g) args) ib:=⟨apK,bC.Q1 (E:=E) (E0:=E.bare) (.of rfl) S8 hlen,Vu⟩
 refine (Oj kb xG hm L hf hc dt (o4.2 g fn c hf hc) mX hv0 ⟨hj.k.bare,hj.s⟩).mono ?_;rintro e w' ⟨vs,cX,E0,A0,B1,og,rfl,⟨m,h1,h1'⟩,h2,h3⟩;have h3:Bool.rec (motive:=fun _=>Option KV) none (some (Iv (za P (uW P g) (Ar A0 vs).1))) (Nat.beq vs.length (uW P g).length)=some v:=h3;obtain ⟨E1,hf1,h1⟩:=J1 h2.kC h1;have yI:=Ev.bare hj.k (h2.trans (hf1.ev (.refl h2.gP.kC)));cases hb:Nat.beq vs.length (uW P g).length with
 | false=>rw [hb] at h3; exact absurd h3 (by simp)
 | true=>
  rw [hb] at h3;have h3:some (Iv (za P (uW P g) (Ar A0 vs).1))=some v:=h3;simp only [di] at h3;subst h3;refine ⟨_,_,B1,og,rfl,QZ ⟨m,?_,h1'⟩,yI⟩;rw [II];exact bC.Q1 (E:=E1) (E0:={ E with z:=E1.z }) (.of rfl) h1 ((N9 A0 vs).trans (bu hb))
end Go.K
end
