/- Part of the proof of PathsOne: the machine, shown to be the model's, and plain models. No conditions. -/
import Derived.Test.YtckbdndhmcoihaaGreatDp
import Derived.LoopN
set_option linter.unusedSimpArgs false
set_option linter.unusedVariables false
section
namespace Go.K
open Go Go.aq
variable {P:Program} {E:Env}
theorem Vx {cfg:dE} {all:List Oper} {b:List Nat} {i:Nat} {y:Oper} : ∀ (xs:List Oper) (k:Nat),Ra P cfg all b i y xs k=true->∀ (j:Nat) (x:Oper),xs[j]? = some x->k+j < i->Jv P cfg all x y=true->ox b i (k+j)=true\/(rJ P cfg all x y=false/\(Zi all (k+j) x i y).isSome=true)
 | [],k,_,j,x,hx,_,_=>by simp at hx
 | x0::xs,k,h,0,x,hx,bh,hc=>by
  simp at hx;subst hx;simp only [Ra,au,qe,jT] at h;rcases h.1 with ((h1 | h1) | h1) | h1
  ·have:=dI h1; omega
  ·rw [hc] at h1; simp at h1
  ·exact .inl h1
  ·exact .inr h1
 | x0::xs,k,h,j+1,x,hx,bh,hc=>by
  simp only [Ra,au] at h;have:=Vx xs (k+1) h.2 j x (by simpa using hx) (by omega) hc;rwa [show k+1+j=k+(j+1) by omega] at this
theorem Pn {cfg:dE} {all:List Oper} {b:List Nat} : ∀ (os:List Oper) (k:Nat),KC P cfg all b os k=true->∀ (i:Nat) (o:Oper),os[i]? = some o->Ra P cfg all b (k+i) o all 0=true
 | [],k,_,i,o,ho=>by simp at ho
 | o0::os,k,h,0,o,ho=>by
  simp at ho;subst ho;simp only [KC,au] at h;exact h.1
 | o0::os,k,h,i+1,o,ho=>by
  simp only [KC,au] at h;have:=Pn os (k+1) h.2 i o (by simpa using ho);rwa [show k+1+i=k+(i+1) by omega] at this
theorem Vy {cfg:dE} {all:List Oper} {b:List Nat} {i:Nat} {y:Oper} {p:Option Operand×Operand} : ∀ (xs:List Oper) (k j:Nat) (x:Oper),xs[j]? = some x->k+j < i->Jv P cfg all x y=true->ox b i (k+j)=false->Zi all (k+j) x i y=some p->p∈C3 P cfg all b i y xs k
 | [],k,j,x,hx,_,_,_,_=>by simp at hx
 | x0::xs,k,0,x,hx,bh,hm,hb,he=>by
  simp at hx;subst hx;have h1:(Nat.ble i k||!Jv P cfg all x0 y||ox b i k)=false:=by
   rw [hm,show ox b i k=false from hb];cases h:Nat.ble i k with
   | false=>rfl
   | true=>have:=dI h; omega
  simp only [C3];rw [h1,aF,show Zi all k x0 i y=some p from he];exact List.mem_cons_self
 | x0::xs,k,j+1,x,hx,bh,hm,hb,he=>by
  have e:k+(j+1)=k+1+j:=by omega
  have:=Vy (b:=b) (p:=p) xs (k+1) j x (by simpa using hx) (show k+1+j < i by omega) hm (by rw [<- e]; exact hb) (by rw [<- e]; exact he);simp only [C3];cases (Nat.ble i k||!Jv P cfg all x0 y||ox b i k) with
  | true=>exact this
  | false=>
   rw [aF];split
   ·exact uF _ this
   ·exact this
theorem Sf {cfg:dE} {all:List Oper} {b:List Nat} {p:Option Operand×Operand} : ∀ (os:List Oper) (k i:Nat) (y:Oper),os[i]? = some y->p∈C3 P cfg all b (k+i) y all 0->p∈XI P cfg all b os k
 | [],k,i,y,hy,_=>by simp at hy
 | o::os,k,0,y,hy,h=>by
  simp at hy;subst hy;exact List.mem_append_left _ h
 | o::os,k,i+1,y,hy,h=>by
  refine List.mem_append_right _ (Sf os (k+1) i y (by simpa using hy) ?_);rwa [show k+1+i=k+(i+1) by omega]
structure Sg (P:Program) (cfg:dE) (all:List Oper):Prop where
 XY:pk P all
 kind:∀ o∈all,cX (bP P cfg o.op)<=3
 ord:∀ i j x y,all[i]? = some y->all[j]? = some x->j < i->Jv P cfg all x y=true->ox (dD [] all) i j=true\/(rJ P cfg all x y=false/\∃ p,Zi all j x i y=some p/\p∈Jw P cfg all)
 plain:∀ p,p∈Jw P cfg all->Tr P cfg all=true
theorem ahW {cfg:dE} {all:List Oper} (h:ahx P cfg all=true):Sg P cfg all:=by
 unfold ahx at h;simp only [au] at h;refine ⟨DK h.1.1.1,fun o ho=>dI (eM.1 h.1.1.2 o ho),fun i j x y hy hx bh hm=>?_,fun p hp=>?_⟩
 ·have:=Pn all 0 h.1.2 i y hy
  rw [bp] at this;have:=Vx all 0 this j x hx (by omega) hm;rw [bp] at this;cases hb:ox (dD [] all) i j with
  | true=>exact .inl rfl
  | false=>
   rcases this with h1 | ⟨h1,h2⟩
   ·rw [hb] at h1; simp at h1
   ·obtain ⟨p,hp⟩:=Option.isSome_iff_exists.1 h2
    refine .inr ⟨h1,p,hp,Sf all 0 i y hy ?_⟩;rw [bp];exact Vy all 0 j x hx (by omega) hm (by rw [bp]; exact hb) (by rw [bp]; exact hp)
 ·have h2:=h.2
  simp only [qe] at h2;rcases h2 with h2 | h2
  ·rw [List.isEmpty_iff] at h2
   rw [h2] at hp;simp at hp
  ·exact h2
structure aci (P:Program) (cfg:dE) (all:List Oper):Prop where
 XY:pk P all
 DE:∀ {i j:Nat} {x y:Oper},all[i]? = some y->all[j]? = some x->j < i->rJ P cfg all x y=true->ox (dD [] all) i j=true
theorem Sg.toT {cfg:dE} {all:List Oper} (hf:Sg P cfg all):aci P cfg all:=⟨hf.XY,fun {i j x y} hy hx bh hc=>by
 rcases hf.ord i j x y hy hx bh (by unfold Jv; rw [hc]; rfl) with h | ⟨h,_⟩
 ·exact h
 ·rw [hc] at h; simp at h⟩
def Vz (P:Program) (cfg:dE) (all:List Oper) (i:Nat):Prop:=∀ j q,all[j]? = some q->Nat.ble 3 (cX (bP P cfg q.op))=true->(j < i->ox (dD [] all) i j=true)/\(i < j->ox (dD [] all) j i=true)
theorem zc {x y:Oper} {p:Option Operand×Operand} (h:Mw x y=some p):(∃ T,y.op = .load T p.2)/\((p.1=none/\Q9 x.op=true)\/∃ T a v,p.1=some a/\x.op = .store T a v):=by
 unfold Mw at h;split at h
 ·rename_i a ha
  have hl:∃ T,y.op = .load T a:=by
   unfold alC at ha;split at ha
   ·rename_i T a' e; simp at ha; subst ha; exact ⟨T,e⟩
   ·simp at ha
  cases hs:Q9 x.op with
  | true=>
   rw [hs,aj] at h;simp at h;subst h;exact ⟨hl,.inl ⟨rfl,rfl⟩⟩
  | false=>
   rw [hs,aF] at h;split at h
   ·rename_i a2 ha2
    simp at h;subst h;refine ⟨hl,.inr ?_⟩;unfold Vi at ha2;split at ha2
    ·rename_i T a3 v e; simp at ha2; subst ha2; exact ⟨T,_,v,rfl,e⟩
    ·simp at ha2
   ·simp at h
 ·simp at h
theorem acj {all:List Oper} {i j:Nat} {x y:Oper} {p:Option Operand×Operand} (h:Zi all j x i y=some p) :
  (Mw x y=some p/\tT i p.2 all 0=true/\Mv j p.1 all=true)\/(Mw y x=some p/\tT j p.2 all 0=true/\Mv i p.1 all=true):=by
 unfold Zi at h;split at h
 ·rename_i q hq
  cases hb:(tT i q.2 all 0&&Mv j q.1 all) with
  | false=>rw [hb] at h; simp at h
  | true=>
   rw [hb,aj] at h;simp at h;subst h;simp only [au] at hb;exact .inl ⟨hq,hb.1,hb.2⟩
 ·split at h
  ·rename_i q hq
   cases hb:(tT j q.2 all 0&&Mv i q.1 all) with
   | false=>rw [hb] at h; simp at h
   | true=>
    rw [hb,aj] at h;simp at h;subst h;simp only [au] at hb;exact .inr ⟨hq,hb.1,hb.2⟩
  ·simp at h
theorem GC {cfg:dE} {o:Oper} {T:TypeId} {a:Operand} (h:o.op = .load T a):cX (bP P cfg o.op)=1:=by rw [h]; rfl
theorem unordered {cfg:dE} {all:List Oper} (hf:Sg P cfg all) {i j:Nat} {o q:Oper} (ho:all[i]? = some o) (hq:all[j]? = some q) (hk:cX (bP P cfg o.op)≠0) (h3:Nat.ble 3 (cX (bP P cfg q.op))=true) :
  ((j < i->ox (dD [] all) i j=true)/\(i < j->ox (dD [] all) j i=true))\/∃ p,p∈Jw P cfg all/\Mw q o=some p/\tT i p.2 all 0=true/\Mv j p.1 all=true:=by
 have tJ:Nat.beq (cX (bP P cfg o.op)) 0=false:=by
  cases hb:Nat.beq (cX (bP P cfg o.op)) 0 with
  | false=>rfl
  | true=>exact absurd (aW hb) hk
 have hnl:∀ T a,q.op≠.load T a:=fun T a e=>by rw [GC e] at h3; simp at h3
 rcases Nat.lt_trichotomy j i with h | h | h
 ·rcases hf.ord i j q o ho hq h (by unfold Jv; rw [h3,tJ]; simp) with h1 | ⟨_,p,h1,h2⟩
  ·exact .inl ⟨fun _=>h1,fun h'=>by omega⟩
  ·rcases acj h1 with ⟨e1,e2,e3⟩ | ⟨e1,e2,e3⟩
   ·exact .inr ⟨p,h2,e1,e2,e3⟩
   ·obtain ⟨⟨T,e⟩,_⟩:=zc e1
    exact absurd e (hnl _ _)
 ·exact .inl ⟨fun h'=>by omega,fun h'=>by omega⟩
 ·rcases hf.ord j i o q hq ho h (by unfold Jv; rw [h3,tJ]; simp) with h1 | ⟨_,p,h1,h2⟩
  ·exact .inl ⟨fun h'=>by omega,fun _=>h1⟩
  ·rcases acj h1 with ⟨e1,e2,e3⟩ | ⟨e1,e2,e3⟩
   ·obtain ⟨⟨T,e⟩,_⟩:=zc e1
    exact absurd e (hnl _ _)
   ·exact .inr ⟨p,h2,e1,e2,e3⟩
theorem Po {cfg:dE} {all:List Oper} (hf:Sg P cfg all) {i:Nat} {o:Oper} (ho:all[i]? = some o) (hk:cX (bP P cfg o.op)≠0) (hn:∀ T a,o.op≠.load T a):Vz P cfg all i:=fun j q hq h3=>by
 rcases unordered hf ho hq hk h3 with h | ⟨p,_,h,_⟩
 ·exact h
 ·obtain ⟨⟨T,e⟩,_⟩:=zc h
  exact absurd e (hn _ _)
theorem Bm {cfg:dE} {o:Oper} (h:cX (bP P cfg o.op)<=3):∀ f args,bP P cfg o.op≠.call f args:=by
 intro f args e;rw [e] at h;simp [cX] at h
theorem zd {d:Tmp} {l:List Tmp} (h:d∈l):OP (some d) l=true:=by
 simp only [OP,List.any_eq_true];exact ⟨d,h,by simp⟩
theorem jH {x:Tmp} : ∀ {xs:List Operand},Operand.tmp x∈xs->x∈ph xs
 | [],h=>by simp at h
 | y::ys,h=>by
  rcases dv.1 h with h | h
  ·subst h; simp [ph]
  ·have:=jH h
   cases y <;> simp [ph,this]
section
variable {cfg:dE} {all:List Oper} {L:List Out} {t0:bq} {A0:ao}
theorem ack (hf:aci P cfg all) {S:Nat->Bool} (hc:oP all S) {i:Nat} {o:Oper} (ho:all[i]? = some o) (oj:S i=false) (sT:sH all S i) {y:Tmp} (hy:y∈lV P cfg all o) :
  (gH S all L 0 t0).get y=(gH (fun j=>Nat.blt j i) all L 0 t0).get y:=by
 refine kr rfl fun j q hq hd=>?_;rw [bp];rcases Nat.lt_trichotomy j i with h | h | h
 ·have:ox (dD [] all) i j=true:=hf.DE ho hq h (by
   unfold rJ;rw [hd,zd hy];rfl)
  rw [hc.ready hf.XY ho sT j this]
  symm; rw [bO]; exact h
 ·subst h
  rw [oj]
  symm
  cases hb:Nat.blt j j with
  | false=>rfl
  | true=>rw [bO] at hb; omega
 ·have hb:ox (dD [] all) j i=true:=hf.DE hq ho h (by
   unfold rJ;rw [hd,zd hy];simp)
  have:S j=false:=by
   cases hs:S j with
   | false=>rfl
   | true=>have:=hc j i hs hb; rw [oj] at this; simp at this
  rw [this]
  symm
  cases hbb:Nat.blt j i with
  | false=>rfl
  | true=>rw [bO] at hbb; omega
theorem VA (hf:Sg P cfg all) {S:Nat->Bool} (hc:oP all S) {i:Nat} {o:Oper} (ho:all[i]? = some o) (oj:S i=false) (sT:sH all S i) (eK:Vz P cfg all i) :
  l8 P cfg S all L 0 A0=l8 P cfg (fun j=>Nat.blt j i) all L 0 A0:=by
 refine Ik fun j q x hq hx ht=>?_;rw [bp];have h3:Nat.ble 3 (cX (bP P cfg q.op))=true:=by unfold turns at ht; simp only [au] at ht; exact ht.2
 rcases Nat.lt_trichotomy j i with h | h | h
 ·have:ox (dD [] all) i j=true:=(eK j q hq h3).1 h
  rw [hc.ready hf.XY ho sT j this]
  symm; rw [bO]; exact h
 ·subst h
  rw [oj]
  symm
  cases hb:Nat.blt j j with
  | false=>rfl
  | true=>rw [bO] at hb; omega
 ·have hb:ox (dD [] all) j i=true:=(eK j q hq h3).2 h
  have:S j=false:=by
   cases hs:S j with
   | false=>rfl
   | true=>have:=hc j i hs hb; rw [oj] at this; simp at this
  rw [this]
  symm
  cases hbb:Nat.blt j i with
  | false=>rfl
  | true=>rw [bO] at hbb; omega
theorem KT (hf:aci P cfg all) {S:Nat->Bool} (hc:oP all S) {i:Nat} {o:Oper} {x:Out} (ho:all[i]? = some o) (hx:L[i]? = some x) (oj:S i=false) (y:Tmp) :
  (gH (cF S i) all L 0 t0).get y=(oy (gH S all L 0 t0) o.dst x.2.1).get y:=by
 rw [qE];by_cases hd:o.dst=some y
 ·rw [aI hd]
  have:=ach (S:=S) (y:=y) (os:=all) (L:=L) (k:=0) (i:=i) (t:=t0) ho hx hd (fun j q hq hqd bh=>by
   rw [bp];have hb:ox (dD [] all) j i=true:=hf.DE hq ho bh (by
    unfold rJ;rw [hqd,hd];simp [UY])
   cases hs:S j with
   | false=>rfl
   | true=>have:=hc j i hs hb; rw [oj] at this; simp at this)
  rw [bp] at this;exact this
 ·rw [ak hd]
  refine kr rfl fun j q hq hqd=>?_;rw [bp];have cH:j≠i:=by
   intro e;subst e;rw [ho] at hq;simp at hq;subst hq;exact hd hqd
  unfold cF;have:Nat.beq j i=false:=by
   cases hb:Nat.beq j i with
   | false=>rfl
   | true=>exact absurd (aW hb) cH
  rw [this,Bool.or_false]
theorem wJ {S:Nat->Bool} {i:Nat} {o:Oper} {x:Out} (ho:all[i]? = some o) (hx:L[i]? = some x) (ht:turns P cfg o x=false):l8 P cfg (cF S i) all L 0 A0=l8 P cfg S all L 0 A0:=by
 refine Ik fun j q y hq hy hty=>?_;rw [bp];have cH:j≠i:=by
  intro e;subst e;rw [ho] at hq; rw [hx] at hy;simp at hq hy;subst hq hy;rw [ht] at hty; simp at hty
 unfold cF;have:Nat.beq j i=false:=by
  cases hb:Nat.beq j i with
  | false=>rfl
  | true=>exact absurd (aW hb) cH
 rw [this,Bool.or_false]
theorem ahX {i:Nat} {o:Oper} {x:Out} (ho:all[i]? = some o) (hx:L[i]? = some x) (ht:turns P cfg o x=true):l8 P cfg (fun j=>Nat.blt j (i+1)) all L 0 A0=x.2.2:=by
 have key:∀ (os:List Oper) (L:List Out) (k i:Nat) (A:ao) (o:Oper) (x:Out),os[i]? = some o->L[i]? = some x->turns P cfg o x=true->l8 P cfg (fun j=>Nat.blt j (k+i+1)) os L k A=x.2.2:=by
  intro os
  induction os with
  | nil=>intro L k i A o x ho; simp at ho
  | cons q os ih=>
   intro L k i A o x ho hx ht;cases L with
   | nil=>simp at hx
   | cons u L=>
    simp only [l8];have bh:Nat.blt k (k+i+1)=true:=by rw [bO]; omega
    rw [bh,wD];cases i with
    | zero=>
     simp at ho hx;subst ho hx;rw [ht,aj];have:∀ (os:List Oper) (L:List Out) (m:Nat) (A:ao),k+1<=m->l8 P cfg (fun j=>Nat.blt j (k+0+1)) os L m A=A:=by
      intro os
      induction os with
      | nil=>intro L m A _; cases L <;> rfl
      | cons q os ih=>
       intro L m A hm;cases L with
       | nil=>rfl
       | cons u L=>
        simp only [l8];have:Nat.blt m (k+0+1)=false:=by
         cases hb:Nat.blt m (k+0+1) with
         | false=>rfl
         | true=>rw [bO] at hb; omega
        rw [this,Bool.false_and,aF];exact ih L _ A (by omega)
     exact this os L (k+1) _ (aH _)
    | succ i=>
     have:=ih L (k+1) i (cond (turns P cfg q u) u.2.2 A) o x (by simpa using ho) (by simpa using hx) ht;rwa [show k+1+i+1=k+(i+1)+1 by omega] at this
 have:=key all L 0 i A0 o x ho hx ht;rwa [bp] at this
theorem ake (hf:Sg P cfg all) {S:Nat->Bool} (hc:oP all S) {i:Nat} {o:Oper} {x:Out} (ho:all[i]? = some o) (hx:L[i]? = some x) (oj:S i=false) (sT:sH all S i) (ht:turns P cfg o x=true) :
  l8 P cfg (cF S i) all L 0 A0=x.2.2:=by
 have h3:Nat.ble 3 (cX (bP P cfg o.op))=true:=by unfold turns at ht; simp only [au] at ht; exact ht.2
 have hk:cX (bP P cfg o.op)≠0:=by have:=dI h3; omega
 have h1:l8 P cfg (cF S i) all L 0 A0=l8 P cfg (fun j=>Nat.blt j (i+1)) all L 0 A0:=by
  refine Ik fun j q y hq hy hty=>?_;rw [bp];have hq3:Nat.ble 3 (cX (bP P cfg q.op))=true:=by unfold turns at hty; simp only [au] at hty; exact hty.2
  have eK:Vz P cfg all i:=Po hf ho hk fun T a e=>by rw [GC e] at h3; simp at h3
  rcases Nat.lt_trichotomy j i with h | h | h
  ·have:ox (dD [] all) i j=true:=(eK j q hq hq3).1 h
   have:=hc.ready hf.XY ho sT j this;unfold cF;rw [this,Bool.true_or]
   symm; rw [bO]; omega
  ·subst h
   have:cF S j j=true:=by simp [cF]
   rw [this]
   symm; rw [bO]; omega
  ·have hb:ox (dD [] all) j i=true:=(eK j q hq hq3).2 h
   have:S j=false:=by
    cases hs:S j with
    | false=>rfl
    | true=>have:=hc j i hs hb; rw [oj] at this; simp at this
   unfold cF;have cH:Nat.beq j i=false:=by
    cases hb:Nat.beq j i with
    | false=>rfl
    | true=>have:=aW hb; omega
   rw [this,cH]
   symm
   cases hbb:Nat.blt j (i+1) with
   | false=>rfl
   | true=>rw [bO] at hbb; omega
 rw [h1];exact ahX ho hx ht
end
theorem aea {all:List Oper} {o:Oper} {j:Nat} {want:Bool} {d:Tmp} (hg:o.guard=some (j,want)) (hd:(all[j]?).bind (·.dst)=some d):d∈F5 all o:=by
 unfold F5;rw [hg];simp [hd]
theorem C7 {all:List Oper} {o:Oper} {t t1:bq} {wd:Bool} {N:Nat} {ρ:Ren} {a:Act} (ht:jf P E ρ t N a) (hl:∀ y∈F5 all o,t1.get y=t.get y) (h:MQ all o t1 wd):Region.wanted o (yielded ⟨all⟩ a.tmps)=wd:=by
 rcases h with ⟨hg,rfl⟩ | ⟨j,want,d,hg,hd,h⟩
 ·unfold Region.wanted
  rw [hg]
 ·have DF:=hl d (aea hg hd)
  have v7:=ht.val d;unfold Region.wanted;rw [hg];simp only;unfold yielded;have e:(⟨all⟩:Array Oper)[j]? = all[j]?:=by simp
  rw [e,hd];simp only [dz];rcases h with ⟨b,h1,rfl⟩ | ⟨l,h1,rfl⟩
  ·rw [<- DF,h1] at v7
   have hcv:=v7.dY;cases hc:a.tmps[d]? with
   | none=>simp [fQ,hc,undef] at hcv
   | some u=>
    have:u = .bool b:=by rw [<- hcv]; simp [fQ,hc]
    subst this;rfl
  ·rw [<- DF,h1] at v7
   obtain ⟨u,h2,h3⟩:=v7;obtain ⟨m,rfl,_⟩:=h2.O7;obtain ⟨m',h4,_⟩:=h3.Tg;cases hc:a.tmps[d]? with
   | none=>rfl
   | some u=>
    have:u = .tuple m':=by rw [<- h4]; simp [fQ,hc]
    subst this;rfl
theorem Pp {t t1:bq} {N:Nat} {ρ:Ren} {a:Act} (ht:jf P E ρ t N a) {x:Operand} (h:∀ y,x = .tmp y->t1.get y=t.get y):VC P E ρ (jK t1 x) (a.eval x):=by
 have:=ht.ev x;cases x with
 | tmp y=>simp only [jK] at this ⊢; rw [h y rfl]; exact this
 | const v=>exact this
 | global g=>exact this
 | func f=>exact this
theorem ahY {cfg:dE} {o:Oper} {t:bq} {A A1 A' : ao} {v:KV} (h:aK (tl (bP P cfg o.op) t A) (v,A1)) (hk:cX (bP P cfg o.op)=0):aK (tl (bP P cfg o.op) t A') (v,A'):=by
 generalize bP P cfg o.op=ins at h hk;cases ins with
 | pure f xs=>obtain ⟨u,h1,h2⟩:=aK.map h; simp at h2; obtain ⟨rfl,_⟩:=h2; exact h1.zb
 | read f xs=>simp [cX] at hk
 | act f xs=>simp [cX] at hk
 | look f xs=>obtain ⟨u,h1,h2⟩:=aK.map h; simp at h2; obtain ⟨rfl,_⟩:=h2; exact h1.zb
 | Ba g f xs=>obtain ⟨u,h1,h2⟩:=aK.map h; simp at h2; obtain ⟨rfl,_⟩:=h2; exact h1.zb
 | Gu g f xs=>simp [cX] at hk
 | call f xs=>exact h.elim
 | bad=>exact h.elim
theorem TF {cfg:dE} {S:Nat->Bool} (h:∀ i,S i=false):∀ {os:List Oper} {L:List Out} {k:Nat} {A:ao},l8 P cfg S os L k A=A
 | [],L,k,A=>by cases L <;> rfl
 | o::os,[],k,A=>rfl
 | o::os,x::L,k,A=>by simp only [l8]; rw [h,Bool.false_and,aF]; exact TF h
theorem MR {S:Nat->Bool} (h:∀ i,S i=false):∀ {os:List Oper} {L:List Out} {k:Nat} {t:bq},gH S os L k t=t
 | [],L,k,A=>by cases L <;> rfl
 | o::os,[],k,A=>rfl
 | o::os,x::L,k,A=>by simp only [gH]; rw [h,aF]; exact MR h
theorem an3 {A:ao} {o:ik} {b:Nat} (hb:b < A.next) (cs:List KV) (e:Nat):A.get b=some (.row cs e)↔(A.new o).get b=some (.row cs e):=by
 rw [ao.cS,ak (by omega)]
theorem Pq {A:ao} {o:ik} {b c:Nat} (h:b≠c\/((∀ cs e,A.get b≠some (.row cs e))/\∀ cs e,o≠.row cs e)) (cs:List KV) (e:Nat):A.get b=some (.row cs e)↔(A.put c o).get b=some (.row cs e):=by
 rw [ao.b5];by_cases hbc:b=c
 ·rw [aI hbc]
  rcases h with h | ⟨h1,h2⟩
  ·exact absurd hbc h
  ·exact ⟨fun q=>absurd q (h1 _ _),fun q=>absurd (by simpa using q) (h2 cs e)⟩
 ·rw [ak hbc]
def Sh (A A' : ao):Prop:=A.next<=A'.next/\∀ b,b < A.next->∀ cs e,A.get b=some (.row cs e)↔A'.get b=some (.row cs e)
theorem F9 {A:ao} {o:ik} : Sh A (A.new o):=⟨by simp,fun _ hb cs e=>an3 hb cs e⟩
theorem Rg {A:ao} {c:Nat} {o o' : ik} (hc:A.get c=some o') (h' : ∀ cs e,o'≠.row cs e) (h:∀ cs e,o≠.row cs e):Sh A (A.put c o):=⟨by simp,fun b _ cs e=>by
 by_cases hbc:b=c
 ·subst hbc
  exact Pq (.inr ⟨fun cs e q=>by rw [hc] at q; simp at q; exact h' cs e q,h⟩) cs e
 ·exact Pq (.inl hbc) cs e⟩
theorem Sh.trans {A B C:ao} (h:Sh A B) (k:Sh B C):Sh A C:=⟨kH h.1 k.1,fun b hb cs e=>(h.2 b hb cs e).trans (k.2 b (kJ hb h.1) cs e)⟩
theorem MS {e sz b n f m:Nat} {base new:List KV} {ab an:Nat->KV} {A A' : ao} {v:KV} {more:Bool} (h:aK (Vg e sz b n base ab A f m new an more) (v,A')):A' = A.put f (.aQ (n+m) sz):=by
 obtain ⟨_,h⟩:=aK.jt h;simp only [dJ] at h;exact h.2.symm
theorem VB {e b n m:Nat} {base new:List KV} {ab an:Nat->KV} {A A' : ao} {v:KV} {more:Bool} (h:aK (aaY e b n base ab A m new an more) (v,A')):∃ o,A' = A.new (.arr o):=by
 obtain ⟨_,h⟩:=aK.jt h;simp only [dJ] at h;exact ⟨_,h.2.symm⟩
theorem agk {e sz b:Nat} {A A' : ao} {xs:List KV} {v:KV} (h:aK (O2 e sz b A xs) (v,A')):Sh A A':=by
 unfold O2 at h;split at h
 ·obtain ⟨_,h⟩:=aK.cond h
  rw [MS h];exact F9.trans (Rg (o':=.aQ 0 sz) (by simp) (by simp) (by simp))
 ·obtain ⟨_,h⟩:=aK.cond h
  rw [MS h];exact F9.trans (Rg (o':=.aQ 0 sz) (by simp) (by simp) (by simp))
 ·split at h
  ·rename_i hf
   obtain ⟨_,h⟩:=aK.cond h;rw [MS h];exact Rg hf (by simp) (by simp)
  ·exact h.elim
 ·exact h.elim
theorem Si {e b:Nat} {A A' : ao} {xs:List KV} {v:KV} (h:aK (F7 e b A xs) (v,A')):Sh A A':=by
 unfold F7 at h;split at h
 ·obtain ⟨_,h⟩:=aK.cond h
  obtain ⟨o,rfl⟩:=VB h;exact F9
 ·split at h
  ·rename_i hf
   obtain ⟨_,h⟩:=aK.cond h;obtain ⟨o,rfl⟩:=VB h;exact (Rg hf (by simp) (by simp)).trans F9
  ·exact h.elim
 ·exact h.elim
theorem aeb {e sz b:Nat} {mt:Bool} {A A' : ao} {xs:List KV} {v:KV} (h:aK (Kz e sz b mt A xs) (v,A')):Sh A A':=by
 unfold Kz at h;split at h
 ·split at h
  ·rename_i y' _
   revert h
   cases anN _ with
   | true=>exact fun h=>Si h
   | false=>
    cases mt with
    | true=>exact fun h=>Si h
    | false=>exact fun h=>agk h
  ·exact h.elim
 ·exact h.elim
theorem amN {c:Bool} {i:pn} {t:bq} {A:ao} {x:KV×ao} (h:aK (tl (cond c i .bad) t A) x):aK (tl i t A) x:=by
 cases c with
 | true=>exact h
 | false=>exact h.elim
theorem acm {cfg:dE} {o:Oper} {t:bq} {A A' : ao} {v:KV} (hs:Q9 o.op=true) (h:aK (tl (bP P cfg o.op) t A) (v,A')):Sh A A':=by
 revert hs h
 cases hop:o.op <;> intro hs h <;> simp [Q9] at hs
 ·rename_i T
  have h:aK (tl (om P T) t A) (v,A'):=h;unfold om at h;split at h
  ·rename_i z _
   cases hb:(flat z&&z.cells.toList.all scalar&&fY (ff z).cells) with
   | false=>rw [hb] at h; exact h.elim
   | true=>
    rw [hb,aj] at h;have h:(KV.ptr A.next 0,A.new (.row (ff z).cells (mJ P T)))=(v,A'):=h;simp only [dJ] at h;rw [<- h.2];exact F9
  ·exact h.elim
 ·rename_i T x
  have h:aK (ahr (mJ P T) A [jK t x]) (v,A'):=h;unfold ahr at h;simp only at h;obtain ⟨_,h⟩:=aK.cond h;have h:(KV.ptr A.next 0,A.new (.row (jK t x).cells (mJ P T)))=(v,A'):=h;simp only [dJ] at h;rw [<- h.2];exact F9
 ·rename_i c
  split at hs
  ·rename_i hc
   have h:aK (tl (kl P cfg c) t A) (v,A'):=h;unfold kl at h;rw [hc] at h;simp only [y4] at h;unfold Ib at h;split at h
   ·split at h
    ·split at h
     ·split at h
      ·exact aeb (amN h)
      ·exact h.elim
     ·exact h.elim
    ·exact h.elim
   ·exact h.elim
  ·simp at hs
theorem Zu {cfg:dE} {o:Oper} {T:TypeId} {a x:Operand} {t:bq} {A A' : ao} {v:KV} (ho:o.op = .store T a x) (h:aK (tl (bP P cfg o.op) t A) (v,A')) :
  A'.next=A.next/\∀ b,((∃ b2 off,jK t a = .ptr b2 off/\b≠b2)\/∃ U Tc c i k,jK t a = .ap U Tc c i k)->∀ cs e,A.get b=some (.row cs e)↔A'.get b=some (.row cs e):=by
 rw [ho] at h;have h:aK (Ve P T A [jK t a,jK t x]) (v,A'):=h;unfold Ve at h;split at h
 ·rename_i c off w heq
  simp only [List.cons.injEq,and_true] at heq;obtain ⟨_,h⟩:=aK.cond h;split at h
  ·split at h
   ·have h:(qf,_)=(v,A'):=h
    simp only [dJ] at h;rw [<- h.2];refine ⟨rfl,fun b hb cs e=>Pq (.inl ?_) cs e⟩;rcases hb with ⟨b2,an0,h1,h2⟩ | ⟨U,Tc,c',i,k,h1⟩
    ·rw [heq.1] at h1; simp at h1; rw [h1.1]; exact h2
    ·rw [heq.1] at h1; simp at h1
   ·exact h.elim
  ·exact h.elim
 ·rename_i U Tc c i k w heq
  split at h
  ·rename_i hA
   obtain ⟨_,h⟩:=aK.cond h;split at h
   ·have h:(qf,_)=(v,A'):=h
    simp only [dJ] at h;rw [<- h.2];refine ⟨rfl,fun b _ cs e=>?_⟩;by_cases hbc:b=c
    ·subst hbc
     exact Pq (.inr ⟨fun cs e q=>by rw [hA] at q; simp at q,by simp⟩) cs e
    ·exact Pq (.inl hbc) cs e
   ·exact h.elim
  ·exact h.elim
 ·exact h.elim
theorem TG {t:bq} {nx:Nat} : ∀ {l:List (Option Operand×Operand)},Tq t nx l=true->∀ p∈l,KB t nx p=true
 | [],_,p,hp=>by simp at hp
 | q::l,h,p,hp=>by
  have h:Bool.rec (motive:=fun _=>Bool) false (Tq t nx l) (KB t nx q)=true:=h;cases hq:KB t nx q with
  | false=>rw [hq] at h; simp at h
  | true=>
   rw [hq] at h;rcases dv.1 hp with rfl | hp
   ·exact hq
   ·exact TG h p hp
theorem Zv {i:Nat} {x:Tmp} : ∀ (os:List Oper) (k:Nat),tT i (.tmp x) os k=true->∀ j o,os[j]? = some o->i<=k+j->o.dst≠some x
 | [],k,_,j,o,ho,_=>by simp at ho
 | q::os,k,h,0,o,ho,hle=>by
  simp at ho;subst ho;simp only [tT,au,qe,jT] at h;rcases h.1 with h1 | h1
  ·rw [bO] at h1; omega
  ·intro e
   rw [e,zd (by simp [ph])] at h1;simp at h1
 | q::os,k,h,j+1,o,ho,hle=>by
  simp only [tT,au] at h;exact Zv os (k+1) h.2 j o (by simpa using ho) (by omega)
section
variable {cfg:dE} {all:List Oper} {L:List Out} {t0:bq} {A0:ao}
theorem agl {tn t1:bq} {i:Nat} {x:Operand} (RB:∀ y,tn.get y=(gH (fun _=>true) all L 0 t0).get y) (uQ:∀ y,t1.get y=(gH (fun j=>Nat.blt j i) all L 0 t0).get y) (h:tT i x all 0=true):jK tn x=jK t1 x:=by
 cases x with
 | tmp y=>
  simp only [jK];rw [RB y,uQ y,kr (S':=fun j=>Nat.blt j i) rfl fun j o ho hd=>?_];rw [bp]
  symm
  rw [bO];refine Nat.lt_of_not_le fun hle=>?_;exact Zv all 0 h j o ho (by omega) hd
 | const v=>rfl
 | global g=>rfl
 | func f=>rfl
theorem ahZ (j:Nat):(∃ q x,all[j]? = some q/\L[j]? = some x/\turns P cfg q x=true/\l8 P cfg (fun k=>Nat.blt k (j+1)) all L 0 A0=x.2.2)\/
  ((∀ q x,all[j]? = some q->L[j]? = some x->turns P cfg q x=false)/\l8 P cfg (fun k=>Nat.blt k (j+1)) all L 0 A0=l8 P cfg (fun k=>Nat.blt k j) all L 0 A0):=by
 by_cases h:∃ q x,all[j]? = some q/\L[j]? = some x/\turns P cfg q x=true
 ·obtain ⟨q,x,h1,h2,h3⟩:=h
  refine .inl ⟨q,x,h1,h2,h3,?_⟩;have:=ahX (A0:=A0) h1 h2 h3;exact this
 ·have hn:∀ q x,all[j]? = some q->L[j]? = some x->turns P cfg q x=false:=fun q x h1 h2=>by
   cases ht:turns P cfg q x with
   | false=>rfl
   | true=>exact absurd ⟨q,x,h1,h2,ht⟩ h
  refine .inr ⟨hn,Ik fun k q x hq hx ht=>?_⟩;rw [bp];have cH:k≠j:=fun e=>by subst e; rw [hn q x hq hx] at ht; simp at ht
  cases hb:Nat.blt k j with
  | true=>rw [bO] at hb ⊢; omega
  | false=>
   cases sS:Nat.blt k (j+1) with
   | false=>rfl
   | true=>
    rw [bO] at sS;have : ¬ k < j:=fun h=>by rw [<- bO,hb] at h; simp at h
    omega
theorem Zw (hf:Sg P cfg all) {S:Nat->Bool} (hc:oP all S):∀ n,∃ m,m<=n/\∀ j q x,j < n->all[j]? = some q->L[j]? = some x->turns P cfg q x=true->S j=Nat.blt j m
 | 0=>⟨0,aH 0,fun j q x hj=>by omega⟩
 | n+1=>by
  obtain ⟨m,hm,h⟩:=Zw hf hc n;by_cases hn:∃ q x,all[n]? = some q/\L[n]? = some x/\turns P cfg q x=true/\S n=true
  ·obtain ⟨q,x,h1,h2,h3,h4⟩:=hn
   have hq3:Nat.ble 3 (cX (bP P cfg q.op))=true:=by unfold turns at h3; simp only [au] at h3; exact h3.2
   have hk:cX (bP P cfg q.op)≠0:=by have:=dI hq3; omega
   have eK:=Po hf h1 hk fun T a e=>by rw [GC e] at hq3; simp at hq3
   refine ⟨n+1,aH _,fun j q' x' hj h5 h6 h7=>?_⟩;have hb:Nat.blt j (n+1)=true:=by rw [bO]; exact hj
   rw [hb];by_cases hjn:j=n
   ·subst hjn; exact h4
   ·have art:Nat.ble 3 (cX (bP P cfg q'.op))=true:=by unfold turns at h7; simp only [au] at h7; exact h7.2
    exact hc n j h4 ((eK j q' h5 art).1 (by omega))
  ·refine ⟨m,by omega,fun j q x hj h5 h6 h7=>?_⟩
   by_cases hjn:j=n
   ·subst hjn
    have hb:Nat.blt j m=false:=by
     cases hb:Nat.blt j m with
     | false=>rfl
     | true=>rw [bO] at hb; omega
    rw [hb];cases hs:S j with
    | false=>rfl
    | true=>exact absurd ⟨q,x,h5,h6,h7,hs⟩ hn
   ·exact h j q x (by omega) h5 h6 h7
theorem amO (hf:Sg P cfg all) {S:Nat->Bool} (hc:oP all S):∃ m,(∀ j q x,all[j]? = some q->L[j]? = some x->turns P cfg q x=true->S j=Nat.blt j m)/\l8 P cfg S all L 0 A0=l8 P cfg (fun j=>Nat.blt j m) all L 0 A0:=by
 obtain ⟨m,_,h⟩:=Zw (L:=L) hf hc all.length;have h' : ∀ j q x,all[j]? = some q->L[j]? = some x->turns P cfg q x=true->S j=Nat.blt j m:=fun j q x h1 h2 h3=>h j q x (cP.1 h1).1 h1 h2 h3;exact ⟨m,h',Ik fun j q x h1 h2 h3=>by rw [bp]; exact h' j q x h1 h2 h3⟩
def AtK (P:Program) (cfg:dE) (all:List Oper) (L:List Out) (t0:bq) (A0:ao):Prop:=∀ i o x,all[i]? = some o->L[i]? = some x->∃ t1,(∀ y,t1.get y=(gH (fun j=>Nat.blt j i) all L 0 t0).get y)/\(x.1=true->aK (tl (bP P cfg o.op) t1 (l8 P cfg (fun j=>Nat.blt j i) all L 0 A0)) (x.2.1,x.2.2))
theorem ah0 (yU:AtK P cfg all L t0 A0) (hpl:Tr P cfg all=true):∀ j,A0.next<=(l8 P cfg (fun k=>Nat.blt k j) all L 0 A0).next
 | 0=>by rw [TF (fun i=>by
   cases hb:Nat.blt i 0 with
   | false=>rfl
   | true=>rw [bO] at hb; omega)]; exact aH _
 | j+1=>by
  have ih:=ah0 yU hpl j;rcases ahZ (P:=P) (cfg:=cfg) (all:=all) (L:=L) (A0:=A0) j with ⟨q,x,h1,h2,h3,h4⟩ | ⟨_,h4⟩
  ·rw [h4]
   obtain ⟨t1,_,hg⟩:=yU j q x h1 h2;unfold turns at h3;simp only [au] at h3;have hg:=hg h3.1;have hp:=eM.1 hpl q (fR h1);simp only [qe,h3.2,Fl,HX,false_or] at hp;rcases hp with hp | hp
   ·exact kH ih (acm hp hg).1
   ·obtain ⟨a2,ha2⟩:=Option.isSome_iff_exists.1 hp
    unfold Vi at ha2;split at ha2
    ·rename_i T a3 v e
     rw [(Zu e hg).1]; exact ih
    ·simp at ha2
  ·rw [h4]; exact ih
theorem ah1 (hf:Sg P cfg all) {S:Nat->Bool} (hc:oP all S) {i:Nat} {o:Oper} {T:TypeId} {a:Operand} (ho:all[i]? = some o) (DJ:o.op = .load T a) (oj:S i=false) (sT:sH all S i) (hns : ¬ Vz P cfg all i)
  (yU:AtK P cfg all L t0 A0) {tn:bq} (RB:∀ y,tn.get y=(gH (fun _=>true) all L 0 t0).get y) (alT:Tq tn A0.next (Jw P cfg all)=true)
  {t1:bq} (uQ:∀ y,t1.get y=(gH (fun j=>Nat.blt j i) all L 0 t0).get y) {v:KV} {A1:ao} (hg:aK (tl (bP P cfg o.op) t1 (l8 P cfg (fun j=>Nat.blt j i) all L 0 A0)) (v,A1)) :
  aK (tl (bP P cfg o.op) t1 (l8 P cfg S all L 0 A0)) (v,l8 P cfg S all L 0 A0):=by
 have hk:cX (bP P cfg o.op)≠0:=by rw [GC DJ]; simp
 have hex:∃ p,p∈Jw P cfg all/\p.2=a/\tT i a all 0=true:=by
  refine Classical.byContradiction fun cH=>hns fun j q hq h3=>?_;rcases unordered hf ho hq hk h3 with h | ⟨p,h1,h2,h3,_⟩
  ·exact h
  ·obtain ⟨⟨T',e⟩,_⟩:=zc h2
   rw [DJ] at e;simp only [Op.load.injEq] at e;exact absurd ⟨p,h1,e.2.symm,by rw [e.2]; exact h3⟩ cH
 obtain ⟨p,hp,hpa,hnd⟩:=hex;have v7:=agl RB uQ hnd;have hpd:=TG alT p hp;have hpl:=hf.plain p hp;rw [DJ] at hg ⊢;have aru:∀ A,tl (bP P cfg (.load T a)) t1 A=(XD P T A [jK t1 a]).map fun v=>(v,A):=fun _=>rfl;rw [aru] at hg ⊢;obtain ⟨u,RA,he⟩:=aK.map hg;simp only [dJ] at he;obtain ⟨rfl,_⟩:=he;clear hg;have hg:=RA;clear RA;refine aK.zb (f:=fun v=>(v,l8 P cfg S all L 0 A0)) ?_;unfold KB at hpd;rw [hpa,v7] at hpd;cases hv:jK t1 a with
 | tp U Tc m k es acc=>rw [hv] at hg; exact hg
 | ptr b off=>
  rw [hv] at hg hpd;simp only [au] at hpd;have hb:=hpd.1;rw [bO] at hb;have eS:∃ cs e,(l8 P cfg (fun j=>Nat.blt j i) all L 0 A0).get b=some (.row cs e):=by
   have hg:aK (match UQ P T,size? P T with
    | some ag,some n=>match (K.rowAt (l8 P cfg (fun j=>Nat.blt j i) all L 0 A0) b).bind fun cs=>tR n (Bb off cs) with
     | some l=>cond ag (.ok (.agg l)) (match l with | [v]=>.ok v | _=>.no)
     | none=>.no
    | _,_=>.no) u:=hg
   split at hg
   ·split at hg
    ·rename_i l hl
     obtain ⟨cs,h1,_⟩:=cI.1 hl;unfold K.rowAt at h1;split at h1
     ·rename_i bV e h2; exact ⟨bV,e,h2⟩
     ·simp at h1
    ·exact hg.elim
   ·exact hg.elim
  obtain ⟨cs,e,eS⟩:=eS;obtain ⟨m,hm,eK⟩:=amO (L:=L) (A0:=A0) hf hc;have step:∀ k,(∀ q x,all[k]? = some q->L[k]? = some x->turns P cfg q x=true->¬ ((k < i->ox (dD [] all) i k=true)/\(i < k->ox (dD [] all) k i=true)))->
    ((l8 P cfg (fun j=>Nat.blt j k) all L 0 A0).get b=some (.row cs e)↔(l8 P cfg (fun j=>Nat.blt j (k+1)) all L 0 A0).get b=some (.row cs e)):=by
   intro k VE;rcases ahZ (P:=P) (cfg:=cfg) (all:=all) (L:=L) (A0:=A0) k with ⟨q,x,h1,h2,h3,h4⟩ | ⟨_,h4⟩
   ·rw [h4]
    have h3':=h3;unfold turns at h3';simp only [au] at h3';rcases unordered hf ho h1 hk h3'.2 with h5 | ⟨p',h5,h6,h7,h8⟩
    ·exact absurd h5 (VE q x h1 h2 h3)
    ·obtain ⟨tk,htk,hgk⟩:=yU k q x h1 h2
     have hgk:=hgk h3'.1;obtain ⟨⟨T',e1⟩,e2⟩:=zc h6;rw [DJ] at e1;simp only [Op.load.injEq] at e1;have ah2:=TG alT p' h5;unfold KB at ah2;rw [<- e1.2,v7,hv] at ah2;simp only [au] at ah2;rcases e2 with ⟨e2,e3⟩ | ⟨U,a2,v2,e2,e3⟩
     ·exact (acm e3 hgk).2 b (kJ hb (ah0 yU hpl k)) cs e
     ·refine (Zu e3 hgk).2 b ?_ cs e
      rw [e2] at ah2 h8;have Te:=agl RB htk h8;have h9:=ah2.2;simp only at h9;rw [Te] at h9;split at h9
      ·rename_i b2 an0 e4
       refine .inl ⟨b2,an0,e4,fun e5=>?_⟩;subst e5;simp at h9
      ·rename_i U' Tc' c' i' k' e4; exact .inr ⟨_,_,_,_,_,e4⟩
      ·simp at h9
   ·rw [h4]
  have aqC:(l8 P cfg S all L 0 A0).get b=some (.row cs e):=by
   rw [eK];rcases Nat.le_total m i with hle | hle
   ·have down:∀ d k,k+d=i->m<=k->(l8 P cfg (fun j=>Nat.blt j k) all L 0 A0).get b=some (.row cs e):=by
     intro d
     induction d with
     | zero=>intro k hk _; have:k=i:=by omega
             rw [this]; exact eS
     | succ d ih=>
      intro k hk Vr;refine (step k fun q x h1 h2 h3 KU=>?_).2 (ih (k+1) (by omega) (by omega));have h4:=hm k q x h1 h2 h3;have h5:S k=true:=hc.ready hf.XY ho sT k (KU.1 (by omega));rw [h5] at h4;have h4:=h4.symm;rw [bO] at h4;omega
    exact down (i - m) m (by omega) (aH m)
   ·have up:∀ d,i+d<=m->(l8 P cfg (fun j=>Nat.blt j (i+d)) all L 0 A0).get b=some (.row cs e):=by
     intro d
     induction d with
     | zero=>intro _; exact eS
     | succ d ih=>
      intro hd;refine (step (i+d) fun q x h1 h2 h3 KU=>?_).1 (ih (by omega));have h4:=hm (i+d) q x h1 h2 h3;have h5:Nat.blt (i+d) m=true:=by rw [bO]; omega
      rw [h5] at h4;by_cases hd0:d=0
      ·subst hd0
       rw [yL] at h4;rw [oj] at h4; simp at h4
      ·have:=hc (i+d) i h4 (KU.2 (by omega))
       rw [oj] at this; simp at this
    have:=up (m - i) (by omega);rwa [show i+(m - i)=m by omega] at this
  have DF:K.rowAt (l8 P cfg S all L 0 A0) b=K.rowAt (l8 P cfg (fun j=>Nat.blt j i) all L 0 A0) b:=by
   unfold K.rowAt;rw [eS,aqC]
  show aK (match UQ P T,size? P T with
    | some ag,some n=>match (K.rowAt (l8 P cfg S all L 0 A0) b).bind fun cs=>tR n (Bb off cs) with
     | some l=>cond ag (.ok (.agg l)) (match l with | [v]=>.ok v | _=>.no)
     | none=>.no
    | _,_=>.no) u
  rw [DF];exact hg
 | _=>rw [hv] at hpd; simp at hpd
end
theorem aec {R:Type} {cfg:dE} {bz:mj R} (gw:ru P cfg.pc) (hm:P.follows .mixedOrders=true) {id:Nat} {all:List Oper} {N base:Nat} (hdN:all.all (Jl N)=true) {k:bq->ao->Option R} {r:R} {t:bq} {A:ao} {B:St} {ρ:Ren} {a:Act} {w:World} {Q:Exit->Act->World->Prop}
  (KU:ahx P cfg all=true) (h:rp P cfg bz all (fun t' A'=>Bool.rec (motive:=fun _=>Option R) none (k t' A') (Tq t' A.next (Jw P cfg all))) all t A=some r) (ht:jf P E ρ t N a) (hj:KJ P E A B ρ base w)
  (hq:∀ t' E' A' B' aJ a' w',k t' A' = some r->jf P E' aJ t' N a'->a'.defers=a.defers->Ev P base E A B ρ w E' A' B' aJ w'->Q .normal a' w'):(Code.region id ⟨all⟩ true).wp P Q a w:=by
 have hf:=ahW KU;obtain ⟨L,tn,An,j5,hk⟩:=Vv (fun o ho f args=>Bm (hf.kind o ho) f args) h;obtain ⟨hlen,RB,hAn,yU⟩:=j5.at;have hdk:Tq tn A.next (Jw P cfg all)=true/\k tn An=some r:=by
  cases hd:Tq tn A.next (Jw P cfg all) with
  | false=>simp only [hd] at hk; exact absurd hk (by simp)
  | true=>simp only [hd] at hk; exact ⟨rfl,hk⟩
 obtain ⟨alT,hk⟩:=hdk;have arv:AtK P cfg all L t A:=fun i o x ho hx=>by obtain ⟨t1,q1,_,q3,_⟩:=yU i o x ho hx; exact ⟨t1,q1,q3⟩
 have Pr:Ev P base E A B ρ w E A B ρ w.drew:=(df.refl hj.k).ev (jG.drew hj.s);refine wp_region_any hm ?_;show wpAny P .any ⟨all⟩ Q all.length (Array.replicate all.length false) a w.drew;have DN:∀ i,(Array.replicate all.length false).getD i false=false:=by
  intro i;rw [fQ,Array.getElem?_replicate];split <;> rfl
 let Inv:(Nat->Bool)->Act->World->Prop:=fun S a' w'=>∃ E' B' aJ,a'.defers=a.defers/\Ev P base E A B ρ w.drew E' (l8 P cfg S all L 0 A) B' aJ w'/\jf P E' aJ (gH S all L 0 t) N a'
 refine Fv hf.XY Inv ?_ ?_ ?_ all.length _ a w.drew (by simp) ?_ (fun i j hi _=>by
   have h2:(Array.replicate all.length false).getD i false=true:=hi;rw [DN] at h2; simp at h2) ⟨E,B,ρ,rfl,?_,?_⟩
 ·
  rintro S S' a' w' hSS ⟨E',B',aJ,h1,h2,h3⟩;have e1:l8 P cfg S all L 0 A=l8 P cfg S' all L 0 A:=Ik fun i o x ho _ _=>by rw [bp]; exact hSS i (cP.1 ho).1
  refine ⟨E',B',aJ,h1,by rw [<- e1]; exact h2,h3.same fun y=>?_⟩;exact kr rfl fun i o ho _=>by rw [bp]; exact (hSS i (cP.1 ho).1).symm
 ·
  rintro S a' w' i o ⟨E',B',aJ,h1,h2,h3⟩ hc ho oj sT _;have hi:i < L.length:=by rw [hlen]; exact (cP.1 ho).1
  have hx:L[i]? = some L[i]:=cM hi;obtain ⟨t1,uQ,hw,ah3,VE⟩:=yU i o L[i] ho hx;have xk:∀ y∈lV P cfg all o,t1.get y=(gH S all L 0 t).get y:=fun y hy=>by rw [uQ y,ack hf.toT hc ho oj sT hy]
  have MT:=C7 h3 (fun y hy=>xk y (by unfold lV; exact List.mem_append_left _ hy)) hw;have GB:∀ d,o.dst=some d->d < N:=by
   intro d ed;have:=eM.1 hdN o (fR ho);unfold Jl at this;rw [ed] at this;simp only at this;rw [bO] at this;exact this
  have hoA:(⟨all⟩:Array Oper)[i]? = some o:=by simpa using ho
  unfold wpOp;rw [hoA];simp only [MT];cases Fz:L[i].1 with
  | false=>
   simp only [HX,if_false];have hv:=VE Fz;refine ⟨E',B',aJ,by rw [put_defers]; exact h1,?_,?_⟩
   ·rw [wJ ho hx (by unfold turns; rw [Fz]; rfl)]
    exact h2
   ·refine (h3.put GB VC.undef).same fun y=>?_
    rw [KT hf.toT hc ho hx oj y,hv]
  | true=>
   simp only [if_true];refine .inl ?_;have hg:=ah3 Fz;have hgS:∃ A1,aK (tl (bP P cfg o.op) t1 (l8 P cfg S all L 0 A)) (L[i].2.1,A1)/\l8 P cfg (cF S i) all L 0 A=A1:=by
    by_cases tI:cX (bP P cfg o.op)=0
    ·refine ⟨_,ahY hg tI,wJ ho hx ?_⟩
     unfold turns;rw [tI,show Nat.ble 3 0=false from rfl,Bool.and_false]
    ·by_cases eK:Vz P cfg all i
     ·rw [VA (L:=L) (A0:=A) hf hc ho oj sT eK]
      refine ⟨_,hg,?_⟩;cases RB:turns P cfg o L[i] with
      | true=>exact ake hf hc ho hx oj sT RB
      | false=>
       have h4:=Bl hg (by simpa [turns,Fz] using RB);rw [wJ ho hx RB,VA (L:=L) (A0:=A) hf hc ho oj sT eK,h4]
     ·have hex:∃ T a,o.op = .load T a:=Classical.byContradiction fun cH=>eK (Po hf ho tI fun T a e=>cH ⟨T,a,e⟩)
      obtain ⟨T,a',DJ⟩:=hex;refine ⟨_,ah1 hf hc ho DJ oj sT eK arv RB alT uQ hg,wJ ho hx ?_⟩;unfold turns;rw [GC DJ,show Nat.ble 3 1=false from rfl,Bool.and_false]
   obtain ⟨A1,hg1,hA1⟩:=hgS;refine MO gw hg1 (fun x hxm=>Pp h3 fun y e=>xk y ?_) h2.kj fun HV JB sf v' HQ h4 h5=>?_
   ·unfold lV
    subst e;exact List.mem_append_right _ (jH hxm)
   ·refine ⟨HV,JB,sf,by rw [put_defers]; exact h1,?_,?_⟩
    ·rw [hA1]; exact h2.trans h5
    ·refine ((h3.mono h5.le (h5.eF.le h2.eF.gX)).put GB h4).same fun y=>?_
     rw [KT hf.toT hc ho hx oj y]
 ·
  rintro S a' w' kh ⟨E',B',aJ,h1,h2,h3⟩;have e1:l8 P cfg S all L 0 A=An:=by rw [hAn]; exact Ik fun i o x ho _ _=>by rw [bp]; exact kh i (cP.1 ho).1
  rw [e1] at h2;refine hq tn E' An B' aJ a' w' hk (h3.same fun y=>?_) h1 (Pr.trans h2);rw [RB y];exact kr rfl fun i o ho _=>by rw [bp]; exact (kh i (cP.1 ho).1).symm
 ·simp
 ·rw [TF DN]
  exact .refl hj.k Pr.eF.gX
 ·refine ht.same fun y=>?_
  rw [MR DN]
end Go.K
end
section
namespace Go.K
open Go Go.aq
variable {P:Program} {E:Env}
theorem arw {A:ao} {B:St} {bV:List Value} {bH:Nat} (h:dU P E A B):df P E A B E A (B.new (.row bV bH true none)):=by
 have xi:∀ x,AR A E x->(B.new (.row bV bH true none)).get x=B.get x:=fun x q=>by have:=h.Ih q; rw [St.cS,ak (by omega)]
 refine ⟨⟨?_,?_,?_,h.apart,h.inj,h.ib,h.jx,h.kQ,h.live,?_,?_,?_,?_,?_,h.ar.eY (Env.le_refl _) (fun _=>rfl) (fun _ _ e=>e) (fun _ _ e=>e) (aH _) (by simp) xi (fun _ _ e=>.inl e) (fun _ _ e=>.inl e) (fun b g e=>.inl ⟨b,e⟩) (fun _ _=>by simp) h.mem⟩,Env.le_refl _,aH _,?_,fun _ _ e=>.inl e,fun _ _ e=>.inl e,fun _ _ e=>.inl e,fun _ _ _ _=>by simp,fun _ q=>.inl q,fun _ q=>.inl (q.of (fun _=>rfl) (fun _ _ e=>e) xi),fun _ _ q=>.inl (by simpa using q),fun _ q=>.inl (q.of (fun _=>rfl) (fun _ _ e=>e) xi fun _ _=>by simp),kS ab3⟩
 ·intro b kL Pe hb
  obtain ⟨x,c,h1,h2,h3⟩:=h.row b kL Pe hb;have:=h.fk b x h1;exact ⟨x,c,h1,by rw [St.cS,ak (by omega)]; exact h2,h3⟩
 ·intro b top DM hb
  rcases h.aQ b top DM hb with h1 | ⟨g,h1,hp0,h2⟩
  ·exact .inl h1
  ·refine .inr ⟨g,h1,hp0,fun x hx c e own f k hg=>?_⟩
   rw [St.cS] at hg;split at hg
   ·simp at hg
   ·exact h2 x (by simpa using hx) c e own f k hg
 ·intro b r hb
  have:=h.kR b r hb;rw [St.cS,ak (by omega)];exact h.z b r hb
 ·intro b x hb; have:=h.fk b x hb; rw [St.b7]; omega
 ·intro b r hb; have:=h.kR b r hb; rw [St.b7]; omega
 ·intro b g hb; have:=h.iR b g hb; rw [St.b7]; omega
 ·intro g hg; rw [St.b7] at hg; rw [St.iA]; exact h.fresh g (by omega)
 ·intro g x hx; rw [St.iA] at hx; rw [St.b7]; have:=h.mem g x hx; omega
 ·intro x hx _ _; rw [St.cS,ak (by omega)]
structure Fr (E:Env) (A:ao) (B:St) (b0 y:Nat):Prop where
 lo:b0<=y
 hi:y < B.next
 un:∀ b,E.κ b≠some y
 z:E.z y=none
 lO : ¬ AT A E B y
theorem Fr.step {A A' : ao} {B B' : St} {E' : Env} {b0 y base:Nat} {ρ aJ:Ren} {w w' : World} (h:Fr E A B b0 y) (k:Ev P base E A B ρ w E' A' B' aJ w'):Fr E' A' B' b0 y/\B'.get y=B.get y:=by
 have hn:=k.eF.next;refine ⟨⟨h.lo,kJ h.hi hn,fun b e=>?_,?_,fun q=>?_⟩,k.eY y h.hi h.un h.lO⟩
 ·rcases k.new b y e with e | e
  ·exact h.un b e
  ·have:=h.hi; omega
 ·cases hz:E'.z y with
  | none=>rfl
  | some r=>
   rcases k.sh y r hz with e | e | e
   ·rw [h.z] at e; simp at e
   ·exact absurd (.inl e) h.lO
   ·have:=h.hi; omega
 ·rcases k.nu y q with e | e
  ·exact h.lO e
  ·have:=h.hi; omega
theorem arx {E0:Env} {A0 A:ao} {B0 B:St} {XA ρ aJ:Ren} {w0 w w' : World} {base y bH:Nat} {kL bV:List Value} (h:Ev P base E0 A0 B0 XA w0 E A B ρ w) (hy:Fr E A B B0.next y) (hold:B.get y=some (.row kL bH true none))
  (g:jG base ρ B w aJ (B.put y (.row bV bH true none)) w'):Ev P base E0 A0 B0 XA w0 E A (B.put y (.row bV bH true none)) aJ w':=by
 have hs:=h.gX;have xi:∀ x,AR A E x->(B.put y (.row bV bH true none)).get x=B.get x:=fun x q=>by
  rw [St.b5,ak];intro e;subst e;exact hy.lO (.inl q)
 have JA:∀ q,AF A E (B.put y (.row bV bH true none)) q->AF A E B q:=fun q r=>r.of (fun _=>rfl) (fun _ _ e=>e) xi;have hAT:∀ q,AT A E (B.put y (.row bV bH true none)) q->AT A E B q:=fun q r=>r.of (fun _=>rfl) (fun _ _ e=>e) xi fun _ _=>by simp
 refine ⟨⟨?_,?_,?_,hs.apart,hs.inj,hs.ib,hs.jx,hs.kQ,hs.live,hs.fk,hs.kR,hs.iR,?_,?_,hs.ar.eY (Env.le_refl _) (fun _=>rfl) (fun _ _ e=>e) (fun _ _ e=>e) (aH _) (aH _) xi (fun _ _ e=>.inl e) (fun _ _ e=>.inl e) (fun b g e=>.inl ⟨b,e⟩) (fun _ _=>by simp) hs.mem⟩,h.eF.trans g,h.le,h.next,?_,h.new,h.sh,h.si,?_,h.lN,fun q r=>h.ml q (JA q r),?_,fun q r=>h.nu q (hAT q r),?_⟩
 ·intro b cs e hb
  obtain ⟨x,c,h1,h2,h3⟩:=hs.row b cs e hb;refine ⟨x,c,h1,?_,h3⟩;rw [St.b5,ak (fun e=>hy.un b (by rw [<- e]; exact h1))];exact h2
 ·intro b top sz hb
  rcases hs.aQ b top sz hb with h1 | ⟨q,h1,hp0,h2⟩
  ·exact .inl h1
  ·refine .inr ⟨q,h1,hp0,fun x hx c e own f k hg=>?_⟩
   rw [St.b5] at hg;split at hg
   ·simp at hg
   ·exact h2 x (by simpa using hx) c e own f k hg
 ·intro b r hb
  rw [St.b5,ak]
  ·exact hs.z b r hb
  ·intro e
   subst e;rw [hy.z] at hb;simp at hb
 ·intro q hq; rw [St.rC]; exact hs.fresh q hq
 ·intro q x hx; rw [St.rC] at hx; exact hs.mem q x hx
 ·intro x hx hn ha
  rw [St.b5,ak (fun e=>by have:=hy.lo; omega)];exact h.eY x hx hn ha
 ·intro q hq hn ha; rw [St.rC]; exact h.oX q hq hn ha
 ·intro q x hx; rw [St.rC] at hx; exact h.tU q x hx
 ·intro x hx c e own bQ hg
  rw [St.b5,ak (fun e=>by have:=hy.lo; omega)] at hg;exact h.rows x hx c e own bQ hg
theorem aqD {E0:Env} {A0 A:ao} {B0 B:St} {XA ρ:Ren} {w0 w:World} {base y bH:Nat} {cs:List KV} {bV:List Value} (h:Ev P base E0 A0 B0 XA w0 E A B ρ w) (hy:Fr E A B B0.next y) (hold:B.get y=some (.row bV bH true none)) (hv:ba P E cs bV) :
  E.le (E.ko A.next y)/\Ev P base E0 A0 B0 XA w0 (E.ko A.next y) (A.new (.row cs bH)) B ρ w:=by
 have hs:=h.gX;have hle:E.le (E.ko A.next y):=⟨fun _ _ e=>e,fun b x e=>by
  have:=hs.jx b x e;simp only [Env.ko]; rw [ak (by omega)]; exact e,fun _ _ e=>e,fun _ _ e=>e⟩
 have hA:∀ (b:Nat) (v:KV),(A.new (.row cs bH)).get b=some (.arr v)->A.get b=some (.arr v):=fun b v hb=>by
  rw [ao.cS] at hb;split at hb
  ·simp at hb
  ·exact hb
 have XP:∀ (b:Nat) (v:KV),(A.new (.row cs bH)).get b=some (.il v)->A.get b=some (.il v):=fun b v hb=>by
  rw [ao.cS] at hb;split at hb
  ·simp at hb
  ·exact hb
 have pU:∀ x,AR (A.new (.row cs bH)) (E.ko A.next y) x->AR A E x:=fun _ q=>q.of (fun _=>rfl) hA;have JA:∀ g,AF (A.new (.row cs bH)) (E.ko A.next y) B g->AF A E B g:=fun _ q=>q.of (fun _=>rfl) hA fun _ _=>rfl;have hAT:∀ x,AT (A.new (.row cs bH)) (E.ko A.next y) B x->AT A E B x:=fun _ q=>q.of (fun _=>rfl) hA (fun _ _=>rfl) fun _ _=>rfl;refine ⟨hle,⟨⟨?_,?_,hs.z,?_,?_,?_,?_,?_,?_,?_,hs.kR,hs.iR,hs.fresh,hs.mem,?_⟩,h.eF,Env.le_trans h.le hle,by have:=h.next; rw [ao.b7]; omega,h.eY,?_,h.sh,h.si,h.oX,fun x q=>h.lN x (pU x q),fun g q=>h.ml g (JA g q),h.tU,fun x q=>h.nu x (hAT x q),h.rows⟩⟩
 ·intro b kL Pe hb
  rw [ao.cS] at hb;split at hb
  ·rename_i e
   simp at hb;obtain ⟨rfl,rfl⟩:=hb;exact ⟨y,bV,by simp [Env.ko,e],hold,hv.mono hle⟩
  ·obtain ⟨x,c,h1,h2,h3⟩:=hs.row b kL Pe hb
   exact ⟨x,c,hle.κ _ _ h1,h2,h3.mono hle⟩
 ·intro b top DM hb
  rw [ao.cS] at hb;split at hb
  ·simp at hb
  ·exact hs.aQ b top DM hb
 ·intro b x hb
  simp only [Env.ko] at hb ⊢;split at hb
  ·simp at hb; subst hb; exact hy.z
  ·exact hs.apart b x hb
 ·intro b c x hb hc
  simp only [Env.ko] at hb hc;split at hb <;> split at hc
  ·omega
  ·simp at hb; subst hb; exact absurd hc (hy.un c)
  ·simp at hc; subst hc; exact absurd hb (hy.un b)
  ·exact hs.inj b c x hb hc
 ·exact Fx.new (E:=E.ko A.next y) (fun x z g a b c d e f hx hz=>hs.ib x z g a b c d e f hx hz) (.inl fun _ _=>by simp)
 ·intro b x hb
  simp only [Env.ko] at hb;rw [ao.b7];split at hb
  ·omega
  ·have:=hs.jx b x hb; omega
 ·intro b g hb; have:=hs.kQ b g hb; rw [ao.b7]; omega
 ·intro b o hb
  rw [ao.cS] at hb;rw [ao.b7];split at hb
  ·omega
  ·have:=hs.live b o hb; omega
 ·intro b x hb
  simp only [Env.ko] at hb;split at hb
  ·simp at hb; have:=hy.hi; omega
  ·exact hs.fk b x hb
 ·have pq:∀ b,(E.ko A.next y).α b=E.α b:=fun _=>rfl
  have HS:∀ c x,(E.ko A.next y).κ c=some x->(c=A.next/\x=y)\/E.κ c=some x:=fun c x e=>by
   simp only [Env.ko] at e;split at e
   ·rename_i e1; simp at e; exact .inl ⟨e1,e.symm⟩
   ·exact .inr e
  refine ⟨fun b v hb=>(hs.ar.arr b v (hA _ _ hb)).mono hle rfl fun _ _ _ _=>rfl,fun b v hb=>(hs.ar.il b v (XP _ _ hb)).mono hle rfl,fun x q=>?_,fun b c v u x L N L' N' h1 h2 h3 h4=>hs.ar.inj b c v u x L N L' N' (hA _ _ h1) (hA _ _ h2) h3 h4,
   fun b c v u x z L N L' N' cs e own g k bV e' od k' h1 h2 h3 h4 h5 h6=>hs.ar.tg b c v u x z L N L' N' cs e own g k bV e' od k' (hA _ _ h1) (hA _ _ h2) h3 h4 h5 h6,fun b x e=>?_,fun b p e=>?_,fun b x L N e=>hs.ar.fk b x L N e,fun b v x L N cs e own g k h1 h2 h3=>?_,fun b v hb=>?_⟩
  ·obtain ⟨h1,h2⟩:=hs.ar.z x (pU x q)
   refine ⟨h1,fun c e=>?_⟩;rcases HS c x e with ⟨_,rfl⟩ | e
   ·exact hy.lO (.inl (pU _ q))
   ·exact h2 c e
  ·rcases HS b x e with ⟨rfl,_⟩ | e
   ·cases hb:E.α A.next with
    | none=>exact hb
    | some p=>have:=hs.ar.jx _ p hb; omega
   ·exact hs.ar.dis b x e
  ·have:=hs.ar.jx b p e; rw [ao.b7]; omega
  ·obtain ⟨h4,h5,h6⟩:=hs.ar.rq b v x L N cs e own g k (hA _ _ h1) h2 h3
   refine ⟨h4,h5,fun z hz cH=>?_⟩;obtain ⟨h7,h8,h9⟩:=h6 z hz cH;refine ⟨h7,fun q=>h8 (pU z q),fun c e'=>?_⟩;rcases HS c z e' with ⟨_,rfl⟩ | e'
   ·exact hy.lO (.inr ⟨g,⟨b,v,x,L,N,cs,e,own,k,hA _ _ h1,h2,h3⟩,hz⟩)
   ·exact h9 c e'
  ·obtain ⟨h1,h2⟩:=hs.ar.nk b v (hA _ _ hb)
   rw [ao.b7];refine ⟨by omega,?_⟩;cases hk:(E.ko A.next y).κ b with
   | none=>rfl
   | some x=>
    rcases HS b x hk with ⟨e,_⟩ | e
    ·omega
    ·rw [h2] at e; simp at e
 ·intro b x hb
  simp only [Env.ko] at hb;split at hb
  ·simp at hb; subst hb; exact .inr hy.lo
  ·exact h.new b x hb
theorem akf {cfg:dE} (gw:ru P cfg.pc) {o:Oper} {p:Operand×List Operand} (hp:KF o=some p) {t:bq} {A A' : ao} {v:KV} {base:Nat} {B:St} {ρ:Ren} {a:Act} {w:World} {next:Act->World->Prop} {Q:Exit->Act->World->Prop}
  (h:aK (tl (Fw P cfg t p) t A) (v,A')) (hv:∀ x∈p.1::p.2,VC P E ρ (jK t x) (a.eval x)) (hj:KJ P E A B ρ base w)
  (hk:∀ E' B' aJ v' w',VC P E' aJ v v'->Ev P base E A B ρ w E' A' B' aJ w'->next (a.put o.dst v') w'):o.wp P a w next Q:=by
 classical
 have aR:compile P o.op = .call p.1 p.2:=by
  unfold KF at hp;split at hp
  ·rename_i c ho hg
   split at hp
   ·rename_i d hc
    simp at hp;subst hp;rw [ho];exact Zr (cfg:=dE.none) (show kl P dE.none c=_ by unfold kl; rw [hc])
   ·simp at hp
  ·simp at hp
 unfold Fw at h;split at h
 ·rename_i g hfv
  split at h
  ·rename_i F hF
   obtain ⟨u,h1,h2⟩:=aK.map h;simp only [dJ] at h2;obtain ⟨rfl,rfl⟩:=h2;obtain ⟨hlen,hf⟩:=aK.cond h1;obtain ⟨hg,j5⟩:=gw g F hF _ _ hf (aW hlen);have cQ:=pj P o;rw [aR] at cQ;obtain ⟨em,h3,h4⟩:=mid (xs:=p.1::p.2) hv;obtain ⟨y,ys,e,h5,h6⟩:=h3.cons_inv;simp only [List.map_cons,List.cons.injEq] at e;obtain ⟨rfl,rfl⟩:=e;rw [hfv] at h5;obtain ⟨l,m,e5,e6,e7⟩:=h5.Ie;have:=e6.bZ;subst this;have:=e7.bZ;subst this;obtain ⟨cE,h7,h8⟩:=cQ.2 ρ em a.eval g (p.2.map em) h4 hg.1 (by rw [e5]; simp only [tP]; rw [hg.1]; simp) hg.2;unfold Oper.wp;rw [h8 w];refine (j5 E A B ρ base w cE ⟨p.2.map em,by rw [qD]; exact h6,h7⟩ hj).mono ?_;rintro e w' ⟨v',E',B',aJ,rfl,h9,rK⟩;exact hk E' B' aJ v' w' h9 rK
  ·exact h.elim
 ·exact h.elim
inductive Zx (P:Program) (cfg:dE) (all:List Oper) (A:ao):List Oper->bq->List Out->bq->Prop where
 | nil {t:bq} : Zx P cfg all A [] t [] t
 | cons {o:Oper} {os:List Oper} {t t1 t' : bq} {wd:Bool} {v:KV} {L:List Out}
   (same:∀ i,t1.get i=t.get i) (want:MQ all o t wd)
   (yes:wd=true->(oW all o=true/\v = .bA)\/(oW all o=false/\(aK (tl (bP P cfg o.op) t1 A) (v,A)\/∃ p,KF o=some p/\aK (tl (Fw P cfg t1 p) t1 A) (v,A)))) (no:wd=false->v=qf/\oW all o=false)
   (rest:Zx P cfg all A os (oy t1 o.dst v) L t'):Zx P cfg all A (o::os) t ((wd,v,A)::L) t'
theorem pt {o:Oper} {T:TypeId} {d:Tmp} (h:fy o=some (T,d)):o.op = .alloc T/\o.guard=none/\o.dst=some d:=by
 unfold fy at h;split at h
 ·rename_i T' d' h1 h2 h3
  simp at h;obtain ⟨rfl,rfl⟩:=h;exact ⟨h1,h2,h3⟩
 ·simp at h
theorem C8 {all:List Oper} {o:Oper} {T:TypeId} {d:Tmp} {x:Operand} (h:qx all o=some (T,d,x)):o.op = .store T (.tmp d) x/\o.guard=none/\o.dst=none/\uL d all=true:=by
 unfold qx at h;split at h
 ·rename_i T' d' x' h1 h2 h3
  cases hb:uL d' all with
  | false=>rw [hb] at h; simp at h
  | true=>
   rw [hb,aj] at h;simp at h;obtain ⟨rfl,rfl,rfl⟩:=h;exact ⟨h1,h2,h3,hb⟩
 ·simp at h
theorem TH {all:List Oper} {o:Oper} (h:oW all o=true):(∃ T d,fy o=some (T,d))\/∃ T d x,qx all o=some (T,d,x):=by
 unfold oW at h;simp only [qe,Option.isSome_iff_exists] at h;rcases h with ⟨⟨T,d⟩,h⟩ | ⟨⟨T,d,x⟩,h⟩
 ·exact .inl ⟨T,d,h⟩
 ·exact .inr ⟨T,d,x,h⟩
theorem akg {all:List Oper} {o:Oper} (h:oW all o=true):o.guard=none:=by
 rcases TH h with ⟨T,d,h⟩ | ⟨T,d,x,h⟩
 ·exact (pt h).2.1
 ·exact (C8 h).2.1
theorem GD {R:Type} {cfg:dE} {bz:mj R} {all:List Oper} {k:bq->ao->Option R} {r:R} : ∀ {os:List Oper} {t:bq} {A:ao},(∀ o∈os,oW all o=true\/cX (bP P cfg o.op)<=1\/(KF o).isSome=true)->abP P cfg bz all k os t A=some r->
  ∃ L t',Zx P cfg all A os t L t'/\k t' A=some r
 | [],t,A,_,h=>⟨[],t,.nil,h⟩
 | o::os,t,A,hn,h=>by
  have h:ajZ P cfg bz all o (abP P cfg bz all k os) t A=some r:=h;have Mo:=fun q hq=>hn q (uF o hq);unfold ajZ at h;cases hb:oW all o with
  | true=>
   rw [hb] at h;have h:abP P cfg bz all k os (oy t o.dst .bA) A=some r:=h;obtain ⟨L,t',h1,h2⟩:=GD Mo h;exact ⟨_,t',.cons (fun _=>rfl) (.inl ⟨akg hb,rfl⟩) (fun _=>.inl ⟨hb,rfl⟩) (fun e=>by simp at e) h1,h2⟩
  | false=>
   rw [hb] at h;cases hdy:KF o with
   | some p=>
    simp only [hdy] at h;have h:O5 bz t A (fun v A=>abP P cfg bz all k os (oy t o.dst v) A) (Fw P cfg t p)=some r:=h;have hg:o.guard=none:=by
     unfold KF at hdy;split at hdy
     ·assumption
     ·simp at hdy
    have alU:Fw P cfg t p = .bad\/∃ g f,Fw P cfg t p = .Ba g f p.2:=by
     unfold Fw;split
     ·split
      ·exact .inr ⟨_,_,rfl⟩
      ·exact .inl rfl
     ·exact .inl rfl
    obtain ⟨v,A1,h1,h2⟩:=Ij (fun f args e=>by
     rcases alU with h | ⟨g,f',h⟩ <;> rw [h] at e <;> simp at e) h
    have e:A1=A:=by
     rcases alU with h | ⟨g,f',h⟩
     ·rw [h] at h1; exact h1.elim
     ·rw [h] at h1
      obtain ⟨u,_,h3⟩:=aK.map h1;simp at h3;exact h3.2.symm
    subst e;obtain ⟨L,t',h3,h4⟩:=GD Mo h2;exact ⟨_,t',.cons (fun _=>rfl) (.inl ⟨hg,rfl⟩) (fun _=>.inr ⟨hb,.inr ⟨p,hdy,h1⟩⟩) (fun e=>by simp at e) h3,h4⟩
   | none=>
   simp only [hdy] at h;have hk:cX (bP P cfg o.op)<=1:=by
    rcases hn o (by simp) with e | e | e
    ·rw [hb] at e; simp at e
    ·exact e
    ·rw [hdy] at e; simp at e
   have hk3:Nat.ble 3 (cX (bP P cfg o.op))=false:=by
    cases hc:Nat.ble 3 (cX (bP P cfg o.op)) with
    | false=>rfl
    | true=>have:=dI hc; omega
   have hnc:=Bm (P:=P) (cfg:=cfg) (o:=o) (by omega);have h:xg P cfg bz all o (abP P cfg bz all k os) t A=some r:=h;unfold xg at h;cases hg:o.guard with
   | none=>
    rw [hg] at h;obtain ⟨v,A1,h1,h2⟩:=Ij hnc h;have e:=Bl h1 hk3;subst e;obtain ⟨L,t',h3,h4⟩:=GD Mo h2;exact ⟨_,t',.cons (fun _=>rfl) (.inl ⟨hg,rfl⟩) (fun _=>.inr ⟨hb,.inl h1⟩) (fun e=>by simp at e) h3,h4⟩
   | some p=>
    obtain ⟨j,want⟩:=p;rw [hg] at h;obtain ⟨d,hd,h⟩:=MP h;rcases h with ⟨b,t1,h1,h2,h3⟩ | ⟨l,h1,h2⟩
    ·rcases h3 with ⟨h3,h4⟩ | ⟨h3,h4⟩
     ·obtain ⟨v,A1,h5,h6⟩:=Ij hnc h4
      have e:=Bl h5 hk3;subst e;obtain ⟨L,t',h7,h8⟩:=GD Mo h6;exact ⟨_,t',.cons h2 (.inr ⟨j,want,d,hg,hd,.inl ⟨b,h1,h3.symm⟩⟩) (fun _=>.inr ⟨hb,.inl h5⟩) (fun e=>by simp at e) h7,h8⟩
     ·obtain ⟨L,t',h7,h8⟩:=GD Mo h4
      exact ⟨_,t',.cons h2 (.inr ⟨j,want,d,hg,hd,.inl ⟨b,h1,h3.symm⟩⟩) (fun e=>by simp at e) (fun _=>⟨rfl,hb⟩) h7,h8⟩
    ·obtain ⟨L,t',h7,h8⟩:=GD Mo h2
     exact ⟨_,t',.cons (fun _=>rfl) (.inr ⟨j,want,d,hg,hd,.inr ⟨l,h1,rfl⟩⟩) (fun e=>by simp at e) (fun _=>⟨rfl,hb⟩) h7,h8⟩
theorem Zx.at {cfg:dE} {all:List Oper} {A:ao} : ∀ {os:List Oper} {t t' : bq} {L:List Out},Zx P cfg all A os t L t'->
  L.length=os.length/\(∀ y,t'.get y=(gH (fun _=>true) os L 0 t).get y)/\
  ∀ i o x,os[i]? = some o->L[i]? = some x->∃ t1,(∀ y,t1.get y=(gH (fun j=>Nat.blt j i) os L 0 t).get y)/\MQ all o t1 x.1/\(x.1=true->(oW all o=true/\x.2.1 = .bA)\/(oW all o=false/\(aK (tl (bP P cfg o.op) t1 A) (x.2.1,A)\/∃ p,KF o=some p/\aK (tl (Fw P cfg t1 p) t1 A) (x.2.1,A))))/\(x.1=false->x.2.1=qf/\oW all o=false)
 | _,_,_,_,.nil=>⟨rfl,fun _=>rfl,fun i o x ho=>by simp at ho⟩
 | o::os,t,t',(wd,v,_)::L,.cons (t1:=t1) same want yes no rest=>by
  obtain ⟨h1,h2,h4⟩:=rest.at;have Vw:∀ y,(oy t1 o.dst v).get y=(oy t o.dst v).get y:=fun y=>by rw [qE,qE,same]
  refine ⟨by simp [h1],fun y=>?_,fun i q x hq hx=>?_⟩
  ·rw [h2 y]
   simp only [gH,aj];rw [Bk];exact kr (Vw y) fun _ _ _ _=>rfl
  ·cases i with
   | zero=>
    simp at hq hx;subst hq hx;have e0:∀ (os:List Oper) (L:List Out) (k:Nat) (t:bq),gH (fun j=>Nat.blt j 0) os L k t=t:=by
     intro os
     induction os with
     | nil=>intro L k t; cases L <;> rfl
     | cons o os ih=>intro L k t; cases L with
      | nil=>rfl
      | cons x L=>simp only [gH]; exact ih L _ t
    refine ⟨t1,fun y=>by rw [e0]; exact same y,?_,yes,no⟩;rcases want with h | ⟨j,wt,d,e2,e3,e4⟩
    ·exact .inl h
    ·exact .inr ⟨j,wt,d,e2,e3,by rw [same]; exact e4⟩
   | succ i=>
    obtain ⟨t2,h5,h6,h7,h8⟩:=h4 i q x (by simpa using hq) (by simpa using hx);have hsh:(fun j=>Nat.blt (j+1) (i+1))=fun j=>Nat.blt j i:=by
     funext j;cases hb:Nat.blt j i with
     | true=>rw [bO] at hb ⊢; omega
     | false=>
      cases hc:Nat.blt (j+1) (i+1) with
      | false=>rfl
      | true=>rw [bO] at hc; rw [show Nat.blt j i=true from by rw [bO]; omega] at hb; simp at hb
    have h01:Nat.blt 0 (i+1)=true:=by rw [bO]; omega
    refine ⟨t2,fun y=>?_,h6,h7,h8⟩;rw [h5 y];simp only [gH,h01,aj];rw [Bk,hsh];exact kr (Vw y) fun _ _ _ _=>rfl
theorem GF {cfg:dE} {all:List Oper} {b:List Nat} {i:Nat} {y:Oper} : ∀ (xs:List Oper) (k:Nat),F8 P cfg all b i y xs k=true->∀ (j:Nat) (x:Oper),xs[j]? = some x->k+j < i->rJ P cfg all x y=true->ox b i (k+j)=true
 | [],k,_,j,x,hx,_,_=>by simp at hx
 | x0::xs,k,h,0,x,hx,bh,hc=>by
  simp at hx;subst hx;simp only [F8,au,qe,jT] at h;rcases h.1 with (h1 | h1) | h1
  ·have:=dI h1; omega
  ·rw [hc] at h1; simp at h1
  ·exact h1
 | x0::xs,k,h,j+1,x,hx,bh,hc=>by
  simp only [F8,au] at h;have:=GF xs (k+1) h.2 j x (by simpa using hx) (by omega) hc;rwa [show k+1+j=k+(j+1) by omega] at this
theorem Bn {cfg:dE} {all:List Oper} {b:List Nat} : ∀ (os:List Oper) (k:Nat),ya P cfg all b os k=true->∀ (i:Nat) (o:Oper),os[i]? = some o->F8 P cfg all b (k+i) o all 0=true
 | [],k,_,i,o,ho=>by simp at ho
 | o0::os,k,h,0,o,ho=>by
  simp at ho;subst ho;simp only [ya,au] at h;exact h.1
 | o0::os,k,h,i+1,o,ho=>by
  simp only [ya,au] at h;have:=Bn os (k+1) h.2 i o (by simpa using ho);rwa [show k+1+i=k+(i+1) by omega] at this
theorem Sj {i:Nat} {d:Tmp} : ∀ (os:List Oper) (k:Nat),KD i d os k=true->∀ (j:Nat) (o:Oper),os[j]? = some o->k+j≠i->o.dst≠some d
 | [],k,_,j,o,ho,_=>by simp at ho
 | q::os,k,h,0,o,ho,cH=>by
  simp at ho;subst ho;simp only [KD,au,qe,jT] at h;rcases h.1 with h1 | h1
  ·exact absurd (aW h1) (by simpa using cH)
  ·intro e
   rw [e,zd (by simp)] at h1;simp at h1
 | q::os,k,h,j+1,o,ho,cH=>by
  simp only [KD,au] at h;exact Sj os (k+1) h.2 j o (by simpa using ho) (by omega)
theorem NI {all:List Oper} {i:Nat} {d:Tmp} : ∀ (os:List Oper) (k:Nat),Bf all i d os k=true->∀ (j:Nat) (o:Oper),os[j]? = some o->k+j≠i->∀ T x,qx all o≠some (T,d,x)
 | [],k,_,j,o,ho,_=>by simp at ho
 | q::os,k,h,0,o,ho,cH=>by
  simp at ho;subst ho;simp only [Bf,au,qe] at h;intro T x e;rcases h.1 with h1 | h1
  ·exact absurd (aW h1) (by simpa using cH)
  ·rw [e] at h1
   simp at h1
 | q::os,k,h,j+1,o,ho,cH=>by
  simp only [Bf,au] at h;exact NI os (k+1) h.2 j o (by simpa using ho) (by omega)
theorem Ps {d:Tmp} : ∀ {os:List Oper},uL d os=true->∃ (j:Nat) (o:Oper) (T:TypeId),os[j]? = some o/\fy o=some (T,d)
 | [],h=>by simp [uL] at h
 | o::os,h=>by
  simp only [uL,qe] at h;rcases h with h | h
  ·split at h
   ·rename_i T e he
    have:=aW h;subst this;exact ⟨0,o,T,rfl,he⟩
   ·simp at h
  ·obtain ⟨j,q,T,h1,h2⟩:=Ps h
   exact ⟨j+1,q,T,by simpa using h1,h2⟩
structure ae9 (P:Program) (cfg:dE) (all:List Oper):Prop where
 ord:aci P cfg all
 kind:∀ o∈all,oW all o=true\/cX (bP P cfg o.op)<=1\/(KF o).isSome=true
 dst:∀ (i:Nat) (o:Oper) (T:TypeId) (d:Tmp),all[i]? = some o->fy o=some (T,d)->∀ (j:Nat) (q:Oper),all[j]? = some q->j≠i->q.dst≠some d
 st:∀ (i:Nat) (o:Oper) (T:TypeId) (d:Tmp) (x:Operand),all[i]? = some o->qx all o=some (T,d,x)->tT i x all 0=true/\(∀ (j:Nat) (q:Oper),all[j]? = some q->j≠i->∀ T' x',qx all q≠some (T',d,x'))/\(∃ (j:Nat) (q:Oper) (T' : TypeId),j < i/\all[j]? = some q/\fy q=some (T',d))/\x≠.tmp d
theorem Pt {all:List Oper} : ∀ (os:List Oper) (k:Nat),O6 all os k=true->∀ (i:Nat) (o:Oper),os[i]? = some o->
  (∀ T d,fy o=some (T,d)->KD (k+i) d all 0=true)/\∀ T d x,qx all o=some (T,d,x)->tT (k+i) x all 0=true/\Bf all (k+i) d all 0=true/\uL d (all.take (k+i))=true/\x≠.tmp d
 | [],k,_,i,o,ho=>by simp at ho
 | o0::os,k,h,0,o,ho=>by
  simp at ho;subst ho;simp only [O6,au] at h;refine ⟨fun T d e=>?_,fun T d x e=>?_⟩
  ·have:=h.1.1
   rw [e] at this;exact this
  ·have:=h.1.2
   rw [e] at this;simp only [au,jT] at this;refine ⟨this.1.1.1,this.1.1.2,this.1.2,fun e2=>?_⟩;have h3:=this.2;rw [e2,zd (by simp [ph])] at h3;simp at h3
 | o0::os,k,h,i+1,o,ho=>by
  simp only [O6,au] at h;have:=Pt os (k+1) h.2 i o (by simpa using ho);rwa [show k+1+i=k+(i+1) by omega] at this
theorem ah4 {cfg:dE} {all:List Oper} (h:Vj P cfg all=true):ae9 P cfg all:=by
 unfold Vj at h;simp only [au] at h;obtain ⟨⟨⟨h1,h2⟩,h3⟩,h4⟩:=h;refine ⟨⟨DK h1,fun {i j x y} hy hx bh hc=>?_⟩,fun o ho=>?_,fun i o T d ho he j q hq cH=>?_,fun i o T d x ho he=>?_⟩
 ·have:=Bn all 0 h3 i y hy
  rw [bp] at this;have:=GF all 0 this j x hx (by omega) hc;rwa [bp] at this
 ·have:=eM.1 h2 o ho
  simp only [qe] at this;rcases this with (h | h) | h
  ·exact .inl h
  ·exact .inr (.inl (dI h))
  ·exact .inr (.inr h)
 ·have:=(Pt all 0 h4 i o ho).1 T d he
  rw [bp] at this;exact Sj all 0 this j q hq (by omega)
 ·have:=(Pt all 0 h4 i o ho).2 T d x he
  rw [bp] at this;refine ⟨this.1,fun j q hq cH T' x'=>NI all 0 this.2.1 j q hq (by omega) T' x',?_,this.2.2.2⟩;obtain ⟨j,q,T',h5,h6⟩:=Ps this.2.2.1;rw [mz] at h5;split at h5
  ·rename_i bh; exact ⟨j,q,T',bh,h5,h6⟩
  ·simp at h5
theorem Cz {all:List Oper} {d:Tmp} {T:TypeId} {x:Operand} : ∀ {os:List Oper},qy all d os=some (T,x)->∃ (i:Nat) (o:Oper),os[i]? = some o/\qx all o=some (T,d,x)
 | [],h=>by simp [qy] at h
 | o::os,h=>by
  unfold qy at h;split at h
  ·rename_i T' e x' he
   cases hb:Nat.beq d e with
   | true=>
    rw [hb,aj] at h;have:=aW hb;subst this;simp at h;obtain ⟨rfl,rfl⟩:=h;exact ⟨0,o,rfl,he⟩
   | false=>
    rw [hb,aF] at h;obtain ⟨i,q,h1,h2⟩:=Cz h;exact ⟨i+1,q,by simpa using h1,h2⟩
  ·obtain ⟨i,q,h1,h2⟩:=Cz h
   exact ⟨i+1,q,by simpa using h1,h2⟩
theorem CA {all:List Oper} {d:Tmp} : ∀ {os:List Oper},qy all d os=none->∀ (i:Nat) (o:Oper),os[i]? = some o->∀ T x,qx all o≠some (T,d,x)
 | [],_,i,o,ho=>by simp at ho
 | q::os,h,i,o,ho=>by
  unfold qy at h;intro T x e;split at h
  ·rename_i T' e' x' he
   cases hb:Nat.beq d e' with
   | true=>rw [hb] at h; simp at h
   | false=>
    rw [hb,aF] at h;cases i with
    | zero=>
     simp at ho;subst ho;rw [he] at e;simp at e;rw [e.2.1,tf] at hb;simp at hb
    | succ i=>exact CA h i o (by simpa using ho) T x e
  ·rename_i hn
   cases i with
   | zero=>simp at ho; subst ho; rw [hn] at e; simp at e
   | succ i=>exact CA h i o (by simpa using ho) T x e
theorem GG {all:List Oper} {t:bq} {T:TypeId} {d:Tmp} {cs:List KV} (h:uM P all t T d=some cs):∃ z,qt P T=some z/\flat z=true/\z.cells.toList.all scalar=true/\fY (ff z).cells=true/\some (ff z).cells.length=size? P T/\
  (∀ T' x,qy all d all=some (T',x)->T=T'/\some (jK t x).cells.length=size? P T/\fY (jK t x).cells=true/\cs=(jK t x).cells)/\(qy all d all=none->cs=(ff z).cells):=by
 unfold uM at h;split at h
 ·rename_i z hz
  cases hb:(flat z&&z.cells.toList.all scalar&&fY (ff z).cells&&decide (some (ff z).cells.length=size? P T)) with
  | false=>rw [hb] at h; simp at h
  | true=>
   rw [hb,aj] at h;simp only [au,lR] at hb;refine ⟨z,hz,hb.1.1.1,hb.1.1.2,hb.1.2,hb.2,fun T' x hs=>?_,fun hs=>?_⟩
   ·rw [hs] at h
    simp only at h;cases hc:(Nat.beq T T'&&decide (some (jK t x).cells.length=size? P T)&&fY (jK t x).cells) with
    | false=>rw [hc] at h; simp at h
    | true=>
     rw [hc,aj] at h;simp only [au,lR] at hc;exact ⟨aW hc.1.1,hc.1.2,hc.2,by simpa using h.symm⟩
   ·rw [hs] at h
    simpa using h.symm
 ·simp at h
theorem TI {R:Type} {all:List Oper} {t0:bq} {k:bq->ao->Option R} {r:R} : ∀ {os:List Oper} {t:bq} {A:ao},Zj P all t0 k os t A=some r->∀ o∈os,∀ T d,fy o=some (T,d)->∃ cs,uM P all t0 T d=some cs
 | [],_,_,_,o,ho,_,_,_=>by simp at ho
 | q::os,t,A,h,o,ho,T,d,he=>by
  have h:Option.rec (motive:=fun _=>Option R) (Zj P all t0 k os t A) (fun p=>
   Option.rec (motive:=fun _=>Option R) none (fun cs=>Zj P all t0 k os (t.set (.ptr A.next 0) p.2) (A.new (.row cs (mJ P p.1)))) (uM P all t0 p.1 p.2)) (fy q)=some r:=h
  cases hq:fy q with
  | none=>
   rw [hq] at h;rcases dv.1 ho with rfl | ho
   ·rw [hq] at he; simp at he
   ·exact TI h o ho T d he
  | some p=>
   rw [hq] at h;cases hc:uM P all t0 p.1 p.2 with
   | none=>simp only [hc] at h; exact absurd h (by simp)
   | some cs=>
    simp only [hc] at h;rcases dv.1 ho with rfl | ho
    ·rw [hq] at he
     simp at he;subst he;exact ⟨cs,hc⟩
    ·exact TI h o ho T d he
end Go.K
end
section
namespace Go.K
open Go Go.aq
variable {P:Program} {E:Env}
theorem Zy:∀ {l vs:List Value},l.length=vs.length->fV 0 l vs=some vs
 | [],[],_=>rfl
 | [],_::_,h=>by simp at h
 | _::_,[],h=>by simp at h
 | x::l,v::vs,h=>by rw [tL,Zy (by simpa using h)]; rfl
theorem aa1 {a:Act} {d:Tmp} {v:Value} (h:d < a.tmps.size):(a.put (some d) v).tmps.getD d undef=v:=by
 simp [Act.put,fQ,h]
theorem aa2 {a:Act} {dst:Option Tmp} {d:Tmp} {v:Value} (h:dst≠some d):(a.put dst v).tmps.getD d undef=a.tmps.getD d undef:=by
 cases dst with
 | none=>rfl
 | some e=>
  have cH:e≠d:=fun q=>h (by rw [q]);simp [Act.put,fQ,Array.getElem?_setIfInBounds_ne cH]
def ary (P:Program) (E:Env) (all:List Oper) (tn:bq) (S:Nat->Bool) (T:TypeId) (d:Tmp) (bV:List Value):Prop:=
 some bV.length=size? P T/\(∀ (i:Nat) (o:Oper) T' x,all[i]? = some o->qx all o=some (T',d,x)->S i=true->ba P E (jK tn x).cells bV)/\
  ((∀ (i:Nat) (o:Oper) T' x,all[i]? = some o->qx all o=some (T',d,x)->S i=false)->∃ z,qt P T=some z/\ba P E (ff z).cells bV)
def aa3 (P:Program) (E:Env) (A:ao) (B:St) (ρ:Ren) (b0:Nat) (all:List Oper) (tn:bq) (S:Nat->Bool) (a:Act) (y:Nat->Nat):Prop:=
 ∀ (j:Nat) (o:Oper) (T:TypeId) (d:Tmp),all[j]? = some o->fy o=some (T,d)->S j=true->
  VR ρ (Gh (y j)) (a.tmps.getD d undef)/\Fr E A B b0 (y j)/\(∃ bV,B.get (y j)=some (.row bV (mJ P T) true none)/\ary P E all tn S T d bV)/\
  ∀ (j' : Nat) (o' : Oper) (T' : TypeId) (d' : Tmp),all[j']? = some o'->fy o' = some (T',d')->S j' = true->y j' = y j->j' = j
theorem JC {all:List Oper} {o:Oper} {T:TypeId} {d:Tmp} (h:fy o=some (T,d)):qx all o=none:=by
 cases hb:qx all o with
 | none=>rfl
 | some p=>
  obtain ⟨T',d',x⟩:=p;have h1:=(pt h).1;have h2:=(C8 hb).1;rw [h1] at h2;simp at h2
theorem fD {S:Nat->Bool} {i j:Nat} (h:j≠i):cF S i j=S j:=by
 unfold cF;cases hb:Nat.beq j i with
 | false=>simp
 | true=>exact absurd (aW hb) h
theorem yg {S:Nat->Bool} {i:Nat} : cF S i i=true:=by simp [cF]
theorem aa3.step {E' : Env} {A:ao} {B B' : St} {ρ aJ:Ren} {base b0:Nat} {w w' : World} {all:List Oper} {tn:bq} {S:Nat->Bool} {a:Act} {y:Nat->Nat} {i:Nat} {o:Oper} {v' : Value} {cfg:dE} (h:aa3 P E A B ρ b0 all tn S a y) (hf:ae9 P cfg all)
  (ho:all[i]? = some o) (hb:oW all o=false) (k:Ev P base E A B ρ w E' A B' aJ w') (jU:ρ.le aJ):aa3 P E' A B' aJ b0 all tn (cF S i) (a.put o.dst v') y:=by
 intro j q T d hq he hS;have cH:∀ (m:Nat) (q:Oper),all[m]? = some q->oW all q=true->m≠i:=fun m q hm v8 e=>by
  subst e;rw [ho] at hm;simp at hm;subst hm;rw [hb] at v8;simp at v8
 have hal:∀ {q:Oper} {T:TypeId} {d:Tmp},fy q=some (T,d)->oW all q=true:=fun e=>by unfold oW; rw [e]; rfl
 have eK:∀ {q:Oper} {T:TypeId} {d:Tmp} {x:Operand},qx all q=some (T,d,x)->oW all q=true:=fun e=>by unfold oW; rw [e]; simp
 have hji:=cH j q hq (hal he);rw [fD hji] at hS;obtain ⟨h1,h2,⟨bV,h3,h4,h5,h6⟩,h7⟩:=h j q T d hq he hS;obtain ⟨h8,h9⟩:=h2.step k;refine ⟨?_,h8,⟨bV,by rw [h9]; exact h3,h4,fun m q' T' x hm TJ XZ=>?_,fun hn=>?_⟩,fun j' o' T' d' xc Js hS'=>?_⟩
 ·rw [aa2 (hf.dst j q T d hq he i o ho (Ne.symm hji))]
  exact h1.mono jU
 ·rw [fD (cH m q' hm (eK TJ))] at XZ
  exact (h5 m q' T' x hm TJ XZ).mono k.le
 ·obtain ⟨z,rK,HU⟩:=h6 fun m q' T' x hm TJ=>by
   have:=hn m q' T' x hm TJ;rwa [fD (cH m q' hm (eK TJ))] at this
  exact ⟨z,rK,HU.mono k.le⟩
 ·rw [fD (cH j' o' xc (hal Js))] at hS'
  exact h7 j' o' T' d' xc Js hS'
theorem TK {R:Type} {all:List Oper} {tn:bq} {k:bq->ao->Option R} {r:R} {E0:Env} {A0:ao} {B0 B:St} {XA ρ:Ren} {w0 w:World} {base N:Nat} {a:Act} {y:Nat->Nat} : ∀ (os:List Oper) (m:Nat) (t:bq) (E:Env) (A:ao),all.drop m=os->Zj P all tn k os t A=some r->
  Ev P base E0 A0 B0 XA w0 E A B ρ w->jf P E ρ t N a->(∀ (j:Nat) (o:Oper) T d,m<=j->all[j]? = some o->fy o=some (T,d)->d < N)->
  (∀ (j:Nat) (o:Oper) (T:TypeId) (d:Tmp),m<=j->all[j]? = some o->fy o=some (T,d)->VR ρ (Gh (y j)) (a.tmps.getD d undef)/\Fr E A B B0.next (y j)/\(∀ cs,uM P all tn T d=some cs->∃ bV,B.get (y j)=some (.row bV (mJ P T) true none)/\ba P E cs bV)/\
   ∀ (j' : Nat) (o' : Oper) (T' : TypeId) (d' : Tmp),m<=j'->all[j']? = some o'->fy o' = some (T',d')->y j' = y j->j' = j)->
  ∃ t' E' A',k t' A' = some r/\jf P E' ρ t' N a/\Ev P base E0 A0 B0 XA w0 E' A' B ρ w
 | [],m,t,E,A,_,h,tY,ht,_,_=>⟨t,E,A,h,ht,tY⟩
 | o::os,m,t,E,A,hd,h,tY,ht,hN,hb=>by
  have ho:all[m]? = some o:=by
   have:(all.drop m)[0]? = some o:=by rw [hd]; rfl
   rw [mX] at this;simpa using this
  have hd' : all.drop (m+1)=os:=by rw [<- List.drop_drop,hd]; rfl
  have h:Option.rec (motive:=fun _=>Option R) (Zj P all tn k os t A) (fun p=>
   Option.rec (motive:=fun _=>Option R) none (fun cs=>Zj P all tn k os (t.set (.ptr A.next 0) p.2) (A.new (.row cs (mJ P p.1)))) (uM P all tn p.1 p.2)) (fy o)=some r:=h
  cases hq:fy o with
  | none=>
   rw [hq] at h;exact TK (y:=y) os (m+1) t E A hd' h tY ht (fun j o' T d hj=>hN j o' T d (by omega)) fun j o' T d hj ho' he=>by
    obtain ⟨h1,h2,h3,h4⟩:=hb j o' T d (by omega) ho' he;exact ⟨h1,h2,h3,fun j' o'' T' d' xc=>h4 j' o'' T' d' (by omega)⟩
  | some p=>
   obtain ⟨T,d⟩:=p;rw [hq] at h;cases hc:uM P all tn T d with
   | none=>simp only [hc] at h; exact absurd h (by simp)
   | some cs=>
    simp only [hc] at h;obtain ⟨h1,h2,h3,h4⟩:=hb m o T d (aH m) ho hq;obtain ⟨bV,h5,h6⟩:=h3 cs hc;obtain ⟨hle,arz⟩:=aqD (cs:=cs) tY h2 h5 h6;have HS:(E.ko A.next (y m)).κ A.next=some (y m):=by simp [Env.ko]
    refine TK (y:=y) os (m+1) _ (E.ko A.next (y m)) (A.new (.row cs (mJ P T))) hd' h arz ⟨ht.size,fun i=>?_,fun i hi=>?_⟩ (fun j o' T d hj=>hN j o' T d (by omega)) fun j o' T' d' hj ho' he=>?_
    ·rw [Trie.nE]
     by_cases hid:i=d
     ·subst hid
      rw [aI rfl];exact ⟨_,.xa HS,h1⟩
     ·rw [ak hid]
      exact (ht.val i).mono hle (fun _ _ e=>e)
    ·rw [Trie.nE,ak]
     ·exact ht.none i hi
     ·intro e
      subst e;exact absurd (hN m o T i (aH m) ho hq) (Nat.not_lt_of_le hi)
    ·obtain ⟨g1,g2,g3,g4⟩:=hb j o' T' d' (by omega) ho' he
     have arA:y j≠y m:=fun e=>by have:=h4 j o' T' d' (by omega) ho' he e; omega
     refine ⟨g1,⟨g2.lo,g2.hi,fun b e=>?_,g2.z,fun q=>?_⟩,fun kL hc0=>?_,fun j' o'' T'' d'' xc=>g4 j' o'' T'' d'' (by omega)⟩
     ·simp only [Env.ko] at e
      split at e
      ·simp at e; exact arA e.symm
      ·exact g2.un b e
     ·have hA:∀ (b:Nat) (v:KV),(A.new (.row cs (mJ P T))).get b=some (.arr v)->A.get b=some (.arr v):=fun b v hb=>by
       rw [ao.cS] at hb;split at hb
       ·simp at hb
       ·exact hb
      exact g2.lO (q.of (fun _=>rfl) hA (fun _ _=>rfl) fun _ _=>rfl)
     ·obtain ⟨nQ,g5,g6⟩:=g3 kL hc0
      exact ⟨nQ,g5,g6.mono hle⟩
theorem ah5 {R:Type} {cfg:dE} {bz:mj R} (gw:ru P cfg.pc) (hm:P.follows .mixedOrders=true) {id:Nat} {all:List Oper} {N base:Nat} (hdN:all.all (Jl N)=true) {k:bq->ao->Option R} {r:R} {t:bq} {A:ao} {B:St} {ρ:Ren} {a:Act} {w:World} {Q:Exit->Act->World->Prop}
  (KU:Vj P cfg all=true) (h:abP P cfg bz all (fun t A=>Zj P all t k all t A) all t A=some r) (ht:jf P E ρ t N a) (hj:KJ P E A B ρ base w)
  (hq:∀ t' E' A' B' aJ a' w',k t' A' = some r->jf P E' aJ t' N a'->a'.defers=a.defers->Ev P base E A B ρ w E' A' B' aJ w'->Q .normal a' w'):(Code.region id ⟨all⟩ true).wp P Q a w:=by
 classical
 have hf:=ah4 KU;obtain ⟨L,tn,j5,hk⟩:=GD hf.kind h;obtain ⟨hlen,RB,yU⟩:=j5.at;have rE:=TI hk;have Pr:Ev P base E A B ρ w E A B ρ w.drew:=(df.refl hj.k).ev (jG.drew hj.s);have GB:∀ (i:Nat) (o:Oper),all[i]? = some o->∀ d,o.dst=some d->d < N:=by
  intro i o ho d ed;have:=eM.1 hdN o (fR ho);unfold Jl at this;rw [ed] at this;simp only at this;rw [bO] at this;exact this
 refine wp_region_any hm ?_;show wpAny P .any ⟨all⟩ Q all.length (Array.replicate all.length false) a w.drew;have DN:∀ i,(Array.replicate all.length false).getD i false=false:=by
  intro i;rw [fQ,Array.getElem?_replicate];split <;> rfl
 let Inv:(Nat->Bool)->Act->World->Prop:=fun S a' w'=>∃ E' B' aJ y,a'.defers=a.defers/\Ev P base E A B ρ w.drew E' A B' aJ w'/\jf P E' aJ (gH S all L 0 t) N a'/\aa3 P E' A B' aJ B.next all tn S a' y
 refine Fv hf.ord.XY Inv ?_ ?_ ?_ all.length _ a w.drew (by simp) ?_ (fun i j hi _=>by
   have h2:(Array.replicate all.length false).getD i false=true:=hi;rw [DN] at h2; simp at h2) ⟨E,B,ρ,fun _=>0,rfl,.refl hj.k Pr.eF.gX,?_,?_⟩
 ·
  rintro S S' a' w' hSS ⟨E',B',aJ,y,h1,h2,h3,h4⟩;have hS:∀ (i:Nat) (o:Oper),all[i]? = some o->S i=S' i:=fun i o ho=>hSS i (cP.1 ho).1;refine ⟨E',B',aJ,y,h1,h2,h3.same fun z=>kr rfl fun i o ho _=>by rw [bp]; exact (hS i o ho).symm,fun j o T d ho he RC=>?_⟩;obtain ⟨q1,q2,⟨bV,q3,q4,q5,q6⟩,q7⟩:=h4 j o T d ho he (by rw [hS j o ho]; exact RC);exact ⟨q1,q2,⟨bV,q3,q4,fun m q T' x hm TJ XZ=>q5 m q T' x hm TJ (by rw [hS m q hm]; exact XZ),fun hn=>q6 fun m q T' x hm TJ=>by rw [hS m q hm]; exact hn m q T' x hm TJ⟩,fun j' o' T' d' xc Js hS'=>q7 j' o' T' d' xc Js (by rw [hS j' o' xc]; exact hS')⟩
 ·
  rintro S a' w' i o ⟨E',B',aJ,y,h1,h2,h3,h4⟩ hc ho oj sT _;have hi:i < L.length:=by rw [hlen]; exact (cP.1 ho).1
  have hx:L[i]? = some L[i]:=cM hi;obtain ⟨t1,uQ,hw,ah3,VE⟩:=yU i o L[i] ho hx;have xk:∀ z∈lV P cfg all o,t1.get z=(gH S all L 0 t).get z:=fun z hz=>by rw [uQ z,ack hf.ord hc ho oj sT hz]
  have MT:=C7 h3 (fun z hz=>xk z (by unfold lV; exact List.mem_append_left _ hz)) hw;have hoA:(⟨all⟩:Array Oper)[i]? = some o:=by simpa using ho
  unfold wpOp;rw [hoA];simp only [MT];cases Fz:L[i].1 with
  | false=>
   simp only [HX,if_false];obtain ⟨hv,hnb⟩:=VE Fz;refine ⟨E',B',aJ,y,by rw [put_defers]; exact h1,h2,?_,h4.step hf ho hnb (.refl h2.gX h2.eF.gX) (fun _ _ e=>e)⟩;refine (h3.put (GB i o ho) VC.undef).same fun z=>?_;rw [KT hf.ord hc ho hx oj z,hv]
  | true=>
   simp only [if_true];refine .inl ?_;rcases ah3 Fz with ⟨TJ,hv⟩ | ⟨hnb,hg⟩
   ·rcases TH TJ with ⟨T,d,he⟩ | ⟨T,d,x,he⟩
    ·
     obtain ⟨e1,e2,e3⟩:=pt he;obtain ⟨cs,Jp⟩:=rE o (fR ho) T d he;obtain ⟨z,OQ,Gq,hz3,hz4,hz5,_⟩:=GG Jp;have aR:compile P o.op = .make (L9 P T) []:=by rw [e1]; rfl
     obtain ⟨tV,v',w2,hr1,tK,hr3⟩:=XO (em:=fun _=>undef) (cG:=a'.eval) (obj:=Fp (mJ P T) z) (mk:=Gh) aR h2.eF.gX (fun x hx=>by simp at hx) (by simp only [L9,OQ,dz,Gq,hz3,cg,aj]);unfold Oper.wp;rw [hr1];have dK:d < a'.tmps.size:=by rw [h3.size]; exact GB i o ho d e3
     have hnx:=h2.eF.next;have jU:=hr3.le h2.eF.gX;have eK:=arw (bV:=z.cells.toList) (bH:=mJ P T) h2.gX;have tY:Ev P base E' A B' aJ w' E' A (B'.new (Fp (mJ P T) z)) tV w2:=eK.ev hr3;refine ⟨E',B'.new (Fp (mJ P T) z),tV,fun m=>if m=i then B'.next else y m,by rw [put_defers]; exact h1,h2.trans tY,?_,fun j q U c hq Kw hS=>?_⟩
     ·refine ((h3.mono (Env.le_refl _) jU).put (v:=.bA) (GB i o ho) ⟨.chan none,.qB,by simp [VR]⟩).same fun z=>?_
      rw [KT hf.ord hc ho hx oj z,hv]
     ·have hold:∀ (m:Nat) (q:Oper) (U:TypeId) (c:Tmp),all[m]? = some q->fy q=some (U,c)->cF S i m=true->m≠i->S m=true:=fun m q U c _ _ hS cH=>by rwa [fD cH] at hS
      have X0:∀ (m:Nat) (q:Oper) (U:TypeId) (c:Tmp) (x:Operand),all[m]? = some q->qx all q=some (U,c,x)->m≠i:=fun m q U c x hm v8 e=>by
       subst e;rw [ho] at hm;simp at hm;subst hm;rw [JC he] at v8;simp at v8
      by_cases hji:j=i
      ·subst hji
       rw [ho] at hq;simp at hq;subst hq;rw [he] at Kw;simp at Kw;obtain ⟨rfl,rfl⟩:=Kw;simp only [if_true];refine ⟨?_,⟨hnx,by simp,fun b e=>?_,?_,fun q=>?_⟩,⟨z.cells.toList,by simp [Fp],?_,fun m q T' x hm v8 XZ=>?_,fun _=>⟨z,OQ,Bg hz4⟩⟩,fun j' o' T' d' xc Js hS' hy=>?_⟩
       ·rw [e3,aa1 dK]; exact tK
       ·have:=h2.gX.fk b _ e; omega
       ·cases hzz:E'.z B'.next with
        | none=>rfl
        | some r=>have:=h2.gX.kR _ r hzz; omega
       ·rcases q with q | ⟨g,_,q⟩
        ·obtain ⟨b,v,L',N',q1,q2⟩:=q
         have:=h2.gX.ar.fk b _ _ _ q2;omega
        ·rw [Fp,St.iA] at q
         have:=h2.gX.mem g _ q;omega
       ·rw [<- (Bg (P:=P) (E:=E') hz4).length] at hz5
        exact hz5
       ·
        exfalso;have hmi:=X0 m q T' d x hm v8;rw [fD hmi] at XZ;obtain ⟨_,_,⟨j0,q0,T0,bh,hq0,he0⟩,_⟩:=hf.st m q T' d x hm v8;have:j0=j:=by
         by_cases hjj:j0=j
         ·exact hjj
         ·exact absurd (pt he0).2.2 (hf.dst j o T d ho he j0 q0 hq0 hjj)
        subst this;have hb:ox (dD [] all) m j0=true:=hf.ord.DE hm hq0 bh (by
         unfold rJ;rw [(pt he0).2.2,show OP (some d) (lV P cfg all q)=true from zd (by
          unfold lV;refine List.mem_append_right _ ?_;rw [(C8 v8).1];exact jH (show Operand.tmp d∈[Operand.tmp d,x] by simp))]
         rfl)
        have:=hc m j0 XZ hb;rw [oj] at this; simp at this
       ·by_cases MJ:j' = j
        ·exact MJ
        ·exfalso
         rw [ak MJ] at hy;have:=(h4 j' o' T' d' xc Js (hold j' o' T' d' xc Js hS' MJ)).2.1.hi;omega
      ·simp only [ak hji]
       obtain ⟨q1,q2,⟨bV,q3,q4,q5,q6⟩,q7⟩:=h4 j q U c hq Kw (hold j q U c hq Kw hS hji);obtain ⟨q8,q9⟩:=q2.step tY;refine ⟨?_,q8,⟨bV,by rw [q9]; exact q3,q4,fun m q' T' x hm v8 XZ=>?_,fun hn=>?_⟩,fun j' o' T' d' xc Js hS' hy=>?_⟩
       ·rw [aa2 (hf.dst j q U c hq Kw i o ho (Ne.symm hji))]
        exact q1.mono jU
       ·rw [fD (X0 m q' T' c x hm v8)] at XZ
        exact q5 m q' T' x hm v8 XZ
       ·exact q6 fun m q' T' x hm v8=>by
         have:=hn m q' T' x hm v8;rwa [fD (X0 m q' T' c x hm v8)] at this
       ·by_cases MJ:j' = i
        ·rw [aI MJ] at hy
         have:=q2.hi;omega
        ·rw [ak MJ] at hy
         exact q7 j' o' T' d' xc Js (hold j' o' T' d' xc Js hS' MJ) hy
    ·
     obtain ⟨e1,e2,e3,_⟩:=C8 he;obtain ⟨hnd,acn,⟨j0,q0,T0,bh,hq0,he0⟩,hxd⟩:=hf.st i o T d x ho he;have hb0:ox (dD [] all) i j0=true:=hf.ord.DE ho hq0 bh (by
      unfold rJ;rw [(pt he0).2.2,show OP (some d) (lV P cfg all o)=true from zd (by
       unfold lV;refine List.mem_append_right _ ?_;rw [e1];exact jH (show Operand.tmp d∈[Operand.tmp d,x] by simp))]
      rfl)
     have hS0:S j0=true:=hc.ready hf.ord.XY ho sT j0 hb0;obtain ⟨q1,q2,⟨kL,q3,q4,_,_⟩,q7⟩:=h4 j0 q0 T0 d hq0 he0 hS0;obtain ⟨cs,Jp⟩:=rE q0 (fR hq0) T0 d he0;obtain ⟨z,_,_,_,_,_,hz6,hz7⟩:=GG Jp;have arB:qy all d all=some (T,x):=by
      cases hs:qy all d all with
      | none=>exact absurd he (CA hs i o ho T x)
      | some p=>
       obtain ⟨T2,x2⟩:=p;obtain ⟨i2,o2,h5,h6⟩:=Cz hs;by_cases hii:i2=i
       ·subst hii
        rw [ho] at h5;simp at h5;subst h5;rw [he] at h6;simp at h6;rw [h6.1,h6.2]
       ·exact absurd h6 (acn i2 o2 h5 hii T2 x2)
     obtain ⟨hT,hl,Vo,_⟩:=hz6 T x arB;subst hT;have v7:jK tn x=jK t1 x:=agl RB uQ hnd;rw [v7] at hl Vo;have hxv:VC P E' aJ (jK t1 x) (a'.eval x):=Pp h3 fun z e=>xk z (by
      unfold lV;refine List.mem_append_right _ ?_;rw [e1];subst e;exact jH (show Operand.tmp z∈[Operand.tmp d,Operand.tmp z] by simp))
     obtain ⟨u,hu1,hu2⟩:=hxv;have an4:=hu1.cells (vX Vo);have kh:u.cells.toList.all scalar=true:=eM.2 (an4.scalar Vo);have an5:some u.cells.size=size? P T0:=by
      rw [<- hl];have:=an4.length;simp only [Array.length_toList] at this;rw [this]
     have aR:compile P o.op = .act (HZ P T0) [.tmp d,x]:=by rw [e1]; rfl
     have cQ:=pj P o;rw [aR] at cQ
     let em:Operand->Value:=fun q=>if q = .tmp d then Gh (y j0) else u
     have hw:fV 0 kL u.cells.toList=some u.cells.toList:=Zy (by
      rw [<- an5] at q4;simp only [cJ] at q4;rw [q4]; simp)
     obtain ⟨tV,v',nx,w2,hr1,tK,hr3,hr4⟩:=cQ aJ B' (B'.put (y j0) (.row u.cells.toList (mJ P T0) true none)) base w' em a'.eval undef h2.eF.gX (fun q hq=>by
       rcases dv.1 hq with rfl | hq
       ·show VR aJ (em (.tmp d)) (a'.tmps.getD d undef)
        simp only [em,if_true];exact q1
       ·simp only [List.mem_singleton] at hq
        subst hq;simp only [em,ak hxd];exact hu2) (by
       have h1:em (.tmp d)=Gh (y j0):=by simp [em]
       have h2:em x=u:=by simp [em,hxd]
       simp [h1,h2,HZ,aq.storeAt,Gh,an5,St.wF,cO,kh,q3,hw,St.eR])
     have arC:=arx h2 q2 q3 hr4;have jU:=hr4.le h2.eF.gX;have xi:∀ x,AR A E' x->(B'.put (y j0) (.row u.cells.toList (mJ P T0) true none)).get x=B'.get x:=fun x q=>by
      rw [St.b5,ak];intro e;subst e;exact q2.lO (.inl q)
     have hAT:∀ q,AT A E' (B'.put (y j0) (.row u.cells.toList (mJ P T0) true none)) q->AT A E' B' q:=fun q r=>r.of (fun _=>rfl) (fun _ _ e=>e) xi fun _ _=>by simp
     have hFr:∀ q,Fr E' A B' B.next q->Fr E' A (B'.put (y j0) (.row u.cells.toList (mJ P T0) true none)) B.next q:=fun q f=>⟨f.lo,f.hi,f.un,f.z,fun r=>f.lO (hAT q r)⟩
     have aqE:∀ v:Value,a'.put o.dst v=a':=fun v=>by rw [e3]; rfl
     have aco:Inv (cF S i) (a'.put o.dst v') w2:=by
      rw [aqE];refine ⟨E',_,tV,y,h1,arC,(h3.mono (Env.le_refl _) jU).same fun z=>?_,fun j q U c hq Kw hS=>?_⟩
      ·rw [KT hf.ord hc ho hx oj z,e3]; rfl
      ·have hji:j≠i:=fun e=>by
        subst e;rw [ho] at hq;simp at hq;subst hq;rw [JC Kw] at he;simp at he
       have hold:∀ (m:Nat) (q:Oper) (U:TypeId) (c:Tmp),all[m]? = some q->fy q=some (U,c)->cF S i m=true->S m=true:=fun m q U c hm Kw hS=>by
        have:m≠i:=fun e=>by
         subst e;rw [ho] at hm;simp at hm;subst hm;rw [JC Kw] at he;simp at he
        rwa [fD this] at hS
       rw [fD hji] at hS;obtain ⟨p1,p2,⟨bV,p3,p4,p5,p6⟩,p7⟩:=h4 j q U c hq Kw hS;refine ⟨p1.mono jU,hFr _ p2,?_,fun j' o' T' d' xc Js hS'=>p7 j' o' T' d' xc Js (hold j' o' T' d' xc Js hS')⟩;by_cases AK:j=j0
       ·subst AK
        rw [hq0] at hq;simp at hq;subst hq;rw [he0] at Kw;simp at Kw;obtain ⟨rfl,rfl⟩:=Kw;refine ⟨u.cells.toList,by simp,by simpa using an5,fun m q' T' x' hm v8 _=>?_,fun hn=>?_⟩
        ·have hmi:m=i:=by
          by_cases hmi:m=i
          ·exact hmi
          ·exact absurd v8 (acn m q' hm hmi T' x')
         subst hmi;rw [ho] at hm;simp at hm;subst hm;rw [he] at v8;simp at v8;rw [<- v8.2,v7];exact an4
        ·have:=hn i o T0 x ho he
         rw [yg] at this;simp at this
       ·have hcd:c≠d:=fun e=>by
         subst e;exact absurd (pt he0).2.2 (hf.dst j q U c hq Kw j0 q0 hq0 (Ne.symm AK))
        have X0:∀ (m:Nat) (q:Oper) (U:TypeId) (x:Operand),all[m]? = some q->qx all q=some (U,c,x)->m≠i:=fun m q U x hm v8 e=>by
         subst e;rw [ho] at hm;simp at hm;subst hm;rw [he] at v8;simp at v8;exact hcd v8.2.1.symm
        refine ⟨bV,?_,p4,fun m q' T' x' hm v8 XZ=>?_,fun hn=>?_⟩
        ·rw [St.b5,ak]
         ·exact p3
         ·intro e
          exact AK ((p7 j0 q0 T0 d hq0 he0 hS0 e.symm).symm)
        ·rw [fD (X0 m q' T' x' hm v8)] at XZ
         exact p5 m q' T' x' hm v8 XZ
        ·exact p6 fun m q' T' x' hm v8=>by
          have:=hn m q' T' x' hm v8;rwa [fD (X0 m q' T' x' hm v8)] at this
     unfold Oper.wp;rw [hr1];cases nx with
     | value u'=>have:u' = v':=tK; subst this; exact aco
     | skip=>have:v' = undef:=tK; subst this; exact aco
     | _=>exact tK.elim
   ·
    have vU:∀ HV JB sf v' HQ,VC P HV sf L[i].2.1 v'->Ev P base E' A B' aJ w' HV A JB sf HQ->Inv (cF S i) (a'.put o.dst v') HQ:=fun HV JB sf v' HQ h5 h6=>by
     have jU:=h6.eF.le h2.eF.gX;refine ⟨HV,JB,sf,y,by rw [put_defers]; exact h1,h2.trans h6,?_,h4.step hf ho hnb h6 jU⟩;refine ((h3.mono h6.le jU).put (GB i o ho) h5).same fun z=>?_;rw [KT hf.ord hc ho hx oj z]
    rcases hg with hg | ⟨p,hp,hg⟩
    ·refine MO gw hg (fun x hxm=>Pp h3 fun z e=>xk z ?_) h2.kj vU
     unfold lV;subst e;exact List.mem_append_right _ (jH hxm)
    ·refine akf gw hp hg (fun x hxm=>Pp h3 fun z e=>xk z ?_) h2.kj vU
     unfold lV;subst e;refine List.mem_append_right _ (jH ?_);unfold KF at hp;split at hp
     ·rename_i c HR _
      split at hp
      ·rename_i d qw
       simp at hp;subst hp;rw [HR];show Operand.tmp z∈aaZ (kl P cfg c);unfold kl;rw [qw];exact hxm
      ·simp at hp
     ·simp at hp
 ·
  rintro S a' w' kh ⟨E',B',aJ,y,h1,h2,h3,h4⟩;have hS:∀ (i:Nat) (o:Oper),all[i]? = some o->S i=true:=fun i o ho=>kh i (cP.1 ho).1;have arD:jf P E' aJ tn N a':=h3.same fun z=>by
   rw [RB z];exact kr rfl fun i o ho _=>by rw [bp]; exact (hS i o ho).symm
  obtain ⟨t',E2,A2,f1,f2,f3⟩:=TK (y:=y) all 0 tn E' A rfl hk h2 arD (fun j o T d _ ho he=>GB j o ho d (pt he).2.2) fun j o T d _ ho he=>by
   obtain ⟨q1,q2,⟨bV,q3,q4,q5,q6⟩,q7⟩:=h4 j o T d ho he (hS j o ho);refine ⟨q1,q2,fun cs Jp=>⟨bV,q3,?_⟩,fun j' o' T' d' _ xc Js hy=>q7 j' o' T' d' xc Js (hS j' o' xc) hy⟩;obtain ⟨z,OQ,_,_,_,_,hz6,hz7⟩:=GG Jp;cases hs:qy all d all with
   | some p=>
    obtain ⟨T2,x2⟩:=p;obtain ⟨i2,o2,h5,h6⟩:=Cz hs;rw [(hz6 T2 x2 hs).2.2.2];exact q5 i2 o2 T2 x2 h5 h6 (hS i2 o2 h5)
   | none=>
    rw [hz7 hs];obtain ⟨z',g1,g2⟩:=q6 fun m q' T' x hm v8=>absurd v8 (CA hs m q' hm T' x);rw [OQ] at g1;simp at g1;subst g1;exact g2
  exact hq t' E2 A2 B' aJ a' w' f1 f2 h1 (Pr.trans f3)
 ·simp
 ·refine ht.same fun z=>?_
  rw [MR DN]
 ·intro j o T d ho he RC
  have RC:(Array.replicate all.length false).getD j false=true:=RC;rw [DN] at RC;simp at RC
end Go.K
end
section
namespace Go.K
open Go Go.aq
variable {P:Program} {E:Env}
theorem VF {R:Type} {cfg:dE} {bz:mj R} {all:List Oper} {k:bq->ao->Option R} : ∀ (a b:List Oper),rp P cfg bz all k (a++b)=rp P cfg bz all (rp P cfg bz all k b) a
 | [],b=>rfl
 | o::a,b=>by
  show xg P cfg bz all o (rp P cfg bz all k (a++b))=xg P cfg bz all o (rp P cfg bz all (rp P cfg bz all k b) a);rw [VF a b]
theorem afa {cfg:dE} {all:List Oper} {o:Oper} (h:cX (bP P cfg o.op)<=1):oW all o=false:=by
 cases hb:oW all o with
 | false=>rfl
 | true=>
  exfalso;rcases TH hb with ⟨T,d,e⟩ | ⟨T,d,x,e⟩
  ·rw [(pt e).1] at h
   have h:cX (om P T)<=1:=h;unfold om at h;split at h
   ·rename_i z _
    cases hc:(flat z&&z.cells.toList.all scalar&&fY (ff z).cells) <;> rw [hc] at h <;> simp [cX] at h
   ·simp [cX] at h
  ·rw [(C8 e).1] at h
   have h:(3:Nat)<=1:=h;omega
theorem Pu {R:Type} {cfg:dE} {bz:mj R} {all:List Oper} {k:bq->ao->Option R} {r:R} : ∀ {os:List Oper} {t:bq} {A:ao},(∀ o∈os,cX (bP P cfg o.op)<=1)->rp P cfg bz all k os t A=some r->
  ∃ L t',Zx P cfg all A os t L t'/\k t' A=some r
 | [],t,A,_,h=>⟨[],t,.nil,h⟩
 | o::os,t,A,hn,h=>by
  have Mo:=fun q hq=>hn q (uF o hq);have hk:=hn o (by simp);have hb:=afa (all:=all) hk;have hk3:Nat.ble 3 (cX (bP P cfg o.op))=false:=by
   cases hc:Nat.ble 3 (cX (bP P cfg o.op)) with
   | false=>rfl
   | true=>have:=dI hc; omega
  have hnc:=Bm (P:=P) (cfg:=cfg) (o:=o) (by omega);have h:xg P cfg bz all o (rp P cfg bz all k os) t A=some r:=h;unfold xg at h;cases hg:o.guard with
  | none=>
   rw [hg] at h;obtain ⟨v,A1,h1,h2⟩:=Ij hnc h;have e:=Bl h1 hk3;subst e;obtain ⟨L,t',h3,h4⟩:=Pu Mo h2;exact ⟨_,t',.cons (fun _=>rfl) (.inl ⟨hg,rfl⟩) (fun _=>.inr ⟨hb,.inl h1⟩) (fun e=>by simp at e) h3,h4⟩
  | some p=>
   obtain ⟨j,want⟩:=p;rw [hg] at h;obtain ⟨d,hd,h⟩:=MP h;rcases h with ⟨b,t1,h1,h2,h3⟩ | ⟨l,h1,h2⟩
   ·rcases h3 with ⟨h3,h4⟩ | ⟨h3,h4⟩
    ·obtain ⟨v,A1,h5,h6⟩:=Ij hnc h4
     have e:=Bl h5 hk3;subst e;obtain ⟨L,t',h7,h8⟩:=Pu Mo h6;exact ⟨_,t',.cons h2 (.inr ⟨j,want,d,hg,hd,.inl ⟨b,h1,h3.symm⟩⟩) (fun _=>.inr ⟨hb,.inl h5⟩) (fun e=>by simp at e) h7,h8⟩
    ·obtain ⟨L,t',h7,h8⟩:=Pu Mo h4
     exact ⟨_,t',.cons h2 (.inr ⟨j,want,d,hg,hd,.inl ⟨b,h1,h3.symm⟩⟩) (fun e=>by simp at e) (fun _=>⟨rfl,hb⟩) h7,h8⟩
   ·obtain ⟨L,t',h7,h8⟩:=Pu Mo h2
    exact ⟨_,t',.cons (fun _=>rfl) (.inr ⟨j,want,d,hg,hd,.inr ⟨l,h1,rfl⟩⟩) (fun e=>by simp at e) (fun _=>⟨rfl,hb⟩) h7,h8⟩
section
variable {cfg:dE} {all os:List Oper} {L:List Out} {t0:bq} {m:Nat}
theorem acp (hf:aci P cfg all) (hos:∀ j q,os[j]? = some q->all[m+j]? = some q) {S:Nat->Bool} (hc:oP all S) {i:Nat} {o:Oper} (ho:os[i]? = some o) (oj:S (m+i)=false) (sT:sH all S (m+i)) {y:Tmp} (hy:y∈lV P cfg all o) :
  (gH (fun j=>S (m+j)) os L 0 t0).get y=(gH (fun j=>Nat.blt j i) os L 0 t0).get y:=by
 refine kr rfl fun j q hq hd=>?_;rw [bp];have ho':=hos i o ho;have hq':=hos j q hq;rcases Nat.lt_trichotomy j i with h | h | h
 ·have:ox (dD [] all) (m+i) (m+j)=true:=hf.DE ho' hq' (by omega) (by
   unfold rJ;rw [hd,zd hy];rfl)
  rw [hc.ready hf.XY ho' sT (m+j) this]
  symm; rw [bO]; exact h
 ·subst h
  rw [oj]
  symm
  cases hb:Nat.blt j j with
  | false=>rfl
  | true=>rw [bO] at hb; omega
 ·have hb:ox (dD [] all) (m+j) (m+i)=true:=hf.DE hq' ho' (by omega) (by
   unfold rJ;rw [hd,zd hy];simp)
  have:S (m+j)=false:=by
   cases hs:S (m+j) with
   | false=>rfl
   | true=>have:=hc (m+j) (m+i) hs hb; rw [oj] at this; simp at this
  rw [this]
  symm
  cases hbb:Nat.blt j i with
  | false=>rfl
  | true=>rw [bO] at hbb; omega
theorem an6 (hf:aci P cfg all) (hos:∀ j q,os[j]? = some q->all[m+j]? = some q) {S:Nat->Bool} (hc:oP all S) {i:Nat} {o:Oper} {x:Out} (ho:os[i]? = some o) (hx:L[i]? = some x) (oj:S (m+i)=false) (y:Tmp) :
  (gH (fun j=>cF S (m+i) (m+j)) os L 0 t0).get y=(oy (gH (fun j=>S (m+j)) os L 0 t0) o.dst x.2.1).get y:=by
 have alV:(fun j=>cF S (m+i) (m+j))=cF (fun j=>S (m+j)) i:=by
  funext j;unfold cF;cases hb:Nat.beq j i with
  | true=>have:=aW hb; subst this; simp
  | false=>
   have cH:=Nat.ne_of_beq_eq_false hb;cases sS:Nat.beq (m+j) (m+i) with
   | false=>rfl
   | true=>have:=aW sS; omega
 rw [alV,qE];by_cases hd:o.dst=some y
 ·rw [aI hd]
  have:=ach (S:=fun j=>S (m+j)) (y:=y) (os:=os) (L:=L) (k:=0) (i:=i) (t:=t0) ho hx hd (fun j q hq hqd bh=>by
   rw [bp];have hb:ox (dD [] all) (m+j) (m+i)=true:=hf.DE (hos j q hq) (hos i o ho) (by omega) (by
    unfold rJ;rw [hqd,hd];simp [UY])
   cases hs:S (m+j) with
   | false=>rfl
   | true=>have:=hc (m+j) (m+i) hs hb; rw [oj] at this; simp at this)
  rw [bp] at this;exact this
 ·rw [ak hd]
  refine kr rfl fun j q hq hqd=>?_;rw [bp];have cH:j≠i:=by
   intro e;subst e;rw [ho] at hq;simp at hq;subst hq;exact hd hqd
  unfold cF;have:Nat.beq j i=false:=by
   cases hb:Nat.beq j i with
   | false=>rfl
   | true=>exact absurd (aW hb) cH
  rw [this,Bool.or_false]
end
theorem Sk {cfg:dE} {b:List Nat} {i:Nat} : ∀ (os:List Oper) (k:Nat),KG P cfg b i os k=true->∀ (j:Nat) (o:Oper),os[j]? = some o->(k+j < i->cX (bP P cfg o.op)=0\/ox b i (k+j)=true)/\(i < k+j->ox b (k+j) i=true)
 | [],k,_,j,o,ho=>by simp at ho
 | q::os,k,h,0,o,ho=>by
  simp at ho;subst ho;simp only [KG,au] at h;rw [yL];have h2:=h.1;cases hb:Nat.beq k i with
  | true=>have:=aW hb; exact ⟨fun e=>by omega,fun e=>by omega⟩
  | false=>
   rw [hb,aF] at h2;refine ⟨fun bh=>?_,fun bh=>?_⟩
   ·rw [show Nat.blt k i=true from by rw [bO]; exact bh,aj] at h2
    cases hz:Nat.beq (cX (bP P cfg q.op)) 0 with
    | true=>exact .inl (aW hz)
    | false=>rw [hz,aF] at h2; exact .inr h2
   ·have:Nat.blt k i=false:=by
     cases sS:Nat.blt k i with
     | false=>rfl
     | true=>rw [bO] at sS; omega
    rwa [this,aF] at h2
 | q::os,k,h,j+1,o,ho=>by
  simp only [KG,au] at h;have:=Sk os (k+1) h.2 j o (by simpa using ho);rwa [show k+1+j=k+(j+1) by omega] at this
theorem Pv {cfg:dE} {b:List Nat} {all:List Oper} : ∀ (os:List Oper) (k:Nat),KH P cfg b all os k=true->∀ (i:Nat) (o:Oper),os[i]? = some o->¬ cX (bP P cfg o.op)<=1->KG P cfg b (k+i) all 0=true
 | [],k,_,i,o,ho,_=>by simp at ho
 | q::os,k,h,0,o,ho,hk=>by
  simp at ho;subst ho;simp only [KH,au] at h;have h2:=h.1;have:Nat.ble (cX (bP P cfg q.op)) 1=false:=by
   cases hb:Nat.ble (cX (bP P cfg q.op)) 1 with
   | false=>rfl
   | true=>exact absurd (dI hb) hk
  rw [this,aF] at h2;exact h2
 | q::os,k,h,i+1,o,ho,hk=>by
  simp only [KH,au] at h;have:=Pv os (k+1) h.2 i o (by simpa using ho) hk;rwa [show k+1+i=k+(i+1) by omega] at this
theorem acq {cfg:dE} : ∀ (os:List Oper),∃ n,n<=os.length/\(∀ o∈os.take n,cX (bP P cfg o.op)<=1)/\(n=os.length\/∃ o,os[n]? = some o/\¬ cX (bP P cfg o.op)<=1)
 | []=>⟨0,by simp,by simp,by simp⟩
 | o::os=>by
  by_cases hk:cX (bP P cfg o.op)<=1
  ·obtain ⟨n,h1,h2,h3⟩:=acq (cfg:=cfg) os
   refine ⟨n+1,by simpa using h1,fun q hq=>?_,?_⟩
   ·simp only [List.take_succ_cons,dv] at hq
    rcases hq with rfl | hq
    ·exact hk
    ·exact h2 q hq
   ·rcases h3 with h3 | ⟨q,h3,h4⟩
    ·exact .inl (by simp [h3])
    ·exact .inr ⟨q,by simpa using h3,h4⟩
  ·exact ⟨0,by simp,by simp,.inr ⟨o,by simp,hk⟩⟩
theorem amP {R:Type} {cfg:dE} {bz:mj R} {all os:List Oper} {k:bq->ao->Option R} {r:R} {t:bq} {A:ao} (h:rp P cfg bz all k os t A=some r) :
  ∃ n L tn,n<=os.length/\(∀ o∈os.take n,cX (bP P cfg o.op)<=1)/\(n=os.length\/∃ o,os[n]? = some o/\¬ cX (bP P cfg o.op)<=1)/\Zx P cfg all A (os.take n) t L tn/\rp P cfg bz all k (os.drop n) tn A=some r:=by
 obtain ⟨n,h1,h2,h3⟩:=acq (P:=P) (cfg:=cfg) os;rw [<- List.take_append_drop n os,VF] at h;obtain ⟨L,tn,h4,h5⟩:=Pu h2 h;exact ⟨n,L,tn,h1,h2,h3,h4,h5⟩
theorem ah6 (S:Nat->Bool) (os:List Oper) (L:List Out) (t:bq):∀ (m:Nat),gH S os L m t=gH (fun j=>S (m+j)) os L 0 t:=by
 intro m
 induction m generalizing S with
 | zero=>simp only [bp]
 | succ m ih=>
  rw [Bk,ih];congr 1;funext j;rw [show m+j+1=m+1+j by omega]
theorem MU (S:Nat->Bool):∀ (os:List Oper) (L L2:List Out) (k:Nat) (t:bq),L.length<=os.length->gH S os (L++L2) k t=gH S (os.drop L.length) L2 (k+L.length) (gH S os L k t)
 | [],[],L2,k,t,_=>rfl
 | [],x::L,L2,k,t,h=>by simp at h
 | o::os,[],L2,k,t,_=>rfl
 | o::os,x::L,L2,k,t,h=>by
  simp only [List.cons_append,gH,yM,List.drop_succ_cons];rw [MU S os L L2 (k+1) _ (by simpa using h),show k+1+L.length=k+(L.length+1) by omega]
theorem X1 {S:Nat->Bool} {os:List Oper} {L L2:List Out} {t:bq} (h:L.length<=os.length) (hS:∀ j,L.length<=j->j < os.length->S j=false) (y:Tmp):(gH S os (L++L2) 0 t).get y=(gH S os L 0 t).get y:=by
 rw [MU S os L L2 0 t h,bp,ah6];refine (kr (S':=fun _=>false) rfl fun i o ho _=>?_).trans (by rw [MR fun _=>rfl]);rw [bp];rw [mX] at ho;exact hS _ (by omega) (cP.1 ho).1
theorem VG {S S' : Nat->Bool} : ∀ {os:List Oper} {L:List Out} {k:Nat} {t:bq},(∀ j,j < L.length->S (k+j)=S' (k+j))->gH S os L k t=gH S' os L k t
 | [],L,k,t,_=>by cases L <;> rfl
 | o::os,[],k,t,_=>rfl
 | o::os,x::L,k,t,h=>by
  simp only [gH];rw [show S k=S' k from by have:=h 0 (by simp); simpa using this];exact VG fun j hj=>by have:=h (j+1) (by simpa using hj); rwa [show k+(j+1)=k+1+j by omega] at this
theorem ah7 {S:Nat->Bool} : ∀ {os:List Oper} {L:List Out} {n k:Nat} {t:bq},L.length<=n->gH S (os.take n) L k t=gH S os L k t
 | [],L,n,k,t,_=>by simp
 | o::os,[],n,k,t,_=>by cases n <;> rfl
 | o::os,x::L,0,k,t,h=>by simp at h
 | o::os,x::L,n+1,k,t,h=>by
  simp only [List.take_succ_cons,gH];exact ah7 (by simpa using h)
theorem akh {cfg:dE} {o:Oper} {p:Operand×List Operand} (h:KF o=some p) : ¬ cX (bP P cfg o.op)<=1:=by
 unfold KF at h;split at h
 ·rename_i c' arE _
  split at h
  ·rename_i d qw
   rw [arE];show ¬ cX (kl P cfg c')<=1;unfold kl;rw [qw];show ¬ (9:Nat)<=1;omega
  ·simp at h
 ·simp at h
theorem tZ {t t' : bq} : ∀ {xs:List Operand},(∀ x∈xs,jK t x=jK t' x)->j6 t xs=j6 t' xs:=fun {xs} h=>by
 rw [qD,qD];exact List.map_congr_left h
theorem ah8 {R:Type} {bz:mj R} {t t' : bq} {A:ao} {k:KV->ao->Option R} {ins:pn} (h:∀ x∈aaZ ins,jK t x=jK t' x):O5 bz t A k ins=O5 bz t' A k ins:=by
 cases ins with
 | pure f xs=>show (f (j6 t xs)).run _=(f (j6 t' xs)).run _; rw [tZ (xs:=xs) h]
 | read f xs=>show (f A (j6 t xs)).run _=(f A (j6 t' xs)).run _; rw [tZ (xs:=xs) h]
 | act f xs=>show (f A (j6 t xs)).run _=(f A (j6 t' xs)).run _; rw [tZ (xs:=xs) h]
 | look f xs=>show (f (j6 t xs)).run _=(f (j6 t' xs)).run _; rw [tZ (xs:=xs) h]
 | Ba g f xs=>show (f (j6 t xs)).run _=(f (j6 t' xs)).run _; rw [tZ (xs:=xs) h]
 | Gu g f xs=>show (f (vy A (j6 t xs)).1).run (fun v=>k v (vy A (j6 t xs)).2)=(f (vy A (j6 t' xs)).1).run (fun v=>k v (vy A (j6 t' xs)).2); rw [tZ (xs:=xs) h]
 | call f xs=>
  show Option.rec (motive:=fun _=>Option R) none (fun p=>bz p.1 p.2 A k) (Gv (j6 t xs) (jK t f))=Option.rec (motive:=fun _=>Option R) none (fun p=>bz p.1 p.2 A k) (Gv (j6 t' xs) (jK t' f));rw [tZ fun x hx=>h x (uF f hx),h f (List.mem_cons_self ..)]
 | bad=>rfl
theorem agm {R:Type} {cfg:dE} {bz:mj R} (gw:ru P cfg.pc) (sX:KS P bz) (hm:P.follows .mixedOrders=true) {id:Nat} {all:List Oper} {N base:Nat} (hdN:all.all (Jl N)=true) {k:bq->ao->Option R} {r:R} {t:bq} {A:ao} {B:St} {ρ:Ren} {a:Act} {w:World} {Q:Exit->Act->World->Prop}
  (KU:Mx P cfg all=true) (h:rp P cfg bz all k all t A=some r) (ht:jf P E ρ t N a) (hj:KJ P E A B ρ base w)
  (hq:∀ t' E' A' B' aJ a' w',k t' A' = some r->jf P E' aJ t' N a'->a'.defers=a.defers->Ev P base E A B ρ w E' A' B' aJ w'->Q .normal a' w'):(Code.region id ⟨all⟩ true).wp P Q a w:=by
 unfold Mx at KU;split at KU
 ·simp only [au] at KU
  obtain ⟨⟨arF,hcl⟩,har⟩:=KU;have hf:aci P cfg all:=⟨DK arF,fun {i j x y} hy hx bh qw=>by
   have:=Bn all 0 hcl i y hy;rw [bp] at this;have:=GF all 0 this j x hx (by omega) qw;rwa [bp] at this⟩
  have piv:∀ (i:Nat) (o:Oper),all[i]? = some o->¬ cX (bP P cfg o.op)<=1->∀ j q,all[j]? = some q->(j < i->cX (bP P cfg q.op)=0\/ox (dD [] all) i j=true)/\(i < j->ox (dD [] all) j i=true):=fun i o ho hk j q hq=>by
   have h1:=Pv all 0 har i o ho hk;have h2:=Sk all 0 h1 j q hq;simpa only [bp] using h2
  have Pr:Ev P base E A B ρ w E A B ρ w.drew:=(df.refl hj.k).ev (jG.drew hj.s);have GB:∀ (i:Nat) (o:Oper),all[i]? = some o->∀ d,o.dst=some d->d < N:=by
   intro i o ho d ed;have:=eM.1 hdN o (fR ho);unfold Jl at this;rw [ed] at this;simp only at this;rw [bO] at this;exact this
  refine wp_region_any hm ?_;show wpAny P .any ⟨all⟩ Q all.length (Array.replicate all.length false) a w.drew;have DN:∀ i,(Array.replicate all.length false).getD i false=false:=by
   intro i;rw [fQ,Array.getElem?_replicate];split <;> rfl
  have e0:∀ (S:Nat->Bool),(fun j=>S (0+j))=S:=fun S=>by funext j; rw [bp]
  have hos:∀ j q,all[j]? = some q->all[0+j]? = some q:=fun j q hjq=>by rwa [bp]
  let ap1:List Out->ao->Nat->Oper->Out->Prop:=fun L A2 i o x=>∃ t1,(∀ y,t1.get y=(gH (fun j=>Nat.blt j i) all L 0 t).get y)/\MQ all o t1 x.1/\(x.1=true->aK (tl (bP P cfg o.op) t1 A2) (x.2.1,A2))/\(x.1=false->x.2.1=qf)
  let Inv:(Nat->Bool)->Act->World->Prop:=fun S a' w'=>∃ n L A2 tn E' B' aJ,n<=all.length/\L.length=n/\(∀ j,n<=j->j < all.length->S j=false)/\(n=all.length\/∃ o,all[n]? = some o/\¬ cX (bP P cfg o.op)<=1)/\
   (∀ j o,j < n->all[j]? = some o->¬ cX (bP P cfg o.op)<=1->S j=true)/\(∀ i o x,i < n->S i=false->all[i]? = some o->L[i]? = some x->ap1 L A2 i o x)/\
   (∀ y,tn.get y=(gH (fun _=>true) all L 0 t).get y)/\rp P cfg bz all k (all.drop n) tn A2=some r/\a'.defers=a.defers/\Ev P base E A B ρ w.drew E' A2 B' aJ w'/\jf P E' aJ (gH S all L 0 t) N a'
  have begin:∀ (m:Nat) (S:Nat->Bool) (L:List Out) (A2:ao) (t2:bq) (a' : Act) (w' : World) (E' : Env) (B' : St) (aJ:Ren),m<=all.length->L.length=m->(∀ j,m<=j->j < all.length->S j=false)->
    (∀ j o,j < m->all[j]? = some o->¬ cX (bP P cfg o.op)<=1->S j=true)->(∀ i o x,i < m->S i=false->all[i]? = some o->L[i]? = some x->ap1 L A2 i o x)->
    (∀ y,t2.get y=(gH (fun _=>true) all L 0 t).get y)->rp P cfg bz all k (all.drop m) t2 A2=some r->a'.defers=a.defers->Ev P base E A B ρ w.drew E' A2 B' aJ w'->jf P E' aJ (gH S all L 0 t) N a'->Inv S a' w':=by
   intro m S L A2 t2 a' w' E' B' aJ Xs hL h1 h2 h3 h4 h5 h6 h7 h8;obtain ⟨n,L2,tn,g1,g2,g3,g4,g5⟩:=amP h5;rw [List.length_drop] at g1 g3;obtain ⟨k1,k2,k3⟩:=g4.at;rw [kG,List.length_drop,Nat.min_eq_left g1] at k1;have hLa:L.length<=all.length:=by omega
   have tail:∀ (S:Nat->Bool) (y:Tmp),(∀ j,j < m->S j=true)->(gH S all (L++L2) 0 t).get y=(gH (fun j=>S (m+j)) ((all.drop m).take n) L2 0 t2).get y:=fun S y hS=>by
    rw [MU S all L L2 0 t hLa,bp,ah6,ah7 (by omega),hL];refine kr ?_ fun _ _ _ _=>rfl;rw [h4 y,VG (S:=S) (S':=fun _=>true) fun j hj=>by rw [bp]; exact hS j (by omega)]
   refine ⟨m+n,L++L2,A2,tn,E',B',aJ,by omega,by rw [kF]; omega,fun j hj1 MJ=>h1 j (by omega) MJ,?_,fun j o hj ho hk=>?_,fun i o x hi oj ho hx=>?_,fun y=>?_,by rwa [List.drop_drop] at g5,h6,h7,h8.same fun y=>X1 hLa (fun j hj1 MJ=>h1 j (by omega) MJ) y⟩
   ·rcases g3 with g3 | ⟨o,g3,g6⟩
    ·exact .inl (by omega)
    ·exact .inr ⟨o,by rwa [mX] at g3,g6⟩
   ·by_cases hjm:j < m
    ·exact h2 j o hjm ho hk
    ·exfalso
     refine hk (g2 o (fR (i:=j - m) ?_));rw [mz,aI (by omega),mX,show m+(j - m)=j by omega];exact ho
   ·by_cases him:i < m
    ·rw [oM (by omega)] at hx
     obtain ⟨t1,q1,q2⟩:=h3 i o x him oj ho hx;exact ⟨t1,fun y=>by rw [q1 y]; exact (X1 hLa (fun j hj1 _=>by
      cases hb:Nat.blt j i with
      | false=>rfl
      | true=>rw [bO] at hb; omega) y).symm,q2⟩
    ·rw [qd (by omega),hL] at hx
     have hoi:((all.drop m).take n)[i - m]? = some o:=by rw [mz,aI (by omega),mX,show m+(i - m)=i by omega]; exact ho
     obtain ⟨t1,q1,q2,q3,q4⟩:=k3 (i - m) o x hoi hx;have hk:=g2 o (fR hoi);refine ⟨t1,fun y=>?_,q2,fun Fz=>?_,fun Fz=>(q4 Fz).1⟩
     ·rw [q1 y,tail _ y fun j hj=>by rw [bO]; omega]
      refine kr rfl fun j q _ _=>?_;rw [bp];cases hb:Nat.blt (m+j) i with
      | true=>rw [bO] at hb ⊢; omega
      | false=>
       cases sS:Nat.blt j (i - m) with
       | false=>rfl
       | true=>
        rw [bO] at sS;have:Nat.blt (m+j) i=true:=by rw [bO]; omega
        rw [hb] at this; simp at this
     ·rcases q3 Fz with ⟨TJ,_⟩ | ⟨_,hg⟩
      ·rw [afa hk] at TJ; simp at TJ
      ·rcases hg with hg | ⟨p,hp,_⟩
       ·exact hg
       ·exact absurd hk (akh hp)
   ·rw [k2 y,tail _ y fun _ _=>rfl]
  refine Fv hf.XY Inv ?_ ?_ ?_ all.length _ a w.drew (by simp) ?_ (fun i j hi _=>by
    have h2:(Array.replicate all.length false).getD i false=true:=hi;rw [DN] at h2; simp at h2) (begin 0 _ [] A t a w.drew E B ρ (by omega) rfl (fun j _ _=>DN j) (fun j _ hj=>by omega) (fun i _ _ hi=>by omega) (fun y=>by cases all <;> rfl) (by simpa using h) rfl (.refl hj.k Pr.eF.gX) (ht.same fun y=>by cases all <;> rfl))
  ·
   rintro S S' a' w' hSS ⟨n,L,A2,tn,E',B',aJ,h1,h2,h3,h4,h5,h6,h7,h8,h9,rK,HU⟩;refine ⟨n,L,A2,tn,E',B',aJ,h1,h2,fun j hj1 MJ=>by rw [<- hSS j MJ]; exact h3 j hj1 MJ,h4,fun j o hj ho hk=>by rw [<- hSS j (by omega)]; exact h5 j o hj ho hk,fun i o x hi oj ho hx=>h6 i o x hi (by rw [hSS i (by omega)]; exact oj) ho hx,h7,h8,h9,rK,HU.same fun z=>kr rfl fun i o ho _=>?_⟩;rw [bp];exact (hSS _ (cP.1 ho).1).symm
  ·
   rintro S a' w' i o ⟨n,L,A2,tn,E',B',aJ,h1,h2,h3,h4,h5,h6,h7,h8,h9,rK,HU⟩ hcS ho oj sT _;have hil:i < all.length:=(cP.1 ho).1;have hoA:(⟨all⟩:Array Oper)[i]? = some o:=by simpa using ho
   rcases Nat.lt_trichotomy i n with sX | sX | sX
   ·
    have hkd:cX (bP P cfg o.op)<=1:=by
     by_cases hk:cX (bP P cfg o.op)<=1
     ·exact hk
     ·have:=h5 i o sX ho hk
      rw [oj] at this; simp at this
    have hi:i < L.length:=by omega
    have hx:L[i]? = some L[i]:=cM hi;obtain ⟨t1,uQ,hw,ah3,VE⟩:=h6 i o L[i] sX oj ho hx;have xk:∀ z∈lV P cfg all o,t1.get z=(gH S all L 0 t).get z:=fun z hz=>by
     have:=acp (m:=0) (L:=L) (t0:=t) hf hos hcS ho (by rw [bp]; exact oj) (by rw [bp]; exact sT) hz;rw [e0] at this;rw [uQ z,this]
    have Vw:∀ z,(gH (cF S i) all L 0 t).get z=(oy (gH S all L 0 t) o.dst L[i].2.1).get z:=fun z=>by
     have:=an6 (m:=0) (L:=L) (t0:=t) hf hos hcS ho hx (by rw [bp]; exact oj) z;rw [bp,e0,e0] at this;exact this
    have MT:=C7 HU (fun z hz=>xk z (by unfold lV; exact List.mem_append_left _ hz)) hw;have fin:∀ E2 B2 tV a2 w2,a2.defers=a'.defers->Ev P base E A B ρ w.drew E2 A2 B2 tV w2->jf P E2 tV (gH (cF S i) all L 0 t) N a2->Inv (cF S i) a2 w2:=fun E2 B2 tV a2 w2 q1 q2 q3=>
     ⟨n,L,A2,tn,E2,B2,tV,h1,h2,fun j hj1 MJ=>by rw [fD (by omega)]; exact h3 j hj1 MJ,h4,fun j q hj hjq hk=>by
      by_cases he:j=i
      ·subst he; exact yg
      ·rw [fD he]; exact h5 j q hj hjq hk,fun j q x hj RC hjq hxj=>h6 j q x hj (by
       by_cases he:j=i
       ·subst he; rw [yg] at RC; simp at RC
       ·rwa [fD he] at RC) hjq hxj,h7,h8,q1.trans h9,q2,q3⟩
    unfold wpOp;rw [hoA];simp only [MT];cases Fz:L[i].1 with
    | false=>
     simp only [HX,if_false];refine fin E' B' aJ _ _ (by rw [put_defers]) rK ?_;refine (HU.put (GB i o ho) VC.undef).same fun z=>?_;rw [Vw z,VE Fz]
    | true=>
     simp only [if_true];refine .inl (MO gw (ah3 Fz) (fun x hxm=>Pp HU fun z e=>xk z ?_) rK.kj fun HV JB sf v' HQ h5 h6=>?_)
     ·unfold lV
      subst e;exact List.mem_append_right _ (jH hxm)
     ·have jU:=h6.eF.le rK.eF.gX
      refine fin HV JB sf _ _ (by rw [put_defers]) (rK.trans h6) ?_;refine ((HU.mono h6.le jU).put (GB i o ho) h5).same fun z=>?_;rw [Vw z]
   ·
    subst sX;rcases h4 with h4 | ⟨oc,HR,alW⟩
    ·omega
    rw [HR] at ho;simp at ho;subst ho;have xk:∀ z∈lV P cfg all oc,tn.get z=(gH S all L 0 t).get z:=fun z hz=>by
     have:=acp (m:=0) (L:=L) (t0:=t) hf hos hcS HR (by rw [bp]; exact oj) (by rw [bp]; exact sT) hz;rw [e0] at this;rw [this,h7 z,VG (S:=fun _=>true) (S':=fun j=>Nat.blt j i) fun j hj=>by rw [bp]; symm; rw [bO]; omega]
    have tJ:xg P cfg bz all oc (rp P cfg bz all k (all.drop (i+1))) tn A2=some r:=by
     have:all.drop i=oc::all.drop (i+1):=by
      rw [List.drop_eq_getElem_cons hil];rw [cM hil] at HR;simp at HR;rw [HR]
     rw [this] at h8;exact h8
    have hLa:L.length<=all.length:=by omega
    have hdr:all.drop i=oc::all.drop (i+1):=by
     rw [List.drop_eq_getElem_cons hil];rw [cM hil] at HR;simp at HR;rw [HR]
    have one:∀ (S:Nat->Bool) (x:Out),S i=true->gH S all (L++[x]) 0 t=oy (gH S all L 0 t) oc.dst x.2.1:=fun S x hS=>by
     rw [MU S all L [x] 0 t hLa,bp,h2,hdr];simp only [gH,hS,aj];cases all.drop (i+1) <;> rfl
    have ah9:∀ {t1:bq} {v:KV} {v' : Value} {E2:Env} {A3:ao} {B2:St} {tV:Ren} {w2:World},(∀ y,t1.get y=tn.get y)->rp P cfg bz all k (all.drop (i+1)) (oy t1 oc.dst v) A3=some r->VC P E2 tV v v'->Ev P base E' A2 B' aJ w' E2 A3 B2 tV w2->Inv (cF S i) (a'.put oc.dst v') w2:=by
     intro t1 v v' E2 A3 B2 tV w2 uQ q1 q2 q3;have jU:=q3.eF.le rK.eF.gX;have e1:gH (cF S i) all L 0 t=gH S all L 0 t:=VG fun j hj=>by rw [bp]; exact fD (by omega)
     refine begin (i+1) _ (L++[(true,v,A3)]) A3 _ _ w2 E2 B2 tV (by omega) (by simp [h2]) (fun j g1 g2=>by rw [fD (by omega)]; exact h3 j (by omega) g2) (fun j q hj hjq hk=>?_) (fun j q x hj RC hjq hxj=>?_) (fun y=>?_) q1 (by rw [put_defers]; exact h9) (rK.trans q3) ?_
     ·by_cases he:j=i
      ·subst he; exact yg
      ·rw [fD he]; exact h5 j q (by omega) hjq hk
     ·have he:j≠i:=by
       intro he;subst he;rw [yg] at RC; simp at RC
      rw [fD he] at RC;rw [oM (by omega)] at hxj;have hz:cX (bP P cfg q.op)=0:=by
       rcases (piv i oc HR alW j q hjq).1 (by omega) with hz | hb
       ·exact hz
       ·have:=hcS.ready hf.XY HR sT j hb
        rw [RC] at this; simp at this
      obtain ⟨t3,p1,p2,p3,p4⟩:=h6 j q x (by omega) RC hjq hxj;exact ⟨t3,fun y=>by rw [p1 y]; exact (X1 hLa (fun j' hj1 _=>by
       cases hb:Nat.blt j' j with
       | false=>rfl
       | true=>rw [bO] at hb; omega) y).symm,p2,fun Fz=>ahY (p3 Fz) hz,p4⟩
     ·rw [one _ _ rfl,qE,qE,uQ y,h7 y]
     ·refine ((HU.mono q3.le jU).put (GB i oc HR) q2).same fun z=>?_
      rw [one _ _ yg,e1]
    have hgt:∀ z∈F5 all oc,tn.get z=(gH S all L 0 t).get z:=fun z hz=>xk z (by unfold lV; exact List.mem_append_left _ hz);have run:∀ {t1:bq},(∀ y,t1.get y=tn.get y)->MQ all oc tn true->O5 bz t1 A2 (fun v A=>rp P cfg bz all k (all.drop (i+1)) (oy t1 oc.dst v) A) (bP P cfg oc.op)=some r->wpOp P ⟨all⟩ Q i (Inv (cF S i)) a' w':=by
     intro t1 uQ hw alV;have MT:=C7 HU hgt hw;unfold wpOp;rw [hoA];simp only [MT,if_true];rw [ah8 (t':=gH S all L 0 t) fun x hx=>by
      cases x with
      | tmp z=>
       have:=xk z (by unfold lV; exact List.mem_append_right _ (jH hx));simp only [jK];rw [uQ z,this]
      | const v=>rfl
      | global g=>rfl
      | func f=>rfl] at alV
     exact .inl (Zt gw sX alV HU rK.kj fun E2 A2 B2 tV v v' w2 q1 q2 q3=>ah9 uQ q1 q2 q3)
    have skip:∀ {t1:bq},(∀ y,t1.get y=tn.get y)->MQ all oc tn false->rp P cfg bz all k (all.drop (i+1)) (oy t1 oc.dst qf) A2=some r->wpOp P ⟨all⟩ Q i (Inv (cF S i)) a' w':=by
     intro t1 uQ hw hop;have MT:=C7 HU hgt hw;unfold wpOp;rw [hoA];simp only [MT,HX,if_false];exact ah9 uQ hop VC.undef (.refl rK.gX rK.eF.gX)
    unfold xg at tJ;cases hgd:oc.guard with
    | none=>
     rw [hgd] at tJ;exact run (fun _=>rfl) (.inl ⟨hgd,rfl⟩) tJ
    | some p=>
     obtain ⟨j,want⟩:=p;rw [hgd] at tJ;obtain ⟨d,hd,tJ⟩:=MP tJ;rcases tJ with ⟨b,t1,h4,h5,h6⟩ | ⟨l,h4,h5⟩
     ·rcases h6 with ⟨h6,h7⟩ | ⟨h6,h7⟩
      ·exact run h5 (.inr ⟨j,want,d,hgd,hd,.inl ⟨b,h4,h6.symm⟩⟩) h7
      ·exact skip h5 (.inr ⟨j,want,d,hgd,hd,.inl ⟨b,h4,h6.symm⟩⟩) h7
     ·exact skip (fun _=>rfl) (.inr ⟨j,want,d,hgd,hd,.inr ⟨l,h4,rfl⟩⟩) h5
   ·
    rcases h4 with h4 | ⟨oc,HR,alW⟩
    ·omega
    have bh:n < all.length:=(cP.1 HR).1;have h1':=hcS.ready hf.XY ho sT n ((piv n oc HR alW i o ho).2 sX);have Jn:=h3 n (by omega) bh;rw [h1'] at Jn; simp at Jn
  ·
   rintro S a' w' kh ⟨n,L,A2,tn,E',B',aJ,h1,h2,h3,h4,h5,h6,h7,h8,h9,rK,HU⟩;have hmn:n=all.length:=by
    rcases h4 with h4 | ⟨oc,HR,alW⟩
    ·exact h4
    ·have bh:n < all.length:=(cP.1 HR).1
     have:=h3 n (by omega) bh;rw [kh _ bh] at this; simp at this
   rw [hmn,List.drop_length] at h8;refine hq tn E' A2 B' aJ a' w' h8 (HU.same fun z=>?_) h9 (Pr.trans rK);rw [h7 z];exact kr rfl fun j q hjq _=>by rw [bp]; exact (kh _ (cP.1 hjq).1).symm
  ·simp
 ·simp at KU
end Go.K
end
section
namespace Go.K
open Go Go.aq
variable {P:Program} {E:Env}
inductive Sub (root:Code):Nat->Code->Prop where
 | root:Sub root 1 root
 | ap2 {p:Nat} {a b:Code} : Sub root p (.seq a b)->Sub root (2 * p) a
 | ap3 {p:Nat} {a b:Code} : Sub root p (.seq a b)->Sub root (2 * p+1) b
 | an7 {p:Nat} {c:Operand} {a b:Code} : Sub root p (.cond c a b)->Sub root (2 * p) a
 | an8 {p:Nat} {c:Operand} {a b:Code} : Sub root p (.cond c a b)->Sub root (2 * p+1) b
 | block {p id:Nat} {a:Code} : Sub root p (.block id a)->Sub root (2 * p) a
 | loop {p:Nat} {a:Code} : Sub root p (.loop a)->Sub root (2 * p) a
 | scope {p:Nat} {a:Code} : Sub root p (.scope a)->Sub root (2 * p) a
def acr (P:Program) (N:Nat) {R:Type} (c:Code) (f:KE R->bq->ao->Option R):Prop:=
 ∀ (k:KE R) (r:R) (t:bq) (A:ao) (E:Env) (B:St) (ρ:Ren) (base:Nat) (a:Act) (w:World) (Q:Exit->Act->World->Prop),f k t A=some r->jf P E ρ t N a->KJ P E A B ρ base w->
  (∀ e t' E' A' B' aJ a' w',k e t' A' = some r->jf P E' aJ t' N a'->a'.defers=a.defers->Ev P base E A B ρ w E' A' B' aJ w'->Q e.out a' w')->c.wp P Q a w
def Rh (P:Program) (N:Nat) (body:Code) (F:bq->ao->y5):Prop:=∀ (R:Type) (k:KE R) (r:R) (t:bq) (A:ao) (E:Env) (B:St) (ρ:Ren) (base:Nat) (a:Act) (w:World) (Q:Exit->Act->World->Prop),Tt F k t A=some r->jf P E ρ t N a->KJ P E A B ρ base w->
  (∀ e t' E' A' B' aJ a' w',k e t' A' = some r->jf P E' aJ t' N a'->a'.defers=a.defers->Ev P base E A B ρ w E' A' B' aJ w'->Q e.out a' w')->Code.rounds P body Q dZ a w
theorem VH {c:Code} {Q:Exit->Act->World->Prop} (k:Nat):∀ {n:Nat} {a:Act} {w:World},Code.rounds P c Q n a w->Code.rounds P c Q (n+k) a w
 | 0,_,_,h=>h.elim
 | n+1,a,w,h=>by
  rw [show n+1+k=n+k+1 by omega,rounds_succ];rw [rounds_succ] at h;exact Code.wp_mono (fun e a w q=>by cases e <;> first | exact VH k q | exact q) h
def alX (P:Program) (cfg:dE) (f:FuncId) (root:Code):Prop:=∀ p F body,cfg.lp f p=some F->Sub root p (.loop body)->∀ N,codeOk N body=true->Rh P N body F
section
variable {R:Type} {cfg:dE} {bz:mj R} {L:Nat} {f:FuncId}
theorem VI {N:Nat} {c:Code} {g:KE R->bq->ao->Option R} (hg:acr P N c g):∀ (n:Nat) (k:KE R) (r:R) (t:bq) (A:ao) (E:Env) (B:St) (ρ:Ren) (base:Nat) (a:Act) (w:World) (Q:Exit->Act->World->Prop),XJ g k n t A=some r->jf P E ρ t N a->KJ P E A B ρ base w->
  (∀ e t' E' A' B' aJ a' w',k e t' A' = some r->jf P E' aJ t' N a'->a'.defers=a.defers->Ev P base E A B ρ w E' A' B' aJ w'->Q e.out a' w')->Code.rounds P c Q n a w
 | 0,k,r,t,A,E,B,ρ,base,a,w,Q,h,ht,hj,hq=>by exact absurd h (by simp [XJ])
 | n+1,k,r,t,A,E,B,ρ,base,a,w,Q,h,ht,hj,hq=>by
  rw [rounds_succ];have h:g (Ts k (XJ g k n)) t A=some r:=h;refine hg _ r t A E B ρ base a w _ h ht hj fun e t' E' A' B' aJ a' w' h1 h2 h3 h4=>?_;cases e with
  | normal=>
   have h1:XJ g k n t' A' = some r:=h1;exact VI hg n k r t' A' E' B' aJ base a' w' Q h1 h2 h4.kj fun e t'' HV A'' JB sf XX HQ q1 q2 q3 q4=>hq e t'' HV A'' JB sf XX HQ q1 q2 (q3.trans h3) (h4.trans q4)
  | exit id=>exact hq (.exit id) t' E' A' B' aJ a' w' h1 h2 h3 h4
  | goto l=>exact hq (.goto l) t' E' A' B' aJ a' w' h1 h2 h3 h4
  | ret=>exact hq .ret t' E' A' B' aJ a' w' h1 h2 h3 h4
theorem VJ {N:Nat} {c:Code} {g:KE R->bq->ao->Option R} {F:bq->ao->y5} (hg:acr P N c g) (hF:Rh P N c F):∀ (n:Nat) (k:KE R) (r:R) (t:bq) (A:ao) (E:Env) (B:St) (ρ:Ren) (base:Nat) (a:Act) (w:World) (Q:Exit->Act->World->Prop),XK g F k n t A=some r->jf P E ρ t N a->KJ P E A B ρ base w->
  (∀ e t' E' A' B' aJ a' w',k e t' A' = some r->jf P E' aJ t' N a'->a'.defers=a.defers->Ev P base E A B ρ w E' A' B' aJ w'->Q e.out a' w')->Code.rounds P c Q (dZ+n) a w
 | 0,k,r,t,A,E,B,ρ,base,a,w,Q,h,ht,hj,hq=>hF R k r t A E B ρ base a w Q h ht hj hq
 | n+1,k,r,t,A,E,B,ρ,base,a,w,Q,h,ht,hj,hq=>by
  have h:Bool.rec (motive:=fun _=>Option R) (Tt F k t A) (g (Ts k (XK g F k n)) t A) (af0 (F t A))=some r:=h;cases ho:af0 (F t A) with
  | false=>
   rw [ho] at h;exact VH (n+1) (hF R k r t A E B ρ base a w Q h ht hj hq)
  | true=>
   rw [ho] at h;have h:g (Ts k (XK g F k n)) t A=some r:=h;rw [show dZ+(n+1)=dZ+n+1 by omega,rounds_succ];refine hg _ r t A E B ρ base a w _ h ht hj fun e t' E' A' B' aJ a' w' h1 h2 h3 h4=>?_;cases e with
   | normal=>
    have h1:XK g F k n t' A' = some r:=h1;exact VJ hg hF n k r t' A' E' B' aJ base a' w' Q h1 h2 h4.kj fun e t'' HV A'' JB sf XX HQ q1 q2 q3 q4=>hq e t'' HV A'' JB sf XX HQ q1 q2 (q3.trans h3) (h4.trans q4)
   | exit id=>exact hq (.exit id) t' E' A' B' aJ a' w' h1 h2 h3 h4
   | goto l=>exact hq (.goto l) t' E' A' B' aJ a' w' h1 h2 h3 h4
   | ret=>exact hq .ret t' E' A' B' aJ a' w' h1 h2 h3 h4
theorem jZ (gw:ru P cfg.pc) (sX:KS P bz) (hm:P.follows .mixedOrders=true) {root:Code} (kU:alX P cfg f root) {N:Nat} : ∀ (c:Code) (p:Nat),Sub root p c->codeOk N c=true->acr P N c (oz P cfg bz L f c p)
 | .skip,p,_,_=>by
  intro k r t A E B ρ base a w Q h ht hj hq;exact wp_skip (hq .normal t E A B ρ a w h ht rfl (.refl hj.k hj.s))
 | .ret,p,_,_=>by
  intro k r t A E B ρ base a w Q h ht hj hq;exact wp_ret (hq .ret t E A B ρ a w h ht rfl (.refl hj.k hj.s))
 | .exit id,p,_,_=>by
  intro k r t A E B ρ base a w Q h ht hj hq;exact wp_exit (hq (.exit id) t E A B ρ a w h ht rfl (.refl hj.k hj.s))
 | .label l,p,_,_=>by
  intro k r t A E B ρ base a w Q h ht hj hq;exact wp_label (hq .normal t E A B ρ a w h ht rfl (.refl hj.k hj.s))
 | .goto l,p,_,_=>by
  intro k r t A E B ρ base a w Q h ht hj hq;exact wp_goto (hq (.goto l) t E A B ρ a w h ht rfl (.refl hj.k hj.s))
 | .region id ops false,p,_,hc=>by
  intro k r t A E B ρ base a w Q h ht hj hq;have h:rp P cfg bz ops.toList (fun t A=>k .normal t A) ops.toList t A=some r:=h;refine wp_region ?_;have:=Pm (Q:=Q) (base:=base) gw sX (N:=N) (all:=ops.toList) hc ops.toList 0 t E A B ρ a w (by simp) h ht hj fun t' E' A' B' aJ a' w' h1 h2 h3 h4=>hq .normal t' E' A' B' aJ a' w' h1 h2 h3 h4;rw [List.range_eq_range'];simpa using this
 | .region id ops true,p,_,hc=>by
  intro k r t A E B ρ base a w Q h ht hj hq;have h:abQ P cfg bz ops.toList true (fun t A=>k .normal t A) t A=some r:=h;unfold abQ at h;cases ho:ahx P cfg ops.toList with
  | false=>
   rw [ho] at h;cases hcr:Mx P cfg ops.toList with
   | true=>
    rw [hcr] at h;exact agm (all:=ops.toList) gw sX hm hc hcr h ht hj fun t' E' A' B' aJ a' w' h1 h2 h3 h4=>hq .normal t' E' A' B' aJ a' w' h1 h2 h3 h4
   | false=>
    rw [hcr] at h;cases hb:Vj P cfg ops.toList with
    | false=>rw [hb] at h; exact absurd h (by simp)
    | true=>
     rw [hb] at h;exact ah5 (all:=ops.toList) gw hm hc hb h ht hj fun t' E' A' B' aJ a' w' h1 h2 h3 h4=>hq .normal t' E' A' B' aJ a' w' h1 h2 h3 h4
  | true=>
   rw [ho] at h;exact aec (all:=ops.toList) gw hm hc ho h ht hj fun t' E' A' B' aJ a' w' h1 h2 h3 h4=>hq .normal t' E' A' B' aJ a' w' h1 h2 h3 h4
 | .seq x y,p,hs,hc=>by
  simp only [codeOk,au] at hc;intro k r t A E B ρ base a w Q h ht hj hq;have h:oz P cfg bz L f x (2 * p) (Ts k fun t A=>oz P cfg bz L f y (2 * p+1) k t A) t A=some r:=h;refine wp_seq ?_;refine jZ gw sX hm kU x (2 * p) hs.ap2 hc.1 _ r t A E B ρ base a w _ h ht hj fun e t' E' A' B' aJ a' w' h1 h2 h3 h4=>?_;cases e with
  | normal=>
   have h1:oz P cfg bz L f y (2 * p+1) k t' A' = some r:=h1;exact jZ gw sX hm kU y (2 * p+1) hs.ap3 hc.2 k r t' A' E' B' aJ base a' w' Q h1 h2 h4.kj fun e t'' HV A'' JB sf XX HQ q1 q2 q3 q4=>hq e t'' HV A'' JB sf XX HQ q1 q2 (q3.trans h3) (h4.trans q4)
  | exit id=>exact hq (.exit id) t' E' A' B' aJ a' w' h1 h2 h3 h4
  | goto l=>exact hq (.goto l) t' E' A' B' aJ a' w' h1 h2 h3 h4
  | ret=>exact hq .ret t' E' A' B' aJ a' w' h1 h2 h3 h4
 | .cond c x y,p,hs,hc=>by
  simp only [codeOk,au] at hc;intro k r t A E B ρ base a w Q h ht hj hq;have h:afZ t c (fun t=>oz P cfg bz L f x (2 * p) k t A) (fun t=>oz P cfg bz L f y (2 * p+1) k t A)=some r:=h;have key:∃ t',(∀ i,t'.get i=t.get i)/\((a.eval c = .bool true/\oz P cfg bz L f x (2 * p) k t' A=some r)\/(a.eval c = .bool false/\oz P cfg bz L f y (2 * p+1) k t' A=some r)):=by
   have tY:=ht.ev c;cases c with
   | tmp d=>
    have h:BK.rec (motive:=fun _=>Option R) (fun b=>Bool.rec (motive:=fun _=>Option R) (oz P cfg bz L f y (2 * p+1) k (t.set (.bool false) d) A) (oz P cfg bz L f x (2 * p) k (t.set (.bool true) d) A) b) none none (sV ((t.get d).getD .bA))=some r:=h;cases hb:sV ((t.get d).getD .bA) with
    | no=>rw [hb] at h; exact absurd h (by simp)
    | jV=>rw [hb] at h; exact absurd h (by simp)
    | bool b=>
     rw [hb] at h;have hbv:=C6 hb;have tY:VC P E ρ ((t.get d).getD .bA) (a.eval (.tmp d)):=tY;rw [hbv] at tY;have:=tY.dY;refine ⟨t.set (.bool b) d,MN hb,?_⟩;cases b
     ·exact .inr ⟨this,h⟩
     ·exact .inl ⟨this,h⟩
   | const v=>
    have h:BK.rec (motive:=fun _=>Option R) (fun b=>Bool.rec (motive:=fun _=>Option R) (oz P cfg bz L f y (2 * p+1) k t A) (oz P cfg bz L f x (2 * p) k t A) b) none none (sV (jK t (.const v)))=some r:=h;cases hb:sV (jK t (.const v)) with
    | no=>rw [hb] at h; exact absurd h (by simp)
    | jV=>rw [hb] at h; exact absurd h (by simp)
    | bool b=>
     rw [hb] at h;rw [C6 hb] at tY;have:=tY.dY;refine ⟨t,fun _=>rfl,?_⟩;cases b
     ·exact .inr ⟨this,h⟩
     ·exact .inl ⟨this,h⟩
   | global g=>exact absurd h (by simp [afZ,jK,sV])
   | func g=>exact absurd h (by simp [afZ,jK,sV])
  obtain ⟨t',DF,h⟩:=key;have ht':=ht.same DF;rcases h with ⟨hb,h⟩ | ⟨hb,h⟩
  ·exact wp_cond_true hb (jZ gw sX hm kU x (2 * p) hs.an7 hc.1 k r t' A E B ρ base a w Q h ht' hj hq)
  ·exact wp_cond_false hb (jZ gw sX hm kU y (2 * p+1) hs.an8 hc.2 k r t' A E B ρ base a w Q h ht' hj hq)
 | .block id x,p,hs,hc=>by
  have hc:codeOk N x=true:=hc;intro k r t A E B ρ base a w Q h ht hj hq;have h:oz P cfg bz L f x (2 * p) (alD id k) t A=some r:=h;refine wp_block ?_;refine jZ gw sX hm kU x (2 * p) hs.block hc _ r t A E B ρ base a w _ h ht hj fun e t' E' A' B' aJ a' w' h1 h2 h3 h4=>?_;cases e with
  | normal=>exact hq .normal t' E' A' B' aJ a' w' h1 h2 h3 h4
  | exit id'=>
   have h1:Bool.rec (motive:=fun _=>Option R) (k (.exit id') t' A') (k .normal t' A') (Nat.beq id' id)=some r:=h1;cases hb:Nat.beq id' id with
   | true=>
    rw [hb] at h1;have:=aW hb;simp only [ae.out,Exit.inBlock,aI this];exact hq .normal t' E' A' B' aJ a' w' h1 h2 h3 h4
   | false=>
    rw [hb] at h1;have:=Nat.ne_of_beq_eq_false hb;simp only [ae.out,Exit.inBlock,ak this];exact hq (.exit id') t' E' A' B' aJ a' w' h1 h2 h3 h4
  | goto l=>exact hq (.goto l) t' E' A' B' aJ a' w' h1 h2 h3 h4
  | ret=>exact hq .ret t' E' A' B' aJ a' w' h1 h2 h3 h4
 | .loop x,p,hs,hc=>by
  have hc:codeOk N x=true:=hc;intro k r t A E B ρ base a w Q h ht hj hq;have h:Option.rec (motive:=fun _=>bq->ao->Option R) (XJ (oz P cfg bz L f x (2 * p)) k L) (fun F=>XK (oz P cfg bz L f x (2 * p)) F k L) (cfg.lp f p) t A=some r:=h;cases hF:cfg.lp f p with
  | some F=>
   rw [hF] at h;exact wp_loop_rounds (dZ+L) (VJ (jZ gw sX hm kU x (2 * p) hs.loop hc) (kU p F x hF hs N hc) L k r t A E B ρ base a w Q h ht hj hq)
  | none=>
   rw [hF] at h;exact wp_loop_rounds L (VI (jZ gw sX hm kU x (2 * p) hs.loop hc) L k r t A E B ρ base a w Q h ht hj hq)
 | .scope x,p,hs,hc=>by
  have hc:codeOk N x=true:=hc;intro k r t A E B ρ base a w Q h ht hj hq;have h:oz P cfg bz L f x (2 * p) (abR k) t A=some r:=h;refine wp_scope_straight ?_;refine jZ gw sX hm kU x (2 * p) hs.scope hc _ r t A E B ρ base a w _ h ht hj fun e t' E' A' B' aJ a' w' h1 h2 h3 h4=>?_;cases e with
  | normal=>exact hq .normal t' E' A' B' aJ a' w' h1 h2 h3 h4
  | exit id=>exact hq (.exit id) t' E' A' B' aJ a' w' h1 h2 h3 h4
  | goto l=>exact absurd h1 (by simp [abR])
  | ret=>exact hq .ret t' E' A' B' aJ a' w' h1 h2 h3 h4
 | .rangeFunc ..,p,_,_ | .refuse _,p,_,_=>by
  intro k r t A E B ρ base a w Q h ht hj hq;exact absurd h (by simp [oz])
end
theorem GH:∀ (l:List KV) (i k:Nat) (t:bq),(mM l i t).get k=if i<=k/\k < i+l.length then l[k - i]? else t.get k
 | [],i,k,t=>by
  rw [mM,ak];simp
 | v::l,i,k,t=>by
  rw [mM,GH l (i+1) k,Trie.nE];by_cases h1:k=i
  ·subst h1
   rw [ak (by omega),aI rfl,aI (by simp)];simp
  ·by_cases h2:i+1<=k/\k < i+1+l.length
   ·rw [aI h2,aI (by simp; omega),show k - i=(k - (i+1))+1 by omega]
    simp
   ·rw [ak h2,ak h1,ak (by simp; omega)]
theorem DP {A:ao} {B:St} {base N:Nat} {w:World} {ρ:Ren} {t:bq} {a:Act} (hj:KJ P E A B ρ base w) (ht:jf P E ρ t N a):∀ (rs:List ResultVar) (vs:List KV),KI P A t rs=some vs->
  ∃ cE,qc P E ρ vs cE/\(rs.mapM (aaV a)).run P w=Result.ok cE w
 | [],vs,h=>by simp [KI] at h; subst h; exact ⟨[],⟨[],.nil,.nil⟩,by simp⟩
 | .tmp x::rs,vs,h=>by
  simp only [KI] at h;obtain ⟨us,hu,rfl⟩:=cC.1 h;obtain ⟨us',⟨m,h1,h3⟩,h2⟩:=DP hj ht rs us hu;obtain ⟨u,h4,h5⟩:=ht.ev (.tmp x);refine ⟨_::us',⟨u::m,.cons h4 h1,.cons h5 h3⟩,?_⟩;simp [List.mapM_cons,h2,Act.eval,aaV]
 | .cell x ty::rs,vs,h=>by
  simp only [KI] at h;split at h
  ·rename_i v hv
   obtain ⟨us,hu,rfl⟩:=cC.1 h;obtain ⟨us',⟨m,h1,h3⟩,h2⟩:=DP hj ht rs us hu;obtain ⟨u,h4,h5⟩:=ht.ev (.tmp x);have hg:aK (XD P ty A [jK t (.tmp x)]) v:=by rw [hv]; exact rfl
   obtain ⟨z,h6,h7⟩:=ahJ E A B _ _ v hj.k (.cons h4 .nil) hg;have h6:loadAt P ty B u=some z:=h6;obtain ⟨ad,h8,z',h9,rK⟩:=R4 (P:=P) hj.s.rel h5 h6;refine ⟨z'::us',⟨z::m,.cons h7 h1,.cons h9 h3⟩,?_⟩;have h8:a.tmps.getD x undef = .pointer (some ad):=h8;simp only [List.mapM_cons,Sem.run_bind,aaV,h8,asAddr,Sem.run_pure,gJ,rK,h2]
  ·simp at h
theorem Pw {ρ:Ren} {vs:List KV} {cE:List Value} (h:qc P E ρ vs cE):VC P E ρ (Gw vs) (if h:cE.toArray.size=1 then cE.toArray[0] else .tuple cE.toArray):=by
 obtain ⟨m,h1,h2⟩:=h
 match vs with
 | []=>
  rw [h1.bZ] at h2;rw [h2.bZ];exact ⟨_,.abS .nil,VR.mkTuple .nil⟩
 | [v]=>
  obtain ⟨u,rfl,h3⟩:=h1.dH;obtain ⟨y,ys,rfl,h4,h5⟩:=h2.cons_inv;rw [h5.bZ];exact ⟨u,h3,h4⟩
 | v::v2::vs=>
  obtain ⟨u,us,rfl,h3,h4⟩:=h1.cons_inv;obtain ⟨u2,us2,rfl,h5,h6⟩:=h4.cons_inv;obtain ⟨y,ys,rfl,h7,h8⟩:=h2.cons_inv;obtain ⟨y2,ys2,rfl,h9,rK⟩:=h8.cons_inv;rw [dif_neg (by simp)];exact ⟨_,.abS (.cons h3 (.cons h5 h6)),VR.mkTuple (.cons h7 (.cons h9 rK))⟩
def agn (vs:List Value):Value:=if h:vs.toArray.size=1 then vs.toArray[0] else .tuple vs.toArray
theorem MV {R:Type} {cfg:dE} {bz:mj R} (gw:ru P cfg.pc) (sX:KS P bz) (hm:P.follows .mixedOrders=true) (L:Nat) {f:FuncId} {fn:Func} {c:Code} (hf:P.funcs[f]? = some fn) (hb:fn.body=some c) (cQ:codeOk fn.ntmps c=true) (kU:alX P cfg f c)
  {args:List KV} {A:ao} {k:List KV->ao->Option R} {r:R} (h:oz P cfg bz L f c 1 (ahy P fn k) (mM args 0 .leaf) A=some r) {E:Env} {B:St} {ρ:Ren} {eV:List Value} {base:Nat} {w:World} (hv:qc P E ρ args eV) (hj:KJ P E A B ρ base w) :
  Calls P f eV.toArray w fun e w'=>∃ vs cE E' A' B' aJ,e = .returned (agn cE)/\qc P E' aJ vs cE/\Ev P base E A B ρ w E' A' B' aJ w'/\k vs A' = some r:=by
 refine calls_of_wp hf hb ?_;obtain ⟨aki,Ry,Te⟩:=hv;have hlen:eV.length=args.length:=by rw [Te.length,Ry.length]
 have ht:jf P E ρ (mM args 0 .leaf) (max fn.ntmps args.length) { tmps:=eV.toArray++Array.replicate (fn.ntmps - eV.toArray.size) undef,defers:=[] }:=by
  have dK:(eV.toArray++Array.replicate (fn.ntmps - eV.toArray.size) undef).size=max fn.ntmps args.length:=by
   simp [hlen];omega
  refine ⟨dK,fun i=>?_,fun i hi=>?_⟩
  ·rw [GH]
   simp only [yK,true_and,bp,Nat.sub_zero,Trie.Q1];by_cases hi:i < args.length
   ·rw [aI hi]
    obtain ⟨u,hu⟩:∃ u,args[i]? = some u:=⟨_,cM hi⟩
    obtain ⟨m,h1,h2⟩:=Ry.get hu;obtain ⟨u',h3,h4⟩:=Te.get h1;rw [hu];have:(eV.toArray++Array.replicate (fn.ntmps - eV.toArray.size) undef).getD i undef=u':=by
     rw [fQ,Array.getElem?_append_left (by simpa [hlen] using hi)];simp [h3]
    rw [this];exact ⟨m,h2,h4⟩
   ·rw [ak hi]
    exact VC.bA
  ·rw [GH,ak,Trie.Q1]
   simp only [yK,true_and,bp];have:=Nat.le_max_right fn.ntmps args.length;omega
 have ae8:codeOk (max fn.ntmps args.length) c=true:=kN (Nat.le_max_left _ _) c cQ;refine jZ (L:=L) (f:=f) (N:=max fn.ntmps args.length) gw sX hm kU c 1 .root ae8 _ r _ A E B ρ base _ w _ h ht hj fun e t' E' A' B' aJ a' w' h1 h2 h3 h4=>?_;have fin:∀ vs,KI P A' t' fn.results.toList=some vs->k vs A' = some r->∀ e:ae,(e = .normal\/e = .ret)->bodyPost P fn (fun e w'=>∃ vs cE E' A' B' aJ,e = .returned (agn cE)/\qc P E' aJ vs cE/\Ev P base E A B ρ w E' A' B' aJ w'/\k vs A' = some r) e.out a' w':=by
  intro vs hr hk e he;obtain ⟨cE,hvs,j5⟩:=DP (P:=P) h4.kj h2 _ _ hr;have aia:(results fn a'.tmps).run P w' = .ok (if h:cE.toArray.size=1 then cE.toArray[0] else .tuple cE.toArray) w':=by
   rw [Zf,Sem.run_bind,Array.mapM_eq_mapM_toList,Sem.run_map,j5];rfl
  have acs:bodyPost P fn (fun e w'=>∃ vs cE E' A' B' aJ,e = .returned (agn cE)/\qc P E' aJ vs cE/\Ev P base E A B ρ w E' A' B' aJ w'/\k vs A' = some r) .ret a' w':=by
   exact ⟨h3,_,aia,vs,cE,E',A',B',aJ,rfl,hvs,h4,hk⟩
  rcases he with rfl | rfl
  ·exact acs
  ·exact acs
 cases e with
 | normal=>
  have h1:Option.rec (motive:=fun _=>Option R) none (fun vs=>k vs A') (KI P A' t' fn.results.toList)=some r:=h1;cases hr:KI P A' t' fn.results.toList with
  | none=>rw [hr] at h1; exact absurd h1 (by simp)
  | some vs=>rw [hr] at h1; exact fin vs hr h1 .normal (.inl rfl)
 | ret=>
  have h1:Option.rec (motive:=fun _=>Option R) none (fun vs=>k vs A') (KI P A' t' fn.results.toList)=some r:=h1;cases hr:KI P A' t' fn.results.toList with
  | none=>rw [hr] at h1; exact absurd h1 (by simp)
  | some vs=>rw [hr] at h1; exact fin vs hr h1 .ret (.inr rfl)
 | exit id=>exact absurd h1 (by simp [ahy])
 | goto l=>exact absurd h1 (by simp [ahy])
end Go.K
end
section
namespace Go.K
open Go Go.aq
variable {P:Program} {E:Env}
def afb (P:Program) (ac:FuncId->Option (List KV->ao->sU)):Prop:=∀ g F,ac g=some F->∀ {R:Type} (args:List KV) (A:ao) (k:KV->ao->Option R) (r:R),sU.run k (F args A)=some r->yf P g/\
 ∀ (E:Env) (B:St) (ρ:Ren) (base:Nat) (w:World) (eV:List Value),qc P E ρ args eV->KJ P E A B ρ base w->
  Calls P g eV.toArray w fun e w'=>∃ v v' E' A' B' aJ,e = .returned v'/\VC P E' aJ v v'/\Ev P base E A B ρ w E' A' B' aJ w'/\k v A' = some r
theorem afb.none {P:Program} : afb P fun _=>.none:=fun g F h=>by simp at h
def xl (P:Program) (cfg:dE):Prop:=afb P cfg.x.ac/\∀ f fn c,P.funcs[f]? = some fn->fn.body=some c->alX P cfg f c
theorem Px {R:Type} {cfg:dE} {bz:mj R} {L:Nat} {f:FuncId} {args:List KV} {A:ao} {k:List KV->ao->Option R} {r:R} (hP:P.funcs.toList.all mA=true) (h:XL P cfg bz L f args A k=some r) :
  ∃ fn c, P.funcs[f]? = some fn ∧ fn.body = some c ∧ codeOk fn.ntmps c = true ∧ (fn.name == "runtime.NumGoroutine") = false ∧ oz P cfg bz L f c 1 (ahy P fn k) (mM args 0 .leaf) A = some r := by
 unfold XL at h;split at h
 ·rename_i fn hf
  split at h
  ·rename_i c hc
   have hf' : P.funcs[f]? = some fn:=by simpa using hf
   have cQ:=eM.1 hP fn (fR hf);unfold mA at cQ;rw [hc] at cQ;simp only [au,jT] at cQ;exact ⟨fn,c,hf',hc,cQ.1,cQ.2,h⟩
  ·simp at h
 ·simp at h
theorem sI {R:Type} {cfg:dE} (hP:P.funcs.toList.all mA=true) (hm:P.follows .mixedOrders=true) (gw:ru P cfg.pc) (kU:xl P cfg) (L:Nat):∀ n,KS (R:=R) P (Ic P cfg L n)
 | 0=>fun f args A k r h=>absurd h (by simp [Ic])
 | n+1=>fun f args A k r h=>by
  have h:Bool.rec (motive:=fun _=>Option R) none (Option.rec (motive:=fun _=>Option R) (XL P cfg (Ic P cfg L n) L f args A fun vs B=>k (Gw vs) B) (fun F=>sU.run k (F args A)) (cfg.x.ac f)) (Nat.blt f yB)=some r:=h;cases hy:Nat.blt f yB with
  | false=>rw [hy] at h; exact absurd h (by simp)
  | true=>
   rw [hy] at h;cases hac:cfg.x.ac f with
   | some F=>
    rw [hac] at h;exact kU.1 f F hac args A k r h
   | none=>
    rw [hac] at h;have h:XL P cfg (Ic P cfg L n) L f args A (fun vs B=>k (Gw vs) B)=some r:=h;obtain ⟨fn,c,hf,hc,cQ,hnm,h⟩:=Px hP h;refine ⟨⟨hy,fn,hf,by simp [hc],hnm⟩,fun E B ρ base w eV hv hj=>?_⟩;refine (MV gw (sI hP hm gw kU L n) hm L hf hc cQ (kU.2 f fn c hf hc) h hv hj).mono ?_;rintro e w' ⟨vs,cE,E',A',B',aJ,rfl,h1,h2,h3⟩;exact ⟨Gw vs,_,E',A',B',aJ,rfl,Pw h1,h2,h3⟩
def ZLe (E E0:Env):Prop:=∀ b r,E.z b=some r->∃ r0,E0.z b=some r0/\r0.bH=r.bH/\r0.cs=r.cs
theorem ZLe.of {E E0:Env} (h:E0.z=E.z):ZLe E E0:=fun b r e=>⟨r,by rw [h]; exact e,rfl,rfl⟩
mutual
theorem VK.zK {E0:Env} (hz:ZLe E E0):∀ {v:KV} {u:Value} {c:CK},VK P E v u->kindOk c v=true->VK P E0 v u
 | .int k n,u,c,h,_=>h
 | .bool b,u,c,h,_=>h
 | .str s,u,c,h,_=>h
 | .ts T m n es acc,u,c,h,hk=>by
  cases c <;> simp [kindOk] at hk;rename_i t;cases m <;> simp at hk;obtain ⟨ht,bo,h1,a,cap,rfl,h2,h3,h4⟩:=h.jY;simp only [VK];refine ⟨ht,bo,ba.zEs hz h1 ht.typed,a,cap,rfl,h2,?_,trivial⟩;refine h3.imp id ?_;rintro ⟨b,off,r,e1,e2,e3⟩;obtain ⟨r0,q1,q2,q3⟩:=hz b r e2;exact ⟨b,off,r0,e1,q1,by rw [q2]; exact e3.1,by rw [q3]; exact e3.2⟩
 | .agg cs,u,c,h,hk=>by cases c <;> simp [kindOk] at hk
 | .jV cs,u,c,h,hk=>by cases c <;> simp [kindOk] at hk
 | .tp T Tc i k es acc,u,c,h,hk=>by cases c <;> simp [kindOk] at hk
 | .al T b o n,u,c,h,hk=>by cases c <;> simp [kindOk] at hk
 | .ap T Tc b i k,u,c,h,hk=>by cases c <;> simp [kindOk] at hk
 | .ptr b off,u,c,h,hk=>by cases c <;> simp [kindOk] at hk
 | .sl b off n cap,u,c,h,hk=>by cases c <;> simp [kindOk] at hk
 | .E4,u,c,h,hk=>by cases c <;> simp [kindOk] at hk
 | .jz,u,c,h,hk=>by cases c <;> simp [kindOk] at hk
 | .yX,u,c,h,hk=>by cases c <;> simp [kindOk] at hk
 | .map b,u,c,h,hk=>by cases c <;> simp [kindOk] at hk
 | .fn f a b,u,c,h,hk=>by cases c <;> simp [kindOk] at hk
 | .Gs,u,c,h,hk=>by cases c <;> simp [kindOk] at hk
 | .iface t x,u,c,h,hk=>by cases c <;> simp [kindOk] at hk
 | .Gt,u,c,h,hk=>by cases c <;> simp [kindOk] at hk
 | .bA,u,c,h,hk=>by cases c <;> simp [kindOk] at hk
theorem VK.zE {E0:Env} (hz:ZLe E E0):∀ {v:KV} {u:Value} {l:Lay},VK P E v u->cl l v=true->VK P E0 v u
 | .int k n,u,l,h,_=>h
 | .bool b,u,l,h,_=>h
 | .str s,u,l,h,_=>h
 | .agg cs,u,l,h,hk=>by
  simp only [cl,au] at hk;obtain ⟨m,rfl,h1⟩:=h.jP;exact .ow (ba.zKs hz h1 hk.2)
 | .ts T m n es acc,u,l,h,hk=>by
  have tJ:∃ c,kindOk c (.ts T m n es acc)=true:=by
   simp only [cl,au] at hk;cases pT:l.ks with
   | nil=>rw [pT] at hk; simp [aA] at hk
   | cons c cs=>rw [pT] at hk; simp only [aA,au] at hk; exact ⟨c,hk.2.1⟩
  obtain ⟨c,hk⟩:=tJ;cases c <;> simp [kindOk] at hk;rename_i t;cases m <;> simp at hk;obtain ⟨ht,bo,h1,a,cap,rfl,h2,h3,h4⟩:=h.jY;simp only [VK];refine ⟨ht,bo,ba.zEs hz h1 ht.typed,a,cap,rfl,h2,?_,trivial⟩;refine h3.imp id ?_;rintro ⟨b,off,r,e1,e2,e3⟩;obtain ⟨r0,q1,q2,q3⟩:=hz b r e2;exact ⟨b,off,r0,e1,q1,by rw [q2]; exact e3.1,by rw [q3]; exact e3.2⟩
 | .jV cs,u,l,h,hk=>by simp [cl] at hk
 | .tp T Tc i k es acc,u,l,h,hk=>by
  obtain ⟨h1,_⟩:=fN hk;cases pT:l.ks with
  | nil=>rw [pT] at h1; simp [KV.cells,aA] at h1
  | cons c cs=>rw [pT] at h1; cases c <;> simp [KV.cells,aA,kindOk] at h1
 | .al T b o n,u,l,h,hk=>by
  obtain ⟨h1,_⟩:=fN hk;cases pT:l.ks with
  | nil=>rw [pT] at h1; simp [KV.cells,aA] at h1
  | cons c cs=>rw [pT] at h1; cases c <;> simp [KV.cells,aA,kindOk] at h1
 | .ap T Tc b i k,u,l,h,hk=>by
  obtain ⟨h1,_⟩:=fN hk;cases pT:l.ks with
  | nil=>rw [pT] at h1; simp [KV.cells,aA] at h1
  | cons c cs=>rw [pT] at h1; cases c <;> simp [KV.cells,aA,kindOk] at h1
 | .ptr b off,u,l,h,hk=>by
  obtain ⟨h1,_⟩:=fN hk;cases pT:l.ks with
  | nil=>rw [pT] at h1; simp [KV.cells,aA] at h1
  | cons c cs=>rw [pT] at h1; cases c <;> simp [KV.cells,aA,kindOk] at h1
 | .sl b off n cap,u,l,h,hk=>by
  obtain ⟨h1,_⟩:=fN hk;cases pT:l.ks with
  | nil=>rw [pT] at h1; simp [KV.cells,aA] at h1
  | cons c cs=>rw [pT] at h1; cases c <;> simp [KV.cells,aA,kindOk] at h1
 | .E4,u,l,h,hk=>h
 | .jz,u,l,h,hk=>h
 | .yX,u,l,h,hk=>h
 | .map b,u,l,h,hk=>by
  obtain ⟨h1,_⟩:=fN hk;cases pT:l.ks with
  | nil=>rw [pT] at h1; simp [KV.cells,aA] at h1
  | cons c cs=>rw [pT] at h1; cases c <;> simp [KV.cells,aA,kindOk] at h1
 | .fn f a b,u,l,h,hk=>by
  obtain ⟨h1,_⟩:=fN hk;cases pT:l.ks with
  | nil=>rw [pT] at h1; simp [KV.cells,aA] at h1
  | cons c cs=>rw [pT] at h1; cases c <;> simp [KV.cells,aA,kindOk] at h1
 | .Gs,u,l,h,hk=>h
 | .iface t x,u,l,h,hk=>by
  obtain ⟨h1,_⟩:=fN hk;cases pT:l.ks with
  | nil=>rw [pT] at h1; simp [KV.cells,aA] at h1
  | cons c cs=>rw [pT] at h1; cases c <;> simp [KV.cells,aA,kindOk] at h1
 | .Gt,u,l,h,hk=>h
 | .bA,u,l,h,hk=>h
theorem ba.zKs {E0:Env} (hz:ZLe E E0):∀ {vs:List KV} {us:List Value} {ks:List CK},ba P E vs us->aA ks vs=true->ba P E0 vs us
 | [],us,ks,h,_=>by rw [h.bZ]; exact .nil
 | v::vs,us,[],h,hk=>by simp [aA] at hk
 | v::vs,us,c::ks,h,hk=>by
  simp only [aA,au] at hk;simp only [ba] at h ⊢;obtain ⟨y,ys,e,h1,h2⟩:=h;exact ⟨y,ys,e,VK.zK hz h1 hk.1,ba.zKs hz h2 hk.2⟩
theorem ba.zEs {E0:Env} (hz:ZLe E E0):∀ {vs:List KV} {us:List Value} {l:Lay},ba P E vs us->dV l vs=true->ba P E0 vs us
 | [],us,l,h,_=>by rw [h.bZ]; exact .nil
 | v::vs,us,l,h,hk=>by
  simp only [dV,au] at hk;simp only [ba] at h ⊢;obtain ⟨y,ys,e,h1,h2⟩:=h;exact ⟨y,ys,e,VK.zE hz h1 hk.1,ba.zEs hz h2 hk.2⟩
end
theorem VK.an9 {E0:Env} (hz:ZLe E E0) {c:CK} {v:KV} {u:Value} (h:VK P E v u):VK P E0 (K.lM c v) u:=by
 have hn:=h.lM (c:=c);cases hk:kindOk c (K.lM c v) with
 | true=>exact hn.zK hz hk
 | false=>
  have:K.lM c v = .bA:=by
   revert hk
   unfold K.lM;split
   ·intro hk; simp [kindOk] at hk
   ·rename_i t t' m n es acc
    cases hb:Nat.beq t t' with
    | false=>intro _; rfl
    | true=>intro hk; simp [kindOk] at hk
   ·cases hb:kindOk c v with
    | false=>intro _; rfl
    | true=>intro hk; rw [aj,hb] at hk; simp at hk
  rw [this];exact .qB
theorem ba.aib {E0:Env} (hz:ZLe E E0):∀ {ks:List CK} {cs:List KV} {l:List Value},ba P E cs l->cs.length=ks.length->ba P E0 (K.yY ks cs) l
 | [],[],l,h,_=>by rw [h.bZ]; exact .nil
 | [],_::_,_,_,e=>by simp at e
 | _::_,[],_,_,e=>by simp at e
 | c::ks,v::cs,l,h,e=>by
  obtain ⟨y,ys,rfl,h1,h2⟩:=h.cons_inv;exact .cons (h1.an9 hz) (ba.aib hz h2 (by simpa using e))
theorem VK.apj {E0:Env} (hz:ZLe E E0) {l:Lay} {v:KV} {u:Value} (h:VK P E v u):VK P E0 (K.dy l v) u:=by
 unfold K.dy;split
 ·rename_i cs
  obtain ⟨m,rfl,h1⟩:=h.jP;cases hb:(l.agg&&Nat.beq cs.length l.ks.length) with
  | false=>exact .qB
  | true=>
   simp only [au] at hb;exact .ow (h1.aib hz (aW hb.2))
 ·cases l.agg with
  | true=>exact .qB
  | false=>
   rw [aF];split
   ·exact h.an9 hz
   ·exact .qB
theorem VK.aqF {E0:Env} (hz:ZLe E E0) {t:TypeId} {v:KV} {u:Value} (h:VK P E v u):VK P E0 (K.Vh P t v) u:=by
 unfold K.Vh;cases hb:cl (aX P t) (K.dy (aX P t) v) with
 | false=>exact .qB
 | true=>exact VK.eE _ hb (h.apj hz)
theorem ba.Py {E0:Env} (hz:ZLe E E0):∀ {ts:List TypeId} {vs:List KV} {us:List Value},ba P E vs us->vs.length=ts.length->ba P E0 (normArgs P ts vs) us
 | [],[],us,h,_=>by rw [h.bZ]; exact .nil
 | [],_::_,_,_,e=>by simp at e
 | _::_,[],_,_,e=>by simp at e
 | t::ts,v::vs,us,h,e=>by
  obtain ⟨y,ys,rfl,h1,h2⟩:=h.cons_inv;exact .cons (h1.aqF hz) (ba.Py hz h2 (by simpa using e))
theorem GI:∀ (ts:List TypeId) (vs:List KV),uN P ts vs=normArgs P ts vs
 | [],vs=>by cases vs <;> rfl
 | t::ts,[]=>rfl
 | t::ts,v::vs=>by simp [uN,normArgs,GI ts vs]
theorem KW:∀ {ts:List TypeId} {vs:List KV},vs.length=ts.length->(normArgs P ts vs).length=ts.length
 | [],[],_=>rfl
 | [],_::_,e=>by simp at e
 | _::_,[],e=>by simp at e
 | t::ts,v::vs,e=>by simp [normArgs,KW (ts:=ts) (vs:=vs) (by simpa using e)]
def Env.bare (E:Env):Env:={ E with κ:=fun _=>none,φ:=fun _=>none,α:=fun _=>none }
theorem dU.bare {A:ao} {B:St} (h:dU P E A B):dU P E.bare .empty B where
 row b cs bH hb:=by simp [ao.empty,ao.get] at hb
 aQ b top sz hb:=by simp [ao.empty,ao.get] at hb
 z:=h.z
 apart b x e:=by simp [Env.bare] at e
 inj b c x e:=by simp [Env.bare] at e
 ib b c g _ _ _ _ _ _ e:=by simp [Env.bare] at e
 jx b x e:=by simp [Env.bare] at e
 kQ b g e:=by simp [Env.bare] at e
 live b o hb:=by simp [ao.empty,ao.get] at hb
 fk b x e:=by simp [Env.bare] at e
 kR:=h.kR
 iR b g e:=by simp [Env.bare] at e
 fresh:=h.fresh
 mem:=h.mem
 ar:=by
  have hn:∀ b v,¬ ao.empty.get b=some (.arr v):=fun b v hb=>by simp [ao.empty,ao.get] at hb
  exact ⟨fun b v hb=>(hn b v hb).elim,fun b v hb=>by simp [ao.empty,ao.get] at hb,fun x ⟨b,v,_,_,hb,_⟩=>(hn b v hb).elim,fun b c v u x L N L' N' hb=>(hn b v hb).elim,fun b c v u x y L N L' N' cs e own g k bV e' od k' hb=>(hn b v hb).elim,fun b x e=>by simp [Env.bare] at e,fun b p e=>by simp [Env.bare] at e,fun b x L N e=>by simp [Env.bare] at e,fun b v x L N cs e own g k hb=>(hn b v hb).elim,fun b v hb=>(hn b v hb).elim⟩
theorem aic {x:Nat} : ¬ AR .empty E.bare x:=fun ⟨b,v,_,_,hb,_⟩=>by simp [ao.empty,ao.get] at hb
theorem aid {B:St} {g:Nat} : ¬ AF .empty E.bare B g:=fun ⟨b,v,_,_,_,_,_,_,_,hb,_⟩=>by simp [ao.empty,ao.get] at hb
theorem aoa {B:St} {y:Nat} : ¬ AT .empty E.bare B y:=fun q=>q.elim aic fun ⟨_,q,_⟩=>aid q
theorem Ev.bare {base:Nat} {A A1:ao} {B B1:St} {ρ lr:Ren} {w w1:World} {E1:Env} (h:dU P E A B) (tY:Ev P base E.bare .empty B ρ w E1 A1 B1 lr w1):Ev P base E A B ρ w { E with z:=E1.z } A B1 lr w1:=by
 have hle:E.le { E with z:=E1.z }:=⟨fun _ _ e=>e,fun _ _ e=>e,tY.le.z,fun _ _ e=>e⟩
 have MW:∀ x,x < B.next->B1.get x=B.get x:=fun x hx=>tY.eY x hx (fun b e=>by simp [Env.bare] at e) aoa;have lx:∀ g,g < B.next->B1.members g=B.members g:=fun g hg=>tY.oX g hg (fun b e=>by simp [Env.bare] at e) aid;have gE:=tY.eF.next;have Pf:∀ b r,E1.z b=some r->E.z b=some r\/B.next<=b:=fun b r e=>by
  rcases tY.sh b r e with e | e | e
  ·exact .inl e
  ·exact (aic e).elim
  ·exact .inr e
 have pU:∀ y,AR A { E with z:=E1.z } y->AR A E y:=fun y q=>q;have ap4:∀ g,AF A E B g->g < B.next:=fun g ⟨b,v,x,L,N,cs,e,own,k,h1,h2,h3⟩=>(h.ar.rq b v x L N cs e own g k h1 h2 h3).1;have JA:∀ g,AF A { E with z:=E1.z } B1 g->AF A E B g:=fun g ⟨b,v,x,L,N,cs,e,own,k,h1,h2,h3⟩=>⟨b,v,x,L,N,cs,e,own,k,h1,h2,by rw [<- MW x (h.ar.fk b x L N h2)]; exact h3⟩
 refine ⟨⟨?_,?_,tY.gX.z,?_,h.inj,h.ib,h.jx,h.kQ,h.live,?_,tY.gX.kR,?_,tY.gX.fresh,tY.gX.mem,h.ar.eY hle (fun _=>rfl) (fun _ _ e=>e) (fun _ _ e=>e) (aH _) gE (fun x q=>MW x (h.Ih q)) Pf (fun _ _ e=>.inl e) (fun b g e=>.inl ⟨b,e⟩) (fun g q=>lx g (ap4 g q)) h.mem⟩,tY.eF,hle,aH _,fun x hx _ _=>MW x hx,fun _ _ e=>.inl e,fun b r e=>(Pf b r e).imp id .inr,fun _ _ e=>.inl ⟨_,e⟩,fun g hg _ _=>lx g hg,fun y q=>.inl (pU y q),fun g q=>.inl (JA g q),tY.tU,fun y q=>.inl (q.imp (pU y) fun ⟨g,q1,q2⟩=>⟨g,JA g q1,by rw [<- lx g (ap4 g (JA g q1))]; exact q2⟩),tY.rows⟩
 ·intro b cs bH hb
  obtain ⟨x,c,h1,h2,h3⟩:=h.row b cs bH hb;exact ⟨x,c,h1,by rw [MW x (h.fk b x h1)]; exact h2,h3.mono hle⟩
 ·intro b top sz hb
  rcases h.aQ b top sz hb with h1 | ⟨g,h1,h2,h3⟩
  ·exact .inl h1
  ·have hg:=h.iR b g h1
   refine .inr ⟨g,h1,h2,fun x hx cs e own f k hr=>?_⟩;rw [lx g hg] at hx;rw [MW x (h.mem g x hx)] at hr;exact h3 x hx cs e own f k hr
 ·intro b x hb
  have hx:=h.fk b x hb;cases hz:E1.z x with
  | none=>rfl
  | some r=>
   rcases Pf x r hz with e | e
   ·rw [h.apart b x hb] at e; simp at e
   ·omega
 ·intro b x hb; have:=h.fk b x hb; omega
 ·intro b g hb; have:=h.iR b g hb; omega
theorem aob {g:FuncId} {F:List KV->KR KV} (hy:Nat.blt g yB=true) (hP:P.funcs.toList.all mA=true) (hm:P.follows .mixedOrders=true)
  (h:∀ ago v,ago.length=(cn P g).length->aK (F (normArgs P (cn P g) ago)) v->∃ cfg L n,ru P cfg.pc/\xl P cfg/\xh P cfg L n g (normArgs P (cn P g) ago)=some v):aY P g F:=by
 intro args v hF hlen;obtain ⟨cfg,L,n,gw,kU,j5⟩:=h _ v hlen hF;have sX:=sI (R:=KV) hP hm gw kU L n;obtain ⟨fn,c,hf,hc,cQ,hnm,j5⟩:=Px hP j5;refine ⟨⟨hy,fn,hf,by simp [hc],hnm⟩,fun E A B ρ base w eV hv hj=>?_⟩;obtain ⟨aki,Ry,Te⟩:=hv;have hv0:qc P E.bare ρ (normArgs P (cn P g) args) eV:=⟨aki,ba.Py (E:=E) (E0:=E.bare) (.of rfl) Ry hlen,Te⟩
 refine (MV gw sX hm L hf hc cQ (kU.2 g fn c hf hc) j5 hv0 ⟨hj.k.bare,hj.s⟩).mono ?_;rintro e w' ⟨vs,cE,E0,A0,B1,lr,rfl,⟨m,h1,h1'⟩,h2,h3⟩;have h3:Bool.rec (motive:=fun _=>Option KV) none (some (Gw (uN P (qz P g) (vy A0 vs).1))) (Nat.beq vs.length (qz P g).length)=some v:=h3;obtain ⟨E1,hf1,h1⟩:=Ii h2.gX h1;have tY:=Ev.bare hj.k (h2.trans (hf1.ev (.refl h2.eF.gX)));cases hb:Nat.beq vs.length (qz P g).length with
 | false=>rw [hb] at h3; exact absurd h3 (by simp)
 | true=>
  rw [hb] at h3;have h3:some (Gw (uN P (qz P g) (vy A0 vs).1))=some v:=h3;simp only [cJ] at h3;subst h3;refine ⟨_,_,B1,lr,rfl,Pw ⟨m,?_,h1'⟩,tY⟩;rw [GI];exact ba.Py (E:=E1) (E0:={ E with z:=E1.z }) (.of rfl) h1 ((MM A0 vs).trans (aW hb))
end Go.K
end
