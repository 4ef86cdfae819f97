/- Part of the proof of ImageFrags: the machine, shown to be the model's, and plain models. No conditions. -/
import Derived.Test.YtchbpckkmgcgkaaGreatDp
import Derived.LoopN
set_option linter.unusedSimpArgs false
set_option linter.unusedVariables false
section
namespace Go.K
open Go Go.aE
variable {P:Program} {E:Env}
theorem aan {cfg:fW} {all:List Oper} {b:List Nat} {i:Nat} {y:Oper} : ∀ (xs:List Oper) (k:Nat),Wv P cfg all b i y xs k=true->∀ (j:Nat) (x:Oper),xs[j]? = some x->k+j < i->Oo P cfg all x y=true->tK b i (k+j)=true\/(xV P cfg all x y=false/\(adX all (k+j) x i y).isSome=true)
 | [],k,_,j,x,hx,_,_=>by simp at hx
 | x0::xs,k,h,0,x,hx,bu,hc=>by
  simp at hx;subst hx;simp only [Wv,aD,u4,nz] at h;rcases h.1 with ((h1 | h1) | h1) | h1
  ·have:=gD h1; omega
  ·rw [hc] at h1; simp at h1
  ·exact .inl h1
  ·exact .inr h1
 | x0::xs,k,h,j+1,x,hx,bu,hc=>by
  simp only [Wv,aD] at h;have:=aan xs (k+1) h.2 j x (by simpa using hx) (by omega) hc;rwa [show k+1+j=k+(j+1) by omega] at this
theorem UH {cfg:fW} {all:List Oper} {b:List Nat} : ∀ (os:List Oper) (k:Nat),PB P cfg all b os k=true->∀ (i:Nat) (o:Oper),os[i]? = some o->Wv P cfg all b (k+i) o all 0=true
 | [],k,_,i,o,ho=>by simp at ho
 | o0::os,k,h,0,o,ho=>by
  simp at ho;subst ho;simp only [PB,aD] at h;exact h.1
 | o0::os,k,h,i+1,o,ho=>by
  simp only [PB,aD] at h;have:=UH os (k+1) h.2 i o (by simpa using ho);rwa [show k+1+i=k+(i+1) by omega] at this
theorem aao {cfg:fW} {all:List Oper} {b:List Nat} {i:Nat} {y:Oper} {p:Option Operand×Operand} : ∀ (xs:List Oper) (k j:Nat) (x:Oper),xs[j]? = some x->k+j < i->Oo P cfg all x y=true->tK b i (k+j)=false->adX all (k+j) x i y=some p->p∈Iv P cfg all b i y xs k
 | [],k,j,x,hx,_,_,_,_=>by simp at hx
 | x0::xs,k,0,x,hx,bu,hm,hb,he=>by
  simp at hx;subst hx;have h1:(Nat.ble i k||!Oo P cfg all x0 y||tK b i k)=false:=by
   rw [hm,show tK b i k=false from hb];cases h:Nat.ble i k with
   | false=>rfl
   | true=>have:=gD h; omega
  simp only [Iv];rw [h1,aw,show adX all k x0 i y=some p from he];exact Kj
 | x0::xs,k,j+1,x,hx,bu,hm,hb,he=>by
  have e:k+(j+1)=k+1+j:=by omega
  have:=aao (b:=b) (p:=p) xs (k+1) j x (by simpa using hx) (show k+1+j < i by omega) hm (by rw [<- e]; exact hb) (by rw [<- e]; exact he);simp only [Iv];cases (Nat.ble i k||!Oo P cfg all x0 y||tK b i k) with
  | true=>exact this
  | false=>
   rw [aw];split
   ·exact wh _ this
   ·exact this
theorem XL {cfg:fW} {all:List Oper} {b:List Nat} {p:Option Operand×Operand} : ∀ (os:List Oper) (k i:Nat) (y:Oper),os[i]? = some y->p∈Iv P cfg all b (k+i) y all 0->p∈ach P cfg all b os k
 | [],k,i,y,hy,_=>by simp at hy
 | o::os,k,0,y,hy,h=>by
  simp at hy;subst hy;exact List.mem_append_left _ h
 | o::os,k,i+1,y,hy,h=>by
  refine List.mem_append_right _ (XL os (k+1) i y (by simpa using hy) ?_);rwa [show k+1+i=k+(i+1) by omega]
structure XM (P:Program) (cfg:fW) (all:List Oper):Prop where
 reg:vc P all
 kind:∀ o∈all,ef (cf P cfg o.op)<=3
 ord:∀ i j x y,all[i]? = some y->all[j]? = some x->j < i->Oo P cfg all x y=true->tK (fX [] all) i j=true\/(xV P cfg all x y=false/\∃ p,adX all j x i y=some p/\p∈Oq P cfg all)
 plain:∀ p,p∈Oq P cfg all->YJ P cfg all=true
theorem am0 {cfg:fW} {all:List Oper} (h:amA P cfg all=true):XM P cfg all:=by
 unfold amA at h;simp only [aD] at h;refine ⟨Jc h.1.1.1,fun o ho=>gD (im.1 h.1.1.2 o ho),fun i j x y hy hx bu hm=>?_,fun p hp=>?_⟩
 ·have:=UH all 0 h.1.2 i y hy
  rw [bk] at this;have:=aan all 0 this j x hx (by omega) hm;rw [bk] at this;cases hb:tK (fX [] all) i j with
  | true=>exact .inl rfl
  | false=>
   rcases this with h1 | ⟨h1,h2⟩
   ·rw [hb] at h1; simp at h1
   ·obtain ⟨p,hp⟩:=afI.1 h2
    refine .inr ⟨h1,p,hp,XL all 0 i y hy ?_⟩;rw [bk];exact aao all 0 j x hx (by omega) hm (by rw [bk]; exact hb) (by rw [bk]; exact hp)
 ·have h2:=h.2
  simp only [u4] at h2;rcases h2 with h2 | h2
  ·rw [List.isEmpty_iff] at h2
   rw [h2] at hp;simp at hp
  ·exact h2
structure ahb (P:Program) (cfg:fW) (all:List Oper):Prop where
 reg:vc P all
 I8:∀ {i j:Nat} {x y:Oper},all[i]? = some y->all[j]? = some x->j < i->xV P cfg all x y=true->tK (fX [] all) i j=true
theorem XM.toT {cfg:fW} {all:List Oper} (hf:XM P cfg all):ahb P cfg all:=⟨hf.reg,fun {i j x y} hy hx bu hc=>by
 rcases hf.ord i j x y hy hx bu (by unfold Oo; rw [hc]; rfl) with h | ⟨h,_⟩
 ·exact h
 ·rw [hc] at h; simp at h⟩
def aap (P:Program) (cfg:fW) (all:List Oper) (i:Nat):Prop:=∀ j q,all[j]? = some q->Nat.ble 3 (ef (cf P cfg q.op))=true->(j < i->tK (fX [] all) i j=true)/\(i < j->tK (fX [] all) j i=true)
theorem Ff {x y:Oper} {p:Option Operand×Operand} (h:Ru x y=some p):(∃ T,y.op = .load T p.2)/\((p.1=none/\Wu x.op=true)\/∃ T a v,p.1=some a/\x.op = .store T a v):=by
 unfold Ru at h;split at h
 ·rename_i a ha
  have hl:∃ T,y.op = .load T a:=by
   unfold apV at ha;split at ha
   ·rename_i T a' e; simp at ha; subst ha; exact ⟨T,e⟩
   ·simp at ha
  cases hs:Wu x.op with
  | true=>
   rw [hs,ai] at h;simp at h;subst h;exact ⟨hl,.inl ⟨rfl,rfl⟩⟩
  | false=>
   rw [hs,aw] at h;split at h
   ·rename_i a2 ha2
    simp at h;subst h;refine ⟨hl,.inr ?_⟩;unfold aaa at ha2;split at ha2
    ·rename_i T a3 v e; simp at ha2; subst ha2; exact ⟨T,_,v,rfl,e⟩
    ·simp at ha2
   ·simp at h
 ·simp at h
theorem ahc {all:List Oper} {i j:Nat} {x y:Oper} {p:Option Operand×Operand} (h:adX all j x i y=some p) :
  (Ru x y=some p/\zX i p.2 all 0=true/\Rt j p.1 all=true)\/(Ru y x=some p/\zX j p.2 all 0=true/\Rt i p.1 all=true):=by
 unfold adX at h;split at h
 ·rename_i q hq
  cases hb:(zX i q.2 all 0&&Rt j q.1 all) with
  | false=>rw [hb] at h; simp at h
  | true=>
   rw [hb,ai] at h;simp at h;subst h;simp only [aD] at hb;exact .inl ⟨hq,hb.1,hb.2⟩
 ·split at h
  ·rename_i q hq
   cases hb:(zX j q.2 all 0&&Rt i q.1 all) with
   | false=>rw [hb] at h; simp at h
   | true=>
    rw [hb,ai] at h;simp at h;subst h;simp only [aD] at hb;exact .inr ⟨hq,hb.1,hb.2⟩
  ·simp at h
theorem Lw {cfg:fW} {o:Oper} {T:TypeId} {a:Operand} (h:o.op = .load T a):ef (cf P cfg o.op)=1:=by rw [h]; rfl
theorem unordered {cfg:fW} {all:List Oper} (hf:XM P cfg all) {i j:Nat} {o q:Oper} (ho:all[i]? = some o) (hq:all[j]? = some q) (hk:ef (cf P cfg o.op)≠0) (h3:Nat.ble 3 (ef (cf P cfg q.op))=true) :
  ((j < i->tK (fX [] all) i j=true)/\(i < j->tK (fX [] all) j i=true))\/∃ p,p∈Oq P cfg all/\Ru q o=some p/\zX i p.2 all 0=true/\Rt j p.1 all=true:=by
 have Cc:Nat.beq (ef (cf P cfg o.op)) 0=false:=by
  cases hb:Nat.beq (ef (cf P cfg o.op)) 0 with
  | false=>rfl
  | true=>exact absurd (bo hb) hk
 have hnl:∀ T a,q.op≠.load T a:=fun T a e=>by rw [Lw e] at h3; simp at h3
 rcases Nat.lt_trichotomy j i with h | h | h
 ·rcases hf.ord i j q o ho hq h (by unfold Oo; rw [h3,Cc]; simp) with h1 | ⟨_,p,h1,h2⟩
  ·exact .inl ⟨fun _=>h1,fun h'=>by omega⟩
  ·rcases ahc h1 with ⟨e1,e2,e3⟩ | ⟨e1,e2,e3⟩
   ·exact .inr ⟨p,h2,e1,e2,e3⟩
   ·obtain ⟨⟨T,e⟩,_⟩:=Ff e1
    exact absurd e (hnl _ _)
 ·exact .inl ⟨fun h'=>by omega,fun h'=>by omega⟩
 ·rcases hf.ord j i o q hq ho h (by unfold Oo; rw [h3,Cc]; simp) with h1 | ⟨_,p,h1,h2⟩
  ·exact .inl ⟨fun h'=>by omega,fun _=>h1⟩
  ·rcases ahc h1 with ⟨e1,e2,e3⟩ | ⟨e1,e2,e3⟩
   ·obtain ⟨⟨T,e⟩,_⟩:=Ff e1
    exact absurd e (hnl _ _)
   ·exact .inr ⟨p,h2,e1,e2,e3⟩
theorem UI {cfg:fW} {all:List Oper} (hf:XM P cfg all) {i:Nat} {o:Oper} (ho:all[i]? = some o) (hk:ef (cf P cfg o.op)≠0) (hn:∀ T a,o.op≠.load T a):aap P cfg all i:=fun j q hq h3=>by
 rcases unordered hf ho hq hk h3 with h | ⟨p,_,h,_⟩
 ·exact h
 ·obtain ⟨⟨T,e⟩,_⟩:=Ff h
  exact absurd e (hn _ _)
theorem GQ {cfg:fW} {o:Oper} (h:ef (cf P cfg o.op)<=3):∀ f args,cf P cfg o.op≠.call f args:=by
 intro f args e;rw [e] at h;simp [ef] at h
theorem Fg {d:Tmp} {l:List Tmp} (h:d∈l):Uf (some d) l=true:=by
 simp only [Uf,List.any_eq_true];exact ⟨d,h,by simp⟩
theorem nB {x:Tmp} : ∀ {xs:List Operand},Operand.tmp x∈xs->x∈u6 xs
 | [],h=>by simp at h
 | y::ys,h=>by
  rcases ff.1 h with h | h
  ·subst h; simp [u6]
  ·have:=nB h
   cases y <;> simp [u6,this]
section
variable {cfg:fW} {all:List Oper} {L:List Out} {t0:bN} {A0:aC}
theorem ahd (hf:ahb P cfg all) {S:Nat->Bool} (hc:uq all S) {i:Nat} {o:Oper} (ho:all[i]? = some o) (tu:S i=false) (wH:yQ all S i) {y:Tmp} (hy:y∈qt P cfg all o) :
  (j9 S all L 0 t0).get y=(j9 (fun j=>Nat.blt j i) all L 0 t0).get y:=by
 refine oH rfl fun j q hq hd=>?_;rw [bk];rcases Nat.lt_trichotomy j i with h | h | h
 ·have:tK (fX [] all) i j=true:=hf.I8 ho hq h (by
   unfold xV;rw [hd,Fg hy];rfl)
  rw [hc.ready hf.reg ho wH j this]
  symm; rw [bX]; exact h
 ·subst h
  rw [tu]
  symm
  cases hb:Nat.blt j j with
  | false=>rfl
  | true=>rw [bX] at hb; omega
 ·have hb:tK (fX [] all) j i=true:=hf.I8 hq ho h (by
   unfold xV;rw [hd,Fg hy];simp)
  have:S j=false:=by
   cases hs:S j with
   | false=>rfl
   | true=>have:=hc j i hs hb; rw [tu] at this; simp at this
  rw [this]
  symm
  cases hbb:Nat.blt j i with
  | false=>rfl
  | true=>rw [bX] at hbb; omega
theorem aaq (hf:XM P cfg all) {S:Nat->Bool} (hc:uq all S) {i:Nat} {o:Oper} (ho:all[i]? = some o) (tu:S i=false) (wH:yQ all S i) (jL:aap P cfg all i) :
  qx P cfg S all L 0 A0=qx P cfg (fun j=>Nat.blt j i) all L 0 A0:=by
 refine Nk fun j q x hq hx ht=>?_;rw [bk];have h3:Nat.ble 3 (ef (cf P cfg q.op))=true:=by unfold turns at ht; simp only [aD] at ht; exact ht.2
 rcases Nat.lt_trichotomy j i with h | h | h
 ·have:tK (fX [] all) i j=true:=(jL j q hq h3).1 h
  rw [hc.ready hf.reg ho wH j this]
  symm; rw [bX]; exact h
 ·subst h
  rw [tu]
  symm
  cases hb:Nat.blt j j with
  | false=>rfl
  | true=>rw [bX] at hb; omega
 ·have hb:tK (fX [] all) j i=true:=(jL j q hq h3).2 h
  have:S j=false:=by
   cases hs:S j with
   | false=>rfl
   | true=>have:=hc j i hs hb; rw [tu] at this; simp at this
  rw [this]
  symm
  cases hbb:Nat.blt j i with
  | false=>rfl
  | true=>rw [bX] at hbb; omega
theorem PT (hf:ahb P cfg all) {S:Nat->Bool} (hc:uq all S) {i:Nat} {o:Oper} {x:Out} (ho:all[i]? = some o) (hx:L[i]? = some x) (tu:S i=false) (y:Tmp) :
  (j9 (cW S i) all L 0 t0).get y=(tN (j9 S all L 0 t0) o.dst x.2.1).get y:=by
 rw [wP];by_cases hd:o.dst=some y
 ·rw [aW hd]
  have:=aha (S:=S) (y:=y) (os:=all) (L:=L) (k:=0) (i:=i) (t:=t0) ho hx hd (fun j q hq hqd bu=>by
   rw [bk];have hb:tK (fX [] all) j i=true:=hf.I8 hq ho bu (by
    unfold xV;rw [hqd,hd];simp [ZP])
   cases hs:S j with
   | false=>rfl
   | true=>have:=hc j i hs hb; rw [tu] at this; simp at this)
  rw [bk] at this;exact this
 ·rw [aB hd]
  refine oH rfl fun j q hq hqd=>?_;rw [bk];have eU:j≠i:=by
   intro e;subst e;rw [ho] at hq;simp at hq;subst hq;exact hd hqd
  unfold cW;have:Nat.beq j i=false:=by
   cases hb:Nat.beq j i with
   | false=>rfl
   | true=>exact absurd (bo hb) eU
  rw [this,Bool.or_false]
theorem Dg {S:Nat->Bool} {i:Nat} {o:Oper} {x:Out} (ho:all[i]? = some o) (hx:L[i]? = some x) (ht:turns P cfg o x=false):qx P cfg (cW S i) all L 0 A0=qx P cfg S all L 0 A0:=by
 refine Nk fun j q y hq hy hty=>?_;rw [bk];have eU:j≠i:=by
  intro e;subst e;rw [ho] at hq; rw [hx] at hy;simp at hq hy;subst hq hy;rw [ht] at hty; simp at hty
 unfold cW;have:Nat.beq j i=false:=by
  cases hb:Nat.beq j i with
  | false=>rfl
  | true=>exact absurd (bo hb) eU
 rw [this,Bool.or_false]
theorem am1 {i:Nat} {o:Oper} {x:Out} (ho:all[i]? = some o) (hx:L[i]? = some x) (ht:turns P cfg o x=true):qx P cfg (fun j=>Nat.blt j (i+1)) all L 0 A0=x.2.2:=by
 have key:∀ (os:List Oper) (L:List Out) (k i:Nat) (A:aC) (o:Oper) (x:Out),os[i]? = some o->L[i]? = some x->turns P cfg o x=true->qx P cfg (fun j=>Nat.blt j (k+i+1)) os L k A=x.2.2:=by
  intro os
  induction os with
  | nil=>intro L k i A o x ho; simp at ho
  | cons q os ih=>
   intro L k i A o x ho hx ht;cases L with
   | nil=>simp at hx
   | cons u L=>
    simp only [qx];have bu:Nat.blt k (k+i+1)=true:=by rw [bX]; omega
    rw [bu,M0];cases i with
    | zero=>
     simp at ho hx;subst ho hx;rw [ht,ai];have:∀ (os:List Oper) (L:List Out) (m:Nat) (A:aC),k+1<=m->qx P cfg (fun j=>Nat.blt j (k+0+1)) os L m A=A:=by
      intro os
      induction os with
      | nil=>intro L m A _; cases L <;> rfl
      | cons q os ih=>
       intro L m A hm;cases L with
       | nil=>rfl
       | cons u L=>
        simp only [qx];have:Nat.blt m (k+0+1)=false:=by
         cases hb:Nat.blt m (k+0+1) with
         | false=>rfl
         | true=>rw [bX] at hb; omega
        rw [this,wi,aw];exact ih L _ A (by omega)
     exact this os L (k+1) _ (aX _)
    | succ i=>
     have:=ih L (k+1) i (cond (turns P cfg q u) u.2.2 A) o x (by simpa using ho) (by simpa using hx) ht;rwa [show k+1+i+1=k+(i+1)+1 by omega] at this
 have:=key all L 0 i A0 o x ho hx ht;rwa [bk] at this
theorem aoU (hf:XM P cfg all) {S:Nat->Bool} (hc:uq all S) {i:Nat} {o:Oper} {x:Out} (ho:all[i]? = some o) (hx:L[i]? = some x) (tu:S i=false) (wH:yQ all S i) (ht:turns P cfg o x=true) :
  qx P cfg (cW S i) all L 0 A0=x.2.2:=by
 have h3:Nat.ble 3 (ef (cf P cfg o.op))=true:=by unfold turns at ht; simp only [aD] at ht; exact ht.2
 have hk:ef (cf P cfg o.op)≠0:=by have:=gD h3; omega
 have h1:qx P cfg (cW S i) all L 0 A0=qx P cfg (fun j=>Nat.blt j (i+1)) all L 0 A0:=by
  refine Nk fun j q y hq hy hty=>?_;rw [bk];have hq3:Nat.ble 3 (ef (cf P cfg q.op))=true:=by unfold turns at hty; simp only [aD] at hty; exact hty.2
  have jL:aap P cfg all i:=UI hf ho hk fun T a e=>by rw [Lw e] at h3; simp at h3
  rcases Nat.lt_trichotomy j i with h | h | h
  ·have:tK (fX [] all) i j=true:=(jL j q hq hq3).1 h
   have:=hc.ready hf.reg ho wH j this;unfold cW;rw [this,Bool.true_or]
   symm; rw [bX]; omega
  ·subst h
   have:cW S j j=true:=by simp [cW]
   rw [this]
   symm; rw [bX]; omega
  ·have hb:tK (fX [] all) j i=true:=(jL j q hq hq3).2 h
   have:S j=false:=by
    cases hs:S j with
    | false=>rfl
    | true=>have:=hc j i hs hb; rw [tu] at this; simp at this
   unfold cW;have eU:Nat.beq j i=false:=by
    cases hb:Nat.beq j i with
    | false=>rfl
    | true=>have:=bo hb; omega
   rw [this,eU]
   symm
   cases hbb:Nat.blt j (i+1) with
   | false=>rfl
   | true=>rw [bX] at hbb; omega
 rw [h1];exact am1 ho hx ht
end
theorem ai7 {all:List Oper} {o:Oper} {j:Nat} {want:Bool} {d:Tmp} (hg:o.guard=some (j,want)) (hd:(all[j]?).bind (·.dst)=some d):d∈KU all o:=by
 unfold KU;rw [hg];simp [hd]
theorem Iz {all:List Oper} {o:Oper} {t t1:bN} {wd:Bool} {N:Nat} {ρ:a9} {a:Act} (ht:nQ P E ρ t N a) (hl:∀ y∈KU all o,t1.get y=t.get y) (h:RM all o t1 wd):Region.wanted o (yielded ⟨all⟩ a.tmps)=wd:=by
 rcases h with ⟨hg,rfl⟩ | ⟨j,want,d,hg,hd,h⟩
 ·unfold Region.wanted
  rw [hg]
 ·have wF:=hl d (ai7 hg hd)
  have CT:=ht.val d;unfold Region.wanted;rw [hg];simp only;unfold yielded;have e:(⟨all⟩:Array Oper)[j]? = all[j]?:=by simp
  rw [e,hd];simp only [gE];rcases h with ⟨b,h1,rfl⟩ | ⟨l,h1,rfl⟩
  ·rw [<- wF,h1] at CT
   have hcv:=CT.hO;cases hc:a.tmps[d]? with
   | none=>simp [jh,hc,undef] at hcv
   | some u=>
    have:u = .bool b:=by rw [<- hcv]; simp [jh,hc]
    subst this;rfl
  ·rw [<- wF,h1] at CT
   obtain ⟨u,h2,h3⟩:=CT;obtain ⟨m,rfl,_⟩:=h2.Uv;obtain ⟨m',h4,_⟩:=h3.YB;cases hc:a.tmps[d]? with
   | none=>rfl
   | some u=>
    have:u = .tuple m':=by rw [<- h4]; simp [jh,hc]
    subst this;rfl
theorem UJ {t t1:bN} {N:Nat} {ρ:a9} {a:Act} (ht:nQ P E ρ t N a) {x:Operand} (h:∀ y,x = .tmp y->t1.get y=t.get y):VC P E ρ (nG t1 x) (a.eval x):=by
 have:=ht.ev x;cases x with
 | tmp y=>simp only [nG] at this ⊢; rw [h y rfl]; exact this
 | const v=>exact this
 | global g=>exact this
 | func f=>exact this
theorem am2 {cfg:fW} {o:Oper} {t:bN} {A A1 A' : aC} {v:KV} (h:bf (zl (cf P cfg o.op) t A) (v,A1)) (hk:ef (cf P cfg o.op)=0):bf (zl (cf P cfg o.op) t A') (v,A'):=by
 generalize cf P cfg o.op=ins at h hk;cases ins with
 | pure f xs=>obtain ⟨u,h1,h2⟩:=bf.map h; simp at h2; obtain ⟨rfl,_⟩:=h2; exact h1.Fe
 | read f xs=>simp [ef] at hk
 | act f xs=>simp [ef] at hk
 | look f xs=>obtain ⟨u,h1,h2⟩:=bf.map h; simp at h2; obtain ⟨rfl,_⟩:=h2; exact h1.Fe
 | GD g f xs=>obtain ⟨u,h1,h2⟩:=bf.map h; simp at h2; obtain ⟨rfl,_⟩:=h2; exact h1.Fe
 | Lm g f xs=>simp [ef] at hk
 | call f xs=>exact h.elim
 | bad=>exact h.elim
theorem YQ {cfg:fW} {S:Nat->Bool} (h:∀ i,S i=false):∀ {os:List Oper} {L:List Out} {k:Nat} {A:aC},qx P cfg S os L k A=A
 | [],L,k,A=>by cases L <;> rfl
 | o::os,[],k,A=>rfl
 | o::os,x::L,k,A=>by simp only [qx]; rw [h,wi,aw]; exact YQ h
theorem RN {S:Nat->Bool} (h:∀ i,S i=false):∀ {os:List Oper} {L:List Out} {k:Nat} {t:bN},j9 S os L k t=t
 | [],L,k,A=>by cases L <;> rfl
 | o::os,[],k,A=>rfl
 | o::os,x::L,k,A=>by simp only [j9]; rw [h,aw]; exact RN h
theorem asz {A:aC} {o:la} {b:Nat} (hb:b < A.next) (cs:List KV) (e:Nat):A.get b=some (.row cs e)↔(A.new o).get b=some (.row cs e):=by
 rw [aC.dN,aB (by omega)]
theorem UK {A:aC} {o:la} {b c:Nat} (h:b≠c\/((∀ cs e,A.get b≠some (.row cs e))/\∀ cs e,o≠.row cs e)) (cs:List KV) (e:Nat):A.get b=some (.row cs e)↔(A.put c o).get b=some (.row cs e):=by
 rw [aC.cn];by_cases hbc:b=c
 ·rw [aW hbc]
  rcases h with h | ⟨h1,h2⟩
  ·exact absurd hbc h
  ·exact ⟨fun q=>absurd q (h1 _ _),fun q=>absurd (by simpa using q) (h2 cs e)⟩
 ·rw [aB hbc]
def XN (A A' : aC):Prop:=A.next<=A'.next/\∀ b,b < A.next->∀ cs e,A.get b=some (.row cs e)↔A'.get b=some (.row cs e)
theorem K0 {A:aC} {o:la} : XN A (A.new o):=⟨by simp,fun _ hb cs e=>asz hb cs e⟩
theorem WA {A:aC} {c:Nat} {o o' : la} (hc:A.get c=some o') (h' : ∀ cs e,o'≠.row cs e) (h:∀ cs e,o≠.row cs e):XN A (A.put c o):=⟨by simp,fun b _ cs e=>by
 by_cases hbc:b=c
 ·subst hbc
  exact UK (.inr ⟨fun cs e q=>by rw [hc] at q; simp at q; exact h' cs e q,h⟩) cs e
 ·exact UK (.inl hbc) cs e⟩
theorem XN.trans {A B C:aC} (h:XN A B) (k:XN B C):XN A C:=⟨um h.1 k.1,fun b hb cs e=>(h.2 b hb cs e).trans (k.2 b (u3 hb h.1) cs e)⟩
theorem RO {e sz b n f m:Nat} {base new:List KV} {ab an:Nat->KV} {A A' : aC} {v:KV} {more:Bool} (h:bf (Z8 e sz b n base ab A f m new an more) (v,A')):A' = A.put f (.bm (n+m) sz):=by
 obtain ⟨_,h⟩:=bf.nF h;simp only [gF] at h;exact h.2.symm
theorem aar {e b n m:Nat} {base new:List KV} {ab an:Nat->KV} {A A' : aC} {v:KV} {more:Bool} (h:bf (afT e b n base ab A m new an more) (v,A')):∃ o,A' = A.new (.arr o):=by
 obtain ⟨_,h⟩:=bf.nF h;simp only [gF] at h;exact ⟨_,h.2.symm⟩
theorem ali {e sz b:Nat} {A A' : aC} {xs:List KV} {v:KV} (h:bf (Uo e sz b A xs) (v,A')):XN A A':=by
 unfold Uo at h;split at h
 ·obtain ⟨_,h⟩:=bf.cond h
  rw [RO h];exact K0.trans (WA (o':=.bm 0 sz) (by simp) (by simp) (by simp))
 ·obtain ⟨_,h⟩:=bf.cond h
  rw [RO h];exact K0.trans (WA (o':=.bm 0 sz) (by simp) (by simp) (by simp))
 ·split at h
  ·rename_i hf
   obtain ⟨_,h⟩:=bf.cond h;rw [RO h];exact WA hf (by simp) (by simp)
  ·exact h.elim
 ·exact h.elim
theorem XO {e b:Nat} {A A' : aC} {xs:List KV} {v:KV} (h:bf (KY e b A xs) (v,A')):XN A A':=by
 unfold KY at h;split at h
 ·obtain ⟨_,h⟩:=bf.cond h
  obtain ⟨o,rfl⟩:=aar h;exact K0
 ·split at h
  ·rename_i hf
   obtain ⟨_,h⟩:=bf.cond h;obtain ⟨o,rfl⟩:=aar h;exact (WA hf (by simp) (by simp)).trans K0
  ·exact h.elim
 ·exact h.elim
theorem ai8 {e sz b:Nat} {mt:Bool} {A A' : aC} {xs:List KV} {v:KV} (h:bf (Pz e sz b mt A xs) (v,A')):XN A A':=by
 unfold Pz at h;split at h
 ·split at h
  ·rename_i y' _
   revert h
   cases asi _ with
   | true=>exact fun h=>XO h
   | false=>
    cases mt with
    | true=>exact fun h=>XO h
    | false=>exact fun h=>ali h
  ·exact h.elim
 ·exact h.elim
theorem aq4 {c:Bool} {i:vd} {t:bN} {A:aC} {x:KV×aC} (h:bf (zl (cond c i .bad) t A) x):bf (zl i t A) x:=by
 cases c with
 | true=>exact h
 | false=>exact h.elim
theorem ahe {cfg:fW} {o:Oper} {t:bN} {A A' : aC} {v:KV} (hs:Wu o.op=true) (h:bf (zl (cf P cfg o.op) t A) (v,A')):XN A A':=by
 revert hs h
 cases hop:o.op <;> intro hs h <;> simp [Wu] at hs
 ·rename_i T
  have h:bf (zl (tv P T) t A) (v,A'):=h;unfold tv at h;split at h
  ·rename_i z _
   cases hb:(flat z&&z.cells.toList.all scalar&&jv (iU z).cells) with
   | false=>rw [hb] at h; exact h.elim
   | true=>
    rw [hb,ai] at h;have h:(KV.ptr A.next 0,A.new (.row (iU z).cells (rv P T)))=(v,A'):=h;simp only [gF] at h;rw [<- h.2];exact K0
  ·exact h.elim
 ·rename_i T x
  have h:bf (Iu (rv P T) A [nG t x]) (v,A'):=h;unfold Iu at h;simp only at h;obtain ⟨_,h⟩:=bf.cond h;have h:(KV.ptr A.next 0,A.new (.row (nG t x).cells (rv P T)))=(v,A'):=h;simp only [gF] at h;rw [<- h.2];exact K0
 ·rename_i c
  split at hs
  ·rename_i hc
   have h:bf (zl (oE P cfg c) t A) (v,A'):=h;unfold oE at h;rw [hc] at h;simp only [E8] at h;unfold Nb at h;split at h
   ·split at h
    ·split at h
     ·split at h
      ·exact ai8 (aq4 h)
      ·exact h.elim
     ·exact h.elim
    ·exact h.elim
   ·exact h.elim
  ·simp at hs
theorem aea {cfg:fW} {o:Oper} {T:TypeId} {a x:Operand} {t:bN} {A A' : aC} {v:KV} (ho:o.op = .store T a x) (h:bf (zl (cf P cfg o.op) t A) (v,A')) :
  A'.next=A.next/\∀ b,((∃ b2 off,nG t a = .ptr b2 off/\b≠b2)\/∃ U Tc c i k,nG t a = .ap U Tc c i k)->∀ cs e,A.get b=some (.row cs e)↔A'.get b=some (.row cs e):=by
 rw [ho] at h;have h:bf (Z6 P T A [nG t a,nG t x]) (v,A'):=h;unfold Z6 at h;split at h
 ·rename_i c off w heq
  simp only [List.cons.injEq,and_true] at heq;obtain ⟨_,h⟩:=bf.cond h;split at h
  ·split at h
   ·have h:(wk,_)=(v,A'):=h
    simp only [gF] at h;rw [<- h.2];refine ⟨rfl,fun b hb cs e=>UK (.inl ?_) cs e⟩;rcases hb with ⟨b2,asw,h1,h2⟩ | ⟨U,Tc,c',i,k,h1⟩
    ·rw [heq.1] at h1; simp at h1; rw [h1.1]; exact h2
    ·rw [heq.1] at h1; simp at h1
   ·exact h.elim
  ·exact h.elim
 ·rename_i U Tc c i k w heq
  split at h
  ·rename_i hA
   obtain ⟨_,h⟩:=bf.cond h;split at h
   ·have h:(wk,_)=(v,A'):=h
    simp only [gF] at h;rw [<- h.2];refine ⟨rfl,fun b _ cs e=>?_⟩;by_cases hbc:b=c
    ·subst hbc
     exact UK (.inr ⟨fun cs e q=>by rw [hA] at q; simp at q,by simp⟩) cs e
    ·exact UK (.inl hbc) cs e
   ·exact h.elim
  ·exact h.elim
 ·exact h.elim
theorem YR {t:bN} {nx:Nat} : ∀ {l:List (Option Operand×Operand)},YI t nx l=true->∀ p∈l,PA t nx p=true
 | [],_,p,hp=>by simp at hp
 | q::l,h,p,hp=>by
  have h:Bool.rec (motive:=fun _=>Bool) false (YI t nx l) (PA t nx q)=true:=h;cases hq:PA t nx q with
  | false=>rw [hq] at h; simp at h
  | true=>
   rw [hq] at h;rcases ff.1 hp with rfl | hp
   ·exact hq
   ·exact YR h p hp
theorem aeb {i:Nat} {x:Tmp} : ∀ (os:List Oper) (k:Nat),zX i (.tmp x) os k=true->∀ j o,os[j]? = some o->i<=k+j->o.dst≠some x
 | [],k,_,j,o,ho,_=>by simp at ho
 | q::os,k,h,0,o,ho,hle=>by
  simp at ho;subst ho;simp only [zX,aD,u4,nz] at h;rcases h.1 with h1 | h1
  ·rw [bX] at h1; omega
  ·intro e
   rw [e,Fg (by simp [u6])] at h1;simp at h1
 | q::os,k,h,j+1,o,ho,hle=>by
  simp only [zX,aD] at h;exact aeb os (k+1) h.2 j o (by simpa using ho) (by omega)
section
variable {cfg:fW} {all:List Oper} {L:List Out} {t0:bN} {A0:aC}
theorem alj {tn t1:bN} {i:Nat} {x:Operand} (W5:∀ y,tn.get y=(j9 (fun _=>true) all L 0 t0).get y) (Cf:∀ y,t1.get y=(j9 (fun j=>Nat.blt j i) all L 0 t0).get y) (h:zX i x all 0=true):nG tn x=nG t1 x:=by
 cases x with
 | tmp y=>
  simp only [nG];rw [W5 y,Cf y,oH (S':=fun j=>Nat.blt j i) rfl fun j o ho hd=>?_];rw [bk]
  symm
  rw [bX];refine Nat.lt_of_not_le fun hle=>?_;exact aeb all 0 h j o ho (by omega) hd
 | const v=>rfl
 | global g=>rfl
 | func f=>rfl
theorem am3 (j:Nat):(∃ q x,all[j]? = some q/\L[j]? = some x/\turns P cfg q x=true/\qx P cfg (fun k=>Nat.blt k (j+1)) all L 0 A0=x.2.2)\/
  ((∀ q x,all[j]? = some q->L[j]? = some x->turns P cfg q x=false)/\qx P cfg (fun k=>Nat.blt k (j+1)) all L 0 A0=qx P cfg (fun k=>Nat.blt k j) all L 0 A0):=by
 by_cases h:∃ q x,all[j]? = some q/\L[j]? = some x/\turns P cfg q x=true
 ·obtain ⟨q,x,h1,h2,h3⟩:=h
  refine .inl ⟨q,x,h1,h2,h3,?_⟩;have:=am1 (A0:=A0) h1 h2 h3;exact this
 ·have hn:∀ q x,all[j]? = some q->L[j]? = some x->turns P cfg q x=false:=fun q x h1 h2=>by
   cases ht:turns P cfg q x with
   | false=>rfl
   | true=>exact absurd ⟨q,x,h1,h2,ht⟩ h
  refine .inr ⟨hn,Nk fun k q x hq hx ht=>?_⟩;rw [bk];have eU:k≠j:=fun e=>by subst e; rw [hn q x hq hx] at ht; simp at ht
  cases hb:Nat.blt k j with
  | true=>rw [bX] at hb ⊢; omega
  | false=>
   cases uE:Nat.blt k (j+1) with
   | false=>rfl
   | true=>
    rw [bX] at uE;have : ¬ k < j:=fun h=>by rw [<- bX,hb] at h; simp at h
    omega
theorem aec (hf:XM P cfg all) {S:Nat->Bool} (hc:uq all S):∀ n,∃ m,m<=n/\∀ j q x,j < n->all[j]? = some q->L[j]? = some x->turns P cfg q x=true->S j=Nat.blt j m
 | 0=>⟨0,aX 0,fun j q x hj=>by omega⟩
 | n+1=>by
  obtain ⟨m,hm,h⟩:=aec hf hc n;by_cases hn:∃ q x,all[n]? = some q/\L[n]? = some x/\turns P cfg q x=true/\S n=true
  ·obtain ⟨q,x,h1,h2,h3,h4⟩:=hn
   have hq3:Nat.ble 3 (ef (cf P cfg q.op))=true:=by unfold turns at h3; simp only [aD] at h3; exact h3.2
   have hk:ef (cf P cfg q.op)≠0:=by have:=gD hq3; omega
   have jL:=UI hf h1 hk fun T a e=>by rw [Lw e] at hq3; simp at hq3
   refine ⟨n+1,aX _,fun j q' x' hj h5 h6 h7=>?_⟩;have hb:Nat.blt j (n+1)=true:=by rw [bX]; exact hj
   rw [hb];by_cases hjn:j=n
   ·subst hjn; exact h4
   ·have awx:Nat.ble 3 (ef (cf P cfg q'.op))=true:=by unfold turns at h7; simp only [aD] at h7; exact h7.2
    exact hc n j h4 ((jL j q' h5 awx).1 (by omega))
  ·refine ⟨m,by omega,fun j q x hj h5 h6 h7=>?_⟩
   by_cases hjn:j=n
   ·subst hjn
    have hb:Nat.blt j m=false:=by
     cases hb:Nat.blt j m with
     | false=>rfl
     | true=>rw [bX] at hb; omega
    rw [hb];cases hs:S j with
    | false=>rfl
    | true=>exact absurd ⟨q,x,h5,h6,h7,hs⟩ hn
   ·exact h j q x (by omega) h5 h6 h7
theorem aq5 (hf:XM P cfg all) {S:Nat->Bool} (hc:uq all S):∃ m,(∀ j q x,all[j]? = some q->L[j]? = some x->turns P cfg q x=true->S j=Nat.blt j m)/\qx P cfg S all L 0 A0=qx P cfg (fun j=>Nat.blt j m) all L 0 A0:=by
 obtain ⟨m,_,h⟩:=aec (L:=L) hf hc all.length;have h' : ∀ j q x,all[j]? = some q->L[j]? = some x->turns P cfg q x=true->S j=Nat.blt j m:=fun j q x h1 h2 h3=>h j q x (dB.1 h1).1 h1 h2 h3;exact ⟨m,h',Nk fun j q x h1 h2 h3=>by rw [bk]; exact h' j q x h1 h2 h3⟩
def AtK (P:Program) (cfg:fW) (all:List Oper) (L:List Out) (t0:bN) (A0:aC):Prop:=∀ i o x,all[i]? = some o->L[i]? = some x->∃ t1,(∀ y,t1.get y=(j9 (fun j=>Nat.blt j i) all L 0 t0).get y)/\(x.1=true->bf (zl (cf P cfg o.op) t1 (qx P cfg (fun j=>Nat.blt j i) all L 0 A0)) (x.2.1,x.2.2))
theorem am4 (EV:AtK P cfg all L t0 A0) (hpl:YJ P cfg all=true):∀ j,A0.next<=(qx P cfg (fun k=>Nat.blt k j) all L 0 A0).next
 | 0=>by rw [YQ (fun i=>by
   cases hb:Nat.blt i 0 with
   | false=>rfl
   | true=>rw [bX] at hb; omega)]; exact aX _
 | j+1=>by
  have ih:=am4 EV hpl j;rcases am3 (P:=P) (cfg:=cfg) (all:=all) (L:=L) (A0:=A0) j with ⟨q,x,h1,h2,h3,h4⟩ | ⟨_,h4⟩
  ·rw [h4]
   obtain ⟨t1,_,hg⟩:=EV j q x h1 h2;unfold turns at h3;simp only [aD] at h3;have hg:=hg h3.1;have hp:=im.1 hpl q (ji h1);simp only [u4,h3.2,iR,xM,false_or] at hp;rcases hp with hp | hp
   ·exact um ih (ahe hp hg).1
   ·obtain ⟨a2,ha2⟩:=afI.1 hp
    unfold aaa at ha2;split at ha2
    ·rename_i T a3 v e
     rw [(aea e hg).1]; exact ih
    ·simp at ha2
  ·rw [h4]; exact ih
theorem am5 (hf:XM P cfg all) {S:Nat->Bool} (hc:uq all S) {i:Nat} {o:Oper} {T:TypeId} {a:Operand} (ho:all[i]? = some o) (Jb:o.op = .load T a) (tu:S i=false) (wH:yQ all S i) (hns : ¬ aap P cfg all i)
  (EV:AtK P cfg all L t0 A0) {tn:bN} (W5:∀ y,tn.get y=(j9 (fun _=>true) all L 0 t0).get y) (aqe:YI tn A0.next (Oq P cfg all)=true)
  {t1:bN} (Cf:∀ y,t1.get y=(j9 (fun j=>Nat.blt j i) all L 0 t0).get y) {v:KV} {A1:aC} (hg:bf (zl (cf P cfg o.op) t1 (qx P cfg (fun j=>Nat.blt j i) all L 0 A0)) (v,A1)) :
  bf (zl (cf P cfg o.op) t1 (qx P cfg S all L 0 A0)) (v,qx P cfg S all L 0 A0):=by
 have hk:ef (cf P cfg o.op)≠0:=by rw [Lw Jb]; simp
 have hex:∃ p,p∈Oq P cfg all/\p.2=a/\zX i a all 0=true:=by
  refine Classical.byContradiction fun eU=>hns fun j q hq h3=>?_;rcases unordered hf ho hq hk h3 with h | ⟨p,h1,h2,h3,_⟩
  ·exact h
  ·obtain ⟨⟨T',e⟩,_⟩:=Ff h2
   rw [Jb] at e;simp only [Op.load.injEq] at e;exact absurd ⟨p,h1,e.2.symm,by rw [e.2]; exact h3⟩ eU
 obtain ⟨p,hp,hpa,hnd⟩:=hex;have CT:=alj W5 Cf hnd;have hpd:=YR aqe p hp;have hpl:=hf.plain p hp;rw [Jb] at hg ⊢;have awy:∀ A,zl (cf P cfg (.load T a)) t1 A=(acb P T A [nG t1 a]).map fun v=>(v,A):=fun _=>rfl;rw [awy] at hg ⊢;obtain ⟨u,hg2,he⟩:=bf.map hg;simp only [gF] at he;obtain ⟨rfl,_⟩:=he;clear hg;have hg:=hg2;clear hg2;refine bf.Fe (f:=fun v=>(v,qx P cfg S all L 0 A0)) ?_;unfold PA at hpd;rw [hpa,CT] at hpd;cases hv:nG t1 a with
 | tp U Tc m k es acc=>rw [hv] at hg; exact hg
 | ptr b off=>
  rw [hv] at hg hpd;simp only [aD] at hpd;have hb:=hpd.1;rw [bX] at hb;have lC:∃ cs e,(qx P cfg (fun j=>Nat.blt j i) all L 0 A0).get b=some (.row cs e):=by
   have hg:bf (match ZJ P T,size? P T with
    | some ag,some n=>match (K.rowAt (qx P cfg (fun j=>Nat.blt j i) all L 0 A0) b).bind fun cs=>zV n (GF off cs) with
     | some l=>cond ag (.ok (.agg l)) (match l with | [v]=>.ok v | _=>.no)
     | none=>.no
    | _,_=>.no) u:=hg
   split at hg
   ·split at hg
    ·rename_i l hl
     obtain ⟨cs,h1,_⟩:=dm.1 hl;unfold K.rowAt at h1;split at h1
     ·rename_i ck e h2; exact ⟨ck,e,h2⟩
     ·simp at h1
    ·exact hg.elim
   ·exact hg.elim
  obtain ⟨cs,e,lC⟩:=lC;obtain ⟨m,hm,jL⟩:=aq5 (L:=L) (A0:=A0) hf hc;have step:∀ k,(∀ q x,all[k]? = some q->L[k]? = some x->turns P cfg q x=true->¬ ((k < i->tK (fX [] all) i k=true)/\(i < k->tK (fX [] all) k i=true)))->
    ((qx P cfg (fun j=>Nat.blt j k) all L 0 A0).get b=some (.row cs e)↔(qx P cfg (fun j=>Nat.blt j (k+1)) all L 0 A0).get b=some (.row cs e)):=by
   intro k YS;rcases am3 (P:=P) (cfg:=cfg) (all:=all) (L:=L) (A0:=A0) k with ⟨q,x,h1,h2,h3,h4⟩ | ⟨_,h4⟩
   ·rw [h4]
    have h3':=h3;unfold turns at h3';simp only [aD] at h3';rcases unordered hf ho h1 hk h3'.2 with h5 | ⟨p',h5,h6,h7,h8⟩
    ·exact absurd h5 (YS q x h1 h2 h3)
    ·obtain ⟨tk,htk,hgk⟩:=EV k q x h1 h2
     have hgk:=hgk h3'.1;obtain ⟨⟨T',e1⟩,e2⟩:=Ff h6;rw [Jb] at e1;simp only [Op.load.injEq] at e1;have am6:=YR aqe p' h5;unfold PA at am6;rw [<- e1.2,CT,hv] at am6;simp only [aD] at am6;rcases e2 with ⟨e2,e3⟩ | ⟨U,a2,v2,e2,e3⟩
     ·exact (ahe e3 hgk).2 b (u3 hb (am4 EV hpl k)) cs e
     ·refine (aea e3 hgk).2 b ?_ cs e
      rw [e2] at am6 h8;have Oh:=alj W5 htk h8;have h9:=am6.2;simp only at h9;rw [Oh] at h9;split at h9
      ·rename_i b2 asw e4
       refine .inl ⟨b2,asw,e4,fun e5=>?_⟩;subst e5;simp at h9
      ·rename_i U' Tc' c' i' k' e4; exact .inr ⟨_,_,_,_,_,e4⟩
      ·simp at h9
   ·rw [h4]
  have avL:(qx P cfg S all L 0 A0).get b=some (.row cs e):=by
   rw [jL];rcases Nat.le_total m i with hle | hle
   ·have down:∀ d k,k+d=i->m<=k->(qx P cfg (fun j=>Nat.blt j k) all L 0 A0).get b=some (.row cs e):=by
     intro d
     induction d with
     | zero=>intro k hk _; have:k=i:=by omega
             rw [this]; exact lC
     | succ d ih=>
      intro k hk hmk;refine (step k fun q x h1 h2 h3 PU=>?_).2 (ih (k+1) (by omega) (by omega));have h4:=hm k q x h1 h2 h3;have h5:S k=true:=hc.ready hf.reg ho wH k (PU.1 (by omega));rw [h5] at h4;have h4:=h4.symm;rw [bX] at h4;omega
    exact down (i - m) m (by omega) (aX m)
   ·have up:∀ d,i+d<=m->(qx P cfg (fun j=>Nat.blt j (i+d)) all L 0 A0).get b=some (.row cs e):=by
     intro d
     induction d with
     | zero=>intro _; exact lC
     | succ d ih=>
      intro hd;refine (step (i+d) fun q x h1 h2 h3 PU=>?_).1 (ih (by omega));have h4:=hm (i+d) q x h1 h2 h3;have h5:Nat.blt (i+d) m=true:=by rw [bX]; omega
      rw [h5] at h4;by_cases hd0:d=0
      ·subst hd0
       rw [Db] at h4;rw [tu] at h4; simp at h4
      ·have:=hc (i+d) i h4 (PU.2 (by omega))
       rw [tu] at this; simp at this
    have:=up (m - i) (by omega);rwa [show i+(m - i)=m by omega] at this
  have wF:K.rowAt (qx P cfg S all L 0 A0) b=K.rowAt (qx P cfg (fun j=>Nat.blt j i) all L 0 A0) b:=by
   unfold K.rowAt;rw [lC,avL]
  show bf (match ZJ P T,size? P T with
    | some ag,some n=>match (K.rowAt (qx P cfg S all L 0 A0) b).bind fun cs=>zV n (GF off cs) with
     | some l=>cond ag (.ok (.agg l)) (match l with | [v]=>.ok v | _=>.no)
     | none=>.no
    | _,_=>.no) u
  rw [wF];exact hg
 | _=>rw [hv] at hpd; simp at hpd
end
theorem ai9 {R:Type} {cfg:fW} {bL:qC R} (je:vZ P cfg.pc) (hm:P.follows .mixedOrders=true) {id:Nat} {all:List Oper} {N base:Nat} (hdN:all.all (Oe N)=true) {k:bN->aC->Option R} {r:R} {t:bN} {A:aC} {B:St} {ρ:a9} {a:Act} {w:World} {Q:Exit->Act->World->Prop}
  (PU:amA P cfg all=true) (h:xF P cfg bL all (fun t' A'=>Bool.rec (motive:=fun _=>Option R) none (k t' A') (YI t' A.next (Oq P cfg all))) all t A=some r) (ht:nQ P E ρ t N a) (hj:KJ P E A B ρ base w)
  (hq:∀ t' E' A' B' ba a' w',k t' A' = some r->nQ P E' ba t' N a'->a'.defers=a.defers->Ev P base E A B ρ w E' A' B' ba w'->Q .normal a' w'):(Code.region id ⟨all⟩ true).wp P Q a w:=by
 have hf:=am0 PU;obtain ⟨L,tn,An,qe,hk⟩:=aam (fun o ho f args=>GQ (hf.kind o ho) f args) h;obtain ⟨hlen,W5,hAn,EV⟩:=qe.at;have hdk:YI tn A.next (Oq P cfg all)=true/\k tn An=some r:=by
  cases hd:YI tn A.next (Oq P cfg all) with
  | false=>simp only [hd] at hk; exact absurd hk (by simp)
  | true=>simp only [hd] at hk; exact ⟨rfl,hk⟩
 obtain ⟨aqe,hk⟩:=hdk;have awz:AtK P cfg all L t A:=fun i o x ho hx=>by obtain ⟨t1,q1,_,q3,_⟩:=EV i o x ho hx; exact ⟨t1,q1,q3⟩
 have UL:Ev P base E A B ρ w E A B ρ w.drew:=(eT.refl hj.k).ev (pk.drew hj.s);refine wp_region_any hm ?_;show wpAny P .any ⟨all⟩ Q all.length (Array.replicate all.length false) a w.drew;have Jf:∀ i,(Array.replicate all.length false).getD i false=false:=by
  intro i;rw [jh,Array.getElem?_replicate];split <;> rfl
 let Inv:(Nat->Bool)->Act->World->Prop:=fun S a' w'=>∃ E' B' ba,a'.defers=a.defers/\Ev P base E A B ρ w.drew E' (qx P cfg S all L 0 A) B' ba w'/\nQ P E' ba (j9 S all L 0 t) N a'
 refine Kn hf.reg Inv ?_ ?_ ?_ all.length _ a w.drew (by simp) ?_ (fun i j hi _=>by
   have h2:(Array.replicate all.length false).getD i false=true:=hi;rw [Jf] at h2; simp at h2) ⟨E,B,ρ,rfl,?_,?_⟩
 ·
  rintro S S' a' w' hSS ⟨E',B',ba,h1,h2,h3⟩;have e1:qx P cfg S all L 0 A=qx P cfg S' all L 0 A:=Nk fun i o x ho _ _=>by rw [bk]; exact hSS i (dB.1 ho).1
  refine ⟨E',B',ba,h1,by rw [<- e1]; exact h2,h3.same fun y=>?_⟩;exact oH rfl fun i o ho _=>by rw [bk]; exact (hSS i (dB.1 ho).1).symm
 ·
  rintro S a' w' i o ⟨E',B',ba,h1,h2,h3⟩ hc ho tu wH _;have hi:i < L.length:=by rw [hlen]; exact (dB.1 ho).1
  have hx:L[i]? = some L[i]:=dD hi;obtain ⟨t1,Cf,hw,am7,YS⟩:=EV i o L[i] ho hx;have DH:∀ y∈qt P cfg all o,t1.get y=(j9 S all L 0 t).get y:=fun y hy=>by rw [Cf y,ahd hf.toT hc ho tu wH hy]
  have RP:=Iz h3 (fun y hy=>DH y (by unfold qt; exact List.mem_append_left _ hy)) hw;have Lv:∀ d,o.dst=some d->d < N:=by
   intro d ed;have:=im.1 hdN o (ji ho);unfold Oe at this;rw [ed] at this;simp only at this;rw [bX] at this;exact this
  have hoA:(⟨all⟩:Array Oper)[i]? = some o:=by simpa using ho
  unfold wpOp;rw [hoA];simp only [RP];cases Ks:L[i].1 with
  | false=>
   simp only [xM,if_false];have hv:=YS Ks;refine ⟨E',B',ba,by rw [put_defers]; exact h1,?_,?_⟩
   ·rw [Dg ho hx (by unfold turns; rw [Ks]; rfl)]
    exact h2
   ·refine (h3.put Lv VC.undef).same fun y=>?_
    rw [PT hf.toT hc ho hx tu y,hv]
  | true=>
   simp only [if_true];refine .inl ?_;have hg:=am7 Ks;have hgS:∃ A1,bf (zl (cf P cfg o.op) t1 (qx P cfg S all L 0 A)) (L[i].2.1,A1)/\qx P cfg (cW S i) all L 0 A=A1:=by
    by_cases MT:ef (cf P cfg o.op)=0
    ·refine ⟨_,am2 hg MT,Dg ho hx ?_⟩
     unfold turns;rw [MT,show Nat.ble 3 0=false from rfl,wj]
    ·by_cases jL:aap P cfg all i
     ·rw [aaq (L:=L) (A0:=A) hf hc ho tu wH jL]
      refine ⟨_,hg,?_⟩;cases W5:turns P cfg o L[i] with
      | true=>exact aoU hf hc ho hx tu wH W5
      | false=>
       have h4:=GP hg (by simpa [turns,Ks] using W5);rw [Dg ho hx W5,aaq (L:=L) (A0:=A) hf hc ho tu wH jL,h4]
     ·have hex:∃ T a,o.op = .load T a:=Classical.byContradiction fun eU=>jL (UI hf ho MT fun T a e=>eU ⟨T,a,e⟩)
      obtain ⟨T,a',Jb⟩:=hex;refine ⟨_,am5 hf hc ho Jb tu wH jL awz W5 aqe Cf hg,Dg ho hx ?_⟩;unfold turns;rw [Lw Jb,show Nat.ble 3 1=false from rfl,wj]
   obtain ⟨A1,hg1,hA1⟩:=hgS;refine RJ je hg1 (fun x hxm=>UJ h3 fun y e=>DH y ?_) h2.kj fun PS RK zS v' Po h4 h5=>?_
   ·unfold qt
    subst e;exact List.mem_append_right _ (nB hxm)
   ·refine ⟨PS,RK,zS,by rw [put_defers]; exact h1,?_,?_⟩
    ·rw [hA1]; exact h2.trans h5
    ·refine ((h3.mono h5.le (h5.gX.le h2.gX.kW)).put Lv h4).same fun y=>?_
     rw [PT hf.toT hc ho hx tu y]
 ·
  rintro S a' w' qw ⟨E',B',ba,h1,h2,h3⟩;have e1:qx P cfg S all L 0 A=An:=by rw [hAn]; exact Nk fun i o x ho _ _=>by rw [bk]; exact qw i (dB.1 ho).1
  rw [e1] at h2;refine hq tn E' An B' ba a' w' hk (h3.same fun y=>?_) h1 (UL.trans h2);rw [W5 y];exact oH rfl fun i o ho _=>by rw [bk]; exact (qw i (dB.1 ho).1).symm
 ·simp
 ·rw [YQ Jf]
  exact .refl hj.k UL.gX.kW
 ·refine ht.same fun y=>?_
  rw [RN Jf]
end Go.K
end
section
namespace Go.K
open Go Go.aE
variable {P:Program} {E:Env}
theorem awA {A:aC} {B:St} {ck:List Value} {ca:Nat} (h:gU P E A B):eT P E A B E A (B.new (.row ck ca true none)):=by
 have DE:∀ x,AR A E x->(B.new (.row ck ca true none)).get x=B.get x:=fun x q=>by have:=h.Nh q; rw [St.dN,aB (by omega)]
 refine ⟨⟨?_,?_,?_,h.apart,h.inj,h.lT,h.ow,h.qD,h.live,?_,?_,?_,?_,?_,h.ar.pB (Env.le_refl _) (fun _=>rfl) (fun _ _ e=>e) (fun _ _ e=>e) (aX _) (by simp) DE (fun _ _ e=>.inl e) (fun _ _ e=>.inl e) (fun b g e=>.inl ⟨b,e⟩) (fun _ _=>by simp) h.mem⟩,Env.le_refl _,aX _,?_,fun _ _ e=>.inl e,fun _ _ e=>.inl e,fun _ _ e=>.inl e,fun _ _ _ _=>by simp,fun _ q=>.inl q,fun _ q=>.inl (q.of (fun _=>rfl) (fun _ _ e=>e) DE),fun _ _ q=>.inl (by simpa using q),fun _ q=>.inl (q.of (fun _=>rfl) (fun _ _ e=>e) DE fun _ _=>by simp),qF agT⟩
 ·intro b pz UA hb
  obtain ⟨x,c,h1,h2,h3⟩:=h.row b pz UA hb;have:=h.jc b x h1;exact ⟨x,c,h1,by rw [St.dN,aB (by omega)]; exact h2,h3⟩
 ·intro b top Ls hb
  rcases h.bm b top Ls hb with h1 | ⟨g,h1,hp0,h2⟩
  ·exact .inl h1
  ·refine .inr ⟨g,h1,hp0,fun x hx c e own f k hg=>?_⟩
   rw [St.dN] at hg;split at hg
   ·simp at hg
   ·exact h2 x (by simpa using hx) c e own f k hg
 ·intro b r hb
  have:=h.qX b r hb;rw [St.dN,aB (by omega)];exact h.z b r hb
 ·intro b x hb; have:=h.jc b x hb; rw [St.cB]; omega
 ·intro b r hb; have:=h.qX b r hb; rw [St.cB]; omega
 ·intro b g hb; have:=h.mL b g hb; rw [St.cB]; omega
 ·intro g hg; rw [St.cB] at hg; rw [St.n3]; exact h.fresh g (by omega)
 ·intro g x hx; rw [St.n3] at hx; rw [St.cB]; have:=h.mem g x hx; omega
 ·intro x hx _ _; rw [St.dN,aB (by omega)]
structure Fr (E:Env) (A:aC) (B:St) (b0 y:Nat):Prop where
 lo:b0<=y
 hi:y < B.next
 un:∀ b,E.κ b≠some y
 z:E.z y=none
 far : ¬ AT A E B y
theorem Fr.step {A A' : aC} {B B' : St} {E' : Env} {b0 y base:Nat} {ρ ba:a9} {w w' : World} (h:Fr E A B b0 y) (k:Ev P base E A B ρ w E' A' B' ba w'):Fr E' A' B' b0 y/\B'.get y=B.get y:=by
 have hn:=k.gX.next;refine ⟨⟨h.lo,u3 h.hi hn,fun b e=>?_,?_,fun q=>?_⟩,k.pB y h.hi h.un h.far⟩
 ·rcases k.new b y e with e | e
  ·exact h.un b e
  ·have:=h.hi; omega
 ·cases hz:E'.z y with
  | none=>rfl
  | some r=>
   rcases k.yw y r hz with e | e | e
   ·rw [h.z] at e; simp at e
   ·exact absurd (.inl e) h.far
   ·have:=h.hi; omega
 ·rcases k.r7 y q with e | e
  ·exact h.far e
  ·have:=h.hi; omega
theorem awB {E0:Env} {A0 A:aC} {B0 B:St} {ρ0 ρ ba:a9} {w0 w w' : World} {base y ca:Nat} {pz ck:List Value} (h:Ev P base E0 A0 B0 ρ0 w0 E A B ρ w) (hy:Fr E A B B0.next y) (hold:B.get y=some (.row pz ca true none))
  (g:pk base ρ B w ba (B.put y (.row ck ca true none)) w'):Ev P base E0 A0 B0 ρ0 w0 E A (B.put y (.row ck ca true none)) ba w':=by
 have hs:=h.kW;have DE:∀ x,AR A E x->(B.put y (.row ck ca true none)).get x=B.get x:=fun x q=>by
  rw [St.cn,aB];intro e;subst e;exact hy.far (.inl q)
 have Ov:∀ q,AF A E (B.put y (.row ck ca true none)) q->AF A E B q:=fun q r=>r.of (fun _=>rfl) (fun _ _ e=>e) DE;have hAT:∀ q,AT A E (B.put y (.row ck ca true none)) q->AT A E B q:=fun q r=>r.of (fun _=>rfl) (fun _ _ e=>e) DE fun _ _=>by simp
 refine ⟨⟨?_,?_,?_,hs.apart,hs.inj,hs.lT,hs.ow,hs.qD,hs.live,hs.jc,hs.qX,hs.mL,?_,?_,hs.ar.pB (Env.le_refl _) (fun _=>rfl) (fun _ _ e=>e) (fun _ _ e=>e) (aX _) (aX _) DE (fun _ _ e=>.inl e) (fun _ _ e=>.inl e) (fun b g e=>.inl ⟨b,e⟩) (fun _ _=>by simp) hs.mem⟩,h.gX.trans g,h.le,h.next,?_,h.new,h.yw,h.yx,?_,h.qo,fun q r=>h.qE q (Ov q r),?_,fun q r=>h.r7 q (hAT q r),?_⟩
 ·intro b cs e hb
  obtain ⟨x,c,h1,h2,h3⟩:=hs.row b cs e hb;refine ⟨x,c,h1,?_,h3⟩;rw [St.cn,aB (fun e=>hy.un b (by rw [<- e]; exact h1))];exact h2
 ·intro b top sz hb
  rcases hs.bm b top sz hb with h1 | ⟨q,h1,hp0,h2⟩
  ·exact .inl h1
  ·refine .inr ⟨q,h1,hp0,fun x hx c e own f k hg=>?_⟩
   rw [St.cn] at hg;split at hg
   ·simp at hg
   ·exact h2 x (by simpa using hx) c e own f k hg
 ·intro b r hb
  rw [St.cn,aB]
  ·exact hs.z b r hb
  ·intro e
   subst e;rw [hy.z] at hb;simp at hb
 ·intro q hq; rw [St.xO]; exact hs.fresh q hq
 ·intro q x hx; rw [St.xO] at hx; exact hs.mem q x hx
 ·intro x hx hn ha
  rw [St.cn,aB (fun e=>by have:=hy.lo; omega)];exact h.pB x hx hn ha
 ·intro q hq hn ha; rw [St.xO]; exact h.uH q hq hn ha
 ·intro q x hx; rw [St.xO] at hx; exact h.zZ q x hx
 ·intro x hx c e own bV hg
  rw [St.cn,aB (fun e=>by have:=hy.lo; omega)] at hg;exact h.rows x hx c e own bV hg
theorem avM {E0:Env} {A0 A:aC} {B0 B:St} {ρ0 ρ:a9} {w0 w:World} {base y ca:Nat} {cs:List KV} {ck:List Value} (h:Ev P base E0 A0 B0 ρ0 w0 E A B ρ w) (hy:Fr E A B B0.next y) (hold:B.get y=some (.row ck ca true none)) (hv:bp P E cs ck) :
  E.le (E.oG A.next y)/\Ev P base E0 A0 B0 ρ0 w0 (E.oG A.next y) (A.new (.row cs ca)) B ρ w:=by
 have hs:=h.kW;have hle:E.le (E.oG A.next y):=⟨fun _ _ e=>e,fun b x e=>by
  have:=hs.ow b x e;simp only [Env.oG]; rw [aB (by omega)]; exact e,fun _ _ e=>e,fun _ _ e=>e⟩
 have hA:∀ (b:Nat) (v:KV),(A.new (.row cs ca)).get b=some (.arr v)->A.get b=some (.arr v):=fun b v hb=>by
  rw [aC.dN] at hb;split at hb
  ·simp at hb
  ·exact hb
 have hfz:∀ (b:Nat) (v:KV),(A.new (.row cs ca)).get b=some (.lR v)->A.get b=some (.lR v):=fun b v hb=>by
  rw [aC.dN] at hb;split at hb
  ·simp at hb
  ·exact hb
 have vI:∀ x,AR (A.new (.row cs ca)) (E.oG A.next y) x->AR A E x:=fun _ q=>q.of (fun _=>rfl) hA;have Ov:∀ g,AF (A.new (.row cs ca)) (E.oG A.next y) B g->AF A E B g:=fun _ q=>q.of (fun _=>rfl) hA fun _ _=>rfl;have hAT:∀ x,AT (A.new (.row cs ca)) (E.oG A.next y) B x->AT A E B x:=fun _ q=>q.of (fun _=>rfl) hA (fun _ _=>rfl) fun _ _=>rfl;refine ⟨hle,⟨⟨?_,?_,hs.z,?_,?_,?_,?_,?_,?_,?_,hs.qX,hs.mL,hs.fresh,hs.mem,?_⟩,h.gX,Env.le_trans h.le hle,by have:=h.next; rw [aC.cB]; omega,h.pB,?_,h.yw,h.yx,h.uH,fun x q=>h.qo x (vI x q),fun g q=>h.qE g (Ov g q),h.zZ,fun x q=>h.r7 x (hAT x q),h.rows⟩⟩
 ·intro b pz UA hb
  rw [aC.dN] at hb;split at hb
  ·rename_i e
   simp at hb;obtain ⟨rfl,rfl⟩:=hb;exact ⟨y,ck,by simp [Env.oG,e],hold,hv.mono hle⟩
  ·obtain ⟨x,c,h1,h2,h3⟩:=hs.row b pz UA hb
   exact ⟨x,c,hle.κ _ _ h1,h2,h3.mono hle⟩
 ·intro b top Ls hb
  rw [aC.dN] at hb;split at hb
  ·simp at hb
  ·exact hs.bm b top Ls hb
 ·intro b x hb
  simp only [Env.oG] at hb ⊢;split at hb
  ·simp at hb; subst hb; exact hy.z
  ·exact hs.apart b x hb
 ·intro b c x hb hc
  simp only [Env.oG] at hb hc;split at hb <;> split at hc
  ·omega
  ·simp at hb; subst hb; exact absurd hc (hy.un c)
  ·simp at hc; subst hc; exact absurd hb (hy.un b)
  ·exact hs.inj b c x hb hc
 ·exact Kp.new (E:=E.oG A.next y) (fun x z g a b c d e f hx hz=>hs.lT x z g a b c d e f hx hz) (.inl fun _ _=>by simp)
 ·intro b x hb
  simp only [Env.oG] at hb;rw [aC.cB];split at hb
  ·omega
  ·have:=hs.ow b x hb; omega
 ·intro b g hb; have:=hs.qD b g hb; rw [aC.cB]; omega
 ·intro b o hb
  rw [aC.dN] at hb;rw [aC.cB];split at hb
  ·omega
  ·have:=hs.live b o hb; omega
 ·intro b x hb
  simp only [Env.oG] at hb;split at hb
  ·simp at hb; have:=hy.hi; omega
  ·exact hs.jc b x hb
 ·have ve:∀ b,(E.oG A.next y).α b=E.α b:=fun _=>rfl
  have MW:∀ c x,(E.oG A.next y).κ c=some x->(c=A.next/\x=y)\/E.κ c=some x:=fun c x e=>by
   simp only [Env.oG] at e;split at e
   ·rename_i e1; simp at e; exact .inl ⟨e1,e.symm⟩
   ·exact .inr e
  refine ⟨fun b v hb=>(hs.ar.arr b v (hA _ _ hb)).mono hle rfl fun _ _ _ _=>rfl,fun b v hb=>(hs.ar.lR b v (hfz _ _ hb)).mono hle rfl,fun x q=>?_,fun b c v u x L N L' N' h1 h2 h3 h4=>hs.ar.inj b c v u x L N L' N' (hA _ _ h1) (hA _ _ h2) h3 h4,
   fun b c v u x z L N L' N' cs e own g k ck e' tP k' h1 h2 h3 h4 h5 h6=>hs.ar.zj b c v u x z L N L' N' cs e own g k ck e' tP k' (hA _ _ h1) (hA _ _ h2) h3 h4 h5 h6,fun b x e=>?_,fun b p e=>?_,fun b x L N e=>hs.ar.jc b x L N e,fun b v x L N cs e own g k h1 h2 h3=>?_,fun b v hb=>?_⟩
  ·obtain ⟨h1,h2⟩:=hs.ar.z x (vI x q)
   refine ⟨h1,fun c e=>?_⟩;rcases MW c x e with ⟨_,rfl⟩ | e
   ·exact hy.far (.inl (vI _ q))
   ·exact h2 c e
  ·rcases MW b x e with ⟨rfl,_⟩ | e
   ·cases hb:E.α A.next with
    | none=>exact hb
    | some p=>have:=hs.ar.ow _ p hb; omega
   ·exact hs.ar.dis b x e
  ·have:=hs.ar.ow b p e; rw [aC.cB]; omega
  ·obtain ⟨h4,h5,h6⟩:=hs.ar.xG b v x L N cs e own g k (hA _ _ h1) h2 h3
   refine ⟨h4,h5,fun z hz eU=>?_⟩;obtain ⟨h7,h8,h9⟩:=h6 z hz eU;refine ⟨h7,fun q=>h8 (vI z q),fun c e'=>?_⟩;rcases MW c z e' with ⟨_,rfl⟩ | e'
   ·exact hy.far (.inr ⟨g,⟨b,v,x,L,N,cs,e,own,k,hA _ _ h1,h2,h3⟩,hz⟩)
   ·exact h9 c e'
  ·obtain ⟨h1,h2⟩:=hs.ar.nk b v (hA _ _ hb)
   rw [aC.cB];refine ⟨by omega,?_⟩;cases hk:(E.oG A.next y).κ b with
   | none=>rfl
   | some x=>
    rcases MW b x hk with ⟨e,_⟩ | e
    ·omega
    ·rw [h2] at e; simp at e
 ·intro b x hb
  simp only [Env.oG] at hb;split at hb
  ·simp at hb; subst hb; exact .inr hy.lo
  ·exact h.new b x hb
theorem aoV {cfg:fW} (je:vZ P cfg.pc) {o:Oper} {p:Operand×List Operand} (hp:PD o=some p) {t:bN} {A A' : aC} {v:KV} {base:Nat} {B:St} {ρ:a9} {a:Act} {w:World} {next:Act->World->Prop} {Q:Exit->Act->World->Prop}
  (h:bf (zl (Ko P cfg t p) t A) (v,A')) (hv:∀ x∈p.1::p.2,VC P E ρ (nG t x) (a.eval x)) (hj:KJ P E A B ρ base w)
  (hk:∀ E' B' ba v' w',VC P E' ba v v'->Ev P base E A B ρ w E' A' B' ba w'->next (a.put o.dst v') w'):o.wp P a w next Q:=by
 classical
 have bg:compile P o.op = .call p.1 p.2:=by
  unfold PD at hp;split at hp
  ·rename_i c ho hg
   split at hp
   ·rename_i d hc
    simp at hp;subst hp;rw [ho];exact ad5 (cfg:=fW.none) (show oE P fW.none c=_ by unfold oE; rw [hc])
   ·simp at hp
  ·simp at hp
 unfold Ko at h;split at h
 ·rename_i g hfv
  split at h
  ·rename_i F hF
   obtain ⟨u,h1,h2⟩:=bf.map h;simp only [gF] at h2;obtain ⟨rfl,rfl⟩:=h2;obtain ⟨hlen,hf⟩:=bf.cond h1;obtain ⟨hg,qe⟩:=je g F hF _ _ hf (bo hlen);have cm:=u7 P o;rw [bg] at cm;obtain ⟨em,h3,h4⟩:=cI (xs:=p.1::p.2) hv;obtain ⟨y,ys,e,h5,h6⟩:=h3.cons_inv;simp only [List.map_cons,List.cons.injEq] at e;obtain ⟨rfl,rfl⟩:=e;rw [hfv] at h5;obtain ⟨l,m,e5,e6,e7⟩:=h5.Nf;have:=e6.cu;subst this;have:=e7.cu;subst this;obtain ⟨cP,h7,h8⟩:=cm.2 ρ em a.eval g (p.2.map em) h4 hg.1 (by rw [e5]; simp only [zQ]; rw [hg.1]; simp) hg.2;unfold Oper.wp;rw [h8 w];refine (qe E A B ρ base w cP ⟨p.2.map em,by rw [wO]; exact h6,h7⟩ hj).mono ?_;rintro e w' ⟨v',E',B',ba,rfl,h9,xY⟩;exact hk E' B' ba v' w' h9 xY
  ·exact h.elim
 ·exact h.elim
inductive aed (P:Program) (cfg:fW) (all:List Oper) (A:aC):List Oper->bN->List Out->bN->Prop where
 | nil {t:bN} : aed P cfg all A [] t [] t
 | cons {o:Oper} {os:List Oper} {t t1 t' : bN} {wd:Bool} {v:KV} {L:List Out}
   (same:∀ i,t1.get i=t.get i) (want:RM all o t wd)
   (yes:wd=true->(uF all o=true/\v = .bJ)\/(uF all o=false/\(bf (zl (cf P cfg o.op) t1 A) (v,A)\/∃ p,PD o=some p/\bf (zl (Ko P cfg t1 p) t1 A) (v,A)))) (no:wd=false->v=wk/\uF all o=false)
   (rest:aed P cfg all A os (tN t1 o.dst v) L t'):aed P cfg all A (o::os) t ((wd,v,A)::L) t'
theorem vg {o:Oper} {T:TypeId} {d:Tmp} (h:iM o=some (T,d)):o.op = .alloc T/\o.guard=none/\o.dst=some d:=by
 unfold iM at h;split at h
 ·rename_i T' d' h1 h2 h3
  simp at h;obtain ⟨rfl,rfl⟩:=h;exact ⟨h1,h2,h3⟩
 ·simp at h
theorem IA {all:List Oper} {o:Oper} {T:TypeId} {d:Tmp} {x:Operand} (h:wI all o=some (T,d,x)):o.op = .store T (.tmp d) x/\o.guard=none/\o.dst=none/\Bg d all=true:=by
 unfold wI at h;split at h
 ·rename_i T' d' x' h1 h2 h3
  cases hb:Bg d' all with
  | false=>rw [hb] at h; simp at h
  | true=>
   rw [hb,ai] at h;simp at h;obtain ⟨rfl,rfl,rfl⟩:=h;exact ⟨h1,h2,h3,hb⟩
 ·simp at h
theorem YT {all:List Oper} {o:Oper} (h:uF all o=true):(∃ T d,iM o=some (T,d))\/∃ T d x,wI all o=some (T,d,x):=by
 unfold uF at h;simp only [u4,afI] at h;rcases h with ⟨⟨T,d⟩,h⟩ | ⟨⟨T,d,x⟩,h⟩
 ·exact .inl ⟨T,d,h⟩
 ·exact .inr ⟨T,d,x,h⟩
theorem aoW {all:List Oper} {o:Oper} (h:uF all o=true):o.guard=none:=by
 rcases YT h with ⟨T,d,h⟩ | ⟨T,d,x,h⟩
 ·exact (vg h).2.1
 ·exact (IA h).2.1
theorem Lx {R:Type} {cfg:fW} {bL:qC R} {all:List Oper} {k:bN->aC->Option R} {r:R} : ∀ {os:List Oper} {t:bN} {A:aC},(∀ o∈os,uF all o=true\/ef (cf P cfg o.op)<=1\/(PD o).isSome=true)->agF P cfg bL all k os t A=some r->
  ∃ L t',aed P cfg all A os t L t'/\k t' A=some r
 | [],t,A,_,h=>⟨[],t,.nil,h⟩
 | o::os,t,A,hn,h=>by
  have h:aoD P cfg bL all o (agF P cfg bL all k os) t A=some r:=h;have Rm:=fun q hq=>hn q (wh o hq);unfold aoD at h;cases hb:uF all o with
  | true=>
   rw [hb] at h;have h:agF P cfg bL all k os (tN t o.dst .bJ) A=some r:=h;obtain ⟨L,t',h1,h2⟩:=Lx Rm h;exact ⟨_,t',.cons (fun _=>rfl) (.inl ⟨aoW hb,rfl⟩) (fun _=>.inl ⟨hb,rfl⟩) (fun e=>by simp at e) h1,h2⟩
  | false=>
   rw [hb] at h;cases hdy:PD o with
   | some p=>
    simp only [hdy] at h;have h:Ut bL t A (fun v A=>agF P cfg bL all k os (tN t o.dst v) A) (Ko P cfg t p)=some r:=h;have hg:o.guard=none:=by
     unfold PD at hdy;split at hdy
     ·assumption
     ·simp at hdy
    have aqf:Ko P cfg t p = .bad\/∃ g f,Ko P cfg t p = .GD g f p.2:=by
     unfold Ko;split
     ·split
      ·exact .inr ⟨_,_,rfl⟩
      ·exact .inl rfl
     ·exact .inl rfl
    obtain ⟨v,A1,h1,h2⟩:=Nj (fun f args e=>by
     rcases aqf with h | ⟨g,f',h⟩ <;> rw [h] at e <;> simp at e) h
    have e:A1=A:=by
     rcases aqf with h | ⟨g,f',h⟩
     ·rw [h] at h1; exact h1.elim
     ·rw [h] at h1
      obtain ⟨u,_,h3⟩:=bf.map h1;simp at h3;exact h3.2.symm
    subst e;obtain ⟨L,t',h3,h4⟩:=Lx Rm h2;exact ⟨_,t',.cons (fun _=>rfl) (.inl ⟨hg,rfl⟩) (fun _=>.inr ⟨hb,.inr ⟨p,hdy,h1⟩⟩) (fun e=>by simp at e) h3,h4⟩
   | none=>
   simp only [hdy] at h;have hk:ef (cf P cfg o.op)<=1:=by
    rcases hn o (by simp) with e | e | e
    ·rw [hb] at e; simp at e
    ·exact e
    ·rw [hdy] at e; simp at e
   have hk3:Nat.ble 3 (ef (cf P cfg o.op))=false:=by
    cases hc:Nat.ble 3 (ef (cf P cfg o.op)) with
    | false=>rfl
    | true=>have:=gD hc; omega
   have hnc:=GQ (P:=P) (cfg:=cfg) (o:=o) (by omega);have h:DD P cfg bL all o (agF P cfg bL all k os) t A=some r:=h;unfold DD at h;cases hg:o.guard with
   | none=>
    rw [hg] at h;obtain ⟨v,A1,h1,h2⟩:=Nj hnc h;have e:=GP h1 hk3;subst e;obtain ⟨L,t',h3,h4⟩:=Lx Rm h2;exact ⟨_,t',.cons (fun _=>rfl) (.inl ⟨hg,rfl⟩) (fun _=>.inr ⟨hb,.inl h1⟩) (fun e=>by simp at e) h3,h4⟩
   | some p=>
    obtain ⟨j,want⟩:=p;rw [hg] at h;obtain ⟨d,hd,h⟩:=RL h;rcases h with ⟨b,t1,h1,h2,h3⟩ | ⟨l,h1,h2⟩
    ·rcases h3 with ⟨h3,h4⟩ | ⟨h3,h4⟩
     ·obtain ⟨v,A1,h5,h6⟩:=Nj hnc h4
      have e:=GP h5 hk3;subst e;obtain ⟨L,t',h7,h8⟩:=Lx Rm h6;exact ⟨_,t',.cons h2 (.inr ⟨j,want,d,hg,hd,.inl ⟨b,h1,h3.symm⟩⟩) (fun _=>.inr ⟨hb,.inl h5⟩) (fun e=>by simp at e) h7,h8⟩
     ·obtain ⟨L,t',h7,h8⟩:=Lx Rm h4
      exact ⟨_,t',.cons h2 (.inr ⟨j,want,d,hg,hd,.inl ⟨b,h1,h3.symm⟩⟩) (fun e=>by simp at e) (fun _=>⟨rfl,hb⟩) h7,h8⟩
    ·obtain ⟨L,t',h7,h8⟩:=Lx Rm h2
     exact ⟨_,t',.cons (fun _=>rfl) (.inr ⟨j,want,d,hg,hd,.inr ⟨l,h1,rfl⟩⟩) (fun e=>by simp at e) (fun _=>⟨rfl,hb⟩) h7,h8⟩
theorem aed.at {cfg:fW} {all:List Oper} {A:aC} : ∀ {os:List Oper} {t t' : bN} {L:List Out},aed P cfg all A os t L t'->
  L.length=os.length/\(∀ y,t'.get y=(j9 (fun _=>true) os L 0 t).get y)/\
  ∀ i o x,os[i]? = some o->L[i]? = some x->∃ t1,(∀ y,t1.get y=(j9 (fun j=>Nat.blt j i) os L 0 t).get y)/\RM all o t1 x.1/\(x.1=true->(uF all o=true/\x.2.1 = .bJ)\/(uF all o=false/\(bf (zl (cf P cfg o.op) t1 A) (x.2.1,A)\/∃ p,PD o=some p/\bf (zl (Ko P cfg t1 p) t1 A) (x.2.1,A))))/\(x.1=false->x.2.1=wk/\uF all o=false)
 | _,_,_,_,.nil=>⟨rfl,fun _=>rfl,fun i o x ho=>by simp at ho⟩
 | o::os,t,t',(wd,v,_)::L,.cons (t1:=t1) same want yes no rest=>by
  obtain ⟨h1,h2,h4⟩:=rest.at;have ad9:∀ y,(tN t1 o.dst v).get y=(tN t o.dst v).get y:=fun y=>by rw [wP,wP,same]
  refine ⟨by simp [h1],fun y=>?_,fun i q x hq hx=>?_⟩
  ·rw [h2 y]
   simp only [j9,ai];rw [GN];exact oH (ad9 y) fun _ _ _ _=>rfl
  ·cases i with
   | zero=>
    simp at hq hx;subst hq hx;have e0:∀ (os:List Oper) (L:List Out) (k:Nat) (t:bN),j9 (fun j=>Nat.blt j 0) os L k t=t:=by
     intro os
     induction os with
     | nil=>intro L k t; cases L <;> rfl
     | cons o os ih=>intro L k t; cases L with
      | nil=>rfl
      | cons x L=>simp only [j9]; exact ih L _ t
    refine ⟨t1,fun y=>by rw [e0]; exact same y,?_,yes,no⟩;rcases want with h | ⟨j,wt,d,e2,e3,e4⟩
    ·exact .inl h
    ·exact .inr ⟨j,wt,d,e2,e3,by rw [same]; exact e4⟩
   | succ i=>
    obtain ⟨t2,h5,h6,h7,h8⟩:=h4 i q x (by simpa using hq) (by simpa using hx);have hsh:(fun j=>Nat.blt (j+1) (i+1))=fun j=>Nat.blt j i:=by
     funext j;cases hb:Nat.blt j i with
     | true=>rw [bX] at hb ⊢; omega
     | false=>
      cases hc:Nat.blt (j+1) (i+1) with
      | false=>rfl
      | true=>rw [bX] at hc; rw [show Nat.blt j i=true from by rw [bX]; omega] at hb; simp at hb
    have h01:Nat.blt 0 (i+1)=true:=by rw [bX]; omega
    refine ⟨t2,fun y=>?_,h6,h7,h8⟩;rw [h5 y];simp only [j9,h01,ai];rw [GN,hsh];exact oH (ad9 y) fun _ _ _ _=>rfl
theorem Ly {cfg:fW} {all:List Oper} {b:List Nat} {i:Nat} {y:Oper} : ∀ (xs:List Oper) (k:Nat),KZ P cfg all b i y xs k=true->∀ (j:Nat) (x:Oper),xs[j]? = some x->k+j < i->xV P cfg all x y=true->tK b i (k+j)=true
 | [],k,_,j,x,hx,_,_=>by simp at hx
 | x0::xs,k,h,0,x,hx,bu,hc=>by
  simp at hx;subst hx;simp only [KZ,aD,u4,nz] at h;rcases h.1 with (h1 | h1) | h1
  ·have:=gD h1; omega
  ·rw [hc] at h1; simp at h1
  ·exact h1
 | x0::xs,k,h,j+1,x,hx,bu,hc=>by
  simp only [KZ,aD] at h;have:=Ly xs (k+1) h.2 j x (by simpa using hx) (by omega) hc;rwa [show k+1+j=k+(j+1) by omega] at this
theorem GS {cfg:fW} {all:List Oper} {b:List Nat} : ∀ (os:List Oper) (k:Nat),Ee P cfg all b os k=true->∀ (i:Nat) (o:Oper),os[i]? = some o->KZ P cfg all b (k+i) o all 0=true
 | [],k,_,i,o,ho=>by simp at ho
 | o0::os,k,h,0,o,ho=>by
  simp at ho;subst ho;simp only [Ee,aD] at h;exact h.1
 | o0::os,k,h,i+1,o,ho=>by
  simp only [Ee,aD] at h;have:=GS os (k+1) h.2 i o (by simpa using ho);rwa [show k+1+i=k+(i+1) by omega] at this
theorem XP {i:Nat} {d:Tmp} : ∀ (os:List Oper) (k:Nat),PC i d os k=true->∀ (j:Nat) (o:Oper),os[j]? = some o->k+j≠i->o.dst≠some d
 | [],k,_,j,o,ho,_=>by simp at ho
 | q::os,k,h,0,o,ho,eU=>by
  simp at ho;subst ho;simp only [PC,aD,u4,nz] at h;rcases h.1 with h1 | h1
  ·exact absurd (bo h1) (by simpa using eU)
  ·intro e
   rw [e,Fg (by simp)] at h1;simp at h1
 | q::os,k,h,j+1,o,ho,eU=>by
  simp only [PC,aD] at h;exact XP os (k+1) h.2 j o (by simpa using ho) (by omega)
theorem S3 {all:List Oper} {i:Nat} {d:Tmp} : ∀ (os:List Oper) (k:Nat),GH all i d os k=true->∀ (j:Nat) (o:Oper),os[j]? = some o->k+j≠i->∀ T x,wI all o≠some (T,d,x)
 | [],k,_,j,o,ho,_=>by simp at ho
 | q::os,k,h,0,o,ho,eU=>by
  simp at ho;subst ho;simp only [GH,aD,u4] at h;intro T x e;rcases h.1 with h1 | h1
  ·exact absurd (bo h1) (by simpa using eU)
  ·rw [e] at h1
   simp at h1
 | q::os,k,h,j+1,o,ho,eU=>by
  simp only [GH,aD] at h;exact S3 os (k+1) h.2 j o (by simpa using ho) (by omega)
theorem UM {d:Tmp} : ∀ {os:List Oper},Bg d os=true->∃ (j:Nat) (o:Oper) (T:TypeId),os[j]? = some o/\iM o=some (T,d)
 | [],h=>by simp [Bg] at h
 | o::os,h=>by
  simp only [Bg,u4] at h;rcases h with h | h
  ·split at h
   ·rename_i T e he
    have:=bo h;subst this;exact ⟨0,o,T,rfl,he⟩
   ·simp at h
  ·obtain ⟨j,q,T,h1,h2⟩:=UM h
   exact ⟨j+1,q,T,by simpa using h1,h2⟩
structure aj3 (P:Program) (cfg:fW) (all:List Oper):Prop where
 ord:ahb P cfg all
 kind:∀ o∈all,uF all o=true\/ef (cf P cfg o.op)<=1\/(PD o).isSome=true
 dst:∀ (i:Nat) (o:Oper) (T:TypeId) (d:Tmp),all[i]? = some o->iM o=some (T,d)->∀ (j:Nat) (q:Oper),all[j]? = some q->j≠i->q.dst≠some d
 st:∀ (i:Nat) (o:Oper) (T:TypeId) (d:Tmp) (x:Operand),all[i]? = some o->wI all o=some (T,d,x)->zX i x all 0=true/\(∀ (j:Nat) (q:Oper),all[j]? = some q->j≠i->∀ T' x',wI all q≠some (T',d,x'))/\(∃ (j:Nat) (q:Oper) (T' : TypeId),j < i/\all[j]? = some q/\iM q=some (T',d))/\x≠.tmp d
theorem UN {all:List Oper} : ∀ (os:List Oper) (k:Nat),Uu all os k=true->∀ (i:Nat) (o:Oper),os[i]? = some o->
  (∀ T d,iM o=some (T,d)->PC (k+i) d all 0=true)/\∀ T d x,wI all o=some (T,d,x)->zX (k+i) x all 0=true/\GH all (k+i) d all 0=true/\Bg d (all.take (k+i))=true/\x≠.tmp d
 | [],k,_,i,o,ho=>by simp at ho
 | o0::os,k,h,0,o,ho=>by
  simp at ho;subst ho;simp only [Uu,aD] at h;refine ⟨fun T d e=>?_,fun T d x e=>?_⟩
  ·have:=h.1.1
   rw [e] at this;exact this
  ·have:=h.1.2
   rw [e] at this;simp only [aD,nz] at this;refine ⟨this.1.1.1,this.1.1.2,this.1.2,fun e2=>?_⟩;have h3:=this.2;rw [e2,Fg (by simp [u6])] at h3;simp at h3
 | o0::os,k,h,i+1,o,ho=>by
  simp only [Uu,aD] at h;have:=UN os (k+1) h.2 i o (by simpa using ho);rwa [show k+1+i=k+(i+1) by omega] at this
theorem am8 {cfg:fW} {all:List Oper} (h:aab P cfg all=true):aj3 P cfg all:=by
 unfold aab at h;simp only [aD] at h;obtain ⟨⟨⟨h1,h2⟩,h3⟩,h4⟩:=h;refine ⟨⟨Jc h1,fun {i j x y} hy hx bu hc=>?_⟩,fun o ho=>?_,fun i o T d ho he j q hq eU=>?_,fun i o T d x ho he=>?_⟩
 ·have:=GS all 0 h3 i y hy
  rw [bk] at this;have:=Ly all 0 this j x hx (by omega) hc;rwa [bk] at this
 ·have:=im.1 h2 o ho
  simp only [u4] at this;rcases this with (h | h) | h
  ·exact .inl h
  ·exact .inr (.inl (gD h))
  ·exact .inr (.inr h)
 ·have:=(UN all 0 h4 i o ho).1 T d he
  rw [bk] at this;exact XP all 0 this j q hq (by omega)
 ·have:=(UN all 0 h4 i o ho).2 T d x he
  rw [bk] at this;refine ⟨this.1,fun j q hq eU T' x'=>S3 all 0 this.2.1 j q hq (by omega) T' x',?_,this.2.2.2⟩;obtain ⟨j,q,T',h5,h6⟩:=UM this.2.2.1;rw [rf] at h5;split at h5
  ·rename_i bu; exact ⟨j,q,T',bu,h5,h6⟩
  ·simp at h5
theorem HW {all:List Oper} {d:Tmp} {T:TypeId} {x:Operand} : ∀ {os:List Oper},wJ all d os=some (T,x)->∃ (i:Nat) (o:Oper),os[i]? = some o/\wI all o=some (T,d,x)
 | [],h=>by simp [wJ] at h
 | o::os,h=>by
  unfold wJ at h;split at h
  ·rename_i T' e x' he
   cases hb:Nat.beq d e with
   | true=>
    rw [hb,ai] at h;have:=bo hb;subst this;simp at h;obtain ⟨rfl,rfl⟩:=h;exact ⟨0,o,rfl,he⟩
   | false=>
    rw [hb,aw] at h;obtain ⟨i,q,h1,h2⟩:=HW h;exact ⟨i+1,q,by simpa using h1,h2⟩
  ·obtain ⟨i,q,h1,h2⟩:=HW h
   exact ⟨i+1,q,by simpa using h1,h2⟩
theorem HX {all:List Oper} {d:Tmp} : ∀ {os:List Oper},wJ all d os=none->∀ (i:Nat) (o:Oper),os[i]? = some o->∀ T x,wI all o≠some (T,d,x)
 | [],_,i,o,ho=>by simp at ho
 | q::os,h,i,o,ho=>by
  unfold wJ at h;intro T x e;split at h
  ·rename_i T' e' x' he
   cases hb:Nat.beq d e' with
   | true=>rw [hb] at h; simp at h
   | false=>
    rw [hb,aw] at h;cases i with
    | zero=>
     simp at ho;subst ho;rw [he] at e;simp at e;rw [e.2.1,nA] at hb;simp at hb
    | succ i=>exact HX h i o (by simpa using ho) T x e
  ·rename_i hn
   cases i with
   | zero=>simp at ho; subst ho; rw [hn] at e; simp at e
   | succ i=>exact HX h i o (by simpa using ho) T x e
theorem Lz {all:List Oper} {t:bN} {T:TypeId} {d:Tmp} {cs:List KV} (h:Bh P all t T d=some cs):∃ z,sF P T=some z/\flat z=true/\z.cells.toList.all scalar=true/\jv (iU z).cells=true/\some (iU z).cells.length=size? P T/\
  (∀ T' x,wJ all d all=some (T',x)->T=T'/\some (nG t x).cells.length=size? P T/\jv (nG t x).cells=true/\cs=(nG t x).cells)/\(wJ all d all=none->cs=(iU z).cells):=by
 unfold Bh at h;split at h
 ·rename_i z hz
  cases hb:(flat z&&z.cells.toList.all scalar&&jv (iU z).cells&&decide (some (iU z).cells.length=size? P T)) with
  | false=>rw [hb] at h; simp at h
  | true=>
   rw [hb,ai] at h;simp only [aD,lz] at hb;refine ⟨z,hz,hb.1.1.1,hb.1.1.2,hb.1.2,hb.2,fun T' x hs=>?_,fun hs=>?_⟩
   ·rw [hs] at h
    simp only at h;cases hc:(Nat.beq T T'&&decide (some (nG t x).cells.length=size? P T)&&jv (nG t x).cells) with
    | false=>rw [hc] at h; simp at h
    | true=>
     rw [hc,ai] at h;simp only [aD,lz] at hc;exact ⟨bo hc.1.1,hc.1.2,hc.2,by simpa using h.symm⟩
   ·rw [hs] at h
    simpa using h.symm
 ·simp at h
theorem YU {R:Type} {all:List Oper} {t0:bN} {k:bN->aC->Option R} {r:R} : ∀ {os:List Oper} {t:bN} {A:aC},adY P all t0 k os t A=some r->∀ o∈os,∀ T d,iM o=some (T,d)->∃ cs,Bh P all t0 T d=some cs
 | [],_,_,_,o,ho,_,_,_=>by simp at ho
 | q::os,t,A,h,o,ho,T,d,he=>by
  have h:Option.rec (motive:=fun _=>Option R) (adY P all t0 k os t A) (fun p=>
   Option.rec (motive:=fun _=>Option R) none (fun cs=>adY P all t0 k os (t.set (.ptr A.next 0) p.2) (A.new (.row cs (rv P p.1)))) (Bh P all t0 p.1 p.2)) (iM q)=some r:=h
  cases hq:iM q with
  | none=>
   rw [hq] at h;rcases ff.1 ho with rfl | ho
   ·rw [hq] at he; simp at he
   ·exact YU h o ho T d he
  | some p=>
   rw [hq] at h;cases hc:Bh P all t0 p.1 p.2 with
   | none=>simp only [hc] at h; exact absurd h (by simp)
   | some cs=>
    simp only [hc] at h;rcases ff.1 ho with rfl | ho
    ·rw [hq] at he
     simp at he;subst he;exact ⟨cs,hc⟩
    ·exact YU h o ho T d he
end Go.K
end
section
namespace Go.K
open Go Go.aE
variable {P:Program} {E:Env}
theorem aee:∀ {l vs:List Value},l.length=vs.length->jt 0 l vs=some vs
 | [],[],_=>rfl
 | [],_::_,h=>by simp at h
 | _::_,[],h=>by simp at h
 | x::l,v::vs,h=>by rw [zN,aee (by simpa using h)]; rfl
theorem aut {a:Act} {d:Tmp} {v:Value} (h:d < a.tmps.size):(a.put (some d) v).tmps.getD d undef=v:=by
 simp [Act.put,jh,h]
theorem aqg {a:Act} {dst:Option Tmp} {d:Tmp} {v:Value} (h:dst≠some d):(a.put dst v).tmps.getD d undef=a.tmps.getD d undef:=by
 cases dst with
 | none=>rfl
 | some e=>
  have eU:e≠d:=fun q=>h (by rw [q]);simp [Act.put,jh,Array.getElem?_setIfInBounds_ne eU]
def awC (P:Program) (E:Env) (all:List Oper) (tn:bN) (S:Nat->Bool) (T:TypeId) (d:Tmp) (ck:List Value):Prop:=
 some ck.length=size? P T/\(∀ (i:Nat) (o:Oper) T' x,all[i]? = some o->wI all o=some (T',d,x)->S i=true->bp P E (nG tn x).cells ck)/\
  ((∀ (i:Nat) (o:Oper) T' x,all[i]? = some o->wI all o=some (T',d,x)->S i=false)->∃ z,sF P T=some z/\bp P E (iU z).cells ck)
def afX (P:Program) (E:Env) (A:aC) (B:St) (ρ:a9) (b0:Nat) (all:List Oper) (tn:bN) (S:Nat->Bool) (a:Act) (y:Nat->Nat):Prop:=
 ∀ (j:Nat) (o:Oper) (T:TypeId) (d:Tmp),all[j]? = some o->iM o=some (T,d)->S j=true->
  VR ρ (K9 (y j)) (a.tmps.getD d undef)/\Fr E A B b0 (y j)/\(∃ ck,B.get (y j)=some (.row ck (rv P T) true none)/\awC P E all tn S T d ck)/\
  ∀ (j' : Nat) (o' : Oper) (T' : TypeId) (d' : Tmp),all[j']? = some o'->iM o' = some (T',d')->S j' = true->y j' = y j->j' = j
theorem Ow {all:List Oper} {o:Oper} {T:TypeId} {d:Tmp} (h:iM o=some (T,d)):wI all o=none:=by
 cases hb:wI all o with
 | none=>rfl
 | some p=>
  obtain ⟨T',d',x⟩:=p;have h1:=(vg h).1;have h2:=(IA hb).1;rw [h1] at h2;simp at h2
theorem iW {S:Nat->Bool} {i j:Nat} (h:j≠i):cW S i j=S j:=by
 unfold cW;cases hb:Nat.beq j i with
 | false=>simp
 | true=>exact absurd (bo hb) h
theorem Ei {S:Nat->Bool} {i:Nat} : cW S i i=true:=by simp [cW]
theorem afX.step {E' : Env} {A:aC} {B B' : St} {ρ ba:a9} {base b0:Nat} {w w' : World} {all:List Oper} {tn:bN} {S:Nat->Bool} {a:Act} {y:Nat->Nat} {i:Nat} {o:Oper} {v' : Value} {cfg:fW} (h:afX P E A B ρ b0 all tn S a y) (hf:aj3 P cfg all)
  (ho:all[i]? = some o) (hb:uF all o=false) (k:Ev P base E A B ρ w E' A B' ba w') (n4:ρ.le ba):afX P E' A B' ba b0 all tn (cW S i) (a.put o.dst v') y:=by
 intro j q T d hq he hS;have eU:∀ (m:Nat) (q:Oper),all[m]? = some q->uF all q=true->m≠i:=fun m q hm CU e=>by
  subst e;rw [ho] at hm;simp at hm;subst hm;rw [hb] at CU;simp at CU
 have hal:∀ {q:Oper} {T:TypeId} {d:Tmp},iM q=some (T,d)->uF all q=true:=fun e=>by unfold uF; rw [e]; rfl
 have jL:∀ {q:Oper} {T:TypeId} {d:Tmp} {x:Operand},wI all q=some (T,d,x)->uF all q=true:=fun e=>by unfold uF; rw [e]; simp
 have hji:=eU j q hq (hal he);rw [iW hji] at hS;obtain ⟨h1,h2,⟨ck,h3,h4,h5,h6⟩,h7⟩:=h j q T d hq he hS;obtain ⟨h8,h9⟩:=h2.step k;refine ⟨?_,h8,⟨ck,by rw [h9]; exact h3,h4,fun m q' T' x hm IB hSm=>?_,fun hn=>?_⟩,fun j' o' T' d' fw Ir hS'=>?_⟩
 ·rw [aqg (hf.dst j q T d hq he i o ho (Ne.symm hji))]
  exact h1.mono n4
 ·rw [iW (eU m q' hm (jL IB))] at hSm
  exact (h5 m q' T' x hm IB hSm).mono k.le
 ·obtain ⟨z,xY,MZ⟩:=h6 fun m q' T' x hm IB=>by
   have:=hn m q' T' x hm IB;rwa [iW (eU m q' hm (jL IB))] at this
  exact ⟨z,xY,MZ.mono k.le⟩
 ·rw [iW (eU j' o' fw (hal Ir))] at hS'
  exact h7 j' o' T' d' fw Ir hS'
theorem YV {R:Type} {all:List Oper} {tn:bN} {k:bN->aC->Option R} {r:R} {E0:Env} {A0:aC} {B0 B:St} {ρ0 ρ:a9} {w0 w:World} {base N:Nat} {a:Act} {y:Nat->Nat} : ∀ (os:List Oper) (m:Nat) (t:bN) (E:Env) (A:aC),all.drop m=os->adY P all tn k os t A=some r->
  Ev P base E0 A0 B0 ρ0 w0 E A B ρ w->nQ P E ρ t N a->(∀ (j:Nat) (o:Oper) T d,m<=j->all[j]? = some o->iM o=some (T,d)->d < N)->
  (∀ (j:Nat) (o:Oper) (T:TypeId) (d:Tmp),m<=j->all[j]? = some o->iM o=some (T,d)->VR ρ (K9 (y j)) (a.tmps.getD d undef)/\Fr E A B B0.next (y j)/\(∀ cs,Bh P all tn T d=some cs->∃ ck,B.get (y j)=some (.row ck (rv P T) true none)/\bp P E cs ck)/\
   ∀ (j' : Nat) (o' : Oper) (T' : TypeId) (d' : Tmp),m<=j'->all[j']? = some o'->iM o' = some (T',d')->y j' = y j->j' = j)->
  ∃ t' E' A',k t' A' = some r/\nQ P E' ρ t' N a/\Ev P base E0 A0 B0 ρ0 w0 E' A' B ρ w
 | [],m,t,E,A,_,h,sM,ht,_,_=>⟨t,E,A,h,ht,sM⟩
 | o::os,m,t,E,A,hd,h,sM,ht,hN,hb=>by
  have ho:all[m]? = some o:=by
   have:(all.drop m)[0]? = some o:=by rw [hd]; rfl
   rw [rK] at this;simpa using this
  have hd' : all.drop (m+1)=os:=by rw [<- List.drop_drop,hd]; rfl
  have h:Option.rec (motive:=fun _=>Option R) (adY P all tn k os t A) (fun p=>
   Option.rec (motive:=fun _=>Option R) none (fun cs=>adY P all tn k os (t.set (.ptr A.next 0) p.2) (A.new (.row cs (rv P p.1)))) (Bh P all tn p.1 p.2)) (iM o)=some r:=h
  cases hq:iM o with
  | none=>
   rw [hq] at h;exact YV (y:=y) os (m+1) t E A hd' h sM ht (fun j o' T d hj=>hN j o' T d (by omega)) fun j o' T d hj ho' he=>by
    obtain ⟨h1,h2,h3,h4⟩:=hb j o' T d (by omega) ho' he;exact ⟨h1,h2,h3,fun j' o'' T' d' fw=>h4 j' o'' T' d' (by omega)⟩
  | some p=>
   obtain ⟨T,d⟩:=p;rw [hq] at h;cases hc:Bh P all tn T d with
   | none=>simp only [hc] at h; exact absurd h (by simp)
   | some cs=>
    simp only [hc] at h;obtain ⟨h1,h2,h3,h4⟩:=hb m o T d (aX m) ho hq;obtain ⟨ck,h5,h6⟩:=h3 cs hc;obtain ⟨hle,awD⟩:=avM (cs:=cs) sM h2 h5 h6;have MW:(E.oG A.next (y m)).κ A.next=some (y m):=by simp [Env.oG]
    refine YV (y:=y) os (m+1) _ (E.oG A.next (y m)) (A.new (.row cs (rv P T))) hd' h awD ⟨ht.size,fun i=>?_,fun i hi=>?_⟩ (fun j o' T d hj=>hN j o' T d (by omega)) fun j o' T' d' hj ho' he=>?_
    ·rw [Trie.sm]
     by_cases hid:i=d
     ·subst hid
      rw [aW rfl];exact ⟨_,.DA MW,h1⟩
     ·rw [aB hid]
      exact (ht.val i).mono hle (fun _ _ e=>e)
    ·rw [Trie.sm,aB]
     ·exact ht.none i hi
     ·intro e
      subst e;exact absurd (hN m o T i (aX m) ho hq) (Nat.not_lt_of_le hi)
    ·obtain ⟨g1,g2,g3,g4⟩:=hb j o' T' d' (by omega) ho' he
     have awE:y j≠y m:=fun e=>by have:=h4 j o' T' d' (by omega) ho' he e; omega
     refine ⟨g1,⟨g2.lo,g2.hi,fun b e=>?_,g2.z,fun q=>?_⟩,fun pz hc0=>?_,fun j' o'' T'' d'' fw=>g4 j' o'' T'' d'' (by omega)⟩
     ·simp only [Env.oG] at e
      split at e
      ·simp at e; exact awE e.symm
      ·exact g2.un b e
     ·have hA:∀ (b:Nat) (v:KV),(A.new (.row cs (rv P T))).get b=some (.arr v)->A.get b=some (.arr v):=fun b v hb=>by
       rw [aC.dN] at hb;split at hb
       ·simp at hb
       ·exact hb
      exact g2.far (q.of (fun _=>rfl) hA (fun _ _=>rfl) fun _ _=>rfl)
     ·obtain ⟨sJ,g5,g6⟩:=g3 pz hc0
      exact ⟨sJ,g5,g6.mono hle⟩
theorem am9 {R:Type} {cfg:fW} {bL:qC R} (je:vZ P cfg.pc) (hm:P.follows .mixedOrders=true) {id:Nat} {all:List Oper} {N base:Nat} (hdN:all.all (Oe N)=true) {k:bN->aC->Option R} {r:R} {t:bN} {A:aC} {B:St} {ρ:a9} {a:Act} {w:World} {Q:Exit->Act->World->Prop}
  (PU:aab P cfg all=true) (h:agF P cfg bL all (fun t A=>adY P all t k all t A) all t A=some r) (ht:nQ P E ρ t N a) (hj:KJ P E A B ρ base w)
  (hq:∀ t' E' A' B' ba a' w',k t' A' = some r->nQ P E' ba t' N a'->a'.defers=a.defers->Ev P base E A B ρ w E' A' B' ba w'->Q .normal a' w'):(Code.region id ⟨all⟩ true).wp P Q a w:=by
 classical
 have hf:=am8 PU;obtain ⟨L,tn,qe,hk⟩:=Lx hf.kind h;obtain ⟨hlen,W5,EV⟩:=qe.at;have Bc:=YU hk;have UL:Ev P base E A B ρ w E A B ρ w.drew:=(eT.refl hj.k).ev (pk.drew hj.s);have Lv:∀ (i:Nat) (o:Oper),all[i]? = some o->∀ d,o.dst=some d->d < N:=by
  intro i o ho d ed;have:=im.1 hdN o (ji ho);unfold Oe at this;rw [ed] at this;simp only at this;rw [bX] at this;exact this
 refine wp_region_any hm ?_;show wpAny P .any ⟨all⟩ Q all.length (Array.replicate all.length false) a w.drew;have Jf:∀ i,(Array.replicate all.length false).getD i false=false:=by
  intro i;rw [jh,Array.getElem?_replicate];split <;> rfl
 let Inv:(Nat->Bool)->Act->World->Prop:=fun S a' w'=>∃ E' B' ba y,a'.defers=a.defers/\Ev P base E A B ρ w.drew E' A B' ba w'/\nQ P E' ba (j9 S all L 0 t) N a'/\afX P E' A B' ba B.next all tn S a' y
 refine Kn hf.ord.reg Inv ?_ ?_ ?_ all.length _ a w.drew (by simp) ?_ (fun i j hi _=>by
   have h2:(Array.replicate all.length false).getD i false=true:=hi;rw [Jf] at h2; simp at h2) ⟨E,B,ρ,fun _=>0,rfl,.refl hj.k UL.gX.kW,?_,?_⟩
 ·
  rintro S S' a' w' hSS ⟨E',B',ba,y,h1,h2,h3,h4⟩;have hS:∀ (i:Nat) (o:Oper),all[i]? = some o->S i=S' i:=fun i o ho=>hSS i (dB.1 ho).1;refine ⟨E',B',ba,y,h1,h2,h3.same fun z=>oH rfl fun i o ho _=>by rw [bk]; exact (hS i o ho).symm,fun j o T d ho he W6=>?_⟩;obtain ⟨q1,q2,⟨ck,q3,q4,q5,q6⟩,q7⟩:=h4 j o T d ho he (by rw [hS j o ho]; exact W6);exact ⟨q1,q2,⟨ck,q3,q4,fun m q T' x hm IB hSm=>q5 m q T' x hm IB (by rw [hS m q hm]; exact hSm),fun hn=>q6 fun m q T' x hm IB=>by rw [hS m q hm]; exact hn m q T' x hm IB⟩,fun j' o' T' d' fw Ir hS'=>q7 j' o' T' d' fw Ir (by rw [hS j' o' fw]; exact hS')⟩
 ·
  rintro S a' w' i o ⟨E',B',ba,y,h1,h2,h3,h4⟩ hc ho tu wH _;have hi:i < L.length:=by rw [hlen]; exact (dB.1 ho).1
  have hx:L[i]? = some L[i]:=dD hi;obtain ⟨t1,Cf,hw,am7,YS⟩:=EV i o L[i] ho hx;have DH:∀ z∈qt P cfg all o,t1.get z=(j9 S all L 0 t).get z:=fun z hz=>by rw [Cf z,ahd hf.ord hc ho tu wH hz]
  have RP:=Iz h3 (fun z hz=>DH z (by unfold qt; exact List.mem_append_left _ hz)) hw;have hoA:(⟨all⟩:Array Oper)[i]? = some o:=by simpa using ho
  unfold wpOp;rw [hoA];simp only [RP];cases Ks:L[i].1 with
  | false=>
   simp only [xM,if_false];obtain ⟨hv,hnb⟩:=YS Ks;refine ⟨E',B',ba,y,by rw [put_defers]; exact h1,h2,?_,h4.step hf ho hnb (.refl h2.kW h2.gX.kW) (fun _ _ e=>e)⟩;refine (h3.put (Lv i o ho) VC.undef).same fun z=>?_;rw [PT hf.ord hc ho hx tu z,hv]
  | true=>
   simp only [if_true];refine .inl ?_;rcases am7 Ks with ⟨IB,hv⟩ | ⟨hnb,hg⟩
   ·rcases YT IB with ⟨T,d,he⟩ | ⟨T,d,x,he⟩
    ·
     obtain ⟨e1,e2,e3⟩:=vg he;obtain ⟨cs,Ri⟩:=Bc o (ji ho) T d he;obtain ⟨z,Pr,I9,hz3,hz4,hz5,_⟩:=Lz Ri;have bg:compile P o.op = .make (Q5 P T) []:=by rw [e1]; rfl
     obtain ⟨z0,v',w2,hr1,zT,hr3⟩:=acn (em:=fun _=>undef) (da:=a'.eval) (obj:=Kk (rv P T) z) (mk:=K9) bg h2.gX.kW (fun x hx=>by simp at hx) (by simp only [Q5,Pr,gE,I9,hz3,bC,ai]);unfold Oper.wp;rw [hr1];have gI:d < a'.tmps.size:=by rw [h3.size]; exact Lv i o ho d e3
     have hnx:=h2.gX.next;have n4:=hr3.le h2.gX.kW;have jL:=awA (ck:=z.cells.toList) (ca:=rv P T) h2.kW;have sM:Ev P base E' A B' ba w' E' A (B'.new (Kk (rv P T) z)) z0 w2:=jL.ev hr3;refine ⟨E',B'.new (Kk (rv P T) z),z0,fun m=>if m=i then B'.next else y m,by rw [put_defers]; exact h1,h2.trans sM,?_,fun j q U c hq Pw hS=>?_⟩
     ·refine ((h3.mono (Env.le_refl _) n4).put (v:=.bJ) (Lv i o ho) ⟨.chan none,.wM,by simp [VR]⟩).same fun z=>?_
      rw [PT hf.ord hc ho hx tu z,hv]
     ·have hold:∀ (m:Nat) (q:Oper) (U:TypeId) (c:Tmp),all[m]? = some q->iM q=some (U,c)->cW S i m=true->m≠i->S m=true:=fun m q U c _ _ hS eU=>by rwa [iW eU] at hS
      have acs:∀ (m:Nat) (q:Oper) (U:TypeId) (c:Tmp) (x:Operand),all[m]? = some q->wI all q=some (U,c,x)->m≠i:=fun m q U c x hm CU e=>by
       subst e;rw [ho] at hm;simp at hm;subst hm;rw [Ow he] at CU;simp at CU
      by_cases hji:j=i
      ·subst hji
       rw [ho] at hq;simp at hq;subst hq;rw [he] at Pw;simp at Pw;obtain ⟨rfl,rfl⟩:=Pw;simp only [if_true];refine ⟨?_,⟨hnx,by simp,fun b e=>?_,?_,fun q=>?_⟩,⟨z.cells.toList,by simp [Kk],?_,fun m q T' x hm CU hSm=>?_,fun _=>⟨z,Pr,GI hz4⟩⟩,fun j' o' T' d' fw Ir hS' hy=>?_⟩
       ·rw [e3,aut gI]; exact zT
       ·have:=h2.kW.jc b _ e; omega
       ·cases hzz:E'.z B'.next with
        | none=>rfl
        | some r=>have:=h2.kW.qX _ r hzz; omega
       ·rcases q with q | ⟨g,_,q⟩
        ·obtain ⟨b,v,L',N',q1,q2⟩:=q
         have:=h2.kW.ar.jc b _ _ _ q2;omega
        ·rw [Kk,St.n3] at q
         have:=h2.kW.mem g _ q;omega
       ·rw [<- (GI (P:=P) (E:=E') hz4).length] at hz5
        exact hz5
       ·
        exfalso;have hmi:=acs m q T' d x hm CU;rw [iW hmi] at hSm;obtain ⟨_,_,⟨j0,q0,T0,bu,hq0,he0⟩,_⟩:=hf.st m q T' d x hm CU;have:j0=j:=by
         by_cases hjj:j0=j
         ·exact hjj
         ·exact absurd (vg he0).2.2 (hf.dst j o T d ho he j0 q0 hq0 hjj)
        subst this;have hb:tK (fX [] all) m j0=true:=hf.ord.I8 hm hq0 bu (by
         unfold xV;rw [(vg he0).2.2,show Uf (some d) (qt P cfg all q)=true from Fg (by
          unfold qt;refine List.mem_append_right _ ?_;rw [(IA CU).1];exact nB (show Operand.tmp d∈[Operand.tmp d,x] by simp))]
         rfl)
        have:=hc m j0 hSm hb;rw [tu] at this; simp at this
       ·by_cases RF:j' = j
        ·exact RF
        ·exfalso
         rw [aB RF] at hy;have:=(h4 j' o' T' d' fw Ir (hold j' o' T' d' fw Ir hS' RF)).2.1.hi;omega
      ·simp only [aB hji]
       obtain ⟨q1,q2,⟨ck,q3,q4,q5,q6⟩,q7⟩:=h4 j q U c hq Pw (hold j q U c hq Pw hS hji);obtain ⟨q8,q9⟩:=q2.step sM;refine ⟨?_,q8,⟨ck,by rw [q9]; exact q3,q4,fun m q' T' x hm CU hSm=>?_,fun hn=>?_⟩,fun j' o' T' d' fw Ir hS' hy=>?_⟩
       ·rw [aqg (hf.dst j q U c hq Pw i o ho (Ne.symm hji))]
        exact q1.mono n4
       ·rw [iW (acs m q' T' c x hm CU)] at hSm
        exact q5 m q' T' x hm CU hSm
       ·exact q6 fun m q' T' x hm CU=>by
         have:=hn m q' T' x hm CU;rwa [iW (acs m q' T' c x hm CU)] at this
       ·by_cases RF:j' = i
        ·rw [aW RF] at hy
         have:=q2.hi;omega
        ·rw [aB RF] at hy
         exact q7 j' o' T' d' fw Ir (hold j' o' T' d' fw Ir hS' RF) hy
    ·
     obtain ⟨e1,e2,e3,_⟩:=IA he;obtain ⟨hnd,ahf,⟨j0,q0,T0,bu,hq0,he0⟩,hxd⟩:=hf.st i o T d x ho he;have hb0:tK (fX [] all) i j0=true:=hf.ord.I8 ho hq0 bu (by
      unfold xV;rw [(vg he0).2.2,show Uf (some d) (qt P cfg all o)=true from Fg (by
       unfold qt;refine List.mem_append_right _ ?_;rw [e1];exact nB (show Operand.tmp d∈[Operand.tmp d,x] by simp))]
      rfl)
     have hS0:S j0=true:=hc.ready hf.ord.reg ho wH j0 hb0;obtain ⟨q1,q2,⟨pz,q3,q4,_,_⟩,q7⟩:=h4 j0 q0 T0 d hq0 he0 hS0;obtain ⟨cs,Ri⟩:=Bc q0 (ji hq0) T0 d he0;obtain ⟨z,_,_,_,_,_,hz6,hz7⟩:=Lz Ri;have awF:wJ all d all=some (T,x):=by
      cases hs:wJ all d all with
      | none=>exact absurd he (HX hs i o ho T x)
      | some p=>
       obtain ⟨T2,x2⟩:=p;obtain ⟨i2,o2,h5,h6⟩:=HW hs;by_cases hii:i2=i
       ·subst hii
        rw [ho] at h5;simp at h5;subst h5;rw [he] at h6;simp at h6;rw [h6.1,h6.2]
       ·exact absurd h6 (ahf i2 o2 h5 hii T2 x2)
     obtain ⟨hT,hl,aaf,_⟩:=hz6 T x awF;subst hT;have CT:nG tn x=nG t1 x:=alj W5 Cf hnd;rw [CT] at hl aaf;have hxv:VC P E' ba (nG t1 x) (a'.eval x):=UJ h3 fun z e=>DH z (by
      unfold qt;refine List.mem_append_right _ ?_;rw [e1];subst e;exact nB (show Operand.tmp z∈[Operand.tmp d,Operand.tmp z] by simp))
     obtain ⟨u,hu1,hu2⟩:=hxv;have asA:=hu1.cells (CR aaf);have qw:u.cells.toList.all scalar=true:=im.2 (asA.scalar aaf);have asB:some u.cells.size=size? P T0:=by
      rw [<- hl];have:=asA.length;simp only [Array.length_toList] at this;rw [this]
     have bg:compile P o.op = .act (M3 P T0) [.tmp d,x]:=by rw [e1]; rfl
     have cm:=u7 P o;rw [bg] at cm
     let em:Operand->Value:=fun q=>if q = .tmp d then K9 (y j0) else u
     have hw:jt 0 pz u.cells.toList=some u.cells.toList:=aee (by
      rw [<- asB] at q4;simp only [dE] at q4;rw [q4]; simp)
     obtain ⟨z0,v',nx,w2,hr1,zT,hr3,hr4⟩:=cm ba B' (B'.put (y j0) (.row u.cells.toList (rv P T0) true none)) base w' em a'.eval undef h2.gX.kW (fun q hq=>by
       rcases ff.1 hq with rfl | hq
       ·show VR ba (em (.tmp d)) (a'.tmps.getD d undef)
        simp only [em,if_true];exact q1
       ·simp only [EM] at hq
        subst hq;simp only [em,aB hxd];exact hu2) (by
       have h1:em (.tmp d)=K9 (y j0):=by simp [em]
       have h2:em x=u:=by simp [em,hxd]
       simp [h1,h2,M3,aE.storeAt,K9,asB,St.Dd,dA,qw,q3,hw,St.fE])
     have awG:=awB h2 q2 q3 hr4;have n4:=hr4.le h2.gX.kW;have DE:∀ x,AR A E' x->(B'.put (y j0) (.row u.cells.toList (rv P T0) true none)).get x=B'.get x:=fun x q=>by
      rw [St.cn,aB];intro e;subst e;exact q2.far (.inl q)
     have hAT:∀ q,AT A E' (B'.put (y j0) (.row u.cells.toList (rv P T0) true none)) q->AT A E' B' q:=fun q r=>r.of (fun _=>rfl) (fun _ _ e=>e) DE fun _ _=>by simp
     have hFr:∀ q,Fr E' A B' B.next q->Fr E' A (B'.put (y j0) (.row u.cells.toList (rv P T0) true none)) B.next q:=fun q f=>⟨f.lo,f.hi,f.un,f.z,fun r=>f.far (hAT q r)⟩
     have avN:∀ v:Value,a'.put o.dst v=a':=fun v=>by rw [e3]; rfl
     have asC:Inv (cW S i) (a'.put o.dst v') w2:=by
      rw [avN];refine ⟨E',_,z0,y,h1,awG,(h3.mono (Env.le_refl _) n4).same fun z=>?_,fun j q U c hq Pw hS=>?_⟩
      ·rw [PT hf.ord hc ho hx tu z,e3]; rfl
      ·have hji:j≠i:=fun e=>by
        subst e;rw [ho] at hq;simp at hq;subst hq;rw [Ow Pw] at he;simp at he
       have hold:∀ (m:Nat) (q:Oper) (U:TypeId) (c:Tmp),all[m]? = some q->iM q=some (U,c)->cW S i m=true->S m=true:=fun m q U c hm Pw hS=>by
        have:m≠i:=fun e=>by
         subst e;rw [ho] at hm;simp at hm;subst hm;rw [Ow Pw] at he;simp at he
        rwa [iW this] at hS
       rw [iW hji] at hS;obtain ⟨p1,p2,⟨ck,p3,p4,p5,p6⟩,p7⟩:=h4 j q U c hq Pw hS;refine ⟨p1.mono n4,hFr _ p2,?_,fun j' o' T' d' fw Ir hS'=>p7 j' o' T' d' fw Ir (hold j' o' T' d' fw Ir hS')⟩;by_cases hj0:j=j0
       ·subst hj0
        rw [hq0] at hq;simp at hq;subst hq;rw [he0] at Pw;simp at Pw;obtain ⟨rfl,rfl⟩:=Pw;refine ⟨u.cells.toList,by simp,by simpa using asB,fun m q' T' x' hm CU _=>?_,fun hn=>?_⟩
        ·have hmi:m=i:=by
          by_cases hmi:m=i
          ·exact hmi
          ·exact absurd CU (ahf m q' hm hmi T' x')
         subst hmi;rw [ho] at hm;simp at hm;subst hm;rw [he] at CU;simp at CU;rw [<- CU.2,CT];exact asA
        ·have:=hn i o T0 x ho he
         rw [Ei] at this;simp at this
       ·have hcd:c≠d:=fun e=>by
         subst e;exact absurd (vg he0).2.2 (hf.dst j q U c hq Pw j0 q0 hq0 (Ne.symm hj0))
        have acs:∀ (m:Nat) (q:Oper) (U:TypeId) (x:Operand),all[m]? = some q->wI all q=some (U,c,x)->m≠i:=fun m q U x hm CU e=>by
         subst e;rw [ho] at hm;simp at hm;subst hm;rw [he] at CU;simp at CU;exact hcd CU.2.1.symm
        refine ⟨ck,?_,p4,fun m q' T' x' hm CU hSm=>?_,fun hn=>?_⟩
        ·rw [St.cn,aB]
         ·exact p3
         ·intro e
          exact hj0 ((p7 j0 q0 T0 d hq0 he0 hS0 e.symm).symm)
        ·rw [iW (acs m q' T' x' hm CU)] at hSm
         exact p5 m q' T' x' hm CU hSm
        ·exact p6 fun m q' T' x' hm CU=>by
          have:=hn m q' T' x' hm CU;rwa [iW (acs m q' T' x' hm CU)] at this
     unfold Oper.wp;rw [hr1];cases nx with
     | value u'=>have:u' = v':=zT; subst this; exact asC
     | skip=>have:v' = undef:=zT; subst this; exact asC
     | _=>exact zT.elim
   ·
    have hgo:∀ PS RK zS v' Po,VC P PS zS L[i].2.1 v'->Ev P base E' A B' ba w' PS A RK zS Po->Inv (cW S i) (a'.put o.dst v') Po:=fun PS RK zS v' Po h5 h6=>by
     have n4:=h6.gX.le h2.gX.kW;refine ⟨PS,RK,zS,y,by rw [put_defers]; exact h1,h2.trans h6,?_,h4.step hf ho hnb h6 n4⟩;refine ((h3.mono h6.le n4).put (Lv i o ho) h5).same fun z=>?_;rw [PT hf.ord hc ho hx tu z]
    rcases hg with hg | ⟨p,hp,hg⟩
    ·refine RJ je hg (fun x hxm=>UJ h3 fun z e=>DH z ?_) h2.kj hgo
     unfold qt;subst e;exact List.mem_append_right _ (nB hxm)
    ·refine aoV je hp hg (fun x hxm=>UJ h3 fun z e=>DH z ?_) h2.kj hgo
     unfold qt;subst e;refine List.mem_append_right _ (nB ?_);unfold PD at hp;split at hp
     ·rename_i c MV _
      split at hp
      ·rename_i d yv
       simp at hp;subst hp;rw [MV];show Operand.tmp z∈afU (oE P cfg c);unfold oE;rw [yv];exact hxm
      ·simp at hp
     ·simp at hp
 ·
  rintro S a' w' qw ⟨E',B',ba,y,h1,h2,h3,h4⟩;have hS:∀ (i:Nat) (o:Oper),all[i]? = some o->S i=true:=fun i o ho=>qw i (dB.1 ho).1;have awH:nQ P E' ba tn N a':=h3.same fun z=>by
   rw [W5 z];exact oH rfl fun i o ho _=>by rw [bk]; exact (hS i o ho).symm
  obtain ⟨t',E2,A2,f1,f2,f3⟩:=YV (y:=y) all 0 tn E' A rfl hk h2 awH (fun j o T d _ ho he=>Lv j o ho d (vg he).2.2) fun j o T d _ ho he=>by
   obtain ⟨q1,q2,⟨ck,q3,q4,q5,q6⟩,q7⟩:=h4 j o T d ho he (hS j o ho);refine ⟨q1,q2,fun cs Ri=>⟨ck,q3,?_⟩,fun j' o' T' d' _ fw Ir hy=>q7 j' o' T' d' fw Ir (hS j' o' fw) hy⟩;obtain ⟨z,Pr,_,_,_,_,hz6,hz7⟩:=Lz Ri;cases hs:wJ all d all with
   | some p=>
    obtain ⟨T2,x2⟩:=p;obtain ⟨i2,o2,h5,h6⟩:=HW hs;rw [(hz6 T2 x2 hs).2.2.2];exact q5 i2 o2 T2 x2 h5 h6 (hS i2 o2 h5)
   | none=>
    rw [hz7 hs];obtain ⟨z',g1,g2⟩:=q6 fun m q' T' x hm CU=>absurd CU (HX hs m q' hm T' x);rw [Pr] at g1;simp at g1;subst g1;exact g2
  exact hq t' E2 A2 B' ba a' w' f1 f2 h1 (UL.trans f3)
 ·simp
 ·refine ht.same fun z=>?_
  rw [RN Jf]
 ·intro j o T d ho he W6
  have W6:(Array.replicate all.length false).getD j false=true:=W6;rw [Jf] at W6;simp at W6
end Go.K
end
section
namespace Go.K
open Go Go.aE
variable {P:Program} {E:Env}
theorem aas {R:Type} {cfg:fW} {bL:qC R} {all:List Oper} {k:bN->aC->Option R} : ∀ (a b:List Oper),xF P cfg bL all k (a++b)=xF P cfg bL all (xF P cfg bL all k b) a
 | [],b=>rfl
 | o::a,b=>by
  show DD P cfg bL all o (xF P cfg bL all k (a++b))=DD P cfg bL all o (xF P cfg bL all (xF P cfg bL all k b) a);rw [aas a b]
theorem aj4 {cfg:fW} {all:List Oper} {o:Oper} (h:ef (cf P cfg o.op)<=1):uF all o=false:=by
 cases hb:uF all o with
 | false=>rfl
 | true=>
  exfalso;rcases YT hb with ⟨T,d,e⟩ | ⟨T,d,x,e⟩
  ·rw [(vg e).1] at h
   have h:ef (tv P T)<=1:=h;unfold tv at h;split at h
   ·rename_i z _
    cases hc:(flat z&&z.cells.toList.all scalar&&jv (iU z).cells) <;> rw [hc] at h <;> simp [ef] at h
   ·simp [ef] at h
  ·rw [(IA e).1] at h
   have h:(3:Nat)<=1:=h;omega
theorem UO {R:Type} {cfg:fW} {bL:qC R} {all:List Oper} {k:bN->aC->Option R} {r:R} : ∀ {os:List Oper} {t:bN} {A:aC},(∀ o∈os,ef (cf P cfg o.op)<=1)->xF P cfg bL all k os t A=some r->
  ∃ L t',aed P cfg all A os t L t'/\k t' A=some r
 | [],t,A,_,h=>⟨[],t,.nil,h⟩
 | o::os,t,A,hn,h=>by
  have Rm:=fun q hq=>hn q (wh o hq);have hk:=hn o (by simp);have hb:=aj4 (all:=all) hk;have hk3:Nat.ble 3 (ef (cf P cfg o.op))=false:=by
   cases hc:Nat.ble 3 (ef (cf P cfg o.op)) with
   | false=>rfl
   | true=>have:=gD hc; omega
  have hnc:=GQ (P:=P) (cfg:=cfg) (o:=o) (by omega);have h:DD P cfg bL all o (xF P cfg bL all k os) t A=some r:=h;unfold DD at h;cases hg:o.guard with
  | none=>
   rw [hg] at h;obtain ⟨v,A1,h1,h2⟩:=Nj hnc h;have e:=GP h1 hk3;subst e;obtain ⟨L,t',h3,h4⟩:=UO Rm h2;exact ⟨_,t',.cons (fun _=>rfl) (.inl ⟨hg,rfl⟩) (fun _=>.inr ⟨hb,.inl h1⟩) (fun e=>by simp at e) h3,h4⟩
  | some p=>
   obtain ⟨j,want⟩:=p;rw [hg] at h;obtain ⟨d,hd,h⟩:=RL h;rcases h with ⟨b,t1,h1,h2,h3⟩ | ⟨l,h1,h2⟩
   ·rcases h3 with ⟨h3,h4⟩ | ⟨h3,h4⟩
    ·obtain ⟨v,A1,h5,h6⟩:=Nj hnc h4
     have e:=GP h5 hk3;subst e;obtain ⟨L,t',h7,h8⟩:=UO Rm h6;exact ⟨_,t',.cons h2 (.inr ⟨j,want,d,hg,hd,.inl ⟨b,h1,h3.symm⟩⟩) (fun _=>.inr ⟨hb,.inl h5⟩) (fun e=>by simp at e) h7,h8⟩
    ·obtain ⟨L,t',h7,h8⟩:=UO Rm h4
     exact ⟨_,t',.cons h2 (.inr ⟨j,want,d,hg,hd,.inl ⟨b,h1,h3.symm⟩⟩) (fun e=>by simp at e) (fun _=>⟨rfl,hb⟩) h7,h8⟩
   ·obtain ⟨L,t',h7,h8⟩:=UO Rm h2
    exact ⟨_,t',.cons (fun _=>rfl) (.inr ⟨j,want,d,hg,hd,.inr ⟨l,h1,rfl⟩⟩) (fun e=>by simp at e) (fun _=>⟨rfl,hb⟩) h7,h8⟩
section
variable {cfg:fW} {all os:List Oper} {L:List Out} {t0:bN} {m:Nat}
theorem ahg (hf:ahb P cfg all) (hos:∀ j q,os[j]? = some q->all[m+j]? = some q) {S:Nat->Bool} (hc:uq all S) {i:Nat} {o:Oper} (ho:os[i]? = some o) (tu:S (m+i)=false) (wH:yQ all S (m+i)) {y:Tmp} (hy:y∈qt P cfg all o) :
  (j9 (fun j=>S (m+j)) os L 0 t0).get y=(j9 (fun j=>Nat.blt j i) os L 0 t0).get y:=by
 refine oH rfl fun j q hq hd=>?_;rw [bk];have ho':=hos i o ho;have hq':=hos j q hq;rcases Nat.lt_trichotomy j i with h | h | h
 ·have:tK (fX [] all) (m+i) (m+j)=true:=hf.I8 ho' hq' (by omega) (by
   unfold xV;rw [hd,Fg hy];rfl)
  rw [hc.ready hf.reg ho' wH (m+j) this]
  symm; rw [bX]; exact h
 ·subst h
  rw [tu]
  symm
  cases hb:Nat.blt j j with
  | false=>rfl
  | true=>rw [bX] at hb; omega
 ·have hb:tK (fX [] all) (m+j) (m+i)=true:=hf.I8 hq' ho' (by omega) (by
   unfold xV;rw [hd,Fg hy];simp)
  have:S (m+j)=false:=by
   cases hs:S (m+j) with
   | false=>rfl
   | true=>have:=hc (m+j) (m+i) hs hb; rw [tu] at this; simp at this
  rw [this]
  symm
  cases hbb:Nat.blt j i with
  | false=>rfl
  | true=>rw [bX] at hbb; omega
theorem asD (hf:ahb P cfg all) (hos:∀ j q,os[j]? = some q->all[m+j]? = some q) {S:Nat->Bool} (hc:uq all S) {i:Nat} {o:Oper} {x:Out} (ho:os[i]? = some o) (hx:L[i]? = some x) (tu:S (m+i)=false) (y:Tmp) :
  (j9 (fun j=>cW S (m+i) (m+j)) os L 0 t0).get y=(tN (j9 (fun j=>S (m+j)) os L 0 t0) o.dst x.2.1).get y:=by
 have aqh:(fun j=>cW S (m+i) (m+j))=cW (fun j=>S (m+j)) i:=by
  funext j;unfold cW;cases hb:Nat.beq j i with
  | true=>have:=bo hb; subst this; simp
  | false=>
   have eU:=Nat.ne_of_beq_eq_false hb;cases uE:Nat.beq (m+j) (m+i) with
   | false=>rfl
   | true=>have:=bo uE; omega
 rw [aqh,wP];by_cases hd:o.dst=some y
 ·rw [aW hd]
  have:=aha (S:=fun j=>S (m+j)) (y:=y) (os:=os) (L:=L) (k:=0) (i:=i) (t:=t0) ho hx hd (fun j q hq hqd bu=>by
   rw [bk];have hb:tK (fX [] all) (m+j) (m+i)=true:=hf.I8 (hos j q hq) (hos i o ho) (by omega) (by
    unfold xV;rw [hqd,hd];simp [ZP])
   cases hs:S (m+j) with
   | false=>rfl
   | true=>have:=hc (m+j) (m+i) hs hb; rw [tu] at this; simp at this)
  rw [bk] at this;exact this
 ·rw [aB hd]
  refine oH rfl fun j q hq hqd=>?_;rw [bk];have eU:j≠i:=by
   intro e;subst e;rw [ho] at hq;simp at hq;subst hq;exact hd hqd
  unfold cW;have:Nat.beq j i=false:=by
   cases hb:Nat.beq j i with
   | false=>rfl
   | true=>exact absurd (bo hb) eU
  rw [this,Bool.or_false]
end
theorem XQ {cfg:fW} {b:List Nat} {i:Nat} : ∀ (os:List Oper) (k:Nat),PE P cfg b i os k=true->∀ (j:Nat) (o:Oper),os[j]? = some o->(k+j < i->ef (cf P cfg o.op)=0\/tK b i (k+j)=true)/\(i < k+j->tK b (k+j) i=true)
 | [],k,_,j,o,ho=>by simp at ho
 | q::os,k,h,0,o,ho=>by
  simp at ho;subst ho;simp only [PE,aD] at h;rw [Db];have h2:=h.1;cases hb:Nat.beq k i with
  | true=>have:=bo hb; exact ⟨fun e=>by omega,fun e=>by omega⟩
  | false=>
   rw [hb,aw] at h2;refine ⟨fun bu=>?_,fun bu=>?_⟩
   ·rw [show Nat.blt k i=true from by rw [bX]; exact bu,ai] at h2
    cases hz:Nat.beq (ef (cf P cfg q.op)) 0 with
    | true=>exact .inl (bo hz)
    | false=>rw [hz,aw] at h2; exact .inr h2
   ·have:Nat.blt k i=false:=by
     cases uE:Nat.blt k i with
     | false=>rfl
     | true=>rw [bX] at uE; omega
    rwa [this,aw] at h2
 | q::os,k,h,j+1,o,ho=>by
  simp only [PE,aD] at h;have:=XQ os (k+1) h.2 j o (by simpa using ho);rwa [show k+1+j=k+(j+1) by omega] at this
theorem UQ {cfg:fW} {b:List Nat} {all:List Oper} : ∀ (os:List Oper) (k:Nat),PF P cfg b all os k=true->∀ (i:Nat) (o:Oper),os[i]? = some o->¬ ef (cf P cfg o.op)<=1->PE P cfg b (k+i) all 0=true
 | [],k,_,i,o,ho,_=>by simp at ho
 | q::os,k,h,0,o,ho,hk=>by
  simp at ho;subst ho;simp only [PF,aD] at h;have h2:=h.1;have:Nat.ble (ef (cf P cfg q.op)) 1=false:=by
   cases hb:Nat.ble (ef (cf P cfg q.op)) 1 with
   | false=>rfl
   | true=>exact absurd (gD hb) hk
  rw [this,aw] at h2;exact h2
 | q::os,k,h,i+1,o,ho,hk=>by
  simp only [PF,aD] at h;have:=UQ os (k+1) h.2 i o (by simpa using ho) hk;rwa [show k+1+i=k+(i+1) by omega] at this
theorem ahh {cfg:fW} : ∀ (os:List Oper),∃ n,n<=os.length/\(∀ o∈os.take n,ef (cf P cfg o.op)<=1)/\(n=os.length\/∃ o,os[n]? = some o/\¬ ef (cf P cfg o.op)<=1)
 | []=>⟨0,by simp,by simp,by simp⟩
 | o::os=>by
  by_cases hk:ef (cf P cfg o.op)<=1
  ·obtain ⟨n,h1,h2,h3⟩:=ahh (cfg:=cfg) os
   refine ⟨n+1,by simpa using h1,fun q hq=>?_,?_⟩
   ·simp only [List.take_succ_cons,ff] at hq
    rcases hq with rfl | hq
    ·exact hk
    ·exact h2 q hq
   ·rcases h3 with h3 | ⟨q,h3,h4⟩
    ·exact .inl (by simp [h3])
    ·exact .inr ⟨q,by simpa using h3,h4⟩
  ·exact ⟨0,by simp,by simp,.inr ⟨o,by simp,hk⟩⟩
theorem aq6 {R:Type} {cfg:fW} {bL:qC R} {all os:List Oper} {k:bN->aC->Option R} {r:R} {t:bN} {A:aC} (h:xF P cfg bL all k os t A=some r) :
  ∃ n L tn,n<=os.length/\(∀ o∈os.take n,ef (cf P cfg o.op)<=1)/\(n=os.length\/∃ o,os[n]? = some o/\¬ ef (cf P cfg o.op)<=1)/\aed P cfg all A (os.take n) t L tn/\xF P cfg bL all k (os.drop n) tn A=some r:=by
 obtain ⟨n,h1,h2,h3⟩:=ahh (P:=P) (cfg:=cfg) os;rw [<- List.take_append_drop n os,aas] at h;obtain ⟨L,tn,h4,h5⟩:=UO h2 h;exact ⟨n,L,tn,h1,h2,h3,h4,h5⟩
theorem ana (S:Nat->Bool) (os:List Oper) (L:List Out) (t:bN):∀ (m:Nat),j9 S os L m t=j9 (fun j=>S (m+j)) os L 0 t:=by
 intro m
 induction m generalizing S with
 | zero=>simp only [bk]
 | succ m ih=>
  rw [GN,ih];congr 1;funext j;rw [show m+j+1=m+1+j by omega]
theorem RQ (S:Nat->Bool):∀ (os:List Oper) (L L2:List Out) (k:Nat) (t:bN),L.length<=os.length->j9 S os (L++L2) k t=j9 S (os.drop L.length) L2 (k+L.length) (j9 S os L k t)
 | [],[],L2,k,t,_=>rfl
 | [],x::L,L2,k,t,h=>by simp at h
 | o::os,[],L2,k,t,_=>rfl
 | o::os,x::L,L2,k,t,h=>by
  simp only [List.cons_append,j9,Kh,List.drop_succ_cons];rw [RQ S os L L2 (k+1) _ (by simpa using h),show k+1+L.length=k+(L.length+1) by omega]
theorem acu {S:Nat->Bool} {os:List Oper} {L L2:List Out} {t:bN} (h:L.length<=os.length) (hS:∀ j,L.length<=j->j < os.length->S j=false) (y:Tmp):(j9 S os (L++L2) 0 t).get y=(j9 S os L 0 t).get y:=by
 rw [RQ S os L L2 0 t h,bk,ana];refine (oH (S':=fun _=>false) rfl fun i o ho _=>?_).trans (by rw [RN fun _=>rfl]);rw [bk];rw [rK] at ho;exact hS _ (by omega) (dB.1 ho).1
theorem aat {S S' : Nat->Bool} : ∀ {os:List Oper} {L:List Out} {k:Nat} {t:bN},(∀ j,j < L.length->S (k+j)=S' (k+j))->j9 S os L k t=j9 S' os L k t
 | [],L,k,t,_=>by cases L <;> rfl
 | o::os,[],k,t,_=>rfl
 | o::os,x::L,k,t,h=>by
  simp only [j9];rw [show S k=S' k from by have:=h 0 (by simp); simpa using this];exact aat fun j hj=>by have:=h (j+1) (by simpa using hj); rwa [show k+(j+1)=k+1+j by omega] at this
theorem anb {S:Nat->Bool} : ∀ {os:List Oper} {L:List Out} {n k:Nat} {t:bN},L.length<=n->j9 S (os.take n) L k t=j9 S os L k t
 | [],L,n,k,t,_=>by simp
 | o::os,[],n,k,t,_=>by cases n <;> rfl
 | o::os,x::L,0,k,t,h=>by simp at h
 | o::os,x::L,n+1,k,t,h=>by
  simp only [List.take_succ_cons,j9];exact anb (by simpa using h)
theorem aoX {cfg:fW} {o:Oper} {p:Operand×List Operand} (h:PD o=some p) : ¬ ef (cf P cfg o.op)<=1:=by
 unfold PD at h;split at h
 ·rename_i c' awI _
  split at h
  ·rename_i d yv
   rw [awI];show ¬ ef (oE P cfg c')<=1;unfold oE;rw [yv];show ¬ (9:Nat)<=1;omega
  ·simp at h
 ·simp at h
theorem z8 {t t' : bN} : ∀ {xs:List Operand},(∀ x∈xs,nG t x=nG t' x)->om t xs=om t' xs:=fun {xs} h=>by
 rw [wO,wO];exact List.map_congr_left h
theorem anc {R:Type} {bL:qC R} {t t' : bN} {A:aC} {k:KV->aC->Option R} {ins:vd} (h:∀ x∈afU ins,nG t x=nG t' x):Ut bL t A k ins=Ut bL t' A k ins:=by
 cases ins with
 | pure f xs=>show (f (om t xs)).run _=(f (om t' xs)).run _; rw [z8 (xs:=xs) h]
 | read f xs=>show (f A (om t xs)).run _=(f A (om t' xs)).run _; rw [z8 (xs:=xs) h]
 | act f xs=>show (f A (om t xs)).run _=(f A (om t' xs)).run _; rw [z8 (xs:=xs) h]
 | look f xs=>show (f (om t xs)).run _=(f (om t' xs)).run _; rw [z8 (xs:=xs) h]
 | GD g f xs=>show (f (om t xs)).run _=(f (om t' xs)).run _; rw [z8 (xs:=xs) h]
 | Lm g f xs=>show (f (B7 A (om t xs)).1).run (fun v=>k v (B7 A (om t xs)).2)=(f (B7 A (om t' xs)).1).run (fun v=>k v (B7 A (om t' xs)).2); rw [z8 (xs:=xs) h]
 | call f xs=>
  show Option.rec (motive:=fun _=>Option R) none (fun p=>bL p.1 p.2 A k) (Ln (om t xs) (nG t f))=Option.rec (motive:=fun _=>Option R) none (fun p=>bL p.1 p.2 A k) (Ln (om t' xs) (nG t' f));rw [z8 fun x hx=>h x (wh f hx),h f (Kj ..)]
 | bad=>rfl
theorem alk {R:Type} {cfg:fW} {bL:qC R} (je:vZ P cfg.pc) (zH:PR P bL) (hm:P.follows .mixedOrders=true) {id:Nat} {all:List Oper} {N base:Nat} (hdN:all.all (Oe N)=true) {k:bN->aC->Option R} {r:R} {t:bN} {A:aC} {B:St} {ρ:a9} {a:Act} {w:World} {Q:Exit->Act->World->Prop}
  (PU:Rv P cfg all=true) (h:xF P cfg bL all k all t A=some r) (ht:nQ P E ρ t N a) (hj:KJ P E A B ρ base w)
  (hq:∀ t' E' A' B' ba a' w',k t' A' = some r->nQ P E' ba t' N a'->a'.defers=a.defers->Ev P base E A B ρ w E' A' B' ba w'->Q .normal a' w'):(Code.region id ⟨all⟩ true).wp P Q a w:=by
 unfold Rv at PU;split at PU
 ·simp only [aD] at PU
  obtain ⟨⟨awJ,hcl⟩,har⟩:=PU;have hf:ahb P cfg all:=⟨Jc awJ,fun {i j x y} hy hx bu yv=>by
   have:=GS all 0 hcl i y hy;rw [bk] at this;have:=Ly all 0 this j x hx (by omega) yv;rwa [bk] at this⟩
  have piv:∀ (i:Nat) (o:Oper),all[i]? = some o->¬ ef (cf P cfg o.op)<=1->∀ j q,all[j]? = some q->(j < i->ef (cf P cfg q.op)=0\/tK (fX [] all) i j=true)/\(i < j->tK (fX [] all) j i=true):=fun i o ho hk j q hq=>by
   have h1:=UQ all 0 har i o ho hk;have h2:=XQ all 0 h1 j q hq;simpa only [bk] using h2
  have UL:Ev P base E A B ρ w E A B ρ w.drew:=(eT.refl hj.k).ev (pk.drew hj.s);have Lv:∀ (i:Nat) (o:Oper),all[i]? = some o->∀ d,o.dst=some d->d < N:=by
   intro i o ho d ed;have:=im.1 hdN o (ji ho);unfold Oe at this;rw [ed] at this;simp only at this;rw [bX] at this;exact this
  refine wp_region_any hm ?_;show wpAny P .any ⟨all⟩ Q all.length (Array.replicate all.length false) a w.drew;have Jf:∀ i,(Array.replicate all.length false).getD i false=false:=by
   intro i;rw [jh,Array.getElem?_replicate];split <;> rfl
  have e0:∀ (S:Nat->Bool),(fun j=>S (0+j))=S:=fun S=>by funext j; rw [bk]
  have hos:∀ j q,all[j]? = some q->all[0+j]? = some q:=fun j q hjq=>by rwa [bk]
  let au9:List Out->aC->Nat->Oper->Out->Prop:=fun L A2 i o x=>∃ t1,(∀ y,t1.get y=(j9 (fun j=>Nat.blt j i) all L 0 t).get y)/\RM all o t1 x.1/\(x.1=true->bf (zl (cf P cfg o.op) t1 A2) (x.2.1,A2))/\(x.1=false->x.2.1=wk)
  let Inv:(Nat->Bool)->Act->World->Prop:=fun S a' w'=>∃ n L A2 tn E' B' ba,n<=all.length/\L.length=n/\(∀ j,n<=j->j < all.length->S j=false)/\(n=all.length\/∃ o,all[n]? = some o/\¬ ef (cf P cfg o.op)<=1)/\
   (∀ j o,j < n->all[j]? = some o->¬ ef (cf P cfg o.op)<=1->S j=true)/\(∀ i o x,i < n->S i=false->all[i]? = some o->L[i]? = some x->au9 L A2 i o x)/\
   (∀ y,tn.get y=(j9 (fun _=>true) all L 0 t).get y)/\xF P cfg bL all k (all.drop n) tn A2=some r/\a'.defers=a.defers/\Ev P base E A B ρ w.drew E' A2 B' ba w'/\nQ P E' ba (j9 S all L 0 t) N a'
  have begin:∀ (m:Nat) (S:Nat->Bool) (L:List Out) (A2:aC) (t2:bN) (a' : Act) (w' : World) (E' : Env) (B' : St) (ba:a9),m<=all.length->L.length=m->(∀ j,m<=j->j < all.length->S j=false)->
    (∀ j o,j < m->all[j]? = some o->¬ ef (cf P cfg o.op)<=1->S j=true)->(∀ i o x,i < m->S i=false->all[i]? = some o->L[i]? = some x->au9 L A2 i o x)->
    (∀ y,t2.get y=(j9 (fun _=>true) all L 0 t).get y)->xF P cfg bL all k (all.drop m) t2 A2=some r->a'.defers=a.defers->Ev P base E A B ρ w.drew E' A2 B' ba w'->nQ P E' ba (j9 S all L 0 t) N a'->Inv S a' w':=by
   intro m S L A2 t2 a' w' E' B' ba hml hL h1 h2 h3 h4 h5 h6 h7 h8;obtain ⟨n,L2,tn,g1,g2,g3,g4,g5⟩:=aq6 h5;rw [List.length_drop] at g1 g3;obtain ⟨k1,k2,k3⟩:=g4.at;rw [pt,List.length_drop,Nat.min_eq_left g1] at k1;have hLa:L.length<=all.length:=by omega
   have tail:∀ (S:Nat->Bool) (y:Tmp),(∀ j,j < m->S j=true)->(j9 S all (L++L2) 0 t).get y=(j9 (fun j=>S (m+j)) ((all.drop m).take n) L2 0 t2).get y:=fun S y hS=>by
    rw [RQ S all L L2 0 t hLa,bk,ana,anb (by omega),hL];refine oH ?_ fun _ _ _ _=>rfl;rw [h4 y,aat (S:=S) (S':=fun _=>true) fun j hj=>by rw [bk]; exact hS j (by omega)]
   refine ⟨m+n,L++L2,A2,tn,E',B',ba,by omega,by rw [nY]; omega,fun j hj1 RF=>h1 j (by omega) RF,?_,fun j o hj ho hk=>?_,fun i o x hi tu ho hx=>?_,fun y=>?_,by rwa [List.drop_drop] at g5,h6,h7,h8.same fun y=>acu hLa (fun j hj1 RF=>h1 j (by omega) RF) y⟩
   ·rcases g3 with g3 | ⟨o,g3,g6⟩
    ·exact .inl (by omega)
    ·exact .inr ⟨o,by rwa [rK] at g3,g6⟩
   ·by_cases hjm:j < m
    ·exact h2 j o hjm ho hk
    ·exfalso
     refine hk (g2 o (ji (i:=j - m) ?_));rw [rf,aW (by omega),rK,show m+(j - m)=j by omega];exact ho
   ·by_cases him:i < m
    ·rw [uk (by omega)] at hx
     obtain ⟨t1,q1,q2⟩:=h3 i o x him tu ho hx;exact ⟨t1,fun y=>by rw [q1 y]; exact (acu hLa (fun j hj1 _=>by
      cases hb:Nat.blt j i with
      | false=>rfl
      | true=>rw [bX] at hb; omega) y).symm,q2⟩
    ·rw [wg (by omega),hL] at hx
     have hoi:((all.drop m).take n)[i - m]? = some o:=by rw [rf,aW (by omega),rK,show m+(i - m)=i by omega]; exact ho
     obtain ⟨t1,q1,q2,q3,q4⟩:=k3 (i - m) o x hoi hx;have hk:=g2 o (ji hoi);refine ⟨t1,fun y=>?_,q2,fun Ks=>?_,fun Ks=>(q4 Ks).1⟩
     ·rw [q1 y,tail _ y fun j hj=>by rw [bX]; omega]
      refine oH rfl fun j q _ _=>?_;rw [bk];cases hb:Nat.blt (m+j) i with
      | true=>rw [bX] at hb ⊢; omega
      | false=>
       cases uE:Nat.blt j (i - m) with
       | false=>rfl
       | true=>
        rw [bX] at uE;have:Nat.blt (m+j) i=true:=by rw [bX]; omega
        rw [hb] at this; simp at this
     ·rcases q3 Ks with ⟨IB,_⟩ | ⟨_,hg⟩
      ·rw [aj4 hk] at IB; simp at IB
      ·rcases hg with hg | ⟨p,hp,_⟩
       ·exact hg
       ·exact absurd hk (aoX hp)
   ·rw [k2 y,tail _ y fun _ _=>rfl]
  refine Kn hf.reg Inv ?_ ?_ ?_ all.length _ a w.drew (by simp) ?_ (fun i j hi _=>by
    have h2:(Array.replicate all.length false).getD i false=true:=hi;rw [Jf] at h2; simp at h2) (begin 0 _ [] A t a w.drew E B ρ (by omega) rfl (fun j _ _=>Jf j) (fun j _ hj=>by omega) (fun i _ _ hi=>by omega) (fun y=>by cases all <;> rfl) (by simpa using h) rfl (.refl hj.k UL.gX.kW) (ht.same fun y=>by cases all <;> rfl))
  ·
   rintro S S' a' w' hSS ⟨n,L,A2,tn,E',B',ba,h1,h2,h3,h4,h5,h6,h7,h8,h9,xY,MZ⟩;refine ⟨n,L,A2,tn,E',B',ba,h1,h2,fun j hj1 RF=>by rw [<- hSS j RF]; exact h3 j hj1 RF,h4,fun j o hj ho hk=>by rw [<- hSS j (by omega)]; exact h5 j o hj ho hk,fun i o x hi tu ho hx=>h6 i o x hi (by rw [hSS i (by omega)]; exact tu) ho hx,h7,h8,h9,xY,MZ.same fun z=>oH rfl fun i o ho _=>?_⟩;rw [bk];exact (hSS _ (dB.1 ho).1).symm
  ·
   rintro S a' w' i o ⟨n,L,A2,tn,E',B',ba,h1,h2,h3,h4,h5,h6,h7,h8,h9,xY,MZ⟩ hcS ho tu wH _;have hil:i < all.length:=(dB.1 ho).1;have hoA:(⟨all⟩:Array Oper)[i]? = some o:=by simpa using ho
   rcases Nat.lt_trichotomy i n with zH | zH | zH
   ·
    have hkd:ef (cf P cfg o.op)<=1:=by
     by_cases hk:ef (cf P cfg o.op)<=1
     ·exact hk
     ·have:=h5 i o zH ho hk
      rw [tu] at this; simp at this
    have hi:i < L.length:=by omega
    have hx:L[i]? = some L[i]:=dD hi;obtain ⟨t1,Cf,hw,am7,YS⟩:=h6 i o L[i] zH tu ho hx;have DH:∀ z∈qt P cfg all o,t1.get z=(j9 S all L 0 t).get z:=fun z hz=>by
     have:=ahg (m:=0) (L:=L) (t0:=t) hf hos hcS ho (by rw [bk]; exact tu) (by rw [bk]; exact wH) hz;rw [e0] at this;rw [Cf z,this]
    have ad9:∀ z,(j9 (cW S i) all L 0 t).get z=(tN (j9 S all L 0 t) o.dst L[i].2.1).get z:=fun z=>by
     have:=asD (m:=0) (L:=L) (t0:=t) hf hos hcS ho hx (by rw [bk]; exact tu) z;rw [bk,e0,e0] at this;exact this
    have RP:=Iz MZ (fun z hz=>DH z (by unfold qt; exact List.mem_append_left _ hz)) hw;have fin:∀ E2 B2 z0 a2 w2,a2.defers=a'.defers->Ev P base E A B ρ w.drew E2 A2 B2 z0 w2->nQ P E2 z0 (j9 (cW S i) all L 0 t) N a2->Inv (cW S i) a2 w2:=fun E2 B2 z0 a2 w2 q1 q2 q3=>
     ⟨n,L,A2,tn,E2,B2,z0,h1,h2,fun j hj1 RF=>by rw [iW (by omega)]; exact h3 j hj1 RF,h4,fun j q hj hjq hk=>by
      by_cases he:j=i
      ·subst he; exact Ei
      ·rw [iW he]; exact h5 j q hj hjq hk,fun j q x hj W6 hjq hxj=>h6 j q x hj (by
       by_cases he:j=i
       ·subst he; rw [Ei] at W6; simp at W6
       ·rwa [iW he] at W6) hjq hxj,h7,h8,q1.trans h9,q2,q3⟩
    unfold wpOp;rw [hoA];simp only [RP];cases Ks:L[i].1 with
    | false=>
     simp only [xM,if_false];refine fin E' B' ba _ _ (by rw [put_defers]) xY ?_;refine (MZ.put (Lv i o ho) VC.undef).same fun z=>?_;rw [ad9 z,YS Ks]
    | true=>
     simp only [if_true];refine .inl (RJ je (am7 Ks) (fun x hxm=>UJ MZ fun z e=>DH z ?_) xY.kj fun PS RK zS v' Po h5 h6=>?_)
     ·unfold qt
      subst e;exact List.mem_append_right _ (nB hxm)
     ·have n4:=h6.gX.le xY.gX.kW
      refine fin PS RK zS _ _ (by rw [put_defers]) (xY.trans h6) ?_;refine ((MZ.mono h6.le n4).put (Lv i o ho) h5).same fun z=>?_;rw [ad9 z]
   ·
    subst zH;rcases h4 with h4 | ⟨oc,MV,aqi⟩
    ·omega
    rw [MV] at ho;simp at ho;subst ho;have DH:∀ z∈qt P cfg all oc,tn.get z=(j9 S all L 0 t).get z:=fun z hz=>by
     have:=ahg (m:=0) (L:=L) (t0:=t) hf hos hcS MV (by rw [bk]; exact tu) (by rw [bk]; exact wH) hz;rw [e0] at this;rw [this,h7 z,aat (S:=fun _=>true) (S':=fun j=>Nat.blt j i) fun j hj=>by rw [bk]; symm; rw [bX]; omega]
    have Cc:DD P cfg bL all oc (xF P cfg bL all k (all.drop (i+1))) tn A2=some r:=by
     have:all.drop i=oc::all.drop (i+1):=by
      rw [List.drop_eq_getElem_cons hil];rw [dD hil] at MV;simp at MV;rw [MV]
     rw [this] at h8;exact h8
    have hLa:L.length<=all.length:=by omega
    have hdr:all.drop i=oc::all.drop (i+1):=by
     rw [List.drop_eq_getElem_cons hil];rw [dD hil] at MV;simp at MV;rw [MV]
    have one:∀ (S:Nat->Bool) (x:Out),S i=true->j9 S all (L++[x]) 0 t=tN (j9 S all L 0 t) oc.dst x.2.1:=fun S x hS=>by
     rw [RQ S all L [x] 0 t hLa,bk,h2,hdr];simp only [j9,hS,ai];cases all.drop (i+1) <;> rfl
    have ane:∀ {t1:bN} {v:KV} {v' : Value} {E2:Env} {A3:aC} {B2:St} {z0:a9} {w2:World},(∀ y,t1.get y=tn.get y)->xF P cfg bL all k (all.drop (i+1)) (tN t1 oc.dst v) A3=some r->VC P E2 z0 v v'->Ev P base E' A2 B' ba w' E2 A3 B2 z0 w2->Inv (cW S i) (a'.put oc.dst v') w2:=by
     intro t1 v v' E2 A3 B2 z0 w2 Cf q1 q2 q3;have n4:=q3.gX.le xY.gX.kW;have e1:j9 (cW S i) all L 0 t=j9 S all L 0 t:=aat fun j hj=>by rw [bk]; exact iW (by omega)
     refine begin (i+1) _ (L++[(true,v,A3)]) A3 _ _ w2 E2 B2 z0 (by omega) (by simp [h2]) (fun j g1 g2=>by rw [iW (by omega)]; exact h3 j (by omega) g2) (fun j q hj hjq hk=>?_) (fun j q x hj W6 hjq hxj=>?_) (fun y=>?_) q1 (by rw [put_defers]; exact h9) (xY.trans q3) ?_
     ·by_cases he:j=i
      ·subst he; exact Ei
      ·rw [iW he]; exact h5 j q (by omega) hjq hk
     ·have he:j≠i:=by
       intro he;subst he;rw [Ei] at W6; simp at W6
      rw [iW he] at W6;rw [uk (by omega)] at hxj;have hz:ef (cf P cfg q.op)=0:=by
       rcases (piv i oc MV aqi j q hjq).1 (by omega) with hz | hb
       ·exact hz
       ·have:=hcS.ready hf.reg MV wH j hb
        rw [W6] at this; simp at this
      obtain ⟨t3,p1,p2,p3,p4⟩:=h6 j q x (by omega) W6 hjq hxj;exact ⟨t3,fun y=>by rw [p1 y]; exact (acu hLa (fun j' hj1 _=>by
       cases hb:Nat.blt j' j with
       | false=>rfl
       | true=>rw [bX] at hb; omega) y).symm,p2,fun Ks=>am2 (p3 Ks) hz,p4⟩
     ·rw [one _ _ rfl,wP,wP,Cf y,h7 y]
     ·refine ((MZ.mono q3.le n4).put (Lv i oc MV) q2).same fun z=>?_
      rw [one _ _ Ei,e1]
    have hgt:∀ z∈KU all oc,tn.get z=(j9 S all L 0 t).get z:=fun z hz=>DH z (by unfold qt; exact List.mem_append_left _ hz);have run:∀ {t1:bN},(∀ y,t1.get y=tn.get y)->RM all oc tn true->Ut bL t1 A2 (fun v A=>xF P cfg bL all k (all.drop (i+1)) (tN t1 oc.dst v) A) (cf P cfg oc.op)=some r->wpOp P ⟨all⟩ Q i (Inv (cW S i)) a' w':=by
     intro t1 Cf hw aqh;have RP:=Iz MZ hgt hw;unfold wpOp;rw [hoA];simp only [RP,if_true];rw [anc (t':=j9 S all L 0 t) fun x hx=>by
      cases x with
      | tmp z=>
       have:=DH z (by unfold qt; exact List.mem_append_right _ (nB hx));simp only [nG];rw [Cf z,this]
      | const v=>rfl
      | global g=>rfl
      | func f=>rfl] at aqh
     exact .inl (ad8 je zH aqh MZ xY.kj fun E2 A2 B2 z0 v v' w2 q1 q2 q3=>ane Cf q1 q2 q3)
    have skip:∀ {t1:bN},(∀ y,t1.get y=tn.get y)->RM all oc tn false->xF P cfg bL all k (all.drop (i+1)) (tN t1 oc.dst wk) A2=some r->wpOp P ⟨all⟩ Q i (Inv (cW S i)) a' w':=by
     intro t1 Cf hw hop;have RP:=Iz MZ hgt hw;unfold wpOp;rw [hoA];simp only [RP,xM,if_false];exact ane Cf hop VC.undef (.refl xY.kW xY.gX.kW)
    unfold DD at Cc;cases hgd:oc.guard with
    | none=>
     rw [hgd] at Cc;exact run (fun _=>rfl) (.inl ⟨hgd,rfl⟩) Cc
    | some p=>
     obtain ⟨j,want⟩:=p;rw [hgd] at Cc;obtain ⟨d,hd,Cc⟩:=RL Cc;rcases Cc with ⟨b,t1,h4,h5,h6⟩ | ⟨l,h4,h5⟩
     ·rcases h6 with ⟨h6,h7⟩ | ⟨h6,h7⟩
      ·exact run h5 (.inr ⟨j,want,d,hgd,hd,.inl ⟨b,h4,h6.symm⟩⟩) h7
      ·exact skip h5 (.inr ⟨j,want,d,hgd,hd,.inl ⟨b,h4,h6.symm⟩⟩) h7
     ·exact skip (fun _=>rfl) (.inr ⟨j,want,d,hgd,hd,.inr ⟨l,h4,rfl⟩⟩) h5
   ·
    rcases h4 with h4 | ⟨oc,MV,aqi⟩
    ·omega
    have bu:n < all.length:=(dB.1 MV).1;have h1':=hcS.ready hf.reg ho wH n ((piv n oc MV aqi i o ho).2 zH);have Lg:=h3 n (by omega) bu;rw [h1'] at Lg; simp at Lg
  ·
   rintro S a' w' qw ⟨n,L,A2,tn,E',B',ba,h1,h2,h3,h4,h5,h6,h7,h8,h9,xY,MZ⟩;have hmn:n=all.length:=by
    rcases h4 with h4 | ⟨oc,MV,aqi⟩
    ·exact h4
    ·have bu:n < all.length:=(dB.1 MV).1
     have:=h3 n (by omega) bu;rw [qw _ bu] at this; simp at this
   rw [hmn,List.drop_length] at h8;refine hq tn E' A2 B' ba a' w' h8 (MZ.same fun z=>?_) h9 (UL.trans xY);rw [h7 z];exact oH rfl fun j q hjq _=>by rw [bk]; exact (qw _ (dB.1 hjq).1).symm
  ·simp
 ·simp at PU
end Go.K
end
section
namespace Go.K
open Go Go.aE
variable {P:Program} {E:Env}
inductive Sub (root:Code):Nat->Code->Prop where
 | root:Sub root 1 root
 | ava {p:Nat} {a b:Code} : Sub root p (.seq a b)->Sub root (2 * p) a
 | avb {p:Nat} {a b:Code} : Sub root p (.seq a b)->Sub root (2 * p+1) b
 | asE {p:Nat} {c:Operand} {a b:Code} : Sub root p (.cond c a b)->Sub root (2 * p) a
 | asF {p:Nat} {c:Operand} {a b:Code} : Sub root p (.cond c a b)->Sub root (2 * p+1) b
 | block {p id:Nat} {a:Code} : Sub root p (.block id a)->Sub root (2 * p) a
 | loop {p:Nat} {a:Code} : Sub root p (.loop a)->Sub root (2 * p) a
 | scope {p:Nat} {a:Code} : Sub root p (.scope a)->Sub root (2 * p) a
def ahi (P:Program) (N:Nat) {R:Type} (c:Code) (f:KE R->bN->aC->Option R):Prop:=
 ∀ (k:KE R) (r:R) (t:bN) (A:aC) (E:Env) (B:St) (ρ:a9) (base:Nat) (a:Act) (w:World) (Q:Exit->Act->World->Prop),f k t A=some r->nQ P E ρ t N a->KJ P E A B ρ base w->
  (∀ e t' E' A' B' ba a' w',k e t' A' = some r->nQ P E' ba t' N a'->a'.defers=a.defers->Ev P base E A B ρ w E' A' B' ba w'->Q e.out a' w')->c.wp P Q a w
def acv (P:Program) (N:Nat) (body:Code) (F:bN->aC->Nc):Prop:=∀ (R:Type),ahi P N (R:=R) (.loop body) (fun k t A=>aoE F k t A)
def aqj (P:Program) (cfg:fW) (f:FuncId) (root:Code):Prop:=∀ p F body,cfg.lp f p=some F->Sub root p (.loop body)->∀ N,codeOk N body=true->acv P N body F
section
variable {R:Type} {cfg:fW} {bL:qC R} {L:Nat} {f:FuncId}
theorem aau {N:Nat} {c:Code} {g:KE R->bN->aC->Option R} (hg:ahi P N c g):∀ (n:Nat) (k:KE R) (r:R) (t:bN) (A:aC) (E:Env) (B:St) (ρ:a9) (base:Nat) (a:Act) (w:World) (Q:Exit->Act->World->Prop),aci g k n t A=some r->nQ P E ρ t N a->KJ P E A B ρ base w->
  (∀ e t' E' A' B' ba a' w',k e t' A' = some r->nQ P E' ba t' N a'->a'.defers=a.defers->Ev P base E A B ρ w E' A' B' ba w'->Q e.out a' w')->Code.rounds P c Q n a w
 | 0,k,r,t,A,E,B,ρ,base,a,w,Q,h,ht,hj,hq=>by exact absurd h (by simp [aci])
 | n+1,k,r,t,A,E,B,ρ,base,a,w,Q,h,ht,hj,hq=>by
  rw [rounds_succ];have h:g (ak2 k (aci g k n)) t A=some r:=h;refine hg _ r t A E B ρ base a w _ h ht hj fun e t' E' A' B' ba a' w' h1 h2 h3 h4=>?_;cases e with
  | normal=>
   have h1:aci g k n t' A' = some r:=h1;exact aau hg n k r t' A' E' B' ba base a' w' Q h1 h2 h4.kj fun e t'' PS A'' RK zS a'' Po q1 q2 q3 q4=>hq e t'' PS A'' RK zS a'' Po q1 q2 (q3.trans h3) (h4.trans q4)
  | exit id=>exact hq (.exit id) t' E' A' B' ba a' w' h1 h2 h3 h4
  | goto l=>exact hq (.goto l) t' E' A' B' ba a' w' h1 h2 h3 h4
  | ret=>exact hq .ret t' E' A' B' ba a' w' h1 h2 h3 h4
theorem pI (je:vZ P cfg.pc) (zH:PR P bL) (hm:P.follows .mixedOrders=true) {root:Code} (n7:aqj P cfg f root) {N:Nat} : ∀ (c:Code) (p:Nat),Sub root p c->codeOk N c=true->ahi P N c (uG P cfg bL L f c p)
 | .skip,p,_,_=>by
  intro k r t A E B ρ base a w Q h ht hj hq;exact wp_skip (hq .normal t E A B ρ a w h ht rfl (.refl hj.k hj.s))
 | .ret,p,_,_=>by
  intro k r t A E B ρ base a w Q h ht hj hq;exact wp_ret (hq .ret t E A B ρ a w h ht rfl (.refl hj.k hj.s))
 | .exit id,p,_,_=>by
  intro k r t A E B ρ base a w Q h ht hj hq;exact wp_exit (hq (.exit id) t E A B ρ a w h ht rfl (.refl hj.k hj.s))
 | .label l,p,_,_=>by
  intro k r t A E B ρ base a w Q h ht hj hq;exact wp_label (hq .normal t E A B ρ a w h ht rfl (.refl hj.k hj.s))
 | .goto l,p,_,_=>by
  intro k r t A E B ρ base a w Q h ht hj hq;exact wp_goto (hq (.goto l) t E A B ρ a w h ht rfl (.refl hj.k hj.s))
 | .region id ops false,p,_,hc=>by
  intro k r t A E B ρ base a w Q h ht hj hq;have h:xF P cfg bL ops.toList (fun t A=>k .normal t A) ops.toList t A=some r:=h;refine wp_region ?_;have:=UG (Q:=Q) (base:=base) je zH (N:=N) (all:=ops.toList) hc ops.toList 0 t E A B ρ a w (by simp) h ht hj fun t' E' A' B' ba a' w' h1 h2 h3 h4=>hq .normal t' E' A' B' ba a' w' h1 h2 h3 h4;rw [List.range_eq_range'];simpa using this
 | .region id ops true,p,_,hc=>by
  intro k r t A E B ρ base a w Q h ht hj hq;have h:agG P cfg bL ops.toList true (fun t A=>k .normal t A) t A=some r:=h;unfold agG at h;cases ho:amA P cfg ops.toList with
  | false=>
   rw [ho] at h;cases hcr:Rv P cfg ops.toList with
   | true=>
    rw [hcr] at h;exact alk (all:=ops.toList) je zH hm hc hcr h ht hj fun t' E' A' B' ba a' w' h1 h2 h3 h4=>hq .normal t' E' A' B' ba a' w' h1 h2 h3 h4
   | false=>
    rw [hcr] at h;cases hb:aab P cfg ops.toList with
    | false=>rw [hb] at h; exact absurd h (by simp)
    | true=>
     rw [hb] at h;exact am9 (all:=ops.toList) je hm hc hb h ht hj fun t' E' A' B' ba a' w' h1 h2 h3 h4=>hq .normal t' E' A' B' ba a' w' h1 h2 h3 h4
  | true=>
   rw [ho] at h;exact ai9 (all:=ops.toList) je hm hc ho h ht hj fun t' E' A' B' ba a' w' h1 h2 h3 h4=>hq .normal t' E' A' B' ba a' w' h1 h2 h3 h4
 | .seq x y,p,hs,hc=>by
  simp only [codeOk,aD] at hc;intro k r t A E B ρ base a w Q h ht hj hq;have h:uG P cfg bL L f x (2 * p) (ak2 k fun t A=>uG P cfg bL L f y (2 * p+1) k t A) t A=some r:=h;refine wp_seq ?_;refine pI je zH hm n7 x (2 * p) hs.ava hc.1 _ r t A E B ρ base a w _ h ht hj fun e t' E' A' B' ba a' w' h1 h2 h3 h4=>?_;cases e with
  | normal=>
   have h1:uG P cfg bL L f y (2 * p+1) k t' A' = some r:=h1;exact pI je zH hm n7 y (2 * p+1) hs.avb hc.2 k r t' A' E' B' ba base a' w' Q h1 h2 h4.kj fun e t'' PS A'' RK zS a'' Po q1 q2 q3 q4=>hq e t'' PS A'' RK zS a'' Po q1 q2 (q3.trans h3) (h4.trans q4)
  | exit id=>exact hq (.exit id) t' E' A' B' ba a' w' h1 h2 h3 h4
  | goto l=>exact hq (.goto l) t' E' A' B' ba a' w' h1 h2 h3 h4
  | ret=>exact hq .ret t' E' A' B' ba a' w' h1 h2 h3 h4
 | .cond c x y,p,hs,hc=>by
  simp only [codeOk,aD] at hc;intro k r t A E B ρ base a w Q h ht hj hq;have h:ak1 t c (fun t=>uG P cfg bL L f x (2 * p) k t A) (fun t=>uG P cfg bL L f y (2 * p+1) k t A)=some r:=h;have key:∃ t',(∀ i,t'.get i=t.get i)/\((a.eval c = .bool true/\uG P cfg bL L f x (2 * p) k t' A=some r)\/(a.eval c = .bool false/\uG P cfg bL L f y (2 * p+1) k t' A=some r)):=by
   have sM:=ht.ev c;cases c with
   | tmp d=>
    have h:BK.rec (motive:=fun _=>Option R) (fun b=>Bool.rec (motive:=fun _=>Option R) (uG P cfg bL L f y (2 * p+1) k (t.set (.bool false) d) A) (uG P cfg bL L f x (2 * p) k (t.set (.bool true) d) A) b) none none (zc ((t.get d).getD .bJ))=some r:=h;cases hb:zc ((t.get d).getD .bJ) with
    | no=>rw [hb] at h; exact absurd h (by simp)
    | jd=>rw [hb] at h; exact absurd h (by simp)
    | bool b=>
     rw [hb] at h;have hbv:=Iy hb;have sM:VC P E ρ ((t.get d).getD .bJ) (a.eval (.tmp d)):=sM;rw [hbv] at sM;have:=sM.hO;refine ⟨t.set (.bool b) d,RI hb,?_⟩;cases b
     ·exact .inr ⟨this,h⟩
     ·exact .inl ⟨this,h⟩
   | const v=>
    have h:BK.rec (motive:=fun _=>Option R) (fun b=>Bool.rec (motive:=fun _=>Option R) (uG P cfg bL L f y (2 * p+1) k t A) (uG P cfg bL L f x (2 * p) k t A) b) none none (zc (nG t (.const v)))=some r:=h;cases hb:zc (nG t (.const v)) with
    | no=>rw [hb] at h; exact absurd h (by simp)
    | jd=>rw [hb] at h; exact absurd h (by simp)
    | bool b=>
     rw [hb] at h;rw [Iy hb] at sM;have:=sM.hO;refine ⟨t,fun _=>rfl,?_⟩;cases b
     ·exact .inr ⟨this,h⟩
     ·exact .inl ⟨this,h⟩
   | global g=>exact absurd h (by simp [ak1,nG,zc])
   | func g=>exact absurd h (by simp [ak1,nG,zc])
  obtain ⟨t',wF,h⟩:=key;have ht':=ht.same wF;rcases h with ⟨hb,h⟩ | ⟨hb,h⟩
  ·exact wp_cond_true hb (pI je zH hm n7 x (2 * p) hs.asE hc.1 k r t' A E B ρ base a w Q h ht' hj hq)
  ·exact wp_cond_false hb (pI je zH hm n7 y (2 * p+1) hs.asF hc.2 k r t' A E B ρ base a w Q h ht' hj hq)
 | .block id x,p,hs,hc=>by
  have hc:codeOk N x=true:=hc;intro k r t A E B ρ base a w Q h ht hj hq;have h:uG P cfg bL L f x (2 * p) (apW id k) t A=some r:=h;refine wp_block ?_;refine pI je zH hm n7 x (2 * p) hs.block hc _ r t A E B ρ base a w _ h ht hj fun e t' E' A' B' ba a' w' h1 h2 h3 h4=>?_;cases e with
  | normal=>exact hq .normal t' E' A' B' ba a' w' h1 h2 h3 h4
  | exit id'=>
   have h1:Bool.rec (motive:=fun _=>Option R) (k (.exit id') t' A') (k .normal t' A') (Nat.beq id' id)=some r:=h1;cases hb:Nat.beq id' id with
   | true=>
    rw [hb] at h1;have:=bo hb;simp only [aq.out,Exit.inBlock,aW this];exact hq .normal t' E' A' B' ba a' w' h1 h2 h3 h4
   | false=>
    rw [hb] at h1;have:=Nat.ne_of_beq_eq_false hb;simp only [aq.out,Exit.inBlock,aB this];exact hq (.exit id') t' E' A' B' ba a' w' h1 h2 h3 h4
  | goto l=>exact hq (.goto l) t' E' A' B' ba a' w' h1 h2 h3 h4
  | ret=>exact hq .ret t' E' A' B' ba a' w' h1 h2 h3 h4
 | .loop x,p,hs,hc=>by
  have hc:codeOk N x=true:=hc;intro k r t A E B ρ base a w Q h ht hj hq;have h:Option.rec (motive:=fun _=>bN->aC->Option R) (aci (uG P cfg bL L f x (2 * p)) k L) (fun F=>aoE F k) (cfg.lp f p) t A=some r:=h;cases hF:cfg.lp f p with
  | some F=>
   rw [hF] at h;exact n7 p F x hF hs N hc R k r t A E B ρ base a w Q h ht hj hq
  | none=>
   rw [hF] at h;exact wp_loop_rounds L (aau (pI je zH hm n7 x (2 * p) hs.loop hc) L k r t A E B ρ base a w Q h ht hj hq)
 | .scope x,p,hs,hc=>by
  have hc:codeOk N x=true:=hc;intro k r t A E B ρ base a w Q h ht hj hq;have h:uG P cfg bL L f x (2 * p) (agH k) t A=some r:=h;refine wp_scope_straight ?_;refine pI je zH hm n7 x (2 * p) hs.scope hc _ r t A E B ρ base a w _ h ht hj fun e t' E' A' B' ba a' w' h1 h2 h3 h4=>?_;cases e with
  | normal=>exact hq .normal t' E' A' B' ba a' w' h1 h2 h3 h4
  | exit id=>exact hq (.exit id) t' E' A' B' ba a' w' h1 h2 h3 h4
  | goto l=>exact absurd h1 (by simp [agH])
  | ret=>exact hq .ret t' E' A' B' ba a' w' h1 h2 h3 h4
 | .rangeFunc ..,p,_,_ | .refuse _,p,_,_=>by
  intro k r t A E B ρ base a w Q h ht hj hq;exact absurd h (by simp [uG])
end
theorem LA:∀ (l:List KV) (i k:Nat) (t:bN),(rA l i t).get k=if i<=k/\k < i+l.length then l[k - i]? else t.get k
 | [],i,k,t=>by
  rw [rA,aB];simp
 | v::l,i,k,t=>by
  rw [rA,LA l (i+1) k,Trie.sm];by_cases h1:k=i
  ·subst h1
   rw [aB (by omega),aW rfl,aW (by simp)];simp
  ·by_cases h2:i+1<=k/\k < i+1+l.length
   ·rw [aW h2,aW (by simp; omega),show k - i=(k - (i+1))+1 by omega]
    simp
   ·rw [aB h2,aB h1,aB (by simp; omega)]
theorem Jg {A:aC} {B:St} {base N:Nat} {w:World} {ρ:a9} {t:bN} {a:Act} (hj:KJ P E A B ρ base w) (ht:nQ P E ρ t N a):∀ (rs:List ResultVar) (vs:List KV),PH P A t rs=some vs->
  ∃ cP,Je P E ρ vs cP/\(rs.mapM (afQ a)).run P w=Result.ok cP w
 | [],vs,h=>by simp [PH] at h; subst h; exact ⟨[],⟨[],.nil,.nil⟩,by simp⟩
 | .tmp x::rs,vs,h=>by
  simp only [PH] at h;obtain ⟨us,hu,rfl⟩:=cZ.1 h;obtain ⟨us',⟨m,h1,h3⟩,h2⟩:=Jg hj ht rs us hu;obtain ⟨u,h4,h5⟩:=ht.ev (.tmp x);refine ⟨_::us',⟨u::m,.cons h4 h1,.cons h5 h3⟩,?_⟩;simp [List.mapM_cons,h2,Act.eval,afQ]
 | .cell x ty::rs,vs,h=>by
  simp only [PH] at h;split at h
  ·rename_i v hv
   obtain ⟨us,hu,rfl⟩:=cZ.1 h;obtain ⟨us',⟨m,h1,h3⟩,h2⟩:=Jg hj ht rs us hu;obtain ⟨u,h4,h5⟩:=ht.ev (.tmp x);have hg:bf (acb P ty A [nG t (.tmp x)]) v:=by rw [hv]; exact rfl
   obtain ⟨z,h6,h7⟩:=amN E A B _ _ v hj.k (.cons h4 .nil) hg;have h6:loadAt P ty B u=some z:=h6;obtain ⟨ad,h8,z',h9,xY⟩:=Xx (P:=P) hj.s.rel h5 h6;refine ⟨z'::us',⟨z::m,.cons h7 h1,.cons h9 h3⟩,?_⟩;have h8:a.tmps.getD x undef = .pointer (some ad):=h8;simp only [List.mapM_cons,Sem.run_bind,afQ,h8,asAddr,Sem.run_pure,nZ,xY,h2]
  ·simp at h
theorem UR {ρ:a9} {vs:List KV} {cP:List Value} (h:Je P E ρ vs cP):VC P E ρ (Lo vs) (if h:cP.toArray.size=1 then cP.toArray[0] else .tuple cP.toArray):=by
 obtain ⟨m,h1,h2⟩:=h
 match vs with
 | []=>
  rw [h1.cu] at h2;rw [h2.cu];exact ⟨_,.agI .nil,VR.mkTuple .nil⟩
 | [v]=>
  obtain ⟨u,rfl,h3⟩:=h1.gi;obtain ⟨y,ys,rfl,h4,h5⟩:=h2.cons_inv;rw [h5.cu];exact ⟨u,h3,h4⟩
 | v::v2::vs=>
  obtain ⟨u,us,rfl,h3,h4⟩:=h1.cons_inv;obtain ⟨u2,us2,rfl,h5,h6⟩:=h4.cons_inv;obtain ⟨y,ys,rfl,h7,h8⟩:=h2.cons_inv;obtain ⟨y2,ys2,rfl,h9,xY⟩:=h8.cons_inv;rw [dif_neg (by simp)];exact ⟨_,.agI (.cons h3 (.cons h5 h6)),VR.mkTuple (.cons h7 (.cons h9 xY))⟩
def alm (vs:List Value):Value:=if h:vs.toArray.size=1 then vs.toArray[0] else .tuple vs.toArray
theorem RR {R:Type} {cfg:fW} {bL:qC R} (je:vZ P cfg.pc) (zH:PR P bL) (hm:P.follows .mixedOrders=true) (L:Nat) {f:FuncId} {fn:Func} {c:Code} (hf:P.funcs[f]? = some fn) (hb:fn.body=some c) (cm:codeOk fn.ntmps c=true) (n7:aqj P cfg f c)
  {args:List KV} {A:aC} {k:List KV->aC->Option R} {r:R} (h:uG P cfg bL L f c 1 (amB P fn k) (rA args 0 .leaf) A=some r) {E:Env} {B:St} {ρ:a9} {mN:List Value} {base:Nat} {w:World} (hv:Je P E ρ args mN) (hj:KJ P E A B ρ base w) :
  Calls P f mN.toArray w fun e w'=>∃ vs cP E' A' B' ba,e = .returned (alm cP)/\Je P E' ba vs cP/\Ev P base E A B ρ w E' A' B' ba w'/\k vs A' = some r:=by
 refine calls_of_wp hf hb ?_;obtain ⟨aoY,ZV,Oh⟩:=hv;have hlen:mN.length=args.length:=by rw [Oh.length,ZV.length]
 have ht:nQ P E ρ (rA args 0 .leaf) (max fn.ntmps args.length) { tmps:=mN.toArray++Array.replicate (fn.ntmps - mN.toArray.size) undef,defers:=[] }:=by
  have gI:(mN.toArray++Array.replicate (fn.ntmps - mN.toArray.size) undef).size=max fn.ntmps args.length:=by
   simp [hlen];omega
  refine ⟨gI,fun i=>?_,fun i hi=>?_⟩
  ·rw [LA]
   simp only [dq,true_and,bk,Nat.sub_zero,Trie.Wn];by_cases hi:i < args.length
   ·rw [aW hi]
    obtain ⟨u,hu⟩:∃ u,args[i]? = some u:=⟨_,dD hi⟩
    obtain ⟨m,h1,h2⟩:=ZV.get hu;obtain ⟨u',h3,h4⟩:=Oh.get h1;rw [hu];have:(mN.toArray++Array.replicate (fn.ntmps - mN.toArray.size) undef).getD i undef=u':=by
     rw [jh,Array.getElem?_append_left (by simpa [hlen] using hi)];simp [h3]
    rw [this];exact ⟨m,h2,h4⟩
   ·rw [aB hi]
    exact VC.bJ
  ·rw [LA,aB,Trie.Wn]
   simp only [dq,true_and,bk];have:=Nat.le_max_right fn.ntmps args.length;omega
 have ad7:codeOk (max fn.ntmps args.length) c=true:=pD (Nat.le_max_left _ _) c cm;refine pI (L:=L) (f:=f) (N:=max fn.ntmps args.length) je zH hm n7 c 1 .root ad7 _ r _ A E B ρ base _ w _ h ht hj fun e t' E' A' B' ba a' w' h1 h2 h3 h4=>?_;have fin:∀ vs,PH P A' t' fn.results.toList=some vs->k vs A' = some r->∀ e:aq,(e = .normal\/e = .ret)->bodyPost P fn (fun e w'=>∃ vs cP E' A' B' ba,e = .returned (alm cP)/\Je P E' ba vs cP/\Ev P base E A B ρ w E' A' B' ba w'/\k vs A' = some r) e.out a' w':=by
  intro vs hr hk e he;obtain ⟨cP,hvs,qe⟩:=Jg (P:=P) h4.kj h2 _ _ hr;have anf:(results fn a'.tmps).run P w' = .ok (if h:cP.toArray.size=1 then cP.toArray[0] else .tuple cP.toArray) w':=by
   rw [adU,Sem.run_bind,Array.mapM_eq_mapM_toList,Sem.run_map,qe];rfl
  have ahj:bodyPost P fn (fun e w'=>∃ vs cP E' A' B' ba,e = .returned (alm cP)/\Je P E' ba vs cP/\Ev P base E A B ρ w E' A' B' ba w'/\k vs A' = some r) .ret a' w':=by
   exact ⟨h3,_,anf,vs,cP,E',A',B',ba,rfl,hvs,h4,hk⟩
  rcases he with rfl | rfl
  ·exact ahj
  ·exact ahj
 cases e with
 | normal=>
  have h1:Option.rec (motive:=fun _=>Option R) none (fun vs=>k vs A') (PH P A' t' fn.results.toList)=some r:=h1;cases hr:PH P A' t' fn.results.toList with
  | none=>rw [hr] at h1; exact absurd h1 (by simp)
  | some vs=>rw [hr] at h1; exact fin vs hr h1 .normal (.inl rfl)
 | ret=>
  have h1:Option.rec (motive:=fun _=>Option R) none (fun vs=>k vs A') (PH P A' t' fn.results.toList)=some r:=h1;cases hr:PH P A' t' fn.results.toList with
  | none=>rw [hr] at h1; exact absurd h1 (by simp)
  | some vs=>rw [hr] at h1; exact fin vs hr h1 .ret (.inr rfl)
 | exit id=>exact absurd h1 (by simp [amB])
 | goto l=>exact absurd h1 (by simp [amB])
end Go.K
end
section
namespace Go.K
open Go Go.aE
variable {P:Program} {E:Env}
def aj5 (P:Program) (ac:FuncId->Option (List KV->aC->y9)):Prop:=∀ g F,ac g=some F->∀ {R:Type} (args:List KV) (A:aC) (k:KV->aC->Option R) (r:R),y9.run k (F args A)=some r->PQ P g/\
 ∀ (E:Env) (B:St) (ρ:a9) (base:Nat) (w:World) (mN:List Value),Je P E ρ args mN->KJ P E A B ρ base w->
  Calls P g mN.toArray w fun e w'=>∃ v v' E' A' B' ba,e = .returned v'/\VC P E' ba v v'/\Ev P base E A B ρ w E' A' B' ba w'/\k v A' = some r
theorem aj5.none {P:Program} : aj5 P fun _=>.none:=fun g F h=>by simp at h
def z9 (P:Program) (cfg:fW):Prop:=aj5 P cfg.x.ac/\∀ f fn c,P.funcs[f]? = some fn->fn.body=some c->aqj P cfg f c
theorem UT {R:Type} {cfg:fW} {bL:qC R} {L:Nat} {f:FuncId} {args:List KV} {A:aC} {k:List KV->aC->Option R} {r:R} (hP:P.funcs.toList.all qq=true) (h:acj P cfg bL L f args A k=some r) :
  ∃ fn c, P.funcs[f]? = some fn ∧ fn.body = some c ∧ codeOk fn.ntmps c = true ∧ (fn.name == "runtime.NumGoroutine") = false ∧ uG P cfg bL L f c 1 (amB P fn k) (rA args 0 .leaf) A = some r := by
 unfold acj at h;split at h
 ·rename_i fn hf
  split at h
  ·rename_i c hc
   have hf' : P.funcs[f]? = some fn:=by simpa using hf
   have cm:=im.1 hP fn (ji hf);unfold qq at cm;rw [hc] at cm;simp only [aD,nz] at cm;exact ⟨fn,c,hf',hc,cm.1,cm.2,h⟩
  ·simp at h
 ·simp at h
theorem yR {R:Type} {cfg:fW} (hP:P.funcs.toList.all qq=true) (hm:P.follows .mixedOrders=true) (je:vZ P cfg.pc) (n7:z9 P cfg) (L:Nat):∀ n,PR (R:=R) P (Nd P cfg L n)
 | 0=>fun f args A k r h=>absurd h (by simp [Nd])
 | n+1=>fun f args A k r h=>by
  have h:Bool.rec (motive:=fun _=>Option R) none (Option.rec (motive:=fun _=>Option R) (acj P cfg (Nd P cfg L n) L f args A fun vs B=>k (Lo vs) B) (fun F=>y9.run k (F args A)) (cfg.x.ac f)) (Nat.blt f yB)=some r:=h;cases hy:Nat.blt f yB with
  | false=>rw [hy] at h; exact absurd h (by simp)
  | true=>
   rw [hy] at h;cases hac:cfg.x.ac f with
   | some F=>
    rw [hac] at h;exact n7.1 f F hac args A k r h
   | none=>
    rw [hac] at h;have h:acj P cfg (Nd P cfg L n) L f args A (fun vs B=>k (Lo vs) B)=some r:=h;obtain ⟨fn,c,hf,hc,cm,hnm,h⟩:=UT hP h;refine ⟨⟨hy,fn,hf,by simp [hc],hnm⟩,fun E B ρ base w mN hv hj=>?_⟩;refine (RR je (yR hP hm je n7 L n) hm L hf hc cm (n7.2 f fn c hf hc) h hv hj).mono ?_;rintro e w' ⟨vs,cP,E',A',B',ba,rfl,h1,h2,h3⟩;exact ⟨Lo vs,_,E',A',B',ba,rfl,UR h1,h2,h3⟩
mutual
theorem VK.zK {E0:Env} (hz:E0.z=E.z):∀ {v:KV} {u:Value} {c:CK},VK P E v u->kindOk c v=true->VK P E0 v u
 | .int k n,u,c,h,_=>h
 | .bool b,u,c,h,_=>h
 | .str s,u,c,h,_=>h
 | .ts T m n es acc,u,c,h,hk=>by
  cases c <;> simp [kindOk] at hk;rename_i t;cases m <;> simp at hk;obtain ⟨ht,bF,h1,a,cap,rfl,h2,h3,h4⟩:=h.pH;simp only [VK];refine ⟨ht,bF,bp.zEs hz h1 ht.typed,a,cap,rfl,h2,?_,trivial⟩;refine h3.imp id ?_;rintro ⟨b,off,r,e1,e2,e3⟩;exact ⟨b,off,r,e1,by rw [hz]; exact e2,e3⟩
 | .agg cs,u,c,h,hk=>by cases c <;> simp [kindOk] at hk
 | .jd cs,u,c,h,hk=>by cases c <;> simp [kindOk] at hk
 | .tp T Tc i k es acc,u,c,h,hk=>by cases c <;> simp [kindOk] at hk
 | .al T b o n,u,c,h,hk=>by cases c <;> simp [kindOk] at hk
 | .ap T Tc b i k,u,c,h,hk=>by cases c <;> simp [kindOk] at hk
 | .ptr b off,u,c,h,hk=>by cases c <;> simp [kindOk] at hk
 | .sl b off n cap,u,c,h,hk=>by cases c <;> simp [kindOk] at hk
 | .JW,u,c,h,hk=>by cases c <;> simp [kindOk] at hk
 | .nN,u,c,h,hk=>by cases c <;> simp [kindOk] at hk
 | .EY,u,c,h,hk=>by cases c <;> simp [kindOk] at hk
 | .map b,u,c,h,hk=>by cases c <;> simp [kindOk] at hk
 | .fn f a b,u,c,h,hk=>by cases c <;> simp [kindOk] at hk
 | .Lj,u,c,h,hk=>by cases c <;> simp [kindOk] at hk
 | .iface t x,u,c,h,hk=>by cases c <;> simp [kindOk] at hk
 | .Ll,u,c,h,hk=>by cases c <;> simp [kindOk] at hk
 | .bJ,u,c,h,hk=>by cases c <;> simp [kindOk] at hk
theorem VK.zE {E0:Env} (hz:E0.z=E.z):∀ {v:KV} {u:Value} {l:Bd},VK P E v u->cG l v=true->VK P E0 v u
 | .int k n,u,l,h,_=>h
 | .bool b,u,l,h,_=>h
 | .str s,u,l,h,_=>h
 | .agg cs,u,l,h,hk=>by
  simp only [cG,aD] at hk;obtain ⟨m,rfl,h1⟩:=h.pC;exact .tI (bp.zKs hz h1 hk.2)
 | .ts T m n es acc,u,l,h,hk=>by
  have Cc:∃ c,kindOk c (.ts T m n es acc)=true:=by
   simp only [cG,aD] at hk;cases wG:l.ks with
   | nil=>rw [wG] at hk; simp [aO] at hk
   | cons c cs=>rw [wG] at hk; simp only [aO,aD] at hk; exact ⟨c,hk.2.1⟩
  obtain ⟨c,hk⟩:=Cc;cases c <;> simp [kindOk] at hk;rename_i t;cases m <;> simp at hk;obtain ⟨ht,bF,h1,a,cap,rfl,h2,h3,h4⟩:=h.pH;simp only [VK];refine ⟨ht,bF,bp.zEs hz h1 ht.typed,a,cap,rfl,h2,?_,trivial⟩;refine h3.imp id ?_;rintro ⟨b,off,r,e1,e2,e3⟩;exact ⟨b,off,r,e1,by rw [hz]; exact e2,e3⟩
 | .jd cs,u,l,h,hk=>by simp [cG] at hk
 | .tp T Tc i k es acc,u,l,h,hk=>by
  obtain ⟨h1,_⟩:=jN hk;cases wG:l.ks with
  | nil=>rw [wG] at h1; simp [KV.cells,aO] at h1
  | cons c cs=>rw [wG] at h1; cases c <;> simp [KV.cells,aO,kindOk] at h1
 | .al T b o n,u,l,h,hk=>by
  obtain ⟨h1,_⟩:=jN hk;cases wG:l.ks with
  | nil=>rw [wG] at h1; simp [KV.cells,aO] at h1
  | cons c cs=>rw [wG] at h1; cases c <;> simp [KV.cells,aO,kindOk] at h1
 | .ap T Tc b i k,u,l,h,hk=>by
  obtain ⟨h1,_⟩:=jN hk;cases wG:l.ks with
  | nil=>rw [wG] at h1; simp [KV.cells,aO] at h1
  | cons c cs=>rw [wG] at h1; cases c <;> simp [KV.cells,aO,kindOk] at h1
 | .ptr b off,u,l,h,hk=>by
  obtain ⟨h1,_⟩:=jN hk;cases wG:l.ks with
  | nil=>rw [wG] at h1; simp [KV.cells,aO] at h1
  | cons c cs=>rw [wG] at h1; cases c <;> simp [KV.cells,aO,kindOk] at h1
 | .sl b off n cap,u,l,h,hk=>by
  obtain ⟨h1,_⟩:=jN hk;cases wG:l.ks with
  | nil=>rw [wG] at h1; simp [KV.cells,aO] at h1
  | cons c cs=>rw [wG] at h1; cases c <;> simp [KV.cells,aO,kindOk] at h1
 | .JW,u,l,h,hk=>h
 | .nN,u,l,h,hk=>h
 | .EY,u,l,h,hk=>h
 | .map b,u,l,h,hk=>by
  obtain ⟨h1,_⟩:=jN hk;cases wG:l.ks with
  | nil=>rw [wG] at h1; simp [KV.cells,aO] at h1
  | cons c cs=>rw [wG] at h1; cases c <;> simp [KV.cells,aO,kindOk] at h1
 | .fn f a b,u,l,h,hk=>by
  obtain ⟨h1,_⟩:=jN hk;cases wG:l.ks with
  | nil=>rw [wG] at h1; simp [KV.cells,aO] at h1
  | cons c cs=>rw [wG] at h1; cases c <;> simp [KV.cells,aO,kindOk] at h1
 | .Lj,u,l,h,hk=>h
 | .iface t x,u,l,h,hk=>by
  obtain ⟨h1,_⟩:=jN hk;cases wG:l.ks with
  | nil=>rw [wG] at h1; simp [KV.cells,aO] at h1
  | cons c cs=>rw [wG] at h1; cases c <;> simp [KV.cells,aO,kindOk] at h1
 | .Ll,u,l,h,hk=>h
 | .bJ,u,l,h,hk=>h
theorem bp.zKs {E0:Env} (hz:E0.z=E.z):∀ {vs:List KV} {us:List Value} {ks:List CK},bp P E vs us->aO ks vs=true->bp P E0 vs us
 | [],us,ks,h,_=>by rw [h.cu]; exact .nil
 | v::vs,us,[],h,hk=>by simp [aO] at hk
 | v::vs,us,c::ks,h,hk=>by
  simp only [aO,aD] at hk;simp only [bp] at h ⊢;obtain ⟨y,ys,e,h1,h2⟩:=h;exact ⟨y,ys,e,VK.zK hz h1 hk.1,bp.zKs hz h2 hk.2⟩
theorem bp.zEs {E0:Env} (hz:E0.z=E.z):∀ {vs:List KV} {us:List Value} {l:Bd},bp P E vs us->gY l vs=true->bp P E0 vs us
 | [],us,l,h,_=>by rw [h.cu]; exact .nil
 | v::vs,us,l,h,hk=>by
  simp only [gY,aD] at hk;simp only [bp] at h ⊢;obtain ⟨y,ys,e,h1,h2⟩:=h;exact ⟨y,ys,e,VK.zE hz h1 hk.1,bp.zEs hz h2 hk.2⟩
end
theorem VK.asG {E0:Env} (hz:E0.z=E.z) {c:CK} {v:KV} {u:Value} (h:VK P E v u):VK P E0 (K.qn c v) u:=by
 have hn:=h.qn (c:=c);cases hk:kindOk c (K.qn c v) with
 | true=>exact hn.zK hz hk
 | false=>
  have:K.qn c v = .bJ:=by
   revert hk
   unfold K.qn;split
   ·intro hk; simp [kindOk] at hk
   ·rename_i t t' m n es acc
    cases hb:Nat.beq t t' with
    | false=>intro _; rfl
    | true=>intro hk; simp [kindOk] at hk
   ·cases hb:kindOk c v with
    | false=>intro _; rfl
    | true=>intro hk; rw [ai,hb] at hk; simp at hk
  rw [this];exact .wM
theorem bp.ang {E0:Env} (hz:E0.z=E.z):∀ {ks:List CK} {cs:List KV} {l:List Value},bp P E cs l->cs.length=ks.length->bp P E0 (K.E6 ks cs) l
 | [],[],l,h,_=>by rw [h.cu]; exact .nil
 | [],_::_,_,_,e=>by simp at e
 | _::_,[],_,_,e=>by simp at e
 | c::ks,v::cs,l,h,e=>by
  obtain ⟨y,ys,rfl,h1,h2⟩:=h.cons_inv;exact .cons (h1.asG hz) (bp.ang hz h2 (by simpa using e))
theorem VK.auu {E0:Env} (hz:E0.z=E.z) {l:Bd} {v:KV} {u:Value} (h:VK P E v u):VK P E0 (K.ib l v) u:=by
 unfold K.ib;split
 ·rename_i cs
  obtain ⟨m,rfl,h1⟩:=h.pC;cases hb:(l.agg&&Nat.beq cs.length l.ks.length) with
  | false=>exact .wM
  | true=>
   simp only [aD] at hb;exact .tI (h1.ang hz (bo hb.2))
 ·cases l.agg with
  | true=>exact .wM
  | false=>
   rw [aw];split
   ·exact h.asG hz
   ·exact .wM
theorem VK.avO {E0:Env} (hz:E0.z=E.z) {t:TypeId} {v:KV} {u:Value} (h:VK P E v u):VK P E0 (K.Z9 P t v) u:=by
 unfold K.Z9;cases hb:cG (bw P t) (K.ib (bw P t) v) with
 | false=>exact .wM
 | true=>exact VK.vH _ hb (h.auu hz)
theorem bp.ahk {E0:Env} (hz:E0.z=E.z):∀ {ts:List TypeId} {vs:List KV} {us:List Value},bp P E vs us->vs.length=ts.length->bp P E0 (normArgs P ts vs) us
 | [],[],us,h,_=>by rw [h.cu]; exact .nil
 | [],_::_,_,_,e=>by simp at e
 | _::_,[],_,_,e=>by simp at e
 | t::ts,v::vs,us,h,e=>by
  obtain ⟨y,ys,rfl,h1,h2⟩:=h.cons_inv;exact .cons (h1.avO hz) (bp.ahk hz h2 (by simpa using e))
theorem LB:∀ (ts:List TypeId) (vs:List KV),Bi P ts vs=normArgs P ts vs
 | [],vs=>by cases vs <;> rfl
 | t::ts,[]=>rfl
 | t::ts,v::vs=>by simp [Bi,normArgs,LB ts vs]
def Env.bare (E:Env):Env:={ E with κ:=fun _=>none,φ:=fun _=>none,α:=fun _=>none }
theorem gU.bare {A:aC} {B:St} (h:gU P E A B):gU P E.bare .empty B where
 row b cs ca hb:=by simp [aC.empty,aC.get] at hb
 bm b top sz hb:=by simp [aC.empty,aC.get] at hb
 z:=h.z
 apart b x e:=by simp [Env.bare] at e
 inj b c x e:=by simp [Env.bare] at e
 lT b c g _ _ _ _ _ _ e:=by simp [Env.bare] at e
 ow b x e:=by simp [Env.bare] at e
 qD b g e:=by simp [Env.bare] at e
 live b o hb:=by simp [aC.empty,aC.get] at hb
 jc b x e:=by simp [Env.bare] at e
 qX:=h.qX
 mL b g e:=by simp [Env.bare] at e
 fresh:=h.fresh
 mem:=h.mem
 ar:=by
  have hn:∀ b v,¬ aC.empty.get b=some (.arr v):=fun b v hb=>by simp [aC.empty,aC.get] at hb
  exact ⟨fun b v hb=>(hn b v hb).elim,fun b v hb=>by simp [aC.empty,aC.get] at hb,fun x ⟨b,v,_,_,hb,_⟩=>(hn b v hb).elim,fun b c v u x L N L' N' hb=>(hn b v hb).elim,fun b c v u x y L N L' N' cs e own g k ck e' tP k' hb=>(hn b v hb).elim,fun b x e=>by simp [Env.bare] at e,fun b p e=>by simp [Env.bare] at e,fun b x L N e=>by simp [Env.bare] at e,fun b v x L N cs e own g k hb=>(hn b v hb).elim,fun b v hb=>(hn b v hb).elim⟩
theorem anh {x:Nat} : ¬ AR .empty E.bare x:=fun ⟨b,v,_,_,hb,_⟩=>by simp [aC.empty,aC.get] at hb
theorem ani {B:St} {g:Nat} : ¬ AF .empty E.bare B g:=fun ⟨b,v,_,_,_,_,_,_,_,hb,_⟩=>by simp [aC.empty,aC.get] at hb
theorem asH {B:St} {y:Nat} : ¬ AT .empty E.bare B y:=fun q=>q.elim anh fun ⟨_,q,_⟩=>ani q
theorem Ev.bare {base:Nat} {A A1:aC} {B B1:St} {ρ qd:a9} {w w1:World} {E1:Env} (h:gU P E A B) (sM:Ev P base E.bare .empty B ρ w E1 A1 B1 qd w1):Ev P base E A B ρ w { E with z:=E1.z } A B1 qd w1:=by
 have hle:E.le { E with z:=E1.z }:=⟨fun _ _ e=>e,fun _ _ e=>e,sM.le.z,fun _ _ e=>e⟩
 have RS:∀ x,x < B.next->B1.get x=B.get x:=fun x hx=>sM.pB x hx (fun b e=>by simp [Env.bare] at e) asH;have oC:∀ g,g < B.next->B1.members g=B.members g:=fun g hg=>sM.uH g hg (fun b e=>by simp [Env.bare] at e) ani;have kr:=sM.gX.next;have MX:∀ b r,E1.z b=some r->E.z b=some r\/B.next<=b:=fun b r e=>by
  rcases sM.yw b r e with e | e | e
  ·exact .inl e
  ·exact (anh e).elim
  ·exact .inr e
 have vI:∀ y,AR A { E with z:=E1.z } y->AR A E y:=fun y q=>q;have avc:∀ g,AF A E B g->g < B.next:=fun g ⟨b,v,x,L,N,cs,e,own,k,h1,h2,h3⟩=>(h.ar.xG b v x L N cs e own g k h1 h2 h3).1;have Ov:∀ g,AF A { E with z:=E1.z } B1 g->AF A E B g:=fun g ⟨b,v,x,L,N,cs,e,own,k,h1,h2,h3⟩=>⟨b,v,x,L,N,cs,e,own,k,h1,h2,by rw [<- RS x (h.ar.jc b x L N h2)]; exact h3⟩
 refine ⟨⟨?_,?_,sM.kW.z,?_,h.inj,h.lT,h.ow,h.qD,h.live,?_,sM.kW.qX,?_,sM.kW.fresh,sM.kW.mem,h.ar.pB hle (fun _=>rfl) (fun _ _ e=>e) (fun _ _ e=>e) (aX _) kr (fun x q=>RS x (h.Nh q)) MX (fun _ _ e=>.inl e) (fun b g e=>.inl ⟨b,e⟩) (fun g q=>oC g (avc g q)) h.mem⟩,sM.gX,hle,aX _,fun x hx _ _=>RS x hx,fun _ _ e=>.inl e,fun b r e=>(MX b r e).imp id .inr,fun _ _ e=>.inl ⟨_,e⟩,fun g hg _ _=>oC g hg,fun y q=>.inl (vI y q),fun g q=>.inl (Ov g q),sM.zZ,fun y q=>.inl (q.imp (vI y) fun ⟨g,q1,q2⟩=>⟨g,Ov g q1,by rw [<- oC g (avc g (Ov g q1))]; exact q2⟩),sM.rows⟩
 ·intro b cs ca hb
  obtain ⟨x,c,h1,h2,h3⟩:=h.row b cs ca hb;exact ⟨x,c,h1,by rw [RS x (h.jc b x h1)]; exact h2,h3.mono hle⟩
 ·intro b top sz hb
  rcases h.bm b top sz hb with h1 | ⟨g,h1,h2,h3⟩
  ·exact .inl h1
  ·have hg:=h.mL b g h1
   refine .inr ⟨g,h1,h2,fun x hx cs e own f k hr=>?_⟩;rw [oC g hg] at hx;rw [RS x (h.mem g x hx)] at hr;exact h3 x hx cs e own f k hr
 ·intro b x hb
  have hx:=h.jc b x hb;cases hz:E1.z x with
  | none=>rfl
  | some r=>
   rcases MX x r hz with e | e
   ·rw [h.apart b x hb] at e; simp at e
   ·omega
 ·intro b x hb; have:=h.jc b x hb; omega
 ·intro b g hb; have:=h.mL b g hb; omega
theorem asI {g:FuncId} {F:List KV->KR KV} (hy:Nat.blt g yB=true) (hP:P.funcs.toList.all qq=true) (hm:P.follows .mixedOrders=true)
  (h:∀ aln v,aln.length=(gp P g).length->bf (F (normArgs P (gp P g) aln)) v->∃ cfg L n,vZ P cfg.pc/\z9 P cfg/\zY P cfg L n g (normArgs P (gp P g) aln)=some v):a7 P g F:=by
 intro args v hF hlen;obtain ⟨cfg,L,n,je,n7,qe⟩:=h _ v hlen hF;have zH:=yR (R:=KV) hP hm je n7 L n;obtain ⟨fn,c,hf,hc,cm,hnm,qe⟩:=UT hP qe;refine ⟨⟨hy,fn,hf,by simp [hc],hnm⟩,fun E A B ρ base w mN hv hj=>?_⟩;obtain ⟨aoY,ZV,Oh⟩:=hv;have hv0:Je P E.bare ρ (normArgs P (gp P g) args) mN:=⟨aoY,bp.ahk (E:=E) (E0:=E.bare) rfl ZV hlen,Oh⟩
 refine (RR je zH hm L hf hc cm (n7.2 g fn c hf hc) qe hv0 ⟨hj.k.bare,hj.s⟩).mono ?_;rintro e w' ⟨vs,cP,E0,A0,B1,qd,rfl,⟨m,h1,h1'⟩,h2,h3⟩;have h3:Bool.rec (motive:=fun _=>Option KV) none (some (Lo (Bi P (wK P g) (B7 A0 vs).1))) (Nat.beq vs.length (wK P g).length)=some v:=h3;obtain ⟨E1,hf1,h1⟩:=Ni h2.kW h1;have sM:=Ev.bare hj.k (h2.trans (hf1.ev (.refl h2.gX.kW)));cases hb:Nat.beq vs.length (wK P g).length with
 | false=>rw [hb] at h3; exact absurd h3 (by simp)
 | true=>
  rw [hb] at h3;have h3:some (Lo (Bi P (wK P g) (B7 A0 vs).1))=some v:=h3;simp only [dE] at h3;subst h3;refine ⟨_,_,B1,qd,rfl,UR ⟨m,?_,h1'⟩,sM⟩;rw [LB];exact bp.ahk (E:=E1) (E0:={ E with z:=E1.z }) rfl h1 ((RH A0 vs).trans (bo hb))
end Go.K
end
section
namespace Go.K
open Go Go.aE
noncomputable section
inductive CD where
 | k (c:CK)
 | lit (v:KV)
 | bm (t:TypeId)
 | arr (t:TypeId)
 | ref (w:KV)
def acw (bs:List Nat) (v:KV):KV:=
 match v with
 | .ptr j o=>.ptr (bs.getD j 0) o
 | v=>v
def Dh (bs:List Nat):List KV->List KV
 | []=>[]
 | v::vs=>acw bs v::Dh bs vs
def inst (bs:List Nat) (v:KV):KV:=
 match v with
 | .ptr j o=>.ptr (bs.getD j 0) o
 | .fn f first cap=>.fn f (Dh bs first) (Dh bs cap)
 | v=>v
def isP (nr:Nat):KV->Bool
 | .ptr j _=>Nat.blt j nr
 | _=>false
def ahl (nr:Nat):List KV->Bool
 | []=>true
 | v::vs=>isP nr v&&ahl nr vs
def aef (nr:Nat):KV->Bool
 | .ptr j _=>Nat.blt j nr
 | .fn (.func _) first cap=>ahl nr first&&ahl nr cap
 | _=>false
def eqP:KV->KV->Bool
 | .ptr a o,.ptr b q=>Nat.beq a b&&Nat.beq o q
 | _,_=>false
def ahm:List KV->List KV->Bool
 | [],[]=>true
 | v::vs,u::us=>eqP v u&&ahm vs us
 | _,_=>false
def UU:KV->KV->Bool
 | .ptr a o,.ptr b q=>Nat.beq a b&&Nat.beq o q
 | .fn (.func f) a b,.fn (.func g) c d=>Nat.beq f g&&ahm a c&&ahm b d
 | _,_=>false
def Aa:KV->KV->Bool
 | .fn (.func f) [] [],.fn (.func g) [] []=>Nat.beq f g
 | .JW,.JW=>true
 | .nN,.nN=>true
 | .EY,.EY=>true
 | .Lj,.Lj=>true
 | .Ll,.Ll=>true
 | _,_=>false
def UW (A:aC) (t:TypeId) (v:KV):KV:=
 match v with
 | .nN=>.ts t .any 0 [] pE
 | .al t' b o _=>match A.get b with
  | some (.arr (.ts t2 _ N es acc))=>cond (Nat.beq t t'&&Nat.beq t t2&&Nat.beq o 0) (.ts t .any N es acc) .bJ
  | _=>.bJ
 | _=>.bJ
def gK (P:Program) (A:aC) (d:CD) (v:KV):KV:=
 match d with
 | .k c=>cond (kindOk c (qn c v)) (eG P iV (leaf c (qn c v))) .bJ
 | .lit w=>cond (Aa w v) w .bJ
 | .bm t=>match v with
  | .nN=>eG P iV (.ts t .any 0 [] pE)
  | .ts t' (.bm _) n es acc=>cond (Nat.beq t t') (eG P iV (.ts t .any n es acc)) .bJ
  | _=>.bJ
 | .arr t=>eG P iV (UW A t v)
 | .ref w=>w
def gL (P:Program) (A:aC):List CD->List KV->List KV
 | d::ds,v::vs=>gK P A d v::gL P A ds vs
 | _,_=>[]
def lE (d:CD) (v:KV):Bool:=
 match d with
 | .k c=>kindOk c v
 | .lit w=>Aa w v
 | .bm t=>kindOk (.slice t) v
 | .arr t=>kindOk (.slice t) v
 | .ref w=>UU w v
def eC:List CD->List KV->Bool
 | [],[]=>true
 | d::ds,v::vs=>lE d v&&eC ds vs
 | _,_=>false
structure VD where
 agg:Bool
 ks:List CD
def zm (P:Program) (A:aC) (d:VD) (v:KV):KV:=
 match v with
 | .agg cs=>cond (d.agg&&Nat.beq cs.length d.ks.length) (.agg (gL P A d.ks cs)) .bJ
 | v=>cond d.agg .bJ (match d.ks with
  | [c]=>gK P A c v
  | _=>.bJ)
def Bk (d:VD) (v:KV):Bool:=
 match v with
 | .agg cs=>d.agg&&eC d.ks cs
 | v=>!d.agg&&eC d.ks [v]
structure aU where
 eE:List (Tmp×VD)
 rows:List (Tmp×List CD×Nat)
 aeg:List (Tmp×Nat×Nat)
def valOf (t:bN) (i:Tmp):KV:=(t.get i).getD .bJ
def tQ (P:Program) (t:bN) (A:aC):List (Tmp×VD)->List KV
 | []=>[]
 | p::ps=>zm P A p.2 (valOf t p.1)::tQ P t A ps
def jB:List (Tmp×VD)->List KV->Bool
 | [],[]=>true
 | p::ps,v::vs=>Bk p.2 v&&jB ps vs
 | _,_=>false
def avd:Option KV->Option Nat
 | some (.ptr b _)=>some b
 | _=>none
def awK (t:bN) (i:Nat):Option Nat:=
 cond (Nat.blt i 100000) (avd (t.get i)) (match t.get (i % 100000) with
  | some (.fn _ first cap)=>avd (ajS (i / 100000 - 1) (first++cap))
  | _=>none)
def rowOf (t:bN) (A:aC) (p:Tmp×List CD×Nat):Option (Nat×List KV):=
 match awK t p.1 with
 | some b=>match A.get b with
  | some (.row cs e)=>cond (Nat.beq e p.2.2&&Nat.beq cs.length p.2.1.length) (some (b,cs)) none
  | _=>none
 | _=>none
def aqk (t:bN) (A:aC) (p:Tmp×List CD×Nat):Nat:=((rowOf t A p).getD (0,[])).1
def Nl (t:bN) (A:aC) (p:Tmp×List CD×Nat):List KV:=((rowOf t A p).getD (0,[])).2
def DI (t:bN) (A:aC):List (Tmp×List CD×Nat)->List Nat
 | []=>[]
 | p::ps=>aqk t A p::DI t A ps
def Ox (P:Program) (t:bN) (A:aC):List (Tmp×List CD×Nat)->List (List KV)
 | []=>[]
 | p::ps=>gL P A p.2.1 (Nl t A p)::Ox P t A ps
def Di (P:Program) (t:bN) (A:aC):List (Tmp×List CD×Nat)->Bool
 | []=>true
 | p::ps=>(rowOf t A p).isSome&&(eC p.2.1 (gL P A p.2.1 (Nl t A p))&&Di P t A ps)
def asJ (v:Option KV) (b:Option Nat) (off:Nat):Bool:=
 match v,b with
 | some (.ptr b o),some b'=>Nat.beq o off&&Nat.beq b b'
 | _,_=>false
def WB (t:bN) (bs:List Nat):List (Tmp×Nat×Nat)->Bool
 | []=>true
 | p::ps=>asJ (t.get p.1) bs[p.2.1]? p.2.2&&WB t bs ps
def Bm:List Nat->Bool
 | []=>true
 | b::bs=>bs.all (fun c=>!Nat.beq b c)&&Bm bs
structure FI where
 ok:Bool
 f:Option Nat
 fm:Bool
def szL (P:Program) (t:TypeId):Nat:=(bw P t).ks.length
def x4 (P:Program) (A:aC) (t:TypeId) (v:KV):FI:=
 match v with
 | .nN=>⟨true,none,true⟩
 | .ts _ (.bm f) n _ _=>match A.get f with
  | some (.bm top sz)=>⟨cond (Nat.beq sz (szL P t)) (ic top n) false,some f,true⟩
  | _=>⟨false,none,true⟩
 | _=>⟨false,none,true⟩
def Oy (P:Program) (A:aC) (t:TypeId) (v:KV):FI:=
 match v with
 | .nN=>⟨Nat.ble 1 (szL P t),none,false⟩
 | .al _ b _ n=>match A.get b with
  | some (.arr (.ts _ _ N _ _))=>⟨ic N n,some b,false⟩
  | _=>⟨false,none,false⟩
 | _=>⟨false,none,false⟩
def DJ:Option la->Bool
 | some (.bm _ _)=>true
 | _=>false
theorem aj6 (P:Program) (A:aC) (t:TypeId) (v:KV):(x4 P A t v).fm=true:=by
 unfold x4;split
 ·rfl
 ·split <;> rfl
 ·rfl
theorem aq7 (P:Program) (A:aC) (t:TypeId) (v:KV):(Oy P A t v).fm=false:=by
 unfold Oy;split
 ·rfl
 ·split <;> rfl
 ·rfl
theorem aq8 {P:Program} {A:aC} {t:TypeId} {v:KV} {x:Nat} (h:(x4 P A t v).f=some x):DJ (A.get x)=true:=by
 unfold x4 at h;split at h
 ·simp at h
 ·split at h
  ·rename_i e; simp at h; subst h; rw [e]; rfl
  ·simp at h
 ·simp at h
def oy (P:Program) (A:aC):List CD->List KV->List FI
 | .bm t::ds,v::vs=>x4 P A t v::oy P A ds vs
 | .arr t::ds,v::vs=>Oy P A t v::oy P A ds vs
 | _::ds,_::vs=>oy P A ds vs
 | _,_=>[]
def Jh (P:Program) (t:bN) (A:aC):List (Tmp×VD)->List FI
 | []=>[]
 | p::ps=>oy P A p.2.ks (valOf t p.1).cells++Jh P t A ps
def LC (P:Program) (t:bN) (A:aC):List (Tmp×List CD×Nat)->List FI
 | []=>[]
 | p::ps=>oy P A p.2.1 (Nl t A p)++LC P t A ps
def acx:List FI->Bool
 | []=>true
 | x::xs=>cond (acx xs) x.ok false
def RU:List FI->List (Option Nat)
 | []=>[]
 | x::xs=>x.f::RU xs
def lO:List (Option Nat)->List Nat
 | []=>[]
 | some f::xs=>f::lO xs
 | none::xs=>lO xs
def Ji (nr:Nat) (bs:List Nat):List CD->List KV->Bool
 | .ref w::ds,v::vs=>aef nr w&&(UU (inst bs w) v&&Ji nr bs ds vs)
 | _::ds,_::vs=>Ji nr bs ds vs
 | _,_=>true
def UX (nr:Nat) (bs:List Nat) (t:bN):List (Tmp×VD)->Bool
 | []=>true
 | p::ps=>Ji nr bs p.2.ks (valOf t p.1).cells&&UX nr bs t ps
def acy (nr:Nat) (bs:List Nat) (t:bN) (A:aC):List (Tmp×List CD×Nat)->Bool
 | []=>true
 | p::ps=>Ji nr bs p.2.1 (Nl t A p)&&acy nr bs t A ps
structure GR where
 ok:Bool
 bs:List Nat
 fs:List (Option Nat)
 vs:List KV
 rs:List (List KV)
def aU.W7 (S:aU) (P:Program) (t:bN) (A:aC):List FI:=Jh P t A S.eE++LC P t A S.rows
def aU.gV (S:aU) (P:Program) (t:bN) (A:aC):GR:=
 ⟨cond (Di P t A S.rows&&Bm (DI t A S.rows)&&WB t (DI t A S.rows) S.aeg&&jB S.eE (tQ P t A S.eE)&&Bm (lO (RU (S.W7 P t A)))&&UX S.rows.length (DI t A S.rows) t S.eE&&acy S.rows.length (DI t A S.rows) t A S.rows) (acx (S.W7 P t A)) false,
  DI t A S.rows,RU (S.W7 P t A),tQ P t A S.eE,Ox P t A S.rows⟩
def RV (j:Nat) (v:KV):KV:=
 match v with
 | .ts t _ n es acc=>.ts t (.bm j) n es acc
 | v=>v
def WC (j:Nat) (v:KV):KV:=
 match v with
 | .ts t _ n _ _=>.al t j 0 n
 | v=>v
def vh:List CD->Nat
 | []=>0
 | .bm _::ds=>Nat.succ (vh ds)
 | .arr _::ds=>Nat.succ (vh ds)
 | _::ds=>vh ds
def uI (j:Nat) (bs:List Nat):List CD->List KV->List KV
 | .bm _::ds,v::vs=>RV j v::uI (Nat.succ j) bs ds vs
 | .arr _::ds,v::vs=>WC j v::uI (Nat.succ j) bs ds vs
 | .ref w::ds,_::vs=>inst bs w::uI j bs ds vs
 | _::ds,v::vs=>v::uI j bs ds vs
 | _,_=>[]
def aeh (j:Nat) (bs:List Nat) (d:VD) (v:KV):KV:=
 match v with
 | .agg cs=>.agg (uI j bs d.ks cs)
 | v=>match d.ks with
  | [.bm _]=>RV j v
  | [.arr _]=>WC j v
  | [.ref w]=>inst bs w
  | _=>v
def aei (j:Nat) (bs:List Nat):List (Tmp×VD)->List KV->List (Nat×KV)
 | p::ps,v::vs=>(p.1,aeh j bs p.2 v)::aei (j+vh p.2.ks) bs ps vs
 | _,_=>[]
def qG:List (Tmp×VD)->Nat
 | []=>0
 | p::ps=>vh p.2.ks+qG ps
def aej (j:Nat) (bs:List Nat):List (Tmp×List CD×Nat)->List (List KV)->List (List KV)
 | p::ps,r::rs=>uI j bs p.2.1 r::aej (j+vh p.2.1) bs ps rs
 | _,_=>[]
def sN (P:Program):List CD->List KV->List la
 | .bm t::ds,v::vs=>.bm (lenOf v) (szL P t)::sN P ds vs
 | .arr _::ds,v::vs=>.arr v::sN P ds vs
 | _::ds,_::vs=>sN P ds vs
 | _,_=>[]
def Cg (P:Program):List (Tmp×VD)->List KV->List la
 | p::ps,v::vs=>sN P p.2.ks v.cells++Cg P ps vs
 | _,_=>[]
def DK (P:Program):List (Tmp×List CD×Nat)->List (List KV)->List la
 | p::ps,r::rs=>sN P p.2.1 r++DK P ps rs
 | _,_=>[]
def aU.lens (S:aU) (P:Program) (vs:List KV) (rs:List (List KV)):List la:=Cg P S.eE vs++DK P S.rows rs
def Ej (bs:List Nat):List (Tmp×Nat×Nat)->List (Nat×KV)
 | []=>[]
 | p::ps=>(p.1,.ptr (bs.getD p.2.1 0) p.2.2)::Ej bs ps
def aU.tm (S:aU) (fb:Nat) (bs:List Nat) (vs:List KV):bN:=oD (aei fb bs S.eE vs++Ej bs S.aeg)
def aU.LD (S:aU) (fb:Nat) (bs:List Nat) (rs:List (List KV)):List (List KV):=aej (fb+qG S.eE) bs S.rows rs
def wQ (A:aC):List la->aC
 | []=>A
 | p::ps=>wQ (A.new p) ps
def DL (A:aC):List (Option Nat)->aC
 | []=>A
 | some f::fs=>DL (A.put f .dead) fs
 | none::fs=>DL A fs
def rM (A:aC):List Nat->List (Tmp×List CD×Nat)->List (List KV)->aC
 | b::bs,p::ps,r::rs=>rM (A.put b (.row r p.2.2)) bs ps rs
 | _,_,_=>A
def aU.back (S:aU) (P:Program) (bs:List Nat) (fs:List (Option Nat)) (vs:List KV) (rs:List (List KV)) (A:aC):aC:=
 wQ (DL (rM A bs S.rows (S.LD A.next bs rs)) fs) (S.lens P vs rs)
def vi (A:aC):List (Tmp×List CD×Nat)->List (List KV)->aC
 | p::ps,r::rs=>vi (A.new (.row r p.2.2)) ps rs
 | _,_=>A
def aU.nr (S:aU):Nat:=S.rows.length
def upto:Nat->List Nat->List Nat
 | 0,l=>l
 | n+1,l=>upto n (n::l)
def aU.ids (S:aU):List Nat:=upto S.rows.length []
def aU.mem (S:aU) (P:Program) (vs:List KV) (rs:List (List KV)):aC:=wQ (vi .empty S.rows (S.LD S.nr S.ids rs)) (S.lens P vs rs)
def Ab:List Nat->List Nat->Bool
 | [],[]=>true
 | a::aw5,b::bs=>Nat.beq a b&&Ab aw5 bs
 | _,_=>false
def Dj (P:Program) (cfg:fW) (L n:Nat) (f:FuncId) (p:Nat) (body:Code) (S:aU) (vs:List KV) (rs:List (List KV)):Option (aq×List KV×List (List KV)):=
 uG P cfg (Nd P cfg L n) L f body (2 * p) (fun e t A=>
  Bool.rec (motive:=fun _=>Option (aq×List KV×List (List KV))) none (some (e,(S.gV P t A).vs,(S.gV P t A).rs)) (cond (Ab (S.gV P t A).bs S.ids) (S.gV P t A).ok false)) (S.tm S.nr S.ids vs) (S.mem P vs rs)
def yS:aq->Bool
 | .normal=>true
 | _=>false
def zd (rd:List KV->List (List KV)->Option (aq×List KV×List (List KV))):Nat->List KV->List (List KV)->Option (aq×List KV×List (List KV))
 | 0,_,_=>none
 | n+1,vs,rs=>match rd vs rs with
  | some (e,cP,oI)=>cond (yS e) (zd rd n cP oI) (some (e,cP,oI))
  | none=>none
inductive wR where
 | no
 | out (e:aq) (vs:List KV) (rs:List (List KV))
 | br (c:Bool) (x y:wR)
def wR.ev:wR->Option (aq×List KV×List (List KV))
 | .no=>none
 | .out e vs rs=>some (e,vs,rs)
 | .br c x y=>cond c x.ev y.ev
def wR.tell (P:Program) (S:aU) (bs:List Nat) (fs:List (Option Nat)) (A:aC):wR->Nc
 | .no=>.no
 | .out e vs rs=>.out e (S.tm A.next bs vs) (S.back P bs fs vs rs A)
 | .br c x y=>.br c (x.tell P S bs fs A) (y.tell P S bs fs A)
abbrev LFn:=List KV->List (List KV)->wR
def ave (P:Program) (S:aU) (F:LFn):bN->aC->Nc:=fun t A=>
 .br (S.gV P t A).ok ((F (S.gV P t A).vs (S.gV P t A).rs).tell P S (S.gV P t A).bs (S.gV P t A).fs A) .no
end
end Go.K
end
