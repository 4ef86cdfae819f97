/- Part of the proof of ImageWhole: the machine, shown to be the model's, and plain models. No conditions. -/
import Derived.Test.YtchbpckkmgcgkaaGreatDp
import Derived.LoopN
set_option linter.unusedSimpArgs false
set_option linter.unusedVariables false
section
namespace Go.K
open Go Go.aF
variable {P:Program} {E:Env}
theorem aak {cfg:ga} {all:List Oper} {b:List Nat} {i:Nat} {y:Oper} : ∀ (xs:List Oper) (k:Nat),Wm P cfg all b i y xs k=true->∀ (j:Nat) (x:Oper),xs[j]? = some x->k+j < i->Oc P cfg all x y=true->tF b i (k+j)=true\/(xR P cfg all x y=false/\(ad0 all (k+j) x i y).isSome=true)
 | [],k,_,j,x,hx,_,_=>by simp at hx
 | x0::xs,k,h,0,x,hx,bt,hc=>by
  simp at hx;subst hx;simp only [Wm,aD,uR,nD] at h;rcases h.1 with ((h1 | h1) | h1) | h1
  ·have:=gD h1; omega
  ·rw [hc] at h1; simp at h1
  ·exact .inl h1
  ·exact .inr h1
 | x0::xs,k,h,j+1,x,hx,bt,hc=>by
  simp only [Wm,aD] at h;have:=aak xs (k+1) h.2 j x (by simpa using hx) (by omega) hc;rwa [show k+1+j=k+(j+1) by omega] at this
theorem UA {cfg:ga} {all:List Oper} {b:List Nat} : ∀ (os:List Oper) (k:Nat),Po P cfg all b os k=true->∀ (i:Nat) (o:Oper),os[i]? = some o->Wm P cfg all b (k+i) o all 0=true
 | [],k,_,i,o,ho=>by simp at ho
 | o0::os,k,h,0,o,ho=>by
  simp at ho;subst ho;simp only [Po,aD] at h;exact h.1
 | o0::os,k,h,i+1,o,ho=>by
  simp only [Po,aD] at h;have:=UA os (k+1) h.2 i o (by simpa using ho);rwa [show k+1+i=k+(i+1) by omega] at this
theorem aal {cfg:ga} {all:List Oper} {b:List Nat} {i:Nat} {y:Oper} {p:Option Operand×Operand} : ∀ (xs:List Oper) (k j:Nat) (x:Oper),xs[j]? = some x->k+j < i->Oc P cfg all x y=true->tF b i (k+j)=false->ad0 all (k+j) x i y=some p->p∈Iu P cfg all b i y xs k
 | [],k,j,x,hx,_,_,_,_=>by simp at hx
 | x0::xs,k,0,x,hx,bt,hm,hb,he=>by
  simp at hx;subst hx;have h1:(Nat.ble i k||!Oc P cfg all x0 y||tF b i k)=false:=by
   rw [hm,show tF b i k=false from hb];cases h:Nat.ble i k with
   | false=>rfl
   | true=>have:=gD h; omega
  simp only [Iu];rw [h1,aw,show ad0 all k x0 i y=some p from he];exact Kh
 | x0::xs,k,j+1,x,hx,bt,hm,hb,he=>by
  have e:k+(j+1)=k+1+j:=by omega
  have:=aal (b:=b) (p:=p) xs (k+1) j x (by simpa using hx) (show k+1+j < i by omega) hm (by rw [<- e]; exact hb) (by rw [<- e]; exact he);simp only [Iu];cases (Nat.ble i k||!Oc P cfg all x0 y||tF b i k) with
  | true=>exact this
  | false=>
   rw [aw];split
   ·exact vV _ this
   ·exact this
theorem XL {cfg:ga} {all:List Oper} {b:List Nat} {p:Option Operand×Operand} : ∀ (os:List Oper) (k i:Nat) (y:Oper),os[i]? = some y->p∈Iu P cfg all b (k+i) y all 0->p∈acj P cfg all b os k
 | [],k,i,y,hy,_=>by simp at hy
 | o::os,k,0,y,hy,h=>by
  simp at hy;subst hy;exact List.mem_append_left _ h
 | o::os,k,i+1,y,hy,h=>by
  refine List.mem_append_right _ (XL os (k+1) i y (by simpa using hy) ?_);rwa [show k+1+i=k+(i+1) by omega]
structure XM (P:Program) (cfg:ga) (all:List Oper):Prop where
 reg:uX P all
 kind:∀ o∈all,ej (cf P cfg o.op)<=3
 ord:∀ i j x y,all[i]? = some y->all[j]? = some x->j < i->Oc P cfg all x y=true->tF (gb [] all) i j=true\/(xR P cfg all x y=false/\∃ p,ad0 all j x i y=some p/\p∈Od P cfg all)
 plain:∀ p,p∈Od P cfg all->YJ P cfg all=true
theorem am2 {cfg:ga} {all:List Oper} (h:amC P cfg all=true):XM P cfg all:=by
 unfold amC at h;simp only [aD] at h;refine ⟨I9 h.1.1.1,fun o ho=>gD (iu.1 h.1.1.2 o ho),fun i j x y hy hx bt hm=>?_,fun p hp=>?_⟩
 ·have:=UA all 0 h.1.2 i y hy
  rw [bh] at this;have:=aak all 0 this j x hx (by omega) hm;rw [bh] at this;cases hb:tF (gb [] all) i j with
  | true=>exact .inl rfl
  | false=>
   rcases this with h1 | ⟨h1,h2⟩
   ·rw [hb] at h1; simp at h1
   ·obtain ⟨p,hp⟩:=afO.1 h2
    refine .inr ⟨h1,p,hp,XL all 0 i y hy ?_⟩;rw [bh];exact aal all 0 j x hx (by omega) hm (by rw [bh]; exact hb) (by rw [bh]; exact hp)
 ·have h2:=h.2
  simp only [uR] at h2;rcases h2 with h2 | h2
  ·rw [List.isEmpty_iff] at h2
   rw [h2] at hp;simp at hp
  ·exact h2
structure ahj (P:Program) (cfg:ga) (all:List Oper):Prop where
 reg:uX P all
 I5:∀ {i j:Nat} {x y:Oper},all[i]? = some y->all[j]? = some x->j < i->xR P cfg all x y=true->tF (gb [] all) i j=true
theorem XM.toT {cfg:ga} {all:List Oper} (hf:XM P cfg all):ahj P cfg all:=⟨hf.reg,fun {i j x y} hy hx bt hc=>by
 rcases hf.ord i j x y hy hx bt (by unfold Oc; rw [hc]; rfl) with h | ⟨h,_⟩
 ·exact h
 ·rw [hc] at h; simp at h⟩
def aam (P:Program) (cfg:ga) (all:List Oper) (i:Nat):Prop:=∀ j q,all[j]? = some q->Nat.ble 3 (ej (cf P cfg q.op))=true->(j < i->tF (gb [] all) i j=true)/\(i < j->tF (gb [] all) j i=true)
theorem Ff {x y:Oper} {p:Option Operand×Operand} (h:Rl x y=some p):(∃ T,y.op = .load T p.2)/\((p.1=none/\Wl x.op=true)\/∃ T a v,p.1=some a/\x.op = .store T a v):=by
 unfold Rl at h;split at h
 ·rename_i a ha
  have hl:∃ T,y.op = .load T a:=by
   unfold apZ at ha;split at ha
   ·rename_i T a' e; simp at ha; subst ha; exact ⟨T,e⟩
   ·simp at ha
  cases hs:Wl x.op with
  | true=>
   rw [hs,ai] at h;simp at h;subst h;exact ⟨hl,.inl ⟨rfl,rfl⟩⟩
  | false=>
   rw [hs,aw] at h;split at h
   ·rename_i a2 ha2
    simp at h;subst h;refine ⟨hl,.inr ?_⟩;unfold Z7 at ha2;split at ha2
    ·rename_i T a3 v e; simp at ha2; subst ha2; exact ⟨T,_,v,rfl,e⟩
    ·simp at ha2
   ·simp at h
 ·simp at h
theorem ahk {all:List Oper} {i j:Nat} {x y:Oper} {p:Option Operand×Operand} (h:ad0 all j x i y=some p) :
  (Rl x y=some p/\zV i p.2 all 0=true/\Rj j p.1 all=true)\/(Rl y x=some p/\zV j p.2 all 0=true/\Rj i p.1 all=true):=by
 unfold ad0 at h;split at h
 ·rename_i q hq
  cases hb:(zV i q.2 all 0&&Rj j q.1 all) with
  | false=>rw [hb] at h; simp at h
  | true=>
   rw [hb,ai] at h;simp at h;subst h;simp only [aD] at hb;exact .inl ⟨hq,hb.1,hb.2⟩
 ·split at h
  ·rename_i q hq
   cases hb:(zV j q.2 all 0&&Rj i q.1 all) with
   | false=>rw [hb] at h; simp at h
   | true=>
    rw [hb,ai] at h;simp at h;subst h;simp only [aD] at hb;exact .inr ⟨hq,hb.1,hb.2⟩
  ·simp at h
theorem Lt {cfg:ga} {o:Oper} {T:TypeId} {a:Operand} (h:o.op = .load T a):ej (cf P cfg o.op)=1:=by rw [h]; rfl
theorem unordered {cfg:ga} {all:List Oper} (hf:XM P cfg all) {i j:Nat} {o q:Oper} (ho:all[i]? = some o) (hq:all[j]? = some q) (hk:ej (cf P cfg o.op)≠0) (h3:Nat.ble 3 (ej (cf P cfg q.op))=true) :
  ((j < i->tF (gb [] all) i j=true)/\(i < j->tF (gb [] all) j i=true))\/∃ p,p∈Od P cfg all/\Rl q o=some p/\zV i p.2 all 0=true/\Rj j p.1 all=true:=by
 have Ca:Nat.beq (ej (cf P cfg o.op)) 0=false:=by
  cases hb:Nat.beq (ej (cf P cfg o.op)) 0 with
  | false=>rfl
  | true=>exact absurd (bm hb) hk
 have hnl:∀ T a,q.op≠.load T a:=fun T a e=>by rw [Lt e] at h3; simp at h3
 rcases Nat.lt_trichotomy j i with h | h | h
 ·rcases hf.ord i j q o ho hq h (by unfold Oc; rw [h3,Ca]; simp) with h1 | ⟨_,p,h1,h2⟩
  ·exact .inl ⟨fun _=>h1,fun h'=>by omega⟩
  ·rcases ahk h1 with ⟨e1,e2,e3⟩ | ⟨e1,e2,e3⟩
   ·exact .inr ⟨p,h2,e1,e2,e3⟩
   ·obtain ⟨⟨T,e⟩,_⟩:=Ff e1
    exact absurd e (hnl _ _)
 ·exact .inl ⟨fun h'=>by omega,fun h'=>by omega⟩
 ·rcases hf.ord j i o q hq ho h (by unfold Oc; rw [h3,Ca]; simp) with h1 | ⟨_,p,h1,h2⟩
  ·exact .inl ⟨fun h'=>by omega,fun _=>h1⟩
  ·rcases ahk h1 with ⟨e1,e2,e3⟩ | ⟨e1,e2,e3⟩
   ·obtain ⟨⟨T,e⟩,_⟩:=Ff e1
    exact absurd e (hnl _ _)
   ·exact .inr ⟨p,h2,e1,e2,e3⟩
theorem UB {cfg:ga} {all:List Oper} (hf:XM P cfg all) {i:Nat} {o:Oper} (ho:all[i]? = some o) (hk:ej (cf P cfg o.op)≠0) (hn:∀ T a,o.op≠.load T a):aam P cfg all i:=fun j q hq h3=>by
 rcases unordered hf ho hq hk h3 with h | ⟨p,_,h,_⟩
 ·exact h
 ·obtain ⟨⟨T,e⟩,_⟩:=Ff h
  exact absurd e (hn _ _)
theorem GU {cfg:ga} {o:Oper} (h:ej (cf P cfg o.op)<=3):∀ f args,cf P cfg o.op≠.call f args:=by
 intro f args e;rw [e] at h;simp [ej] at h
theorem Fg {d:Tmp} {l:List Tmp} (h:d∈l):TY (some d) l=true:=by
 simp only [TY,List.any_eq_true];exact ⟨d,h,by simp⟩
theorem nE {x:Tmp} : ∀ {xs:List Operand},Operand.tmp x∈xs->x∈uU xs
 | [],h=>by simp at h
 | y::ys,h=>by
  rcases fp.1 h with h | h
  ·subst h; simp [uU]
  ·have:=nE h
   cases y <;> simp [uU,this]
section
variable {cfg:ga} {all:List Oper} {L:List Out} {t0:bL} {A0:aB}
theorem ahl (hf:ahj P cfg all) {S:Nat->Bool} (hc:ug all S) {i:Nat} {o:Oper} (ho:all[i]? = some o) (ti:S i=false) (wy:yK all S i) {y:Tmp} (hy:y∈qz P cfg all o) :
  (kd S all L 0 t0).get y=(kd (fun j=>Nat.blt j i) all L 0 t0).get y:=by
 refine oP rfl fun j q hq hd=>?_;rw [bh];rcases Nat.lt_trichotomy j i with h | h | h
 ·have:tF (gb [] all) i j=true:=hf.I5 ho hq h (by
   unfold xR;rw [hd,Fg hy];rfl)
  rw [hc.ready hf.reg ho wy j this]
  symm; rw [bZ]; exact h
 ·subst h
  rw [ti]
  symm
  cases hb:Nat.blt j j with
  | false=>rfl
  | true=>rw [bZ] at hb; omega
 ·have hb:tF (gb [] all) j i=true:=hf.I5 hq ho h (by
   unfold xR;rw [hd,Fg hy];simp)
  have:S j=false:=by
   cases hs:S j with
   | false=>rfl
   | true=>have:=hc j i hs hb; rw [ti] at this; simp at this
  rw [this]
  symm
  cases hbb:Nat.blt j i with
  | false=>rfl
  | true=>rw [bZ] at hbb; omega
theorem aan (hf:XM P cfg all) {S:Nat->Bool} (hc:ug all S) {i:Nat} {o:Oper} (ho:all[i]? = some o) (ti:S i=false) (wy:yK all S i) (jN:aam P cfg all i) :
  qE P cfg S all L 0 A0=qE P cfg (fun j=>Nat.blt j i) all L 0 A0:=by
 refine Nf fun j q x hq hx ht=>?_;rw [bh];have h3:Nat.ble 3 (ej (cf P cfg q.op))=true:=by unfold turns at ht; simp only [aD] at ht; exact ht.2
 rcases Nat.lt_trichotomy j i with h | h | h
 ·have:tF (gb [] all) i j=true:=(jN j q hq h3).1 h
  rw [hc.ready hf.reg ho wy j this]
  symm; rw [bZ]; exact h
 ·subst h
  rw [ti]
  symm
  cases hb:Nat.blt j j with
  | false=>rfl
  | true=>rw [bZ] at hb; omega
 ·have hb:tF (gb [] all) j i=true:=(jN j q hq h3).2 h
  have:S j=false:=by
   cases hs:S j with
   | false=>rfl
   | true=>have:=hc j i hs hb; rw [ti] at this; simp at this
  rw [this]
  symm
  cases hbb:Nat.blt j i with
  | false=>rfl
  | true=>rw [bZ] at hbb; omega
theorem PE (hf:ahj P cfg all) {S:Nat->Bool} (hc:ug all S) {i:Nat} {o:Oper} {x:Out} (ho:all[i]? = some o) (hx:L[i]? = some x) (ti:S i=false) (y:Tmp) :
  (kd (da S i) all L 0 t0).get y=(tI (kd S all L 0 t0) o.dst x.2.1).get y:=by
 rw [wH];by_cases hd:o.dst=some y
 ·rw [aV hd]
  have:=ahi (S:=S) (y:=y) (os:=all) (L:=L) (k:=0) (i:=i) (t:=t0) ho hx hd (fun j q hq hqd bt=>by
   rw [bh];have hb:tF (gb [] all) j i=true:=hf.I5 hq ho bt (by
    unfold xR;rw [hqd,hd];simp [ZM])
   cases hs:S j with
   | false=>rfl
   | true=>have:=hc j i hs hb; rw [ti] at this; simp at this)
  rw [bh] at this;exact this
 ·rw [ay hd]
  refine oP rfl fun j q hq hqd=>?_;rw [bh];have eY:j≠i:=by
   intro e;subst e;rw [ho] at hq;simp at hq;subst hq;exact hd hqd
  unfold da;have:Nat.beq j i=false:=by
   cases hb:Nat.beq j i with
   | false=>rfl
   | true=>exact absurd (bm hb) eY
  rw [this,Bool.or_false]
theorem Dh {S:Nat->Bool} {i:Nat} {o:Oper} {x:Out} (ho:all[i]? = some o) (hx:L[i]? = some x) (ht:turns P cfg o x=false):qE P cfg (da S i) all L 0 A0=qE P cfg S all L 0 A0:=by
 refine Nf fun j q y hq hy hty=>?_;rw [bh];have eY:j≠i:=by
  intro e;subst e;rw [ho] at hq; rw [hx] at hy;simp at hq hy;subst hq hy;rw [ht] at hty; simp at hty
 unfold da;have:Nat.beq j i=false:=by
  cases hb:Nat.beq j i with
  | false=>rfl
  | true=>exact absurd (bm hb) eY
 rw [this,Bool.or_false]
theorem am3 {i:Nat} {o:Oper} {x:Out} (ho:all[i]? = some o) (hx:L[i]? = some x) (ht:turns P cfg o x=true):qE P cfg (fun j=>Nat.blt j (i+1)) all L 0 A0=x.2.2:=by
 have key:∀ (os:List Oper) (L:List Out) (k i:Nat) (A:aB) (o:Oper) (x:Out),os[i]? = some o->L[i]? = some x->turns P cfg o x=true->qE P cfg (fun j=>Nat.blt j (k+i+1)) os L k A=x.2.2:=by
  intro os
  induction os with
  | nil=>intro L k i A o x ho; simp at ho
  | cons q os ih=>
   intro L k i A o x ho hx ht;cases L with
   | nil=>simp at hx
   | cons u L=>
    simp only [qE];have bt:Nat.blt k (k+i+1)=true:=by rw [bZ]; omega
    rw [bt,MU];cases i with
    | zero=>
     simp at ho hx;subst ho hx;rw [ht,ai];have:∀ (os:List Oper) (L:List Out) (m:Nat) (A:aB),k+1<=m->qE P cfg (fun j=>Nat.blt j (k+0+1)) os L m A=A:=by
      intro os
      induction os with
      | nil=>intro L m A _; cases L <;> rfl
      | cons q os ih=>
       intro L m A hm;cases L with
       | nil=>rfl
       | cons u L=>
        simp only [qE];have:Nat.blt m (k+0+1)=false:=by
         cases hb:Nat.blt m (k+0+1) with
         | false=>rfl
         | true=>rw [bZ] at hb; omega
        rw [this,vW,aw];exact ih L _ A (by omega)
     exact this os L (k+1) _ (aW _)
    | succ i=>
     have:=ih L (k+1) i (cond (turns P cfg q u) u.2.2 A) o x (by simpa using ho) (by simpa using hx) ht;rwa [show k+1+i+1=k+(i+1)+1 by omega] at this
 have:=key all L 0 i A0 o x ho hx ht;rwa [bh] at this
theorem aoX (hf:XM P cfg all) {S:Nat->Bool} (hc:ug all S) {i:Nat} {o:Oper} {x:Out} (ho:all[i]? = some o) (hx:L[i]? = some x) (ti:S i=false) (wy:yK all S i) (ht:turns P cfg o x=true) :
  qE P cfg (da S i) all L 0 A0=x.2.2:=by
 have h3:Nat.ble 3 (ej (cf P cfg o.op))=true:=by unfold turns at ht; simp only [aD] at ht; exact ht.2
 have hk:ej (cf P cfg o.op)≠0:=by have:=gD h3; omega
 have h1:qE P cfg (da S i) all L 0 A0=qE P cfg (fun j=>Nat.blt j (i+1)) all L 0 A0:=by
  refine Nf fun j q y hq hy hty=>?_;rw [bh];have hq3:Nat.ble 3 (ej (cf P cfg q.op))=true:=by unfold turns at hty; simp only [aD] at hty; exact hty.2
  have jN:aam P cfg all i:=UB hf ho hk fun T a e=>by rw [Lt e] at h3; simp at h3
  rcases Nat.lt_trichotomy j i with h | h | h
  ·have:tF (gb [] all) i j=true:=(jN j q hq hq3).1 h
   have:=hc.ready hf.reg ho wy j this;unfold da;rw [this,Bool.true_or]
   symm; rw [bZ]; omega
  ·subst h
   have:da S j j=true:=by simp [da]
   rw [this]
   symm; rw [bZ]; omega
  ·have hb:tF (gb [] all) j i=true:=(jN j q hq hq3).2 h
   have:S j=false:=by
    cases hs:S j with
    | false=>rfl
    | true=>have:=hc j i hs hb; rw [ti] at this; simp at this
   unfold da;have eY:Nat.beq j i=false:=by
    cases hb:Nat.beq j i with
    | false=>rfl
    | true=>have:=bm hb; omega
   rw [this,eY]
   symm
   cases hbb:Nat.blt j (i+1) with
   | false=>rfl
   | true=>rw [bZ] at hbb; omega
 rw [h1];exact am3 ho hx ht
end
theorem aje {all:List Oper} {o:Oper} {j:Nat} {want:Bool} {d:Tmp} (hg:o.guard=some (j,want)) (hd:(all[j]?).bind (·.dst)=some d):d∈KS all o:=by
 unfold KS;rw [hg];simp [hd]
theorem Iy {all:List Oper} {o:Oper} {t t1:bL} {wd:Bool} {N:Nat} {ρ:a7} {a:Act} (ht:nU P E ρ t N a) (hl:∀ y∈KS all o,t1.get y=t.get y) (h:RD all o t1 wd):Region.wanted o (yielded ⟨all⟩ a.tmps)=wd:=by
 rcases h with ⟨hg,rfl⟩ | ⟨j,want,d,hg,hd,h⟩
 ·unfold Region.wanted
  rw [hg]
 ·have B9:=hl d (aje hg hd)
  have CX:=ht.val d;unfold Region.wanted;rw [hg];simp only;unfold yielded;have e:(⟨all⟩:Array Oper)[j]? = all[j]?:=by simp
  rw [e,hd];simp only [gE];rcases h with ⟨b,h1,rfl⟩ | ⟨l,h1,rfl⟩
  ·rw [<- B9,h1] at CX
   have hcv:=CX.hX;cases hc:a.tmps[d]? with
   | none=>simp [ji,hc,undef] at hcv
   | some u=>
    have:u = .bool b:=by rw [<- hcv]; simp [ji,hc]
    subst this;rfl
  ·rw [<- B9,h1] at CX
   obtain ⟨u,h2,h3⟩:=CX;obtain ⟨m,rfl,_⟩:=h2.Um;obtain ⟨m',h4,_⟩:=h3.YB;cases hc:a.tmps[d]? with
   | none=>rfl
   | some u=>
    have:u = .tuple m':=by rw [<- h4]; simp [ji,hc]
    subst this;rfl
theorem UC {t t1:bL} {N:Nat} {ρ:a7} {a:Act} (ht:nU P E ρ t N a) {x:Operand} (h:∀ y,x = .tmp y->t1.get y=t.get y):VC P E ρ (nJ t1 x) (a.eval x):=by
 have:=ht.ev x;cases x with
 | tmp y=>simp only [nJ] at this ⊢; rw [h y rfl]; exact this
 | const v=>exact this
 | global g=>exact this
 | func f=>exact this
theorem am4 {cfg:ga} {o:Oper} {t:bL} {A A1 A' : aB} {v:KV} (h:ba (zk (cf P cfg o.op) t A) (v,A1)) (hk:ej (cf P cfg o.op)=0):ba (zk (cf P cfg o.op) t A') (v,A'):=by
 generalize cf P cfg o.op=ins at h hk;cases ins with
 | pure f xs=>obtain ⟨u,h1,h2⟩:=ba.map h; simp at h2; obtain ⟨rfl,_⟩:=h2; exact h1.Fe
 | read f xs=>simp [ej] at hk
 | act f xs=>simp [ej] at hk
 | look f xs=>obtain ⟨u,h1,h2⟩:=ba.map h; simp at h2; obtain ⟨rfl,_⟩:=h2; exact h1.Fe
 | GG g f xs=>obtain ⟨u,h1,h2⟩:=ba.map h; simp at h2; obtain ⟨rfl,_⟩:=h2; exact h1.Fe
 | Li g f xs=>simp [ej] at hk
 | call f xs=>exact h.elim
 | bad=>exact h.elim
theorem YQ {cfg:ga} {S:Nat->Bool} (h:∀ i,S i=false):∀ {os:List Oper} {L:List Out} {k:Nat} {A:aB},qE P cfg S os L k A=A
 | [],L,k,A=>by cases L <;> rfl
 | o::os,[],k,A=>rfl
 | o::os,x::L,k,A=>by simp only [qE]; rw [h,vW,aw]; exact YQ h
theorem RE {S:Nat->Bool} (h:∀ i,S i=false):∀ {os:List Oper} {L:List Out} {k:Nat} {t:bL},kd S os L k t=t
 | [],L,k,A=>by cases L <;> rfl
 | o::os,[],k,A=>rfl
 | o::os,x::L,k,A=>by simp only [kd]; rw [h,aw]; exact RE h
theorem asG {A:aB} {o:lg} {b:Nat} (hb:b < A.next) (cs:List KV) (e:Nat):A.get b=some (.row cs e)↔(A.new o).get b=some (.row cs e):=by
 rw [aB.dQ,ay (by omega)]
theorem UD {A:aB} {o:lg} {b c:Nat} (h:b≠c\/((∀ cs e,A.get b≠some (.row cs e))/\∀ cs e,o≠.row cs e)) (cs:List KV) (e:Nat):A.get b=some (.row cs e)↔(A.put c o).get b=some (.row cs e):=by
 rw [aB.cr];by_cases hbc:b=c
 ·rw [aV hbc]
  rcases h with h | ⟨h1,h2⟩
  ·exact absurd hbc h
  ·exact ⟨fun q=>absurd q (h1 _ _),fun q=>absurd (by simpa using q) (h2 cs e)⟩
 ·rw [ay hbc]
def XN (A A' : aB):Prop:=A.next<=A'.next/\∀ b,b < A.next->∀ cs e,A.get b=some (.row cs e)↔A'.get b=some (.row cs e)
theorem KY {A:aB} {o:lg} : XN A (A.new o):=⟨by simp,fun _ hb cs e=>asG hb cs e⟩
theorem Wr {A:aB} {c:Nat} {o o' : lg} (hc:A.get c=some o') (h' : ∀ cs e,o'≠.row cs e) (h:∀ cs e,o≠.row cs e):XN A (A.put c o):=⟨by simp,fun b _ cs e=>by
 by_cases hbc:b=c
 ·subst hbc
  exact UD (.inr ⟨fun cs e q=>by rw [hc] at q; simp at q; exact h' cs e q,h⟩) cs e
 ·exact UD (.inl hbc) cs e⟩
theorem XN.trans {A B C:aB} (h:XN A B) (k:XN B C):XN A C:=⟨uO h.1 k.1,fun b hb cs e=>(h.2 b hb cs e).trans (k.2 b (uQ hb h.1) cs e)⟩
theorem RF {e sz b n f m:Nat} {base new:List KV} {ab an:Nat->KV} {A A' : aB} {v:KV} {more:Bool} (h:ba (Z5 e sz b n base ab A f m new an more) (v,A')):A' = A.put f (.aZ (n+m) sz):=by
 obtain ⟨_,h⟩:=ba.nI h;simp only [gF] at h;exact h.2.symm
theorem aao {e b n m:Nat} {base new:List KV} {ab an:Nat->KV} {A A' : aB} {v:KV} {more:Bool} (h:ba (afZ e b n base ab A m new an more) (v,A')):∃ o,A' = A.new (.arr o):=by
 obtain ⟨_,h⟩:=ba.nI h;simp only [gF] at h;exact ⟨_,h.2.symm⟩
theorem alo {e sz b:Nat} {A A' : aB} {xs:List KV} {v:KV} (h:ba (Uh e sz b A xs) (v,A')):XN A A':=by
 unfold Uh at h;split at h
 ·obtain ⟨_,h⟩:=ba.cond h
  rw [RF h];exact KY.trans (Wr (o':=.aZ 0 sz) (by simp) (by simp) (by simp))
 ·obtain ⟨_,h⟩:=ba.cond h
  rw [RF h];exact KY.trans (Wr (o':=.aZ 0 sz) (by simp) (by simp) (by simp))
 ·split at h
  ·rename_i hf
   obtain ⟨_,h⟩:=ba.cond h;rw [RF h];exact Wr hf (by simp) (by simp)
  ·exact h.elim
 ·exact h.elim
theorem XO {e b:Nat} {A A' : aB} {xs:List KV} {v:KV} (h:ba (KW e b A xs) (v,A')):XN A A':=by
 unfold KW at h;split at h
 ·obtain ⟨_,h⟩:=ba.cond h
  obtain ⟨o,rfl⟩:=aao h;exact KY
 ·split at h
  ·rename_i hf
   obtain ⟨_,h⟩:=ba.cond h;obtain ⟨o,rfl⟩:=aao h;exact (Wr hf (by simp) (by simp)).trans KY
  ·exact h.elim
 ·exact h.elim
theorem ajf {e sz b:Nat} {mt:Bool} {A A' : aB} {xs:List KV} {v:KV} (h:ba (Pm e sz b mt A xs) (v,A')):XN A A':=by
 unfold Pm at h;split at h
 ·split at h
  ·rename_i y' _
   revert h
   cases asq _ with
   | true=>exact fun h=>XO h
   | false=>
    cases mt with
    | true=>exact fun h=>XO h
    | false=>exact fun h=>alo h
  ·exact h.elim
 ·exact h.elim
theorem aq9 {c:Bool} {i:uY} {t:bL} {A:aB} {x:KV×aB} (h:ba (zk (cond c i .bad) t A) x):ba (zk i t A) x:=by
 cases c with
 | true=>exact h
 | false=>exact h.elim
theorem ahm {cfg:ga} {o:Oper} {t:bL} {A A' : aB} {v:KV} (hs:Wl o.op=true) (h:ba (zk (cf P cfg o.op) t A) (v,A')):XN A A':=by
 revert hs h
 cases hop:o.op <;> intro hs h <;> simp [Wl] at hs
 ·rename_i T
  have h:ba (zk (tj P T) t A) (v,A'):=h;unfold tj at h;split at h
  ·rename_i z _
   cases hb:(flat z&&z.cells.toList.all scalar&&jy (iR z).cells) with
   | false=>rw [hb] at h; exact h.elim
   | true=>
    rw [hb,ai] at h;have h:(KV.ptr A.next 0,A.new (.row (iR z).cells (rz P T)))=(v,A'):=h;simp only [gF] at h;rw [<- h.2];exact KY
  ·exact h.elim
 ·rename_i T x
  have h:ba (Ir (rz P T) A [nJ t x]) (v,A'):=h;unfold Ir at h;simp only at h;obtain ⟨_,h⟩:=ba.cond h;have h:(KV.ptr A.next 0,A.new (.row (nJ t x).cells (rz P T)))=(v,A'):=h;simp only [gF] at h;rw [<- h.2];exact KY
 ·rename_i c
  split at hs
  ·rename_i hc
   have h:ba (zk (oM P cfg c) t A) (v,A'):=h;unfold oM at h;rw [hc] at h;simp only [E8] at h;unfold M6 at h;split at h
   ·split at h
    ·split at h
     ·split at h
      ·exact ajf (aq9 h)
      ·exact h.elim
     ·exact h.elim
    ·exact h.elim
   ·exact h.elim
  ·simp at hs
theorem aed {cfg:ga} {o:Oper} {T:TypeId} {a x:Operand} {t:bL} {A A' : aB} {v:KV} (ho:o.op = .store T a x) (h:ba (zk (cf P cfg o.op) t A) (v,A')) :
  A'.next=A.next/\∀ b,((∃ b2 off,nJ t a = .ptr b2 off/\b≠b2)\/∃ U Tc c i k,nJ t a = .ap U Tc c i k)->∀ cs e,A.get b=some (.row cs e)↔A'.get b=some (.row cs e):=by
 rw [ho] at h;have h:ba (Z3 P T A [nJ t a,nJ t x]) (v,A'):=h;unfold Z3 at h;split at h
 ·rename_i c off w heq
  simp only [List.cons.injEq,and_true] at heq;obtain ⟨_,h⟩:=ba.cond h;split at h
  ·split at h
   ·have h:(vY,_)=(v,A'):=h
    simp only [gF] at h;rw [<- h.2];refine ⟨rfl,fun b hb cs e=>UD (.inl ?_) cs e⟩;rcases hb with ⟨b2,asD,h1,h2⟩ | ⟨U,Tc,c',i,k,h1⟩
    ·rw [heq.1] at h1; simp at h1; rw [h1.1]; exact h2
    ·rw [heq.1] at h1; simp at h1
   ·exact h.elim
  ·exact h.elim
 ·rename_i U Tc c i k w heq
  split at h
  ·rename_i hA
   obtain ⟨_,h⟩:=ba.cond h;split at h
   ·have h:(vY,_)=(v,A'):=h
    simp only [gF] at h;rw [<- h.2];refine ⟨rfl,fun b _ cs e=>?_⟩;by_cases hbc:b=c
    ·subst hbc
     exact UD (.inr ⟨fun cs e q=>by rw [hA] at q; simp at q,by simp⟩) cs e
    ·exact UD (.inl hbc) cs e
   ·exact h.elim
  ·exact h.elim
 ·exact h.elim
theorem YR {t:bL} {nx:Nat} : ∀ {l:List (Option Operand×Operand)},YI t nx l=true->∀ p∈l,Pn t nx p=true
 | [],_,p,hp=>by simp at hp
 | q::l,h,p,hp=>by
  have h:Bool.rec (motive:=fun _=>Bool) false (YI t nx l) (Pn t nx q)=true:=h;cases hq:Pn t nx q with
  | false=>rw [hq] at h; simp at h
  | true=>
   rw [hq] at h;rcases fp.1 hp with rfl | hp
   ·exact hq
   ·exact YR h p hp
theorem aee {i:Nat} {x:Tmp} : ∀ (os:List Oper) (k:Nat),zV i (.tmp x) os k=true->∀ j o,os[j]? = some o->i<=k+j->o.dst≠some x
 | [],k,_,j,o,ho,_=>by simp at ho
 | q::os,k,h,0,o,ho,hle=>by
  simp at ho;subst ho;simp only [zV,aD,uR,nD] at h;rcases h.1 with h1 | h1
  ·rw [bZ] at h1; omega
  ·intro e
   rw [e,Fg (by simp [uU])] at h1;simp at h1
 | q::os,k,h,j+1,o,ho,hle=>by
  simp only [zV,aD] at h;exact aee os (k+1) h.2 j o (by simpa using ho) (by omega)
section
variable {cfg:ga} {all:List Oper} {L:List Out} {t0:bL} {A0:aB}
theorem alp {tn t1:bL} {i:Nat} {x:Operand} (WU:∀ y,tn.get y=(kd (fun _=>true) all L 0 t0).get y) (Cd:∀ y,t1.get y=(kd (fun j=>Nat.blt j i) all L 0 t0).get y) (h:zV i x all 0=true):nJ tn x=nJ t1 x:=by
 cases x with
 | tmp y=>
  simp only [nJ];rw [WU y,Cd y,oP (S':=fun j=>Nat.blt j i) rfl fun j o ho hd=>?_];rw [bh]
  symm
  rw [bZ];refine Nat.lt_of_not_le fun hle=>?_;exact aee all 0 h j o ho (by omega) hd
 | const v=>rfl
 | global g=>rfl
 | func f=>rfl
theorem am5 (j:Nat):(∃ q x,all[j]? = some q/\L[j]? = some x/\turns P cfg q x=true/\qE P cfg (fun k=>Nat.blt k (j+1)) all L 0 A0=x.2.2)\/
  ((∀ q x,all[j]? = some q->L[j]? = some x->turns P cfg q x=false)/\qE P cfg (fun k=>Nat.blt k (j+1)) all L 0 A0=qE P cfg (fun k=>Nat.blt k j) all L 0 A0):=by
 by_cases h:∃ q x,all[j]? = some q/\L[j]? = some x/\turns P cfg q x=true
 ·obtain ⟨q,x,h1,h2,h3⟩:=h
  refine .inl ⟨q,x,h1,h2,h3,?_⟩;have:=am3 (A0:=A0) h1 h2 h3;exact this
 ·have hn:∀ q x,all[j]? = some q->L[j]? = some x->turns P cfg q x=false:=fun q x h1 h2=>by
   cases ht:turns P cfg q x with
   | false=>rfl
   | true=>exact absurd ⟨q,x,h1,h2,ht⟩ h
  refine .inr ⟨hn,Nf fun k q x hq hx ht=>?_⟩;rw [bh];have eY:k≠j:=fun e=>by subst e; rw [hn q x hq hx] at ht; simp at ht
  cases hb:Nat.blt k j with
  | true=>rw [bZ] at hb ⊢; omega
  | false=>
   cases vy:Nat.blt k (j+1) with
   | false=>rfl
   | true=>
    rw [bZ] at vy;have : ¬ k < j:=fun h=>by rw [<- bZ,hb] at h; simp at h
    omega
theorem aef (hf:XM P cfg all) {S:Nat->Bool} (hc:ug all S):∀ n,∃ m,m<=n/\∀ j q x,j < n->all[j]? = some q->L[j]? = some x->turns P cfg q x=true->S j=Nat.blt j m
 | 0=>⟨0,aW 0,fun j q x hj=>by omega⟩
 | n+1=>by
  obtain ⟨m,hm,h⟩:=aef hf hc n;by_cases hn:∃ q x,all[n]? = some q/\L[n]? = some x/\turns P cfg q x=true/\S n=true
  ·obtain ⟨q,x,h1,h2,h3,h4⟩:=hn
   have hq3:Nat.ble 3 (ej (cf P cfg q.op))=true:=by unfold turns at h3; simp only [aD] at h3; exact h3.2
   have hk:ej (cf P cfg q.op)≠0:=by have:=gD hq3; omega
   have jN:=UB hf h1 hk fun T a e=>by rw [Lt e] at hq3; simp at hq3
   refine ⟨n+1,aW _,fun j q' x' hj h5 h6 h7=>?_⟩;have hb:Nat.blt j (n+1)=true:=by rw [bZ]; exact hj
   rw [hb];by_cases hjn:j=n
   ·subst hjn; exact h4
   ·have awv:Nat.ble 3 (ej (cf P cfg q'.op))=true:=by unfold turns at h7; simp only [aD] at h7; exact h7.2
    exact hc n j h4 ((jN j q' h5 awv).1 (by omega))
  ·refine ⟨m,by omega,fun j q x hj h5 h6 h7=>?_⟩
   by_cases hjn:j=n
   ·subst hjn
    have hb:Nat.blt j m=false:=by
     cases hb:Nat.blt j m with
     | false=>rfl
     | true=>rw [bZ] at hb; omega
    rw [hb];cases hs:S j with
    | false=>rfl
    | true=>exact absurd ⟨q,x,h5,h6,h7,hs⟩ hn
   ·exact h j q x (by omega) h5 h6 h7
theorem ara (hf:XM P cfg all) {S:Nat->Bool} (hc:ug all S):∃ m,(∀ j q x,all[j]? = some q->L[j]? = some x->turns P cfg q x=true->S j=Nat.blt j m)/\qE P cfg S all L 0 A0=qE P cfg (fun j=>Nat.blt j m) all L 0 A0:=by
 obtain ⟨m,_,h⟩:=aef (L:=L) hf hc all.length;have h' : ∀ j q x,all[j]? = some q->L[j]? = some x->turns P cfg q x=true->S j=Nat.blt j m:=fun j q x h1 h2 h3=>h j q x (dD.1 h1).1 h1 h2 h3;exact ⟨m,h',Nf fun j q x h1 h2 h3=>by rw [bh]; exact h' j q x h1 h2 h3⟩
def AtK (P:Program) (cfg:ga) (all:List Oper) (L:List Out) (t0:bL) (A0:aB):Prop:=∀ i o x,all[i]? = some o->L[i]? = some x->∃ t1,(∀ y,t1.get y=(kd (fun j=>Nat.blt j i) all L 0 t0).get y)/\(x.1=true->ba (zk (cf P cfg o.op) t1 (qE P cfg (fun j=>Nat.blt j i) all L 0 A0)) (x.2.1,x.2.2))
theorem am6 (EV:AtK P cfg all L t0 A0) (hpl:YJ P cfg all=true):∀ j,A0.next<=(qE P cfg (fun k=>Nat.blt k j) all L 0 A0).next
 | 0=>by rw [YQ (fun i=>by
   cases hb:Nat.blt i 0 with
   | false=>rfl
   | true=>rw [bZ] at hb; omega)]; exact aW _
 | j+1=>by
  have ih:=am6 EV hpl j;rcases am5 (P:=P) (cfg:=cfg) (all:=all) (L:=L) (A0:=A0) j with ⟨q,x,h1,h2,h3,h4⟩ | ⟨_,h4⟩
  ·rw [h4]
   obtain ⟨t1,_,hg⟩:=EV j q x h1 h2;unfold turns at h3;simp only [aD] at h3;have hg:=hg h3.1;have hp:=iu.1 hpl q (jj h1);simp only [uR,h3.2,jk,xI,false_or] at hp;rcases hp with hp | hp
   ·exact uO ih (ahm hp hg).1
   ·obtain ⟨a2,ha2⟩:=afO.1 hp
    unfold Z7 at ha2;split at ha2
    ·rename_i T a3 v e
     rw [(aed e hg).1]; exact ih
    ·simp at ha2
  ·rw [h4]; exact ih
theorem am7 (hf:XM P cfg all) {S:Nat->Bool} (hc:ug all S) {i:Nat} {o:Oper} {T:TypeId} {a:Operand} (ho:all[i]? = some o) (I8:o.op = .load T a) (ti:S i=false) (wy:yK all S i) (hns : ¬ aam P cfg all i)
  (EV:AtK P cfg all L t0 A0) {tn:bL} (WU:∀ y,tn.get y=(kd (fun _=>true) all L 0 t0).get y) (aqi:YI tn A0.next (Od P cfg all)=true)
  {t1:bL} (Cd:∀ y,t1.get y=(kd (fun j=>Nat.blt j i) all L 0 t0).get y) {v:KV} {A1:aB} (hg:ba (zk (cf P cfg o.op) t1 (qE P cfg (fun j=>Nat.blt j i) all L 0 A0)) (v,A1)) :
  ba (zk (cf P cfg o.op) t1 (qE P cfg S all L 0 A0)) (v,qE P cfg S all L 0 A0):=by
 have hk:ej (cf P cfg o.op)≠0:=by rw [Lt I8]; simp
 have hex:∃ p,p∈Od P cfg all/\p.2=a/\zV i a all 0=true:=by
  refine Classical.byContradiction fun eY=>hns fun j q hq h3=>?_;rcases unordered hf ho hq hk h3 with h | ⟨p,h1,h2,h3,_⟩
  ·exact h
  ·obtain ⟨⟨T',e⟩,_⟩:=Ff h2
   rw [I8] at e;simp only [Op.load.injEq] at e;exact absurd ⟨p,h1,e.2.symm,by rw [e.2]; exact h3⟩ eY
 obtain ⟨p,hp,hpa,hnd⟩:=hex;have CX:=alp WU Cd hnd;have hpd:=YR aqi p hp;have hpl:=hf.plain p hp;rw [I8] at hg ⊢;have aww:∀ A,zk (cf P cfg (.load T a)) t1 A=(ace P T A [nJ t1 a]).map fun v=>(v,A):=fun _=>rfl;rw [aww] at hg ⊢;obtain ⟨u,hg2,he⟩:=ba.map hg;simp only [gF] at he;obtain ⟨rfl,_⟩:=he;clear hg;have hg:=hg2;clear hg2;refine ba.Fe (f:=fun v=>(v,qE P cfg S all L 0 A0)) ?_;unfold Pn at hpd;rw [hpa,CX] at hpd;cases hv:nJ t1 a with
 | tp U Tc m k es acc=>rw [hv] at hg; exact hg
 | ptr b off=>
  rw [hv] at hg hpd;simp only [aD] at hpd;have hb:=hpd.1;rw [bZ] at hb;have lD:∃ cs e,(qE P cfg (fun j=>Nat.blt j i) all L 0 A0).get b=some (.row cs e):=by
   have hg:ba (match ZG P T,size? P T with
    | some ag,some n=>match (K.rowAt (qE P cfg (fun j=>Nat.blt j i) all L 0 A0) b).bind fun cs=>zT n (GH off cs) with
     | some l=>cond ag (.ok (.agg l)) (match l with | [v]=>.ok v | _=>.no)
     | none=>.no
    | _,_=>.no) u:=hg
   split at hg
   ·split at hg
    ·rename_i l hl
     obtain ⟨cs,h1,_⟩:=dr.1 hl;unfold K.rowAt at h1;split at h1
     ·rename_i cm e h2; exact ⟨cm,e,h2⟩
     ·simp at h1
    ·exact hg.elim
   ·exact hg.elim
  obtain ⟨cs,e,lD⟩:=lD;obtain ⟨m,hm,jN⟩:=ara (L:=L) (A0:=A0) hf hc;have step:∀ k,(∀ q x,all[k]? = some q->L[k]? = some x->turns P cfg q x=true->¬ ((k < i->tF (gb [] all) i k=true)/\(i < k->tF (gb [] all) k i=true)))->
    ((qE P cfg (fun j=>Nat.blt j k) all L 0 A0).get b=some (.row cs e)↔(qE P cfg (fun j=>Nat.blt j (k+1)) all L 0 A0).get b=some (.row cs e)):=by
   intro k RG;rcases am5 (P:=P) (cfg:=cfg) (all:=all) (L:=L) (A0:=A0) k with ⟨q,x,h1,h2,h3,h4⟩ | ⟨_,h4⟩
   ·rw [h4]
    have h3':=h3;unfold turns at h3';simp only [aD] at h3';rcases unordered hf ho h1 hk h3'.2 with h5 | ⟨p',h5,h6,h7,h8⟩
    ·exact absurd h5 (RG q x h1 h2 h3)
    ·obtain ⟨tk,htk,hgk⟩:=EV k q x h1 h2
     have hgk:=hgk h3'.1;obtain ⟨⟨T',e1⟩,e2⟩:=Ff h6;rw [I8] at e1;simp only [Op.load.injEq] at e1;have am8:=YR aqi p' h5;unfold Pn at am8;rw [<- e1.2,CX,hv] at am8;simp only [aD] at am8;rcases e2 with ⟨e2,e3⟩ | ⟨U,a2,v2,e2,e3⟩
     ·exact (ahm e3 hgk).2 b (uQ hb (am6 EV hpl k)) cs e
     ·refine (aed e3 hgk).2 b ?_ cs e
      rw [e2] at am8 h8;have N7:=alp WU htk h8;have h9:=am8.2;simp only at h9;rw [N7] at h9;split at h9
      ·rename_i b2 asD e4
       refine .inl ⟨b2,asD,e4,fun e5=>?_⟩;subst e5;simp at h9
      ·rename_i U' Tc' c' i' k' e4; exact .inr ⟨_,_,_,_,_,e4⟩
      ·simp at h9
   ·rw [h4]
  have avH:(qE P cfg S all L 0 A0).get b=some (.row cs e):=by
   rw [jN];rcases Nat.le_total m i with hle | hle
   ·have down:∀ d k,k+d=i->m<=k->(qE P cfg (fun j=>Nat.blt j k) all L 0 A0).get b=some (.row cs e):=by
     intro d
     induction d with
     | zero=>intro k hk _; have:k=i:=by omega
             rw [this]; exact lD
     | succ d ih=>
      intro k hk hmk;refine (step k fun q x h1 h2 h3 PF=>?_).2 (ih (k+1) (by omega) (by omega));have h4:=hm k q x h1 h2 h3;have h5:S k=true:=hc.ready hf.reg ho wy k (PF.1 (by omega));rw [h5] at h4;have h4:=h4.symm;rw [bZ] at h4;omega
    exact down (i - m) m (by omega) (aW m)
   ·have up:∀ d,i+d<=m->(qE P cfg (fun j=>Nat.blt j (i+d)) all L 0 A0).get b=some (.row cs e):=by
     intro d
     induction d with
     | zero=>intro _; exact lD
     | succ d ih=>
      intro hd;refine (step (i+d) fun q x h1 h2 h3 PF=>?_).1 (ih (by omega));have h4:=hm (i+d) q x h1 h2 h3;have h5:Nat.blt (i+d) m=true:=by rw [bZ]; omega
      rw [h5] at h4;by_cases hd0:d=0
      ·subst hd0
       rw [zh] at h4;rw [ti] at h4; simp at h4
      ·have:=hc (i+d) i h4 (PF.2 (by omega))
       rw [ti] at this; simp at this
    have:=up (m - i) (by omega);rwa [show i+(m - i)=m by omega] at this
  have B9:K.rowAt (qE P cfg S all L 0 A0) b=K.rowAt (qE P cfg (fun j=>Nat.blt j i) all L 0 A0) b:=by
   unfold K.rowAt;rw [lD,avH]
  show ba (match ZG P T,size? P T with
    | some ag,some n=>match (K.rowAt (qE P cfg S all L 0 A0) b).bind fun cs=>zT n (GH off cs) with
     | some l=>cond ag (.ok (.agg l)) (match l with | [v]=>.ok v | _=>.no)
     | none=>.no
    | _,_=>.no) u
  rw [B9];exact hg
 | _=>rw [hv] at hpd; simp at hpd
end
theorem ajg {R:Type} {cfg:ga} {bJ:qI R} (je:vO P cfg.pc) (hm:P.follows .mixedOrders=true) {id:Nat} {all:List Oper} {N base:Nat} (hdN:all.all (N5 N)=true) {k:bL->aB->Option R} {r:R} {t:bL} {A:aB} {B:St} {ρ:a7} {a:Act} {w:World} {Q:Exit->Act->World->Prop}
  (PF:amC P cfg all=true) (h:xA P cfg bJ all (fun t' A'=>Bool.rec (motive:=fun _=>Option R) none (k t' A') (YI t' A.next (Od P cfg all))) all t A=some r) (ht:nU P E ρ t N a) (hj:KJ P E A B ρ base w)
  (hq:∀ t' E' A' B' a8 a' w',k t' A' = some r->nU P E' a8 t' N a'->a'.defers=a.defers->Ev P base E A B ρ w E' A' B' a8 w'->Q .normal a' w'):(Code.region id ⟨all⟩ true).wp P Q a w:=by
 have hf:=am2 PF;obtain ⟨L,tn,An,qh,hk⟩:=aaj (fun o ho f args=>GU (hf.kind o ho) f args) h;obtain ⟨hlen,WU,hAn,EV⟩:=qh.at;have hdk:YI tn A.next (Od P cfg all)=true/\k tn An=some r:=by
  cases hd:YI tn A.next (Od P cfg all) with
  | false=>simp only [hd] at hk; exact absurd hk (by simp)
  | true=>simp only [hd] at hk; exact ⟨rfl,hk⟩
 obtain ⟨aqi,hk⟩:=hdk;have awx:AtK P cfg all L t A:=fun i o x ho hx=>by obtain ⟨t1,q1,_,q3,_⟩:=EV i o x ho hx; exact ⟨t1,q1,q3⟩
 have UE:Ev P base E A B ρ w E A B ρ w.drew:=(eX.refl hj.k).ev (pw.drew hj.s);refine wp_region_any hm ?_;show wpAny P .any ⟨all⟩ Q all.length (Array.replicate all.length false) a w.drew;have Jc:∀ i,(Array.replicate all.length false).getD i false=false:=by
  intro i;rw [ji,Array.getElem?_replicate];split <;> rfl
 let Inv:(Nat->Bool)->Act->World->Prop:=fun S a' w'=>∃ E' B' a8,a'.defers=a.defers/\Ev P base E A B ρ w.drew E' (qE P cfg S all L 0 A) B' a8 w'/\nU P E' a8 (kd S all L 0 t) N a'
 refine Kl hf.reg Inv ?_ ?_ ?_ all.length _ a w.drew (by simp) ?_ (fun i j hi _=>by
   have h2:(Array.replicate all.length false).getD i false=true:=hi;rw [Jc] at h2; simp at h2) ⟨E,B,ρ,rfl,?_,?_⟩
 ·
  rintro S S' a' w' hSS ⟨E',B',a8,h1,h2,h3⟩;have e1:qE P cfg S all L 0 A=qE P cfg S' all L 0 A:=Nf fun i o x ho _ _=>by rw [bh]; exact hSS i (dD.1 ho).1
  refine ⟨E',B',a8,h1,by rw [<- e1]; exact h2,h3.same fun y=>?_⟩;exact oP rfl fun i o ho _=>by rw [bh]; exact (hSS i (dD.1 ho).1).symm
 ·
  rintro S a' w' i o ⟨E',B',a8,h1,h2,h3⟩ hc ho ti wy _;have hi:i < L.length:=by rw [hlen]; exact (dD.1 ho).1
  have hx:L[i]? = some L[i]:=dF hi;obtain ⟨t1,Cd,hw,am9,RG⟩:=EV i o L[i] ho hx;have DG:∀ y∈qz P cfg all o,t1.get y=(kd S all L 0 t).get y:=fun y hy=>by rw [Cd y,ahl hf.toT hc ho ti wy hy]
  have RH:=Iy h3 (fun y hy=>DG y (by unfold qz; exact List.mem_append_left _ hy)) hw;have Ls:∀ d,o.dst=some d->d < N:=by
   intro d ed;have:=iu.1 hdN o (jj ho);unfold N5 at this;rw [ed] at this;simp only at this;rw [bZ] at this;exact this
  have hoA:(⟨all⟩:Array Oper)[i]? = some o:=by simpa using ho
  unfold wpOp;rw [hoA];simp only [RH];cases Kq:L[i].1 with
  | false=>
   simp only [xI,if_false];have hv:=RG Kq;refine ⟨E',B',a8,by rw [put_defers]; exact h1,?_,?_⟩
   ·rw [Dh ho hx (by unfold turns; rw [Kq]; rfl)]
    exact h2
   ·refine (h3.put Ls VC.undef).same fun y=>?_
    rw [PE hf.toT hc ho hx ti y,hv]
  | true=>
   simp only [if_true];refine .inl ?_;have hg:=am9 Kq;have hgS:∃ A1,ba (zk (cf P cfg o.op) t1 (qE P cfg S all L 0 A)) (L[i].2.1,A1)/\qE P cfg (da S i) all L 0 A=A1:=by
    by_cases MO:ej (cf P cfg o.op)=0
    ·refine ⟨_,am4 hg MO,Dh ho hx ?_⟩
     unfold turns;rw [MO,show Nat.ble 3 0=false from rfl,vX]
    ·by_cases jN:aam P cfg all i
     ·rw [aan (L:=L) (A0:=A) hf hc ho ti wy jN]
      refine ⟨_,hg,?_⟩;cases WU:turns P cfg o L[i] with
      | true=>exact aoX hf hc ho hx ti wy WU
      | false=>
       have h4:=GS hg (by simpa [turns,Kq] using WU);rw [Dh ho hx WU,aan (L:=L) (A0:=A) hf hc ho ti wy jN,h4]
     ·have hex:∃ T a,o.op = .load T a:=Classical.byContradiction fun eY=>jN (UB hf ho MO fun T a e=>eY ⟨T,a,e⟩)
      obtain ⟨T,a',I8⟩:=hex;refine ⟨_,am7 hf hc ho I8 ti wy jN awx WU aqi Cd hg,Dh ho hx ?_⟩;unfold turns;rw [Lt I8,show Nat.ble 3 1=false from rfl,vX]
   obtain ⟨A1,hg1,hA1⟩:=hgS;refine RA je hg1 (fun x hxm=>UC h3 fun y e=>DG y ?_) h2.kj fun PD RB zQ v' Pa h4 h5=>?_
   ·unfold qz
    subst e;exact List.mem_append_right _ (nE hxm)
   ·refine ⟨PD,RB,zQ,by rw [put_defers]; exact h1,?_,?_⟩
    ·rw [hA1]; exact h2.trans h5
    ·refine ((h3.mono h5.le (h5.gX.le h2.gX.kV)).put Ls h4).same fun y=>?_
     rw [PE hf.toT hc ho hx ti y]
 ·
  rintro S a' w' qD ⟨E',B',a8,h1,h2,h3⟩;have e1:qE P cfg S all L 0 A=An:=by rw [hAn]; exact Nf fun i o x ho _ _=>by rw [bh]; exact qD i (dD.1 ho).1
  rw [e1] at h2;refine hq tn E' An B' a8 a' w' hk (h3.same fun y=>?_) h1 (UE.trans h2);rw [WU y];exact oP rfl fun i o ho _=>by rw [bh]; exact (qD i (dD.1 ho).1).symm
 ·simp
 ·rw [YQ Jc]
  exact .refl hj.k UE.gX.kV
 ·refine ht.same fun y=>?_
  rw [RE Jc]
end Go.K
end
section
namespace Go.K
open Go Go.aF
variable {P:Program} {E:Env}
theorem awy {A:aB} {B:St} {cm:List Value} {cc:Nat} (h:gU P E A B):eX P E A B E A (B.new (.row cm cc true none)):=by
 have DD:∀ x,AR A E x->(B.new (.row cm cc true none)).get x=B.get x:=fun x q=>by have:=h.Nb q; rw [St.dQ,ay (by omega)]
 refine ⟨⟨?_,?_,?_,h.apart,h.inj,h.lT,h.oC,h.qJ,h.live,?_,?_,?_,?_,?_,h.ar.pF (Env.le_refl _) (fun _=>rfl) (fun _ _ e=>e) (fun _ _ e=>e) (aW _) (by simp) DD (fun _ _ e=>.inl e) (fun _ _ e=>.inl e) (fun b g e=>.inl ⟨b,e⟩) (fun _ _=>by simp) h.mem⟩,Env.le_refl _,aW _,?_,fun _ _ e=>.inl e,fun _ _ e=>.inl e,fun _ _ e=>.inl e,fun _ _ _ _=>by simp,fun _ q=>.inl q,fun _ q=>.inl (q.of (fun _=>rfl) (fun _ _ e=>e) DD),fun _ _ q=>.inl (by simpa using q),fun _ q=>.inl (q.of (fun _=>rfl) (fun _ _ e=>e) DD fun _ _=>by simp),qL ag1⟩
 ·intro b pE Ut hb
  obtain ⟨x,c,h1,h2,h3⟩:=h.row b pE Ut hb;have:=h.jd b x h1;exact ⟨x,c,h1,by rw [St.dQ,ay (by omega)]; exact h2,h3⟩
 ·intro b top Lo hb
  rcases h.aZ b top Lo hb with h1 | ⟨g,h1,hp0,h2⟩
  ·exact .inl h1
  ·refine .inr ⟨g,h1,hp0,fun x hx c e own f k hg=>?_⟩
   rw [St.dQ] at hg;split at hg
   ·simp at hg
   ·exact h2 x (by simpa using hx) c e own f k hg
 ·intro b r hb
  have:=h.rb b r hb;rw [St.dQ,ay (by omega)];exact h.z b r hb
 ·intro b x hb; have:=h.jd b x hb; rw [St.cD]; omega
 ·intro b r hb; have:=h.rb b r hb; rw [St.cD]; omega
 ·intro b g hb; have:=h.mM b g hb; rw [St.cD]; omega
 ·intro g hg; rw [St.cD] at hg; rw [St.oa]; exact h.fresh g (by omega)
 ·intro g x hx; rw [St.oa] at hx; rw [St.cD]; have:=h.mem g x hx; omega
 ·intro x hx _ _; rw [St.dQ,ay (by omega)]
structure Fr (E:Env) (A:aB) (B:St) (b0 y:Nat):Prop where
 lo:b0<=y
 hi:y < B.next
 un:∀ b,E.κ b≠some y
 z:E.z y=none
 far : ¬ AT A E B y
theorem Fr.step {A A' : aB} {B B' : St} {E' : Env} {b0 y base:Nat} {ρ a8:a7} {w w' : World} (h:Fr E A B b0 y) (k:Ev P base E A B ρ w E' A' B' a8 w'):Fr E' A' B' b0 y/\B'.get y=B.get y:=by
 have hn:=k.gX.next;refine ⟨⟨h.lo,uQ h.hi hn,fun b e=>?_,?_,fun q=>?_⟩,k.pF y h.hi h.un h.far⟩
 ·rcases k.new b y e with e | e
  ·exact h.un b e
  ·have:=h.hi; omega
 ·cases hz:E'.z y with
  | none=>rfl
  | some r=>
   rcases k.yp y r hz with e | e | e
   ·rw [h.z] at e; simp at e
   ·exact absurd (.inl e) h.far
   ·have:=h.hi; omega
 ·rcases k.r6 y q with e | e
  ·exact h.far e
  ·have:=h.hi; omega
theorem awz {E0:Env} {A0 A:aB} {B0 B:St} {ρ0 ρ a8:a7} {w0 w w' : World} {base y cc:Nat} {pE cm:List Value} (h:Ev P base E0 A0 B0 ρ0 w0 E A B ρ w) (hy:Fr E A B B0.next y) (hold:B.get y=some (.row pE cc true none))
  (g:pw base ρ B w a8 (B.put y (.row cm cc true none)) w'):Ev P base E0 A0 B0 ρ0 w0 E A (B.put y (.row cm cc true none)) a8 w':=by
 have hs:=h.kV;have DD:∀ x,AR A E x->(B.put y (.row cm cc true none)).get x=B.get x:=fun x q=>by
  rw [St.cr,ay];intro e;subst e;exact hy.far (.inl q)
 have Oh:∀ q,AF A E (B.put y (.row cm cc true none)) q->AF A E B q:=fun q r=>r.of (fun _=>rfl) (fun _ _ e=>e) DD;have hAT:∀ q,AT A E (B.put y (.row cm cc true none)) q->AT A E B q:=fun q r=>r.of (fun _=>rfl) (fun _ _ e=>e) DD fun _ _=>by simp
 refine ⟨⟨?_,?_,?_,hs.apart,hs.inj,hs.lT,hs.oC,hs.qJ,hs.live,hs.jd,hs.rb,hs.mM,?_,?_,hs.ar.pF (Env.le_refl _) (fun _=>rfl) (fun _ _ e=>e) (fun _ _ e=>e) (aW _) (aW _) DD (fun _ _ e=>.inl e) (fun _ _ e=>.inl e) (fun b g e=>.inl ⟨b,e⟩) (fun _ _=>by simp) hs.mem⟩,h.gX.trans g,h.le,h.next,?_,h.new,h.yp,h.yq,?_,h.qt,fun q r=>h.qK q (Oh q r),?_,fun q r=>h.r6 q (hAT q r),?_⟩
 ·intro b cs e hb
  obtain ⟨x,c,h1,h2,h3⟩:=hs.row b cs e hb;refine ⟨x,c,h1,?_,h3⟩;rw [St.cr,ay (fun e=>hy.un b (by rw [<- e]; exact h1))];exact h2
 ·intro b top sz hb
  rcases hs.aZ b top sz hb with h1 | ⟨q,h1,hp0,h2⟩
  ·exact .inl h1
  ·refine .inr ⟨q,h1,hp0,fun x hx c e own f k hg=>?_⟩
   rw [St.cr] at hg;split at hg
   ·simp at hg
   ·exact h2 x (by simpa using hx) c e own f k hg
 ·intro b r hb
  rw [St.cr,ay]
  ·exact hs.z b r hb
  ·intro e
   subst e;rw [hy.z] at hb;simp at hb
 ·intro q hq; rw [St.xK]; exact hs.fresh q hq
 ·intro q x hx; rw [St.xK] at hx; exact hs.mem q x hx
 ·intro x hx hn ha
  rw [St.cr,ay (fun e=>by have:=hy.lo; omega)];exact h.pF x hx hn ha
 ·intro q hq hn ha; rw [St.xK]; exact h.uz q hq hn ha
 ·intro q x hx; rw [St.xK] at hx; exact h.zX q x hx
 ·intro x hx c e own bV hg
  rw [St.cr,ay (fun e=>by have:=hy.lo; omega)] at hg;exact h.rows x hx c e own bV hg
theorem avI {E0:Env} {A0 A:aB} {B0 B:St} {ρ0 ρ:a7} {w0 w:World} {base y cc:Nat} {cs:List KV} {cm:List Value} (h:Ev P base E0 A0 B0 ρ0 w0 E A B ρ w) (hy:Fr E A B B0.next y) (hold:B.get y=some (.row cm cc true none)) (hv:bo P E cs cm) :
  E.le (E.oO A.next y)/\Ev P base E0 A0 B0 ρ0 w0 (E.oO A.next y) (A.new (.row cs cc)) B ρ w:=by
 have hs:=h.kV;have hle:E.le (E.oO A.next y):=⟨fun _ _ e=>e,fun b x e=>by
  have:=hs.oC b x e;simp only [Env.oO]; rw [ay (by omega)]; exact e,fun _ _ e=>e,fun _ _ e=>e⟩
 have hA:∀ (b:Nat) (v:KV),(A.new (.row cs cc)).get b=some (.arr v)->A.get b=some (.arr v):=fun b v hb=>by
  rw [aB.dQ] at hb;split at hb
  ·simp at hb
  ·exact hb
 have hfz:∀ (b:Nat) (v:KV),(A.new (.row cs cc)).get b=some (.lR v)->A.get b=some (.lR v):=fun b v hb=>by
  rw [aB.dQ] at hb;split at hb
  ·simp at hb
  ·exact hb
 have vB:∀ x,AR (A.new (.row cs cc)) (E.oO A.next y) x->AR A E x:=fun _ q=>q.of (fun _=>rfl) hA;have Oh:∀ g,AF (A.new (.row cs cc)) (E.oO A.next y) B g->AF A E B g:=fun _ q=>q.of (fun _=>rfl) hA fun _ _=>rfl;have hAT:∀ x,AT (A.new (.row cs cc)) (E.oO A.next y) B x->AT A E B x:=fun _ q=>q.of (fun _=>rfl) hA (fun _ _=>rfl) fun _ _=>rfl;refine ⟨hle,⟨⟨?_,?_,hs.z,?_,?_,?_,?_,?_,?_,?_,hs.rb,hs.mM,hs.fresh,hs.mem,?_⟩,h.gX,Env.le_trans h.le hle,by have:=h.next; rw [aB.cD]; omega,h.pF,?_,h.yp,h.yq,h.uz,fun x q=>h.qt x (vB x q),fun g q=>h.qK g (Oh g q),h.zX,fun x q=>h.r6 x (hAT x q),h.rows⟩⟩
 ·intro b pE Ut hb
  rw [aB.dQ] at hb;split at hb
  ·rename_i e
   simp at hb;obtain ⟨rfl,rfl⟩:=hb;exact ⟨y,cm,by simp [Env.oO,e],hold,hv.mono hle⟩
  ·obtain ⟨x,c,h1,h2,h3⟩:=hs.row b pE Ut hb
   exact ⟨x,c,hle.κ _ _ h1,h2,h3.mono hle⟩
 ·intro b top Lo hb
  rw [aB.dQ] at hb;split at hb
  ·simp at hb
  ·exact hs.aZ b top Lo hb
 ·intro b x hb
  simp only [Env.oO] at hb ⊢;split at hb
  ·simp at hb; subst hb; exact hy.z
  ·exact hs.apart b x hb
 ·intro b c x hb hc
  simp only [Env.oO] at hb hc;split at hb <;> split at hc
  ·omega
  ·simp at hb; subst hb; exact absurd hc (hy.un c)
  ·simp at hc; subst hc; exact absurd hb (hy.un b)
  ·exact hs.inj b c x hb hc
 ·exact Kn.new (E:=E.oO A.next y) (fun x z g a b c d e f hx hz=>hs.lT x z g a b c d e f hx hz) (.inl fun _ _=>by simp)
 ·intro b x hb
  simp only [Env.oO] at hb;rw [aB.cD];split at hb
  ·omega
  ·have:=hs.oC b x hb; omega
 ·intro b g hb; have:=hs.qJ b g hb; rw [aB.cD]; omega
 ·intro b o hb
  rw [aB.dQ] at hb;rw [aB.cD];split at hb
  ·omega
  ·have:=hs.live b o hb; omega
 ·intro b x hb
  simp only [Env.oO] at hb;split at hb
  ·simp at hb; have:=hy.hi; omega
  ·exact hs.jd b x hb
 ·have uZ:∀ b,(E.oO A.next y).α b=E.α b:=fun _=>rfl
  have MR:∀ c x,(E.oO A.next y).κ c=some x->(c=A.next/\x=y)\/E.κ c=some x:=fun c x e=>by
   simp only [Env.oO] at e;split at e
   ·rename_i e1; simp at e; exact .inl ⟨e1,e.symm⟩
   ·exact .inr e
  refine ⟨fun b v hb=>(hs.ar.arr b v (hA _ _ hb)).mono hle rfl fun _ _ _ _=>rfl,fun b v hb=>(hs.ar.lR b v (hfz _ _ hb)).mono hle rfl,fun x q=>?_,fun b c v u x L N L' N' h1 h2 h3 h4=>hs.ar.inj b c v u x L N L' N' (hA _ _ h1) (hA _ _ h2) h3 h4,
   fun b c v u x z L N L' N' cs e own g k cm e' tJ k' h1 h2 h3 h4 h5 h6=>hs.ar.zi b c v u x z L N L' N' cs e own g k cm e' tJ k' (hA _ _ h1) (hA _ _ h2) h3 h4 h5 h6,fun b x e=>?_,fun b p e=>?_,fun b x L N e=>hs.ar.jd b x L N e,fun b v x L N cs e own g k h1 h2 h3=>?_,fun b v hb=>?_⟩
  ·obtain ⟨h1,h2⟩:=hs.ar.z x (vB x q)
   refine ⟨h1,fun c e=>?_⟩;rcases MR c x e with ⟨_,rfl⟩ | e
   ·exact hy.far (.inl (vB _ q))
   ·exact h2 c e
  ·rcases MR b x e with ⟨rfl,_⟩ | e
   ·cases hb:E.α A.next with
    | none=>exact hb
    | some p=>have:=hs.ar.oC _ p hb; omega
   ·exact hs.ar.dis b x e
  ·have:=hs.ar.oC b p e; rw [aB.cD]; omega
  ·obtain ⟨h4,h5,h6⟩:=hs.ar.xB b v x L N cs e own g k (hA _ _ h1) h2 h3
   refine ⟨h4,h5,fun z hz eY=>?_⟩;obtain ⟨h7,h8,h9⟩:=h6 z hz eY;refine ⟨h7,fun q=>h8 (vB z q),fun c e'=>?_⟩;rcases MR c z e' with ⟨_,rfl⟩ | e'
   ·exact hy.far (.inr ⟨g,⟨b,v,x,L,N,cs,e,own,k,hA _ _ h1,h2,h3⟩,hz⟩)
   ·exact h9 c e'
  ·obtain ⟨h1,h2⟩:=hs.ar.nk b v (hA _ _ hb)
   rw [aB.cD];refine ⟨by omega,?_⟩;cases hk:(E.oO A.next y).κ b with
   | none=>rfl
   | some x=>
    rcases MR b x hk with ⟨e,_⟩ | e
    ·omega
    ·rw [h2] at e; simp at e
 ·intro b x hb
  simp only [Env.oO] at hb;split at hb
  ·simp at hb; subst hb; exact .inr hy.lo
  ·exact h.new b x hb
theorem aoY {cfg:ga} (je:vO P cfg.pc) {o:Oper} {p:Operand×List Operand} (hp:Pq o=some p) {t:bL} {A A' : aB} {v:KV} {base:Nat} {B:St} {ρ:a7} {a:Act} {w:World} {next:Act->World->Prop} {Q:Exit->Act->World->Prop}
  (h:ba (zk (Km P cfg t p) t A) (v,A')) (hv:∀ x∈p.1::p.2,VC P E ρ (nJ t x) (a.eval x)) (hj:KJ P E A B ρ base w)
  (hk:∀ E' B' a8 v' w',VC P E' a8 v v'->Ev P base E A B ρ w E' A' B' a8 w'->next (a.put o.dst v') w'):o.wp P a w next Q:=by
 classical
 have bb:compile P o.op = .call p.1 p.2:=by
  unfold Pq at hp;split at hp
  ·rename_i c ho hg
   split at hp
   ·rename_i d hc
    simp at hp;subst hp;rw [ho];exact ad8 (cfg:=ga.none) (show oM P ga.none c=_ by unfold oM; rw [hc])
   ·simp at hp
  ·simp at hp
 unfold Km at h;split at h
 ·rename_i g hfv
  split at h
  ·rename_i F hF
   obtain ⟨u,h1,h2⟩:=ba.map h;simp only [gF] at h2;obtain ⟨rfl,rfl⟩:=h2;obtain ⟨hlen,hf⟩:=ba.cond h1;obtain ⟨hg,qh⟩:=je g F hF _ _ hf (bm hlen);have cq:=uW P o;rw [bb] at cq;obtain ⟨em,h3,h4⟩:=cM (xs:=p.1::p.2) hv;obtain ⟨y,ys,e,h5,h6⟩:=h3.cons_inv;simp only [List.map_cons,List.cons.injEq] at e;obtain ⟨rfl,rfl⟩:=e;rw [hfv] at h5;obtain ⟨l,m,e5,e6,e7⟩:=h5.M9;have:=e6.cw;subst this;have:=e7.cw;subst this;obtain ⟨cU,h7,h8⟩:=cq.2 ρ em a.eval g (p.2.map em) h4 hg.1 (by rw [e5]; simp only [zO]; rw [hg.1]; simp) hg.2;unfold Oper.wp;rw [h8 w];refine (qh E A B ρ base w cU ⟨p.2.map em,by rw [wG]; exact h6,h7⟩ hj).mono ?_;rintro e w' ⟨v',E',B',a8,rfl,h9,xU⟩;exact hk E' B' a8 v' w' h9 xU
  ·exact h.elim
 ·exact h.elim
inductive aeg (P:Program) (cfg:ga) (all:List Oper) (A:aB):List Oper->bL->List Out->bL->Prop where
 | nil {t:bL} : aeg P cfg all A [] t [] t
 | cons {o:Oper} {os:List Oper} {t t1 t' : bL} {wd:Bool} {v:KV} {L:List Out}
   (same:∀ i,t1.get i=t.get i) (want:RD all o t wd)
   (yes:wd=true->(ux all o=true/\v = .bG)\/(ux all o=false/\(ba (zk (cf P cfg o.op) t1 A) (v,A)\/∃ p,Pq o=some p/\ba (zk (Km P cfg t1 p) t1 A) (v,A)))) (no:wd=false->v=vY/\ux all o=false)
   (rest:aeg P cfg all A os (tI t1 o.dst v) L t'):aeg P cfg all A (o::os) t ((wd,v,A)::L) t'
theorem u4 {o:Oper} {T:TypeId} {d:Tmp} (h:iM o=some (T,d)):o.op = .alloc T/\o.guard=none/\o.dst=some d:=by
 unfold iM at h;split at h
 ·rename_i T' d' h1 h2 h3
  simp at h;obtain ⟨rfl,rfl⟩:=h;exact ⟨h1,h2,h3⟩
 ·simp at h
theorem Iz {all:List Oper} {o:Oper} {T:TypeId} {d:Tmp} {x:Operand} (h:wz all o=some (T,d,x)):o.op = .store T (.tmp d) x/\o.guard=none/\o.dst=none/\Bd d all=true:=by
 unfold wz at h;split at h
 ·rename_i T' d' x' h1 h2 h3
  cases hb:Bd d' all with
  | false=>rw [hb] at h; simp at h
  | true=>
   rw [hb,ai] at h;simp at h;obtain ⟨rfl,rfl,rfl⟩:=h;exact ⟨h1,h2,h3,hb⟩
 ·simp at h
theorem YS {all:List Oper} {o:Oper} (h:ux all o=true):(∃ T d,iM o=some (T,d))\/∃ T d x,wz all o=some (T,d,x):=by
 unfold ux at h;simp only [uR,afO] at h;rcases h with ⟨⟨T,d⟩,h⟩ | ⟨⟨T,d,x⟩,h⟩
 ·exact .inl ⟨T,d,h⟩
 ·exact .inr ⟨T,d,x,h⟩
theorem aoZ {all:List Oper} {o:Oper} (h:ux all o=true):o.guard=none:=by
 rcases YS h with ⟨T,d,h⟩ | ⟨T,d,x,h⟩
 ·exact (u4 h).2.1
 ·exact (Iz h).2.1
theorem Lu {R:Type} {cfg:ga} {bJ:qI R} {all:List Oper} {k:bL->aB->Option R} {r:R} : ∀ {os:List Oper} {t:bL} {A:aB},(∀ o∈os,ux all o=true\/ej (cf P cfg o.op)<=1\/(Pq o).isSome=true)->agN P cfg bJ all k os t A=some r->
  ∃ L t',aeg P cfg all A os t L t'/\k t' A=some r
 | [],t,A,_,h=>⟨[],t,.nil,h⟩
 | o::os,t,A,hn,h=>by
  have h:aoG P cfg bJ all o (agN P cfg bJ all k os) t A=some r:=h;have Rc:=fun q hq=>hn q (vV o hq);unfold aoG at h;cases hb:ux all o with
  | true=>
   rw [hb] at h;have h:agN P cfg bJ all k os (tI t o.dst .bG) A=some r:=h;obtain ⟨L,t',h1,h2⟩:=Lu Rc h;exact ⟨_,t',.cons (fun _=>rfl) (.inl ⟨aoZ hb,rfl⟩) (fun _=>.inl ⟨hb,rfl⟩) (fun e=>by simp at e) h1,h2⟩
  | false=>
   rw [hb] at h;cases hdy:Pq o with
   | some p=>
    simp only [hdy] at h;have h:Uk bJ t A (fun v A=>agN P cfg bJ all k os (tI t o.dst v) A) (Km P cfg t p)=some r:=h;have hg:o.guard=none:=by
     unfold Pq at hdy;split at hdy
     ·assumption
     ·simp at hdy
    have aqj:Km P cfg t p = .bad\/∃ g f,Km P cfg t p = .GG g f p.2:=by
     unfold Km;split
     ·split
      ·exact .inr ⟨_,_,rfl⟩
      ·exact .inl rfl
     ·exact .inl rfl
    obtain ⟨v,A1,h1,h2⟩:=Nd (fun f args e=>by
     rcases aqj with h | ⟨g,f',h⟩ <;> rw [h] at e <;> simp at e) h
    have e:A1=A:=by
     rcases aqj with h | ⟨g,f',h⟩
     ·rw [h] at h1; exact h1.elim
     ·rw [h] at h1
      obtain ⟨u,_,h3⟩:=ba.map h1;simp at h3;exact h3.2.symm
    subst e;obtain ⟨L,t',h3,h4⟩:=Lu Rc h2;exact ⟨_,t',.cons (fun _=>rfl) (.inl ⟨hg,rfl⟩) (fun _=>.inr ⟨hb,.inr ⟨p,hdy,h1⟩⟩) (fun e=>by simp at e) h3,h4⟩
   | none=>
   simp only [hdy] at h;have hk:ej (cf P cfg o.op)<=1:=by
    rcases hn o (by simp) with e | e | e
    ·rw [hb] at e; simp at e
    ·exact e
    ·rw [hdy] at e; simp at e
   have hk3:Nat.ble 3 (ej (cf P cfg o.op))=false:=by
    cases hc:Nat.ble 3 (ej (cf P cfg o.op)) with
    | false=>rfl
    | true=>have:=gD hc; omega
   have hnc:=GU (P:=P) (cfg:=cfg) (o:=o) (by omega);have h:DC P cfg bJ all o (agN P cfg bJ all k os) t A=some r:=h;unfold DC at h;cases hg:o.guard with
   | none=>
    rw [hg] at h;obtain ⟨v,A1,h1,h2⟩:=Nd hnc h;have e:=GS h1 hk3;subst e;obtain ⟨L,t',h3,h4⟩:=Lu Rc h2;exact ⟨_,t',.cons (fun _=>rfl) (.inl ⟨hg,rfl⟩) (fun _=>.inr ⟨hb,.inl h1⟩) (fun e=>by simp at e) h3,h4⟩
   | some p=>
    obtain ⟨j,want⟩:=p;rw [hg] at h;obtain ⟨d,hd,h⟩:=RC h;rcases h with ⟨b,t1,h1,h2,h3⟩ | ⟨l,h1,h2⟩
    ·rcases h3 with ⟨h3,h4⟩ | ⟨h3,h4⟩
     ·obtain ⟨v,A1,h5,h6⟩:=Nd hnc h4
      have e:=GS h5 hk3;subst e;obtain ⟨L,t',h7,h8⟩:=Lu Rc h6;exact ⟨_,t',.cons h2 (.inr ⟨j,want,d,hg,hd,.inl ⟨b,h1,h3.symm⟩⟩) (fun _=>.inr ⟨hb,.inl h5⟩) (fun e=>by simp at e) h7,h8⟩
     ·obtain ⟨L,t',h7,h8⟩:=Lu Rc h4
      exact ⟨_,t',.cons h2 (.inr ⟨j,want,d,hg,hd,.inl ⟨b,h1,h3.symm⟩⟩) (fun e=>by simp at e) (fun _=>⟨rfl,hb⟩) h7,h8⟩
    ·obtain ⟨L,t',h7,h8⟩:=Lu Rc h2
     exact ⟨_,t',.cons (fun _=>rfl) (.inr ⟨j,want,d,hg,hd,.inr ⟨l,h1,rfl⟩⟩) (fun e=>by simp at e) (fun _=>⟨rfl,hb⟩) h7,h8⟩
theorem aeg.at {cfg:ga} {all:List Oper} {A:aB} : ∀ {os:List Oper} {t t' : bL} {L:List Out},aeg P cfg all A os t L t'->
  L.length=os.length/\(∀ y,t'.get y=(kd (fun _=>true) os L 0 t).get y)/\
  ∀ i o x,os[i]? = some o->L[i]? = some x->∃ t1,(∀ y,t1.get y=(kd (fun j=>Nat.blt j i) os L 0 t).get y)/\RD all o t1 x.1/\(x.1=true->(ux all o=true/\x.2.1 = .bG)\/(ux all o=false/\(ba (zk (cf P cfg o.op) t1 A) (x.2.1,A)\/∃ p,Pq o=some p/\ba (zk (Km P cfg t1 p) t1 A) (x.2.1,A))))/\(x.1=false->x.2.1=vY/\ux all o=false)
 | _,_,_,_,.nil=>⟨rfl,fun _=>rfl,fun i o x ho=>by simp at ho⟩
 | o::os,t,t',(wd,v,_)::L,.cons (t1:=t1) same want yes no rest=>by
  obtain ⟨h1,h2,h4⟩:=rest.at;have aec:∀ y,(tI t1 o.dst v).get y=(tI t o.dst v).get y:=fun y=>by rw [wH,wH,same]
  refine ⟨by simp [h1],fun y=>?_,fun i q x hq hx=>?_⟩
  ·rw [h2 y]
   simp only [kd,ai];rw [GQ];exact oP (aec y) fun _ _ _ _=>rfl
  ·cases i with
   | zero=>
    simp at hq hx;subst hq hx;have e0:∀ (os:List Oper) (L:List Out) (k:Nat) (t:bL),kd (fun j=>Nat.blt j 0) os L k t=t:=by
     intro os
     induction os with
     | nil=>intro L k t; cases L <;> rfl
     | cons o os ih=>intro L k t; cases L with
      | nil=>rfl
      | cons x L=>simp only [kd]; exact ih L _ t
    refine ⟨t1,fun y=>by rw [e0]; exact same y,?_,yes,no⟩;rcases want with h | ⟨j,wt,d,e2,e3,e4⟩
    ·exact .inl h
    ·exact .inr ⟨j,wt,d,e2,e3,by rw [same]; exact e4⟩
   | succ i=>
    obtain ⟨t2,h5,h6,h7,h8⟩:=h4 i q x (by simpa using hq) (by simpa using hx);have hsh:(fun j=>Nat.blt (j+1) (i+1))=fun j=>Nat.blt j i:=by
     funext j;cases hb:Nat.blt j i with
     | true=>rw [bZ] at hb ⊢; omega
     | false=>
      cases hc:Nat.blt (j+1) (i+1) with
      | false=>rfl
      | true=>rw [bZ] at hc; rw [show Nat.blt j i=true from by rw [bZ]; omega] at hb; simp at hb
    have h01:Nat.blt 0 (i+1)=true:=by rw [bZ]; omega
    refine ⟨t2,fun y=>?_,h6,h7,h8⟩;rw [h5 y];simp only [kd,h01,ai];rw [GQ,hsh];exact oP (aec y) fun _ _ _ _=>rfl
theorem Lv {cfg:ga} {all:List Oper} {b:List Nat} {i:Nat} {y:Oper} : ∀ (xs:List Oper) (k:Nat),KX P cfg all b i y xs k=true->∀ (j:Nat) (x:Oper),xs[j]? = some x->k+j < i->xR P cfg all x y=true->tF b i (k+j)=true
 | [],k,_,j,x,hx,_,_=>by simp at hx
 | x0::xs,k,h,0,x,hx,bt,hc=>by
  simp at hx;subst hx;simp only [KX,aD,uR,nD] at h;rcases h.1 with (h1 | h1) | h1
  ·have:=gD h1; omega
  ·rw [hc] at h1; simp at h1
  ·exact h1
 | x0::xs,k,h,j+1,x,hx,bt,hc=>by
  simp only [KX,aD] at h;have:=Lv xs (k+1) h.2 j x (by simpa using hx) (by omega) hc;rwa [show k+1+j=k+(j+1) by omega] at this
theorem GV {cfg:ga} {all:List Oper} {b:List Nat} : ∀ (os:List Oper) (k:Nat),Ee P cfg all b os k=true->∀ (i:Nat) (o:Oper),os[i]? = some o->KX P cfg all b (k+i) o all 0=true
 | [],k,_,i,o,ho=>by simp at ho
 | o0::os,k,h,0,o,ho=>by
  simp at ho;subst ho;simp only [Ee,aD] at h;exact h.1
 | o0::os,k,h,i+1,o,ho=>by
  simp only [Ee,aD] at h;have:=GV os (k+1) h.2 i o (by simpa using ho);rwa [show k+1+i=k+(i+1) by omega] at this
theorem XP {i:Nat} {d:Tmp} : ∀ (os:List Oper) (k:Nat),Pp i d os k=true->∀ (j:Nat) (o:Oper),os[j]? = some o->k+j≠i->o.dst≠some d
 | [],k,_,j,o,ho,_=>by simp at ho
 | q::os,k,h,0,o,ho,eY=>by
  simp at ho;subst ho;simp only [Pp,aD,uR,nD] at h;rcases h.1 with h1 | h1
  ·exact absurd (bm h1) (by simpa using eY)
  ·intro e
   rw [e,Fg (by simp)] at h1;simp at h1
 | q::os,k,h,j+1,o,ho,eY=>by
  simp only [Pp,aD] at h;exact XP os (k+1) h.2 j o (by simpa using ho) (by omega)
theorem SS {all:List Oper} {i:Nat} {d:Tmp} : ∀ (os:List Oper) (k:Nat),GJ all i d os k=true->∀ (j:Nat) (o:Oper),os[j]? = some o->k+j≠i->∀ T x,wz all o≠some (T,d,x)
 | [],k,_,j,o,ho,_=>by simp at ho
 | q::os,k,h,0,o,ho,eY=>by
  simp at ho;subst ho;simp only [GJ,aD,uR] at h;intro T x e;rcases h.1 with h1 | h1
  ·exact absurd (bm h1) (by simpa using eY)
  ·rw [e] at h1
   simp at h1
 | q::os,k,h,j+1,o,ho,eY=>by
  simp only [GJ,aD] at h;exact SS os (k+1) h.2 j o (by simpa using ho) (by omega)
theorem UF {d:Tmp} : ∀ {os:List Oper},Bd d os=true->∃ (j:Nat) (o:Oper) (T:TypeId),os[j]? = some o/\iM o=some (T,d)
 | [],h=>by simp [Bd] at h
 | o::os,h=>by
  simp only [Bd,uR] at h;rcases h with h | h
  ·split at h
   ·rename_i T e he
    have:=bm h;subst this;exact ⟨0,o,T,rfl,he⟩
   ·simp at h
  ·obtain ⟨j,q,T,h1,h2⟩:=UF h
   exact ⟨j+1,q,T,by simpa using h1,h2⟩
structure aj9 (P:Program) (cfg:ga) (all:List Oper):Prop where
 ord:ahj P cfg all
 kind:∀ o∈all,ux all o=true\/ej (cf P cfg o.op)<=1\/(Pq o).isSome=true
 dst:∀ (i:Nat) (o:Oper) (T:TypeId) (d:Tmp),all[i]? = some o->iM o=some (T,d)->∀ (j:Nat) (q:Oper),all[j]? = some q->j≠i->q.dst≠some d
 st:∀ (i:Nat) (o:Oper) (T:TypeId) (d:Tmp) (x:Operand),all[i]? = some o->wz all o=some (T,d,x)->zV i x all 0=true/\(∀ (j:Nat) (q:Oper),all[j]? = some q->j≠i->∀ T' x',wz all q≠some (T',d,x'))/\(∃ (j:Nat) (q:Oper) (T' : TypeId),j < i/\all[j]? = some q/\iM q=some (T',d))/\x≠.tmp d
theorem UG {all:List Oper} : ∀ (os:List Oper) (k:Nat),Ul all os k=true->∀ (i:Nat) (o:Oper),os[i]? = some o->
  (∀ T d,iM o=some (T,d)->Pp (k+i) d all 0=true)/\∀ T d x,wz all o=some (T,d,x)->zV (k+i) x all 0=true/\GJ all (k+i) d all 0=true/\Bd d (all.take (k+i))=true/\x≠.tmp d
 | [],k,_,i,o,ho=>by simp at ho
 | o0::os,k,h,0,o,ho=>by
  simp at ho;subst ho;simp only [Ul,aD] at h;refine ⟨fun T d e=>?_,fun T d x e=>?_⟩
  ·have:=h.1.1
   rw [e] at this;exact this
  ·have:=h.1.2
   rw [e] at this;simp only [aD,nD] at this;refine ⟨this.1.1.1,this.1.1.2,this.1.2,fun e2=>?_⟩;have h3:=this.2;rw [e2,Fg (by simp [uU])] at h3;simp at h3
 | o0::os,k,h,i+1,o,ho=>by
  simp only [Ul,aD] at h;have:=UG os (k+1) h.2 i o (by simpa using ho);rwa [show k+1+i=k+(i+1) by omega] at this
theorem ana {cfg:ga} {all:List Oper} (h:Z8 P cfg all=true):aj9 P cfg all:=by
 unfold Z8 at h;simp only [aD] at h;obtain ⟨⟨⟨h1,h2⟩,h3⟩,h4⟩:=h;refine ⟨⟨I9 h1,fun {i j x y} hy hx bt hc=>?_⟩,fun o ho=>?_,fun i o T d ho he j q hq eY=>?_,fun i o T d x ho he=>?_⟩
 ·have:=GV all 0 h3 i y hy
  rw [bh] at this;have:=Lv all 0 this j x hx (by omega) hc;rwa [bh] at this
 ·have:=iu.1 h2 o ho
  simp only [uR] at this;rcases this with (h | h) | h
  ·exact .inl h
  ·exact .inr (.inl (gD h))
  ·exact .inr (.inr h)
 ·have:=(UG all 0 h4 i o ho).1 T d he
  rw [bh] at this;exact XP all 0 this j q hq (by omega)
 ·have:=(UG all 0 h4 i o ho).2 T d x he
  rw [bh] at this;refine ⟨this.1,fun j q hq eY T' x'=>SS all 0 this.2.1 j q hq (by omega) T' x',?_,this.2.2.2⟩;obtain ⟨j,q,T',h5,h6⟩:=UF this.2.2.1;rw [rj] at h5;split at h5
  ·rename_i bt; exact ⟨j,q,T',bt,h5,h6⟩
  ·simp at h5
theorem HW {all:List Oper} {d:Tmp} {T:TypeId} {x:Operand} : ∀ {os:List Oper},wA all d os=some (T,x)->∃ (i:Nat) (o:Oper),os[i]? = some o/\wz all o=some (T,d,x)
 | [],h=>by simp [wA] at h
 | o::os,h=>by
  unfold wA at h;split at h
  ·rename_i T' e x' he
   cases hb:Nat.beq d e with
   | true=>
    rw [hb,ai] at h;have:=bm hb;subst this;simp at h;obtain ⟨rfl,rfl⟩:=h;exact ⟨0,o,rfl,he⟩
   | false=>
    rw [hb,aw] at h;obtain ⟨i,q,h1,h2⟩:=HW h;exact ⟨i+1,q,by simpa using h1,h2⟩
  ·obtain ⟨i,q,h1,h2⟩:=HW h
   exact ⟨i+1,q,by simpa using h1,h2⟩
theorem HX {all:List Oper} {d:Tmp} : ∀ {os:List Oper},wA all d os=none->∀ (i:Nat) (o:Oper),os[i]? = some o->∀ T x,wz all o≠some (T,d,x)
 | [],_,i,o,ho=>by simp at ho
 | q::os,h,i,o,ho=>by
  unfold wA at h;intro T x e;split at h
  ·rename_i T' e' x' he
   cases hb:Nat.beq d e' with
   | true=>rw [hb] at h; simp at h
   | false=>
    rw [hb,aw] at h;cases i with
    | zero=>
     simp at ho;subst ho;rw [he] at e;simp at e;rw [e.2.1,mK] at hb;simp at hb
    | succ i=>exact HX h i o (by simpa using ho) T x e
  ·rename_i hn
   cases i with
   | zero=>simp at ho; subst ho; rw [hn] at e; simp at e
   | succ i=>exact HX h i o (by simpa using ho) T x e
theorem Lw {all:List Oper} {t:bL} {T:TypeId} {d:Tmp} {cs:List KV} (h:Bf P all t T d=some cs):∃ z,wj P T=some z/\flat z=true/\z.cells.toList.all scalar=true/\jy (iR z).cells=true/\some (iR z).cells.length=size? P T/\
  (∀ T' x,wA all d all=some (T',x)->T=T'/\some (nJ t x).cells.length=size? P T/\jy (nJ t x).cells=true/\cs=(nJ t x).cells)/\(wA all d all=none->cs=(iR z).cells):=by
 unfold Bf at h;split at h
 ·rename_i z hz
  cases hb:(flat z&&z.cells.toList.all scalar&&jy (iR z).cells&&decide (some (iR z).cells.length=size? P T)) with
  | false=>rw [hb] at h; simp at h
  | true=>
   rw [hb,ai] at h;simp only [aD,lA] at hb;refine ⟨z,hz,hb.1.1.1,hb.1.1.2,hb.1.2,hb.2,fun T' x hs=>?_,fun hs=>?_⟩
   ·rw [hs] at h
    simp only at h;cases hc:(Nat.beq T T'&&decide (some (nJ t x).cells.length=size? P T)&&jy (nJ t x).cells) with
    | false=>rw [hc] at h; simp at h
    | true=>
     rw [hc,ai] at h;simp only [aD,lA] at hc;exact ⟨bm hc.1.1,hc.1.2,hc.2,by simpa using h.symm⟩
   ·rw [hs] at h
    simpa using h.symm
 ·simp at h
theorem YT {R:Type} {all:List Oper} {t0:bL} {k:bL->aB->Option R} {r:R} : ∀ {os:List Oper} {t:bL} {A:aB},ad1 P all t0 k os t A=some r->∀ o∈os,∀ T d,iM o=some (T,d)->∃ cs,Bf P all t0 T d=some cs
 | [],_,_,_,o,ho,_,_,_=>by simp at ho
 | q::os,t,A,h,o,ho,T,d,he=>by
  have h:Option.rec (motive:=fun _=>Option R) (ad1 P all t0 k os t A) (fun p=>
   Option.rec (motive:=fun _=>Option R) none (fun cs=>ad1 P all t0 k os (t.set (.ptr A.next 0) p.2) (A.new (.row cs (rz P p.1)))) (Bf P all t0 p.1 p.2)) (iM q)=some r:=h
  cases hq:iM q with
  | none=>
   rw [hq] at h;rcases fp.1 ho with rfl | ho
   ·rw [hq] at he; simp at he
   ·exact YT h o ho T d he
  | some p=>
   rw [hq] at h;cases hc:Bf P all t0 p.1 p.2 with
   | none=>simp only [hc] at h; exact absurd h (by simp)
   | some cs=>
    simp only [hc] at h;rcases fp.1 ho with rfl | ho
    ·rw [hq] at he
     simp at he;subst he;exact ⟨cs,hc⟩
    ·exact YT h o ho T d he
end Go.K
end
section
namespace Go.K
open Go Go.aF
variable {P:Program} {E:Env}
theorem aeh:∀ {l vs:List Value},l.length=vs.length->jw 0 l vs=some vs
 | [],[],_=>rfl
 | [],_::_,h=>by simp at h
 | _::_,[],h=>by simp at h
 | x::l,v::vs,h=>by rw [zL,aeh (by simpa using h)]; rfl
theorem auu {a:Act} {d:Tmp} {v:Value} (h:d < a.tmps.size):(a.put (some d) v).tmps.getD d undef=v:=by
 simp [Act.put,ji,h]
theorem aqk {a:Act} {dst:Option Tmp} {d:Tmp} {v:Value} (h:dst≠some d):(a.put dst v).tmps.getD d undef=a.tmps.getD d undef:=by
 cases dst with
 | none=>rfl
 | some e=>
  have eY:e≠d:=fun q=>h (by rw [q]);simp [Act.put,ji,Array.getElem?_setIfInBounds_ne eY]
def awA (P:Program) (E:Env) (all:List Oper) (tn:bL) (S:Nat->Bool) (T:TypeId) (d:Tmp) (cm:List Value):Prop:=
 some cm.length=size? P T/\(∀ (i:Nat) (o:Oper) T' x,all[i]? = some o->wz all o=some (T',d,x)->S i=true->bo P E (nJ tn x).cells cm)/\
  ((∀ (i:Nat) (o:Oper) T' x,all[i]? = some o->wz all o=some (T',d,x)->S i=false)->∃ z,wj P T=some z/\bo P E (iR z).cells cm)
def af3 (P:Program) (E:Env) (A:aB) (B:St) (ρ:a7) (b0:Nat) (all:List Oper) (tn:bL) (S:Nat->Bool) (a:Act) (y:Nat->Nat):Prop:=
 ∀ (j:Nat) (o:Oper) (T:TypeId) (d:Tmp),all[j]? = some o->iM o=some (T,d)->S j=true->
  VR ρ (K6 (y j)) (a.tmps.getD d undef)/\Fr E A B b0 (y j)/\(∃ cm,B.get (y j)=some (.row cm (rz P T) true none)/\awA P E all tn S T d cm)/\
  ∀ (j' : Nat) (o' : Oper) (T' : TypeId) (d' : Tmp),all[j']? = some o'->iM o' = some (T',d')->S j' = true->y j' = y j->j' = j
theorem Oi {all:List Oper} {o:Oper} {T:TypeId} {d:Tmp} (h:iM o=some (T,d)):wz all o=none:=by
 cases hb:wz all o with
 | none=>rfl
 | some p=>
  obtain ⟨T',d',x⟩:=p;have h1:=(u4 h).1;have h2:=(Iz hb).1;rw [h1] at h2;simp at h2
theorem iV {S:Nat->Bool} {i j:Nat} (h:j≠i):da S i j=S j:=by
 unfold da;cases hb:Nat.beq j i with
 | false=>simp
 | true=>exact absurd (bm hb) h
theorem Ei {S:Nat->Bool} {i:Nat} : da S i i=true:=by simp [da]
theorem af3.step {E' : Env} {A:aB} {B B' : St} {ρ a8:a7} {base b0:Nat} {w w' : World} {all:List Oper} {tn:bL} {S:Nat->Bool} {a:Act} {y:Nat->Nat} {i:Nat} {o:Oper} {v' : Value} {cfg:ga} (h:af3 P E A B ρ b0 all tn S a y) (hf:aj9 P cfg all)
  (ho:all[i]? = some o) (hb:ux all o=false) (k:Ev P base E A B ρ w E' A B' a8 w') (ob:ρ.le a8):af3 P E' A B' a8 b0 all tn (da S i) (a.put o.dst v') y:=by
 intro j q T d hq he hS;have eY:∀ (m:Nat) (q:Oper),all[m]? = some q->ux all q=true->m≠i:=fun m q hm CY e=>by
  subst e;rw [ho] at hm;simp at hm;subst hm;rw [hb] at CY;simp at CY
 have hal:∀ {q:Oper} {T:TypeId} {d:Tmp},iM q=some (T,d)->ux all q=true:=fun e=>by unfold ux; rw [e]; rfl
 have jN:∀ {q:Oper} {T:TypeId} {d:Tmp} {x:Operand},wz all q=some (T,d,x)->ux all q=true:=fun e=>by unfold ux; rw [e]; simp
 have hji:=eY j q hq (hal he);rw [iV hji] at hS;obtain ⟨h1,h2,⟨cm,h3,h4,h5,h6⟩,h7⟩:=h j q T d hq he hS;obtain ⟨h8,h9⟩:=h2.step k;refine ⟨?_,h8,⟨cm,by rw [h9]; exact h3,h4,fun m q' T' x hm IA hSm=>?_,fun hn=>?_⟩,fun j' o' T' d' eH Iq hS'=>?_⟩
 ·rw [aqk (hf.dst j q T d hq he i o ho (Ne.symm hji))]
  exact h1.mono ob
 ·rw [iV (eY m q' hm (jN IA))] at hSm
  exact (h5 m q' T' x hm IA hSm).mono k.le
 ·obtain ⟨z,xU,MT⟩:=h6 fun m q' T' x hm IA=>by
   have:=hn m q' T' x hm IA;rwa [iV (eY m q' hm (jN IA))] at this
  exact ⟨z,xU,MT.mono k.le⟩
 ·rw [iV (eY j' o' eH (hal Iq))] at hS'
  exact h7 j' o' T' d' eH Iq hS'
theorem YU {R:Type} {all:List Oper} {tn:bL} {k:bL->aB->Option R} {r:R} {E0:Env} {A0:aB} {B0 B:St} {ρ0 ρ:a7} {w0 w:World} {base N:Nat} {a:Act} {y:Nat->Nat} : ∀ (os:List Oper) (m:Nat) (t:bL) (E:Env) (A:aB),all.drop m=os->ad1 P all tn k os t A=some r->
  Ev P base E0 A0 B0 ρ0 w0 E A B ρ w->nU P E ρ t N a->(∀ (j:Nat) (o:Oper) T d,m<=j->all[j]? = some o->iM o=some (T,d)->d < N)->
  (∀ (j:Nat) (o:Oper) (T:TypeId) (d:Tmp),m<=j->all[j]? = some o->iM o=some (T,d)->VR ρ (K6 (y j)) (a.tmps.getD d undef)/\Fr E A B B0.next (y j)/\(∀ cs,Bf P all tn T d=some cs->∃ cm,B.get (y j)=some (.row cm (rz P T) true none)/\bo P E cs cm)/\
   ∀ (j' : Nat) (o' : Oper) (T' : TypeId) (d' : Tmp),m<=j'->all[j']? = some o'->iM o' = some (T',d')->y j' = y j->j' = j)->
  ∃ t' E' A',k t' A' = some r/\nU P E' ρ t' N a/\Ev P base E0 A0 B0 ρ0 w0 E' A' B ρ w
 | [],m,t,E,A,_,h,tK,ht,_,_=>⟨t,E,A,h,ht,tK⟩
 | o::os,m,t,E,A,hd,h,tK,ht,hN,hb=>by
  have ho:all[m]? = some o:=by
   have:(all.drop m)[0]? = some o:=by rw [hd]; rfl
   rw [rJ] at this;simpa using this
  have hd' : all.drop (m+1)=os:=by rw [<- List.drop_drop,hd]; rfl
  have h:Option.rec (motive:=fun _=>Option R) (ad1 P all tn k os t A) (fun p=>
   Option.rec (motive:=fun _=>Option R) none (fun cs=>ad1 P all tn k os (t.set (.ptr A.next 0) p.2) (A.new (.row cs (rz P p.1)))) (Bf P all tn p.1 p.2)) (iM o)=some r:=h
  cases hq:iM o with
  | none=>
   rw [hq] at h;exact YU (y:=y) os (m+1) t E A hd' h tK ht (fun j o' T d hj=>hN j o' T d (by omega)) fun j o' T d hj ho' he=>by
    obtain ⟨h1,h2,h3,h4⟩:=hb j o' T d (by omega) ho' he;exact ⟨h1,h2,h3,fun j' o'' T' d' eH=>h4 j' o'' T' d' (by omega)⟩
  | some p=>
   obtain ⟨T,d⟩:=p;rw [hq] at h;cases hc:Bf P all tn T d with
   | none=>simp only [hc] at h; exact absurd h (by simp)
   | some cs=>
    simp only [hc] at h;obtain ⟨h1,h2,h3,h4⟩:=hb m o T d (aW m) ho hq;obtain ⟨cm,h5,h6⟩:=h3 cs hc;obtain ⟨hle,awB⟩:=avI (cs:=cs) tK h2 h5 h6;have MR:(E.oO A.next (y m)).κ A.next=some (y m):=by simp [Env.oO]
    refine YU (y:=y) os (m+1) _ (E.oO A.next (y m)) (A.new (.row cs (rz P T))) hd' h awB ⟨ht.size,fun i=>?_,fun i hi=>?_⟩ (fun j o' T d hj=>hN j o' T d (by omega)) fun j o' T' d' hj ho' he=>?_
    ·rw [Trie.sm]
     by_cases hid:i=d
     ·subst hid
      rw [aV rfl];exact ⟨_,.Dz MR,h1⟩
     ·rw [ay hid]
      exact (ht.val i).mono hle (fun _ _ e=>e)
    ·rw [Trie.sm,ay]
     ·exact ht.none i hi
     ·intro e
      subst e;exact absurd (hN m o T i (aW m) ho hq) (Nat.not_lt_of_le hi)
    ·obtain ⟨g1,g2,g3,g4⟩:=hb j o' T' d' (by omega) ho' he
     have awC:y j≠y m:=fun e=>by have:=h4 j o' T' d' (by omega) ho' he e; omega
     refine ⟨g1,⟨g2.lo,g2.hi,fun b e=>?_,g2.z,fun q=>?_⟩,fun pE hc0=>?_,fun j' o'' T'' d'' eH=>g4 j' o'' T'' d'' (by omega)⟩
     ·simp only [Env.oO] at e
      split at e
      ·simp at e; exact awC e.symm
      ·exact g2.un b e
     ·have hA:∀ (b:Nat) (v:KV),(A.new (.row cs (rz P T))).get b=some (.arr v)->A.get b=some (.arr v):=fun b v hb=>by
       rw [aB.dQ] at hb;split at hb
       ·simp at hb
       ·exact hb
      exact g2.far (q.of (fun _=>rfl) hA (fun _ _=>rfl) fun _ _=>rfl)
     ·obtain ⟨sH,g5,g6⟩:=g3 pE hc0
      exact ⟨sH,g5,g6.mono hle⟩
theorem anb {R:Type} {cfg:ga} {bJ:qI R} (je:vO P cfg.pc) (hm:P.follows .mixedOrders=true) {id:Nat} {all:List Oper} {N base:Nat} (hdN:all.all (N5 N)=true) {k:bL->aB->Option R} {r:R} {t:bL} {A:aB} {B:St} {ρ:a7} {a:Act} {w:World} {Q:Exit->Act->World->Prop}
  (PF:Z8 P cfg all=true) (h:agN P cfg bJ all (fun t A=>ad1 P all t k all t A) all t A=some r) (ht:nU P E ρ t N a) (hj:KJ P E A B ρ base w)
  (hq:∀ t' E' A' B' a8 a' w',k t' A' = some r->nU P E' a8 t' N a'->a'.defers=a.defers->Ev P base E A B ρ w E' A' B' a8 w'->Q .normal a' w'):(Code.region id ⟨all⟩ true).wp P Q a w:=by
 classical
 have hf:=ana PF;obtain ⟨L,tn,qh,hk⟩:=Lu hf.kind h;obtain ⟨hlen,WU,EV⟩:=qh.at;have Ba:=YT hk;have UE:Ev P base E A B ρ w E A B ρ w.drew:=(eX.refl hj.k).ev (pw.drew hj.s);have Ls:∀ (i:Nat) (o:Oper),all[i]? = some o->∀ d,o.dst=some d->d < N:=by
  intro i o ho d ed;have:=iu.1 hdN o (jj ho);unfold N5 at this;rw [ed] at this;simp only at this;rw [bZ] at this;exact this
 refine wp_region_any hm ?_;show wpAny P .any ⟨all⟩ Q all.length (Array.replicate all.length false) a w.drew;have Jc:∀ i,(Array.replicate all.length false).getD i false=false:=by
  intro i;rw [ji,Array.getElem?_replicate];split <;> rfl
 let Inv:(Nat->Bool)->Act->World->Prop:=fun S a' w'=>∃ E' B' a8 y,a'.defers=a.defers/\Ev P base E A B ρ w.drew E' A B' a8 w'/\nU P E' a8 (kd S all L 0 t) N a'/\af3 P E' A B' a8 B.next all tn S a' y
 refine Kl hf.ord.reg Inv ?_ ?_ ?_ all.length _ a w.drew (by simp) ?_ (fun i j hi _=>by
   have h2:(Array.replicate all.length false).getD i false=true:=hi;rw [Jc] at h2; simp at h2) ⟨E,B,ρ,fun _=>0,rfl,.refl hj.k UE.gX.kV,?_,?_⟩
 ·
  rintro S S' a' w' hSS ⟨E',B',a8,y,h1,h2,h3,h4⟩;have hS:∀ (i:Nat) (o:Oper),all[i]? = some o->S i=S' i:=fun i o ho=>hSS i (dD.1 ho).1;refine ⟨E',B',a8,y,h1,h2,h3.same fun z=>oP rfl fun i o ho _=>by rw [bh]; exact (hS i o ho).symm,fun j o T d ho he WV=>?_⟩;obtain ⟨q1,q2,⟨cm,q3,q4,q5,q6⟩,q7⟩:=h4 j o T d ho he (by rw [hS j o ho]; exact WV);exact ⟨q1,q2,⟨cm,q3,q4,fun m q T' x hm IA hSm=>q5 m q T' x hm IA (by rw [hS m q hm]; exact hSm),fun hn=>q6 fun m q T' x hm IA=>by rw [hS m q hm]; exact hn m q T' x hm IA⟩,fun j' o' T' d' eH Iq hS'=>q7 j' o' T' d' eH Iq (by rw [hS j' o' eH]; exact hS')⟩
 ·
  rintro S a' w' i o ⟨E',B',a8,y,h1,h2,h3,h4⟩ hc ho ti wy _;have hi:i < L.length:=by rw [hlen]; exact (dD.1 ho).1
  have hx:L[i]? = some L[i]:=dF hi;obtain ⟨t1,Cd,hw,am9,RG⟩:=EV i o L[i] ho hx;have DG:∀ z∈qz P cfg all o,t1.get z=(kd S all L 0 t).get z:=fun z hz=>by rw [Cd z,ahl hf.ord hc ho ti wy hz]
  have RH:=Iy h3 (fun z hz=>DG z (by unfold qz; exact List.mem_append_left _ hz)) hw;have hoA:(⟨all⟩:Array Oper)[i]? = some o:=by simpa using ho
  unfold wpOp;rw [hoA];simp only [RH];cases Kq:L[i].1 with
  | false=>
   simp only [xI,if_false];obtain ⟨hv,hnb⟩:=RG Kq;refine ⟨E',B',a8,y,by rw [put_defers]; exact h1,h2,?_,h4.step hf ho hnb (.refl h2.kV h2.gX.kV) (fun _ _ e=>e)⟩;refine (h3.put (Ls i o ho) VC.undef).same fun z=>?_;rw [PE hf.ord hc ho hx ti z,hv]
  | true=>
   simp only [if_true];refine .inl ?_;rcases am9 Kq with ⟨IA,hv⟩ | ⟨hnb,hg⟩
   ·rcases YS IA with ⟨T,d,he⟩ | ⟨T,d,x,he⟩
    ·
     obtain ⟨e1,e2,e3⟩:=u4 he;obtain ⟨cs,Q9⟩:=Ba o (jj ho) T d he;obtain ⟨z,Pd,I6,hz3,hz4,hz5,_⟩:=Lw Q9;have bb:compile P o.op = .make (QT P T) []:=by rw [e1]; rfl
     obtain ⟨zY,v',w2,hr1,zR,hr3⟩:=acp (em:=fun _=>undef) (df:=a'.eval) (obj:=Ki (rz P T) z) (mk:=K6) bb h2.gX.kV (fun x hx=>by simp at hx) (by simp only [QT,Pd,gE,I6,hz3,bD,ai]);unfold Oper.wp;rw [hr1];have gI:d < a'.tmps.size:=by rw [h3.size]; exact Ls i o ho d e3
     have hnx:=h2.gX.next;have ob:=hr3.le h2.gX.kV;have jN:=awy (cm:=z.cells.toList) (cc:=rz P T) h2.kV;have tK:Ev P base E' A B' a8 w' E' A (B'.new (Ki (rz P T) z)) zY w2:=jN.ev hr3;refine ⟨E',B'.new (Ki (rz P T) z),zY,fun m=>if m=i then B'.next else y m,by rw [put_defers]; exact h1,h2.trans tK,?_,fun j q U c hq Pj hS=>?_⟩
     ·refine ((h3.mono (Env.le_refl _) ob).put (v:=.bG) (Ls i o ho) ⟨.chan none,.wD,by simp [VR]⟩).same fun z=>?_
      rw [PE hf.ord hc ho hx ti z,hv]
     ·have hold:∀ (m:Nat) (q:Oper) (U:TypeId) (c:Tmp),all[m]? = some q->iM q=some (U,c)->da S i m=true->m≠i->S m=true:=fun m q U c _ _ hS eY=>by rwa [iV eY] at hS
      have acv:∀ (m:Nat) (q:Oper) (U:TypeId) (c:Tmp) (x:Operand),all[m]? = some q->wz all q=some (U,c,x)->m≠i:=fun m q U c x hm CY e=>by
       subst e;rw [ho] at hm;simp at hm;subst hm;rw [Oi he] at CY;simp at CY
      by_cases hji:j=i
      ·subst hji
       rw [ho] at hq;simp at hq;subst hq;rw [he] at Pj;simp at Pj;obtain ⟨rfl,rfl⟩:=Pj;simp only [if_true];refine ⟨?_,⟨hnx,by simp,fun b e=>?_,?_,fun q=>?_⟩,⟨z.cells.toList,by simp [Ki],?_,fun m q T' x hm CY hSm=>?_,fun _=>⟨z,Pd,GK hz4⟩⟩,fun j' o' T' d' eH Iq hS' hy=>?_⟩
       ·rw [e3,auu gI]; exact zR
       ·have:=h2.kV.jd b _ e; omega
       ·cases hzz:E'.z B'.next with
        | none=>rfl
        | some r=>have:=h2.kV.rb _ r hzz; omega
       ·rcases q with q | ⟨g,_,q⟩
        ·obtain ⟨b,v,L',N',q1,q2⟩:=q
         have:=h2.kV.ar.jd b _ _ _ q2;omega
        ·rw [Ki,St.oa] at q
         have:=h2.kV.mem g _ q;omega
       ·rw [<- (GK (P:=P) (E:=E') hz4).length] at hz5
        exact hz5
       ·
        exfalso;have hmi:=acv m q T' d x hm CY;rw [iV hmi] at hSm;obtain ⟨_,_,⟨j0,q0,T0,bt,hq0,he0⟩,_⟩:=hf.st m q T' d x hm CY;have:j0=j:=by
         by_cases hjj:j0=j
         ·exact hjj
         ·exact absurd (u4 he0).2.2 (hf.dst j o T d ho he j0 q0 hq0 hjj)
        subst this;have hb:tF (gb [] all) m j0=true:=hf.ord.I5 hm hq0 bt (by
         unfold xR;rw [(u4 he0).2.2,show TY (some d) (qz P cfg all q)=true from Fg (by
          unfold qz;refine List.mem_append_right _ ?_;rw [(Iz CY).1];exact nE (show Operand.tmp d∈[Operand.tmp d,x] by simp))]
         rfl)
        have:=hc m j0 hSm hb;rw [ti] at this; simp at this
       ·by_cases Rw:j' = j
        ·exact Rw
        ·exfalso
         rw [ay Rw] at hy;have:=(h4 j' o' T' d' eH Iq (hold j' o' T' d' eH Iq hS' Rw)).2.1.hi;omega
      ·simp only [ay hji]
       obtain ⟨q1,q2,⟨cm,q3,q4,q5,q6⟩,q7⟩:=h4 j q U c hq Pj (hold j q U c hq Pj hS hji);obtain ⟨q8,q9⟩:=q2.step tK;refine ⟨?_,q8,⟨cm,by rw [q9]; exact q3,q4,fun m q' T' x hm CY hSm=>?_,fun hn=>?_⟩,fun j' o' T' d' eH Iq hS' hy=>?_⟩
       ·rw [aqk (hf.dst j q U c hq Pj i o ho (Ne.symm hji))]
        exact q1.mono ob
       ·rw [iV (acv m q' T' c x hm CY)] at hSm
        exact q5 m q' T' x hm CY hSm
       ·exact q6 fun m q' T' x hm CY=>by
         have:=hn m q' T' x hm CY;rwa [iV (acv m q' T' c x hm CY)] at this
       ·by_cases Rw:j' = i
        ·rw [aV Rw] at hy
         have:=q2.hi;omega
        ·rw [ay Rw] at hy
         exact q7 j' o' T' d' eH Iq (hold j' o' T' d' eH Iq hS' Rw) hy
    ·
     obtain ⟨e1,e2,e3,_⟩:=Iz he;obtain ⟨hnd,ahn,⟨j0,q0,T0,bt,hq0,he0⟩,hxd⟩:=hf.st i o T d x ho he;have hb0:tF (gb [] all) i j0=true:=hf.ord.I5 ho hq0 bt (by
      unfold xR;rw [(u4 he0).2.2,show TY (some d) (qz P cfg all o)=true from Fg (by
       unfold qz;refine List.mem_append_right _ ?_;rw [e1];exact nE (show Operand.tmp d∈[Operand.tmp d,x] by simp))]
      rfl)
     have hS0:S j0=true:=hc.ready hf.ord.reg ho wy j0 hb0;obtain ⟨q1,q2,⟨pE,q3,q4,_,_⟩,q7⟩:=h4 j0 q0 T0 d hq0 he0 hS0;obtain ⟨cs,Q9⟩:=Ba q0 (jj hq0) T0 d he0;obtain ⟨z,_,_,_,_,_,hz6,hz7⟩:=Lw Q9;have awD:wA all d all=some (T,x):=by
      cases hs:wA all d all with
      | none=>exact absurd he (HX hs i o ho T x)
      | some p=>
       obtain ⟨T2,x2⟩:=p;obtain ⟨i2,o2,h5,h6⟩:=HW hs;by_cases hii:i2=i
       ·subst hii
        rw [ho] at h5;simp at h5;subst h5;rw [he] at h6;simp at h6;rw [h6.1,h6.2]
       ·exact absurd h6 (ahn i2 o2 h5 hii T2 x2)
     obtain ⟨hT,hl,aac,_⟩:=hz6 T x awD;subst hT;have CX:nJ tn x=nJ t1 x:=alp WU Cd hnd;rw [CX] at hl aac;have hxv:VC P E' a8 (nJ t1 x) (a'.eval x):=UC h3 fun z e=>DG z (by
      unfold qz;refine List.mem_append_right _ ?_;rw [e1];subst e;exact nE (show Operand.tmp z∈[Operand.tmp d,Operand.tmp z] by simp))
     obtain ⟨u,hu1,hu2⟩:=hxv;have asH:=hu1.cells (CV aac);have qD:u.cells.toList.all scalar=true:=iu.2 (asH.scalar aac);have asI:some u.cells.size=size? P T0:=by
      rw [<- hl];have:=asH.length;simp only [Array.length_toList] at this;rw [this]
     have bb:compile P o.op = .act (MW P T0) [.tmp d,x]:=by rw [e1]; rfl
     have cq:=uW P o;rw [bb] at cq
     let em:Operand->Value:=fun q=>if q = .tmp d then K6 (y j0) else u
     have hw:jw 0 pE u.cells.toList=some u.cells.toList:=aeh (by
      rw [<- asI] at q4;simp only [dG] at q4;rw [q4]; simp)
     obtain ⟨zY,v',nx,w2,hr1,zR,hr3,hr4⟩:=cq a8 B' (B'.put (y j0) (.row u.cells.toList (rz P T0) true none)) base w' em a'.eval undef h2.gX.kV (fun q hq=>by
       rcases fp.1 hq with rfl | hq
       ·show VR a8 (em (.tmp d)) (a'.tmps.getD d undef)
        simp only [em,if_true];exact q1
       ·simp only [EM] at hq
        subst hq;simp only [em,ay hxd];exact hu2) (by
       have h1:em (.tmp d)=K6 (y j0):=by simp [em]
       have h2:em x=u:=by simp [em,hxd]
       simp [h1,h2,MW,aF.storeAt,K6,asI,St.De,dC,qD,q3,hw,St.fI])
     have awE:=awz h2 q2 q3 hr4;have ob:=hr4.le h2.gX.kV;have DD:∀ x,AR A E' x->(B'.put (y j0) (.row u.cells.toList (rz P T0) true none)).get x=B'.get x:=fun x q=>by
      rw [St.cr,ay];intro e;subst e;exact q2.far (.inl q)
     have hAT:∀ q,AT A E' (B'.put (y j0) (.row u.cells.toList (rz P T0) true none)) q->AT A E' B' q:=fun q r=>r.of (fun _=>rfl) (fun _ _ e=>e) DD fun _ _=>by simp
     have hFr:∀ q,Fr E' A B' B.next q->Fr E' A (B'.put (y j0) (.row u.cells.toList (rz P T0) true none)) B.next q:=fun q f=>⟨f.lo,f.hi,f.un,f.z,fun r=>f.far (hAT q r)⟩
     have avJ:∀ v:Value,a'.put o.dst v=a':=fun v=>by rw [e3]; rfl
     have asJ:Inv (da S i) (a'.put o.dst v') w2:=by
      rw [avJ];refine ⟨E',_,zY,y,h1,awE,(h3.mono (Env.le_refl _) ob).same fun z=>?_,fun j q U c hq Pj hS=>?_⟩
      ·rw [PE hf.ord hc ho hx ti z,e3]; rfl
      ·have hji:j≠i:=fun e=>by
        subst e;rw [ho] at hq;simp at hq;subst hq;rw [Oi Pj] at he;simp at he
       have hold:∀ (m:Nat) (q:Oper) (U:TypeId) (c:Tmp),all[m]? = some q->iM q=some (U,c)->da S i m=true->S m=true:=fun m q U c hm Pj hS=>by
        have:m≠i:=fun e=>by
         subst e;rw [ho] at hm;simp at hm;subst hm;rw [Oi Pj] at he;simp at he
        rwa [iV this] at hS
       rw [iV hji] at hS;obtain ⟨p1,p2,⟨cm,p3,p4,p5,p6⟩,p7⟩:=h4 j q U c hq Pj hS;refine ⟨p1.mono ob,hFr _ p2,?_,fun j' o' T' d' eH Iq hS'=>p7 j' o' T' d' eH Iq (hold j' o' T' d' eH Iq hS')⟩;by_cases hj0:j=j0
       ·subst hj0
        rw [hq0] at hq;simp at hq;subst hq;rw [he0] at Pj;simp at Pj;obtain ⟨rfl,rfl⟩:=Pj;refine ⟨u.cells.toList,by simp,by simpa using asI,fun m q' T' x' hm CY _=>?_,fun hn=>?_⟩
        ·have hmi:m=i:=by
          by_cases hmi:m=i
          ·exact hmi
          ·exact absurd CY (ahn m q' hm hmi T' x')
         subst hmi;rw [ho] at hm;simp at hm;subst hm;rw [he] at CY;simp at CY;rw [<- CY.2,CX];exact asH
        ·have:=hn i o T0 x ho he
         rw [Ei] at this;simp at this
       ·have hcd:c≠d:=fun e=>by
         subst e;exact absurd (u4 he0).2.2 (hf.dst j q U c hq Pj j0 q0 hq0 (Ne.symm hj0))
        have acv:∀ (m:Nat) (q:Oper) (U:TypeId) (x:Operand),all[m]? = some q->wz all q=some (U,c,x)->m≠i:=fun m q U x hm CY e=>by
         subst e;rw [ho] at hm;simp at hm;subst hm;rw [he] at CY;simp at CY;exact hcd CY.2.1.symm
        refine ⟨cm,?_,p4,fun m q' T' x' hm CY hSm=>?_,fun hn=>?_⟩
        ·rw [St.cr,ay]
         ·exact p3
         ·intro e
          exact hj0 ((p7 j0 q0 T0 d hq0 he0 hS0 e.symm).symm)
        ·rw [iV (acv m q' T' x' hm CY)] at hSm
         exact p5 m q' T' x' hm CY hSm
        ·exact p6 fun m q' T' x' hm CY=>by
          have:=hn m q' T' x' hm CY;rwa [iV (acv m q' T' x' hm CY)] at this
     unfold Oper.wp;rw [hr1];cases nx with
     | value u'=>have:u' = v':=zR; subst this; exact asJ
     | skip=>have:v' = undef:=zR; subst this; exact asJ
     | _=>exact zR.elim
   ·
    have hgo:∀ PD RB zQ v' Pa,VC P PD zQ L[i].2.1 v'->Ev P base E' A B' a8 w' PD A RB zQ Pa->Inv (da S i) (a'.put o.dst v') Pa:=fun PD RB zQ v' Pa h5 h6=>by
     have ob:=h6.gX.le h2.gX.kV;refine ⟨PD,RB,zQ,y,by rw [put_defers]; exact h1,h2.trans h6,?_,h4.step hf ho hnb h6 ob⟩;refine ((h3.mono h6.le ob).put (Ls i o ho) h5).same fun z=>?_;rw [PE hf.ord hc ho hx ti z]
    rcases hg with hg | ⟨p,hp,hg⟩
    ·refine RA je hg (fun x hxm=>UC h3 fun z e=>DG z ?_) h2.kj hgo
     unfold qz;subst e;exact List.mem_append_right _ (nE hxm)
    ·refine aoY je hp hg (fun x hxm=>UC h3 fun z e=>DG z ?_) h2.kj hgo
     unfold qz;subst e;refine List.mem_append_right _ (nE ?_);unfold Pq at hp;split at hp
     ·rename_i c MQ _
      split at hp
      ·rename_i d yo
       simp at hp;subst hp;rw [MQ];show Operand.tmp z∈af0 (oM P cfg c);unfold oM;rw [yo];exact hxm
      ·simp at hp
     ·simp at hp
 ·
  rintro S a' w' qD ⟨E',B',a8,y,h1,h2,h3,h4⟩;have hS:∀ (i:Nat) (o:Oper),all[i]? = some o->S i=true:=fun i o ho=>qD i (dD.1 ho).1;have awF:nU P E' a8 tn N a':=h3.same fun z=>by
   rw [WU z];exact oP rfl fun i o ho _=>by rw [bh]; exact (hS i o ho).symm
  obtain ⟨t',E2,A2,f1,f2,f3⟩:=YU (y:=y) all 0 tn E' A rfl hk h2 awF (fun j o T d _ ho he=>Ls j o ho d (u4 he).2.2) fun j o T d _ ho he=>by
   obtain ⟨q1,q2,⟨cm,q3,q4,q5,q6⟩,q7⟩:=h4 j o T d ho he (hS j o ho);refine ⟨q1,q2,fun cs Q9=>⟨cm,q3,?_⟩,fun j' o' T' d' _ eH Iq hy=>q7 j' o' T' d' eH Iq (hS j' o' eH) hy⟩;obtain ⟨z,Pd,_,_,_,_,hz6,hz7⟩:=Lw Q9;cases hs:wA all d all with
   | some p=>
    obtain ⟨T2,x2⟩:=p;obtain ⟨i2,o2,h5,h6⟩:=HW hs;rw [(hz6 T2 x2 hs).2.2.2];exact q5 i2 o2 T2 x2 h5 h6 (hS i2 o2 h5)
   | none=>
    rw [hz7 hs];obtain ⟨z',g1,g2⟩:=q6 fun m q' T' x hm CY=>absurd CY (HX hs m q' hm T' x);rw [Pd] at g1;simp at g1;subst g1;exact g2
  exact hq t' E2 A2 B' a8 a' w' f1 f2 h1 (UE.trans f3)
 ·simp
 ·refine ht.same fun z=>?_
  rw [RE Jc]
 ·intro j o T d ho he WV
  have WV:(Array.replicate all.length false).getD j false=true:=WV;rw [Jc] at WV;simp at WV
end Go.K
end
section
namespace Go.K
open Go Go.aF
variable {P:Program} {E:Env}
theorem aap {R:Type} {cfg:ga} {bJ:qI R} {all:List Oper} {k:bL->aB->Option R} : ∀ (a b:List Oper),xA P cfg bJ all k (a++b)=xA P cfg bJ all (xA P cfg bJ all k b) a
 | [],b=>rfl
 | o::a,b=>by
  show DC P cfg bJ all o (xA P cfg bJ all k (a++b))=DC P cfg bJ all o (xA P cfg bJ all (xA P cfg bJ all k b) a);rw [aap a b]
theorem aka {cfg:ga} {all:List Oper} {o:Oper} (h:ej (cf P cfg o.op)<=1):ux all o=false:=by
 cases hb:ux all o with
 | false=>rfl
 | true=>
  exfalso;rcases YS hb with ⟨T,d,e⟩ | ⟨T,d,x,e⟩
  ·rw [(u4 e).1] at h
   have h:ej (tj P T)<=1:=h;unfold tj at h;split at h
   ·rename_i z _
    cases hc:(flat z&&z.cells.toList.all scalar&&jy (iR z).cells) <;> rw [hc] at h <;> simp [ej] at h
   ·simp [ej] at h
  ·rw [(Iz e).1] at h
   have h:(3:Nat)<=1:=h;omega
theorem UH {R:Type} {cfg:ga} {bJ:qI R} {all:List Oper} {k:bL->aB->Option R} {r:R} : ∀ {os:List Oper} {t:bL} {A:aB},(∀ o∈os,ej (cf P cfg o.op)<=1)->xA P cfg bJ all k os t A=some r->
  ∃ L t',aeg P cfg all A os t L t'/\k t' A=some r
 | [],t,A,_,h=>⟨[],t,.nil,h⟩
 | o::os,t,A,hn,h=>by
  have Rc:=fun q hq=>hn q (vV o hq);have hk:=hn o (by simp);have hb:=aka (all:=all) hk;have hk3:Nat.ble 3 (ej (cf P cfg o.op))=false:=by
   cases hc:Nat.ble 3 (ej (cf P cfg o.op)) with
   | false=>rfl
   | true=>have:=gD hc; omega
  have hnc:=GU (P:=P) (cfg:=cfg) (o:=o) (by omega);have h:DC P cfg bJ all o (xA P cfg bJ all k os) t A=some r:=h;unfold DC at h;cases hg:o.guard with
  | none=>
   rw [hg] at h;obtain ⟨v,A1,h1,h2⟩:=Nd hnc h;have e:=GS h1 hk3;subst e;obtain ⟨L,t',h3,h4⟩:=UH Rc h2;exact ⟨_,t',.cons (fun _=>rfl) (.inl ⟨hg,rfl⟩) (fun _=>.inr ⟨hb,.inl h1⟩) (fun e=>by simp at e) h3,h4⟩
  | some p=>
   obtain ⟨j,want⟩:=p;rw [hg] at h;obtain ⟨d,hd,h⟩:=RC h;rcases h with ⟨b,t1,h1,h2,h3⟩ | ⟨l,h1,h2⟩
   ·rcases h3 with ⟨h3,h4⟩ | ⟨h3,h4⟩
    ·obtain ⟨v,A1,h5,h6⟩:=Nd hnc h4
     have e:=GS h5 hk3;subst e;obtain ⟨L,t',h7,h8⟩:=UH Rc h6;exact ⟨_,t',.cons h2 (.inr ⟨j,want,d,hg,hd,.inl ⟨b,h1,h3.symm⟩⟩) (fun _=>.inr ⟨hb,.inl h5⟩) (fun e=>by simp at e) h7,h8⟩
    ·obtain ⟨L,t',h7,h8⟩:=UH Rc h4
     exact ⟨_,t',.cons h2 (.inr ⟨j,want,d,hg,hd,.inl ⟨b,h1,h3.symm⟩⟩) (fun e=>by simp at e) (fun _=>⟨rfl,hb⟩) h7,h8⟩
   ·obtain ⟨L,t',h7,h8⟩:=UH Rc h2
    exact ⟨_,t',.cons (fun _=>rfl) (.inr ⟨j,want,d,hg,hd,.inr ⟨l,h1,rfl⟩⟩) (fun e=>by simp at e) (fun _=>⟨rfl,hb⟩) h7,h8⟩
section
variable {cfg:ga} {all os:List Oper} {L:List Out} {t0:bL} {m:Nat}
theorem aho (hf:ahj P cfg all) (hos:∀ j q,os[j]? = some q->all[m+j]? = some q) {S:Nat->Bool} (hc:ug all S) {i:Nat} {o:Oper} (ho:os[i]? = some o) (ti:S (m+i)=false) (wy:yK all S (m+i)) {y:Tmp} (hy:y∈qz P cfg all o) :
  (kd (fun j=>S (m+j)) os L 0 t0).get y=(kd (fun j=>Nat.blt j i) os L 0 t0).get y:=by
 refine oP rfl fun j q hq hd=>?_;rw [bh];have ho':=hos i o ho;have hq':=hos j q hq;rcases Nat.lt_trichotomy j i with h | h | h
 ·have:tF (gb [] all) (m+i) (m+j)=true:=hf.I5 ho' hq' (by omega) (by
   unfold xR;rw [hd,Fg hy];rfl)
  rw [hc.ready hf.reg ho' wy (m+j) this]
  symm; rw [bZ]; exact h
 ·subst h
  rw [ti]
  symm
  cases hb:Nat.blt j j with
  | false=>rfl
  | true=>rw [bZ] at hb; omega
 ·have hb:tF (gb [] all) (m+j) (m+i)=true:=hf.I5 hq' ho' (by omega) (by
   unfold xR;rw [hd,Fg hy];simp)
  have:S (m+j)=false:=by
   cases hs:S (m+j) with
   | false=>rfl
   | true=>have:=hc (m+j) (m+i) hs hb; rw [ti] at this; simp at this
  rw [this]
  symm
  cases hbb:Nat.blt j i with
  | false=>rfl
  | true=>rw [bZ] at hbb; omega
theorem asK (hf:ahj P cfg all) (hos:∀ j q,os[j]? = some q->all[m+j]? = some q) {S:Nat->Bool} (hc:ug all S) {i:Nat} {o:Oper} {x:Out} (ho:os[i]? = some o) (hx:L[i]? = some x) (ti:S (m+i)=false) (y:Tmp) :
  (kd (fun j=>da S (m+i) (m+j)) os L 0 t0).get y=(tI (kd (fun j=>S (m+j)) os L 0 t0) o.dst x.2.1).get y:=by
 have aql:(fun j=>da S (m+i) (m+j))=da (fun j=>S (m+j)) i:=by
  funext j;unfold da;cases hb:Nat.beq j i with
  | true=>have:=bm hb; subst this; simp
  | false=>
   have eY:=Nat.ne_of_beq_eq_false hb;cases vy:Nat.beq (m+j) (m+i) with
   | false=>rfl
   | true=>have:=bm vy; omega
 rw [aql,wH];by_cases hd:o.dst=some y
 ·rw [aV hd]
  have:=ahi (S:=fun j=>S (m+j)) (y:=y) (os:=os) (L:=L) (k:=0) (i:=i) (t:=t0) ho hx hd (fun j q hq hqd bt=>by
   rw [bh];have hb:tF (gb [] all) (m+j) (m+i)=true:=hf.I5 (hos j q hq) (hos i o ho) (by omega) (by
    unfold xR;rw [hqd,hd];simp [ZM])
   cases hs:S (m+j) with
   | false=>rfl
   | true=>have:=hc (m+j) (m+i) hs hb; rw [ti] at this; simp at this)
  rw [bh] at this;exact this
 ·rw [ay hd]
  refine oP rfl fun j q hq hqd=>?_;rw [bh];have eY:j≠i:=by
   intro e;subst e;rw [ho] at hq;simp at hq;subst hq;exact hd hqd
  unfold da;have:Nat.beq j i=false:=by
   cases hb:Nat.beq j i with
   | false=>rfl
   | true=>exact absurd (bm hb) eY
  rw [this,Bool.or_false]
end
theorem XQ {cfg:ga} {b:List Nat} {i:Nat} : ∀ (os:List Oper) (k:Nat),Pr P cfg b i os k=true->∀ (j:Nat) (o:Oper),os[j]? = some o->(k+j < i->ej (cf P cfg o.op)=0\/tF b i (k+j)=true)/\(i < k+j->tF b (k+j) i=true)
 | [],k,_,j,o,ho=>by simp at ho
 | q::os,k,h,0,o,ho=>by
  simp at ho;subst ho;simp only [Pr,aD] at h;rw [zh];have h2:=h.1;cases hb:Nat.beq k i with
  | true=>have:=bm hb; exact ⟨fun e=>by omega,fun e=>by omega⟩
  | false=>
   rw [hb,aw] at h2;refine ⟨fun bt=>?_,fun bt=>?_⟩
   ·rw [show Nat.blt k i=true from by rw [bZ]; exact bt,ai] at h2
    cases hz:Nat.beq (ej (cf P cfg q.op)) 0 with
    | true=>exact .inl (bm hz)
    | false=>rw [hz,aw] at h2; exact .inr h2
   ·have:Nat.blt k i=false:=by
     cases vy:Nat.blt k i with
     | false=>rfl
     | true=>rw [bZ] at vy; omega
    rwa [this,aw] at h2
 | q::os,k,h,j+1,o,ho=>by
  simp only [Pr,aD] at h;have:=XQ os (k+1) h.2 j o (by simpa using ho);rwa [show k+1+j=k+(j+1) by omega] at this
theorem UI {cfg:ga} {b:List Nat} {all:List Oper} : ∀ (os:List Oper) (k:Nat),Ps P cfg b all os k=true->∀ (i:Nat) (o:Oper),os[i]? = some o->¬ ej (cf P cfg o.op)<=1->Pr P cfg b (k+i) all 0=true
 | [],k,_,i,o,ho,_=>by simp at ho
 | q::os,k,h,0,o,ho,hk=>by
  simp at ho;subst ho;simp only [Ps,aD] at h;have h2:=h.1;have:Nat.ble (ej (cf P cfg q.op)) 1=false:=by
   cases hb:Nat.ble (ej (cf P cfg q.op)) 1 with
   | false=>rfl
   | true=>exact absurd (gD hb) hk
  rw [this,aw] at h2;exact h2
 | q::os,k,h,i+1,o,ho,hk=>by
  simp only [Ps,aD] at h;have:=UI os (k+1) h.2 i o (by simpa using ho) hk;rwa [show k+1+i=k+(i+1) by omega] at this
theorem ahp {cfg:ga} : ∀ (os:List Oper),∃ n,n<=os.length/\(∀ o∈os.take n,ej (cf P cfg o.op)<=1)/\(n=os.length\/∃ o,os[n]? = some o/\¬ ej (cf P cfg o.op)<=1)
 | []=>⟨0,by simp,by simp,by simp⟩
 | o::os=>by
  by_cases hk:ej (cf P cfg o.op)<=1
  ·obtain ⟨n,h1,h2,h3⟩:=ahp (cfg:=cfg) os
   refine ⟨n+1,by simpa using h1,fun q hq=>?_,?_⟩
   ·simp only [List.take_succ_cons,fp] at hq
    rcases hq with rfl | hq
    ·exact hk
    ·exact h2 q hq
   ·rcases h3 with h3 | ⟨q,h3,h4⟩
    ·exact .inl (by simp [h3])
    ·exact .inr ⟨q,by simpa using h3,h4⟩
  ·exact ⟨0,by simp,by simp,.inr ⟨o,by simp,hk⟩⟩
theorem arb {R:Type} {cfg:ga} {bJ:qI R} {all os:List Oper} {k:bL->aB->Option R} {r:R} {t:bL} {A:aB} (h:xA P cfg bJ all k os t A=some r) :
  ∃ n L tn,n<=os.length/\(∀ o∈os.take n,ej (cf P cfg o.op)<=1)/\(n=os.length\/∃ o,os[n]? = some o/\¬ ej (cf P cfg o.op)<=1)/\aeg P cfg all A (os.take n) t L tn/\xA P cfg bJ all k (os.drop n) tn A=some r:=by
 obtain ⟨n,h1,h2,h3⟩:=ahp (P:=P) (cfg:=cfg) os;rw [<- List.take_append_drop n os,aap] at h;obtain ⟨L,tn,h4,h5⟩:=UH h2 h;exact ⟨n,L,tn,h1,h2,h3,h4,h5⟩
theorem anc (S:Nat->Bool) (os:List Oper) (L:List Out) (t:bL):∀ (m:Nat),kd S os L m t=kd (fun j=>S (m+j)) os L 0 t:=by
 intro m
 induction m generalizing S with
 | zero=>simp only [bh]
 | succ m ih=>
  rw [GQ,ih];congr 1;funext j;rw [show m+j+1=m+1+j by omega]
theorem RI (S:Nat->Bool):∀ (os:List Oper) (L L2:List Out) (k:Nat) (t:bL),L.length<=os.length->kd S os (L++L2) k t=kd S (os.drop L.length) L2 (k+L.length) (kd S os L k t)
 | [],[],L2,k,t,_=>rfl
 | [],x::L,L2,k,t,h=>by simp at h
 | o::os,[],L2,k,t,_=>rfl
 | o::os,x::L,L2,k,t,h=>by
  simp only [List.cons_append,kd,Kg,List.drop_succ_cons];rw [RI S os L L2 (k+1) _ (by simpa using h),show k+1+L.length=k+(L.length+1) by omega]
theorem acw {S:Nat->Bool} {os:List Oper} {L L2:List Out} {t:bL} (h:L.length<=os.length) (hS:∀ j,L.length<=j->j < os.length->S j=false) (y:Tmp):(kd S os (L++L2) 0 t).get y=(kd S os L 0 t).get y:=by
 rw [RI S os L L2 0 t h,bh,anc];refine (oP (S':=fun _=>false) rfl fun i o ho _=>?_).trans (by rw [RE fun _=>rfl]);rw [bh];rw [rJ] at ho;exact hS _ (by omega) (dD.1 ho).1
theorem aaq {S S' : Nat->Bool} : ∀ {os:List Oper} {L:List Out} {k:Nat} {t:bL},(∀ j,j < L.length->S (k+j)=S' (k+j))->kd S os L k t=kd S' os L k t
 | [],L,k,t,_=>by cases L <;> rfl
 | o::os,[],k,t,_=>rfl
 | o::os,x::L,k,t,h=>by
  simp only [kd];rw [show S k=S' k from by have:=h 0 (by simp); simpa using this];exact aaq fun j hj=>by have:=h (j+1) (by simpa using hj); rwa [show k+(j+1)=k+1+j by omega] at this
theorem ane {S:Nat->Bool} : ∀ {os:List Oper} {L:List Out} {n k:Nat} {t:bL},L.length<=n->kd S (os.take n) L k t=kd S os L k t
 | [],L,n,k,t,_=>by simp
 | o::os,[],n,k,t,_=>by cases n <;> rfl
 | o::os,x::L,0,k,t,h=>by simp at h
 | o::os,x::L,n+1,k,t,h=>by
  simp only [List.take_succ_cons,kd];exact ane (by simpa using h)
theorem ao0 {cfg:ga} {o:Oper} {p:Operand×List Operand} (h:Pq o=some p) : ¬ ej (cf P cfg o.op)<=1:=by
 unfold Pq at h;split at h
 ·rename_i c' awG _
  split at h
  ·rename_i d yo
   rw [awG];show ¬ ej (oM P cfg c')<=1;unfold oM;rw [yo];show ¬ (9:Nat)<=1;omega
  ·simp at h
 ·simp at h
theorem z6 {t t' : bL} : ∀ {xs:List Operand},(∀ x∈xs,nJ t x=nJ t' x)->ox t xs=ox t' xs:=fun {xs} h=>by
 rw [wG,wG];exact List.map_congr_left h
theorem anf {R:Type} {bJ:qI R} {t t' : bL} {A:aB} {k:KV->aB->Option R} {ins:uY} (h:∀ x∈af0 ins,nJ t x=nJ t' x):Uk bJ t A k ins=Uk bJ t' A k ins:=by
 cases ins with
 | pure f xs=>show (f (ox t xs)).run _=(f (ox t' xs)).run _; rw [z6 (xs:=xs) h]
 | read f xs=>show (f A (ox t xs)).run _=(f A (ox t' xs)).run _; rw [z6 (xs:=xs) h]
 | act f xs=>show (f A (ox t xs)).run _=(f A (ox t' xs)).run _; rw [z6 (xs:=xs) h]
 | look f xs=>show (f (ox t xs)).run _=(f (ox t' xs)).run _; rw [z6 (xs:=xs) h]
 | GG g f xs=>show (f (ox t xs)).run _=(f (ox t' xs)).run _; rw [z6 (xs:=xs) h]
 | Li g f xs=>show (f (B5 A (ox t xs)).1).run (fun v=>k v (B5 A (ox t xs)).2)=(f (B5 A (ox t' xs)).1).run (fun v=>k v (B5 A (ox t' xs)).2); rw [z6 (xs:=xs) h]
 | call f xs=>
  show Option.rec (motive:=fun _=>Option R) none (fun p=>bJ p.1 p.2 A k) (Lj (ox t xs) (nJ t f))=Option.rec (motive:=fun _=>Option R) none (fun p=>bJ p.1 p.2 A k) (Lj (ox t' xs) (nJ t' f));rw [z6 fun x hx=>h x (vV f hx),h f (Kh ..)]
 | bad=>rfl
theorem alq {R:Type} {cfg:ga} {bJ:qI R} (je:vO P cfg.pc) (zH:PC P bJ) (hm:P.follows .mixedOrders=true) {id:Nat} {all:List Oper} {N base:Nat} (hdN:all.all (N5 N)=true) {k:bL->aB->Option R} {r:R} {t:bL} {A:aB} {B:St} {ρ:a7} {a:Act} {w:World} {Q:Exit->Act->World->Prop}
  (PF:Rm P cfg all=true) (h:xA P cfg bJ all k all t A=some r) (ht:nU P E ρ t N a) (hj:KJ P E A B ρ base w)
  (hq:∀ t' E' A' B' a8 a' w',k t' A' = some r->nU P E' a8 t' N a'->a'.defers=a.defers->Ev P base E A B ρ w E' A' B' a8 w'->Q .normal a' w'):(Code.region id ⟨all⟩ true).wp P Q a w:=by
 unfold Rm at PF;split at PF
 ·simp only [aD] at PF
  obtain ⟨⟨awH,hcl⟩,har⟩:=PF;have hf:ahj P cfg all:=⟨I9 awH,fun {i j x y} hy hx bt yo=>by
   have:=GV all 0 hcl i y hy;rw [bh] at this;have:=Lv all 0 this j x hx (by omega) yo;rwa [bh] at this⟩
  have piv:∀ (i:Nat) (o:Oper),all[i]? = some o->¬ ej (cf P cfg o.op)<=1->∀ j q,all[j]? = some q->(j < i->ej (cf P cfg q.op)=0\/tF (gb [] all) i j=true)/\(i < j->tF (gb [] all) j i=true):=fun i o ho hk j q hq=>by
   have h1:=UI all 0 har i o ho hk;have h2:=XQ all 0 h1 j q hq;simpa only [bh] using h2
  have UE:Ev P base E A B ρ w E A B ρ w.drew:=(eX.refl hj.k).ev (pw.drew hj.s);have Ls:∀ (i:Nat) (o:Oper),all[i]? = some o->∀ d,o.dst=some d->d < N:=by
   intro i o ho d ed;have:=iu.1 hdN o (jj ho);unfold N5 at this;rw [ed] at this;simp only at this;rw [bZ] at this;exact this
  refine wp_region_any hm ?_;show wpAny P .any ⟨all⟩ Q all.length (Array.replicate all.length false) a w.drew;have Jc:∀ i,(Array.replicate all.length false).getD i false=false:=by
   intro i;rw [ji,Array.getElem?_replicate];split <;> rfl
  have e0:∀ (S:Nat->Bool),(fun j=>S (0+j))=S:=fun S=>by funext j; rw [bh]
  have hos:∀ j q,all[j]? = some q->all[0+j]? = some q:=fun j q hjq=>by rwa [bh]
  let au6:List Out->aB->Nat->Oper->Out->Prop:=fun L A2 i o x=>∃ t1,(∀ y,t1.get y=(kd (fun j=>Nat.blt j i) all L 0 t).get y)/\RD all o t1 x.1/\(x.1=true->ba (zk (cf P cfg o.op) t1 A2) (x.2.1,A2))/\(x.1=false->x.2.1=vY)
  let Inv:(Nat->Bool)->Act->World->Prop:=fun S a' w'=>∃ n L A2 tn E' B' a8,n<=all.length/\L.length=n/\(∀ j,n<=j->j < all.length->S j=false)/\(n=all.length\/∃ o,all[n]? = some o/\¬ ej (cf P cfg o.op)<=1)/\
   (∀ j o,j < n->all[j]? = some o->¬ ej (cf P cfg o.op)<=1->S j=true)/\(∀ i o x,i < n->S i=false->all[i]? = some o->L[i]? = some x->au6 L A2 i o x)/\
   (∀ y,tn.get y=(kd (fun _=>true) all L 0 t).get y)/\xA P cfg bJ all k (all.drop n) tn A2=some r/\a'.defers=a.defers/\Ev P base E A B ρ w.drew E' A2 B' a8 w'/\nU P E' a8 (kd S all L 0 t) N a'
  have begin:∀ (m:Nat) (S:Nat->Bool) (L:List Out) (A2:aB) (t2:bL) (a' : Act) (w' : World) (E' : Env) (B' : St) (a8:a7),m<=all.length->L.length=m->(∀ j,m<=j->j < all.length->S j=false)->
    (∀ j o,j < m->all[j]? = some o->¬ ej (cf P cfg o.op)<=1->S j=true)->(∀ i o x,i < m->S i=false->all[i]? = some o->L[i]? = some x->au6 L A2 i o x)->
    (∀ y,t2.get y=(kd (fun _=>true) all L 0 t).get y)->xA P cfg bJ all k (all.drop m) t2 A2=some r->a'.defers=a.defers->Ev P base E A B ρ w.drew E' A2 B' a8 w'->nU P E' a8 (kd S all L 0 t) N a'->Inv S a' w':=by
   intro m S L A2 t2 a' w' E' B' a8 hml hL h1 h2 h3 h4 h5 h6 h7 h8;obtain ⟨n,L2,tn,g1,g2,g3,g4,g5⟩:=arb h5;rw [List.length_drop] at g1 g3;obtain ⟨k1,k2,k3⟩:=g4.at;rw [pz,List.length_drop,Nat.min_eq_left g1] at k1;have hLa:L.length<=all.length:=by omega
   have tail:∀ (S:Nat->Bool) (y:Tmp),(∀ j,j < m->S j=true)->(kd S all (L++L2) 0 t).get y=(kd (fun j=>S (m+j)) ((all.drop m).take n) L2 0 t2).get y:=fun S y hS=>by
    rw [RI S all L L2 0 t hLa,bh,anc,ane (by omega),hL];refine oP ?_ fun _ _ _ _=>rfl;rw [h4 y,aaq (S:=S) (S':=fun _=>true) fun j hj=>by rw [bh]; exact hS j (by omega)]
   refine ⟨m+n,L++L2,A2,tn,E',B',a8,by omega,by rw [n7]; omega,fun j hj1 Rw=>h1 j (by omega) Rw,?_,fun j o hj ho hk=>?_,fun i o x hi ti ho hx=>?_,fun y=>?_,by rwa [List.drop_drop] at g5,h6,h7,h8.same fun y=>acw hLa (fun j hj1 Rw=>h1 j (by omega) Rw) y⟩
   ·rcases g3 with g3 | ⟨o,g3,g6⟩
    ·exact .inl (by omega)
    ·exact .inr ⟨o,by rwa [rJ] at g3,g6⟩
   ·by_cases hjm:j < m
    ·exact h2 j o hjm ho hk
    ·exfalso
     refine hk (g2 o (jj (i:=j - m) ?_));rw [rj,aV (by omega),rJ,show m+(j - m)=j by omega];exact ho
   ·by_cases him:i < m
    ·rw [ue (by omega)] at hx
     obtain ⟨t1,q1,q2⟩:=h3 i o x him ti ho hx;exact ⟨t1,fun y=>by rw [q1 y]; exact (acw hLa (fun j hj1 _=>by
      cases hb:Nat.blt j i with
      | false=>rfl
      | true=>rw [bZ] at hb; omega) y).symm,q2⟩
    ·rw [vU (by omega),hL] at hx
     have hoi:((all.drop m).take n)[i - m]? = some o:=by rw [rj,aV (by omega),rJ,show m+(i - m)=i by omega]; exact ho
     obtain ⟨t1,q1,q2,q3,q4⟩:=k3 (i - m) o x hoi hx;have hk:=g2 o (jj hoi);refine ⟨t1,fun y=>?_,q2,fun Kq=>?_,fun Kq=>(q4 Kq).1⟩
     ·rw [q1 y,tail _ y fun j hj=>by rw [bZ]; omega]
      refine oP rfl fun j q _ _=>?_;rw [bh];cases hb:Nat.blt (m+j) i with
      | true=>rw [bZ] at hb ⊢; omega
      | false=>
       cases vy:Nat.blt j (i - m) with
       | false=>rfl
       | true=>
        rw [bZ] at vy;have:Nat.blt (m+j) i=true:=by rw [bZ]; omega
        rw [hb] at this; simp at this
     ·rcases q3 Kq with ⟨IA,_⟩ | ⟨_,hg⟩
      ·rw [aka hk] at IA; simp at IA
      ·rcases hg with hg | ⟨p,hp,_⟩
       ·exact hg
       ·exact absurd hk (ao0 hp)
   ·rw [k2 y,tail _ y fun _ _=>rfl]
  refine Kl hf.reg Inv ?_ ?_ ?_ all.length _ a w.drew (by simp) ?_ (fun i j hi _=>by
    have h2:(Array.replicate all.length false).getD i false=true:=hi;rw [Jc] at h2; simp at h2) (begin 0 _ [] A t a w.drew E B ρ (by omega) rfl (fun j _ _=>Jc j) (fun j _ hj=>by omega) (fun i _ _ hi=>by omega) (fun y=>by cases all <;> rfl) (by simpa using h) rfl (.refl hj.k UE.gX.kV) (ht.same fun y=>by cases all <;> rfl))
  ·
   rintro S S' a' w' hSS ⟨n,L,A2,tn,E',B',a8,h1,h2,h3,h4,h5,h6,h7,h8,h9,xU,MT⟩;refine ⟨n,L,A2,tn,E',B',a8,h1,h2,fun j hj1 Rw=>by rw [<- hSS j Rw]; exact h3 j hj1 Rw,h4,fun j o hj ho hk=>by rw [<- hSS j (by omega)]; exact h5 j o hj ho hk,fun i o x hi ti ho hx=>h6 i o x hi (by rw [hSS i (by omega)]; exact ti) ho hx,h7,h8,h9,xU,MT.same fun z=>oP rfl fun i o ho _=>?_⟩;rw [bh];exact (hSS _ (dD.1 ho).1).symm
  ·
   rintro S a' w' i o ⟨n,L,A2,tn,E',B',a8,h1,h2,h3,h4,h5,h6,h7,h8,h9,xU,MT⟩ hcS ho ti wy _;have hil:i < all.length:=(dD.1 ho).1;have hoA:(⟨all⟩:Array Oper)[i]? = some o:=by simpa using ho
   rcases Nat.lt_trichotomy i n with zH | zH | zH
   ·
    have hkd:ej (cf P cfg o.op)<=1:=by
     by_cases hk:ej (cf P cfg o.op)<=1
     ·exact hk
     ·have:=h5 i o zH ho hk
      rw [ti] at this; simp at this
    have hi:i < L.length:=by omega
    have hx:L[i]? = some L[i]:=dF hi;obtain ⟨t1,Cd,hw,am9,RG⟩:=h6 i o L[i] zH ti ho hx;have DG:∀ z∈qz P cfg all o,t1.get z=(kd S all L 0 t).get z:=fun z hz=>by
     have:=aho (m:=0) (L:=L) (t0:=t) hf hos hcS ho (by rw [bh]; exact ti) (by rw [bh]; exact wy) hz;rw [e0] at this;rw [Cd z,this]
    have aec:∀ z,(kd (da S i) all L 0 t).get z=(tI (kd S all L 0 t) o.dst L[i].2.1).get z:=fun z=>by
     have:=asK (m:=0) (L:=L) (t0:=t) hf hos hcS ho hx (by rw [bh]; exact ti) z;rw [bh,e0,e0] at this;exact this
    have RH:=Iy MT (fun z hz=>DG z (by unfold qz; exact List.mem_append_left _ hz)) hw;have fin:∀ E2 B2 zY a2 w2,a2.defers=a'.defers->Ev P base E A B ρ w.drew E2 A2 B2 zY w2->nU P E2 zY (kd (da S i) all L 0 t) N a2->Inv (da S i) a2 w2:=fun E2 B2 zY a2 w2 q1 q2 q3=>
     ⟨n,L,A2,tn,E2,B2,zY,h1,h2,fun j hj1 Rw=>by rw [iV (by omega)]; exact h3 j hj1 Rw,h4,fun j q hj hjq hk=>by
      by_cases he:j=i
      ·subst he; exact Ei
      ·rw [iV he]; exact h5 j q hj hjq hk,fun j q x hj WV hjq hxj=>h6 j q x hj (by
       by_cases he:j=i
       ·subst he; rw [Ei] at WV; simp at WV
       ·rwa [iV he] at WV) hjq hxj,h7,h8,q1.trans h9,q2,q3⟩
    unfold wpOp;rw [hoA];simp only [RH];cases Kq:L[i].1 with
    | false=>
     simp only [xI,if_false];refine fin E' B' a8 _ _ (by rw [put_defers]) xU ?_;refine (MT.put (Ls i o ho) VC.undef).same fun z=>?_;rw [aec z,RG Kq]
    | true=>
     simp only [if_true];refine .inl (RA je (am9 Kq) (fun x hxm=>UC MT fun z e=>DG z ?_) xU.kj fun PD RB zQ v' Pa h5 h6=>?_)
     ·unfold qz
      subst e;exact List.mem_append_right _ (nE hxm)
     ·have ob:=h6.gX.le xU.gX.kV
      refine fin PD RB zQ _ _ (by rw [put_defers]) (xU.trans h6) ?_;refine ((MT.mono h6.le ob).put (Ls i o ho) h5).same fun z=>?_;rw [aec z]
   ·
    subst zH;rcases h4 with h4 | ⟨oc,MQ,aqm⟩
    ·omega
    rw [MQ] at ho;simp at ho;subst ho;have DG:∀ z∈qz P cfg all oc,tn.get z=(kd S all L 0 t).get z:=fun z hz=>by
     have:=aho (m:=0) (L:=L) (t0:=t) hf hos hcS MQ (by rw [bh]; exact ti) (by rw [bh]; exact wy) hz;rw [e0] at this;rw [this,h7 z,aaq (S:=fun _=>true) (S':=fun j=>Nat.blt j i) fun j hj=>by rw [bh]; symm; rw [bZ]; omega]
    have Ca:DC P cfg bJ all oc (xA P cfg bJ all k (all.drop (i+1))) tn A2=some r:=by
     have:all.drop i=oc::all.drop (i+1):=by
      rw [List.drop_eq_getElem_cons hil];rw [dF hil] at MQ;simp at MQ;rw [MQ]
     rw [this] at h8;exact h8
    have hLa:L.length<=all.length:=by omega
    have hdr:all.drop i=oc::all.drop (i+1):=by
     rw [List.drop_eq_getElem_cons hil];rw [dF hil] at MQ;simp at MQ;rw [MQ]
    have one:∀ (S:Nat->Bool) (x:Out),S i=true->kd S all (L++[x]) 0 t=tI (kd S all L 0 t) oc.dst x.2.1:=fun S x hS=>by
     rw [RI S all L [x] 0 t hLa,bh,h2,hdr];simp only [kd,hS,ai];cases all.drop (i+1) <;> rfl
    have ang:∀ {t1:bL} {v:KV} {v' : Value} {E2:Env} {A3:aB} {B2:St} {zY:a7} {w2:World},(∀ y,t1.get y=tn.get y)->xA P cfg bJ all k (all.drop (i+1)) (tI t1 oc.dst v) A3=some r->VC P E2 zY v v'->Ev P base E' A2 B' a8 w' E2 A3 B2 zY w2->Inv (da S i) (a'.put oc.dst v') w2:=by
     intro t1 v v' E2 A3 B2 zY w2 Cd q1 q2 q3;have ob:=q3.gX.le xU.gX.kV;have e1:kd (da S i) all L 0 t=kd S all L 0 t:=aaq fun j hj=>by rw [bh]; exact iV (by omega)
     refine begin (i+1) _ (L++[(true,v,A3)]) A3 _ _ w2 E2 B2 zY (by omega) (by simp [h2]) (fun j g1 g2=>by rw [iV (by omega)]; exact h3 j (by omega) g2) (fun j q hj hjq hk=>?_) (fun j q x hj WV hjq hxj=>?_) (fun y=>?_) q1 (by rw [put_defers]; exact h9) (xU.trans q3) ?_
     ·by_cases he:j=i
      ·subst he; exact Ei
      ·rw [iV he]; exact h5 j q (by omega) hjq hk
     ·have he:j≠i:=by
       intro he;subst he;rw [Ei] at WV; simp at WV
      rw [iV he] at WV;rw [ue (by omega)] at hxj;have hz:ej (cf P cfg q.op)=0:=by
       rcases (piv i oc MQ aqm j q hjq).1 (by omega) with hz | hb
       ·exact hz
       ·have:=hcS.ready hf.reg MQ wy j hb
        rw [WV] at this; simp at this
      obtain ⟨t3,p1,p2,p3,p4⟩:=h6 j q x (by omega) WV hjq hxj;exact ⟨t3,fun y=>by rw [p1 y]; exact (acw hLa (fun j' hj1 _=>by
       cases hb:Nat.blt j' j with
       | false=>rfl
       | true=>rw [bZ] at hb; omega) y).symm,p2,fun Kq=>am4 (p3 Kq) hz,p4⟩
     ·rw [one _ _ rfl,wH,wH,Cd y,h7 y]
     ·refine ((MT.mono q3.le ob).put (Ls i oc MQ) q2).same fun z=>?_
      rw [one _ _ Ei,e1]
    have hgt:∀ z∈KS all oc,tn.get z=(kd S all L 0 t).get z:=fun z hz=>DG z (by unfold qz; exact List.mem_append_left _ hz);have run:∀ {t1:bL},(∀ y,t1.get y=tn.get y)->RD all oc tn true->Uk bJ t1 A2 (fun v A=>xA P cfg bJ all k (all.drop (i+1)) (tI t1 oc.dst v) A) (cf P cfg oc.op)=some r->wpOp P ⟨all⟩ Q i (Inv (da S i)) a' w':=by
     intro t1 Cd hw aql;have RH:=Iy MT hgt hw;unfold wpOp;rw [hoA];simp only [RH,if_true];rw [anf (t':=kd S all L 0 t) fun x hx=>by
      cases x with
      | tmp z=>
       have:=DG z (by unfold qz; exact List.mem_append_right _ (nE hx));simp only [nJ];rw [Cd z,this]
      | const v=>rfl
      | global g=>rfl
      | func f=>rfl] at aql
     exact .inl (aeb je zH aql MT xU.kj fun E2 A2 B2 zY v v' w2 q1 q2 q3=>ang Cd q1 q2 q3)
    have skip:∀ {t1:bL},(∀ y,t1.get y=tn.get y)->RD all oc tn false->xA P cfg bJ all k (all.drop (i+1)) (tI t1 oc.dst vY) A2=some r->wpOp P ⟨all⟩ Q i (Inv (da S i)) a' w':=by
     intro t1 Cd hw hop;have RH:=Iy MT hgt hw;unfold wpOp;rw [hoA];simp only [RH,xI,if_false];exact ang Cd hop VC.undef (.refl xU.kV xU.gX.kV)
    unfold DC at Ca;cases hgd:oc.guard with
    | none=>
     rw [hgd] at Ca;exact run (fun _=>rfl) (.inl ⟨hgd,rfl⟩) Ca
    | some p=>
     obtain ⟨j,want⟩:=p;rw [hgd] at Ca;obtain ⟨d,hd,Ca⟩:=RC Ca;rcases Ca with ⟨b,t1,h4,h5,h6⟩ | ⟨l,h4,h5⟩
     ·rcases h6 with ⟨h6,h7⟩ | ⟨h6,h7⟩
      ·exact run h5 (.inr ⟨j,want,d,hgd,hd,.inl ⟨b,h4,h6.symm⟩⟩) h7
      ·exact skip h5 (.inr ⟨j,want,d,hgd,hd,.inl ⟨b,h4,h6.symm⟩⟩) h7
     ·exact skip (fun _=>rfl) (.inr ⟨j,want,d,hgd,hd,.inr ⟨l,h4,rfl⟩⟩) h5
   ·
    rcases h4 with h4 | ⟨oc,MQ,aqm⟩
    ·omega
    have bt:n < all.length:=(dD.1 MQ).1;have h1':=hcS.ready hf.reg ho wy n ((piv n oc MQ aqm i o ho).2 zH);have Ld:=h3 n (by omega) bt;rw [h1'] at Ld; simp at Ld
  ·
   rintro S a' w' qD ⟨n,L,A2,tn,E',B',a8,h1,h2,h3,h4,h5,h6,h7,h8,h9,xU,MT⟩;have hmn:n=all.length:=by
    rcases h4 with h4 | ⟨oc,MQ,aqm⟩
    ·exact h4
    ·have bt:n < all.length:=(dD.1 MQ).1
     have:=h3 n (by omega) bt;rw [qD _ bt] at this; simp at this
   rw [hmn,List.drop_length] at h8;refine hq tn E' A2 B' a8 a' w' h8 (MT.same fun z=>?_) h9 (UE.trans xU);rw [h7 z];exact oP rfl fun j q hjq _=>by rw [bh]; exact (qD _ (dD.1 hjq).1).symm
  ·simp
 ·simp at PF
end Go.K
end
section
namespace Go.K
open Go Go.aF
variable {P:Program} {E:Env}
inductive Sub (root:Code):Nat->Code->Prop where
 | root:Sub root 1 root
 | au7 {p:Nat} {a b:Code} : Sub root p (.seq a b)->Sub root (2 * p) a
 | au8 {p:Nat} {a b:Code} : Sub root p (.seq a b)->Sub root (2 * p+1) b
 | asL {p:Nat} {c:Operand} {a b:Code} : Sub root p (.cond c a b)->Sub root (2 * p) a
 | asM {p:Nat} {c:Operand} {a b:Code} : Sub root p (.cond c a b)->Sub root (2 * p+1) b
 | block {p id:Nat} {a:Code} : Sub root p (.block id a)->Sub root (2 * p) a
 | loop {p:Nat} {a:Code} : Sub root p (.loop a)->Sub root (2 * p) a
 | scope {p:Nat} {a:Code} : Sub root p (.scope a)->Sub root (2 * p) a
def ahq (P:Program) (N:Nat) {R:Type} (c:Code) (f:KE R->bL->aB->Option R):Prop:=
 ∀ (k:KE R) (r:R) (t:bL) (A:aB) (E:Env) (B:St) (ρ:a7) (base:Nat) (a:Act) (w:World) (Q:Exit->Act->World->Prop),f k t A=some r->nU P E ρ t N a->KJ P E A B ρ base w->
  (∀ e t' E' A' B' a8 a' w',k e t' A' = some r->nU P E' a8 t' N a'->a'.defers=a.defers->Ev P base E A B ρ w E' A' B' a8 w'->Q e.out a' w')->c.wp P Q a w
def acx (P:Program) (N:Nat) (body:Code) (F:bL->aB->M7):Prop:=∀ (R:Type),ahq P N (R:=R) (.loop body) (fun k t A=>aoH F k t A)
def aqn (P:Program) (cfg:ga) (f:FuncId) (root:Code):Prop:=∀ p F body,cfg.lp f p=some F->Sub root p (.loop body)->∀ N,codeOk N body=true->acx P N body F
section
variable {R:Type} {cfg:ga} {bJ:qI R} {L:Nat} {f:FuncId}
theorem aar {N:Nat} {c:Code} {g:KE R->bL->aB->Option R} (hg:ahq P N c g):∀ (n:Nat) (k:KE R) (r:R) (t:bL) (A:aB) (E:Env) (B:St) (ρ:a7) (base:Nat) (a:Act) (w:World) (Q:Exit->Act->World->Prop),ack g k n t A=some r->nU P E ρ t N a->KJ P E A B ρ base w->
  (∀ e t' E' A' B' a8 a' w',k e t' A' = some r->nU P E' a8 t' N a'->a'.defers=a.defers->Ev P base E A B ρ w E' A' B' a8 w'->Q e.out a' w')->Code.rounds P c Q n a w
 | 0,k,r,t,A,E,B,ρ,base,a,w,Q,h,ht,hj,hq=>by exact absurd h (by simp [ack])
 | n+1,k,r,t,A,E,B,ρ,base,a,w,Q,h,ht,hj,hq=>by
  rw [rounds_succ];have h:g (ak7 k (ack g k n)) t A=some r:=h;refine hg _ r t A E B ρ base a w _ h ht hj fun e t' E' A' B' a8 a' w' h1 h2 h3 h4=>?_;cases e with
  | normal=>
   have h1:ack g k n t' A' = some r:=h1;exact aar hg n k r t' A' E' B' a8 base a' w' Q h1 h2 h4.kj fun e t'' PD A'' RB zQ a'' Pa q1 q2 q3 q4=>hq e t'' PD A'' RB zQ a'' Pa q1 q2 (q3.trans h3) (h4.trans q4)
  | exit id=>exact hq (.exit id) t' E' A' B' a8 a' w' h1 h2 h3 h4
  | goto l=>exact hq (.goto l) t' E' A' B' a8 a' w' h1 h2 h3 h4
  | ret=>exact hq .ret t' E' A' B' a8 a' w' h1 h2 h3 h4
theorem pM (je:vO P cfg.pc) (zH:PC P bJ) (hm:P.follows .mixedOrders=true) {root:Code} (og:aqn P cfg f root) {N:Nat} : ∀ (c:Code) (p:Nat),Sub root p c->codeOk N c=true->ahq P N c (uy P cfg bJ L f c p)
 | .skip,p,_,_=>by
  intro k r t A E B ρ base a w Q h ht hj hq;exact wp_skip (hq .normal t E A B ρ a w h ht rfl (.refl hj.k hj.s))
 | .ret,p,_,_=>by
  intro k r t A E B ρ base a w Q h ht hj hq;exact wp_ret (hq .ret t E A B ρ a w h ht rfl (.refl hj.k hj.s))
 | .exit id,p,_,_=>by
  intro k r t A E B ρ base a w Q h ht hj hq;exact wp_exit (hq (.exit id) t E A B ρ a w h ht rfl (.refl hj.k hj.s))
 | .label l,p,_,_=>by
  intro k r t A E B ρ base a w Q h ht hj hq;exact wp_label (hq .normal t E A B ρ a w h ht rfl (.refl hj.k hj.s))
 | .goto l,p,_,_=>by
  intro k r t A E B ρ base a w Q h ht hj hq;exact wp_goto (hq (.goto l) t E A B ρ a w h ht rfl (.refl hj.k hj.s))
 | .region id ops false,p,_,hc=>by
  intro k r t A E B ρ base a w Q h ht hj hq;have h:xA P cfg bJ ops.toList (fun t A=>k .normal t A) ops.toList t A=some r:=h;refine wp_region ?_;have:=Uz (Q:=Q) (base:=base) je zH (N:=N) (all:=ops.toList) hc ops.toList 0 t E A B ρ a w (by simp) h ht hj fun t' E' A' B' a8 a' w' h1 h2 h3 h4=>hq .normal t' E' A' B' a8 a' w' h1 h2 h3 h4;rw [List.range_eq_range'];simpa using this
 | .region id ops true,p,_,hc=>by
  intro k r t A E B ρ base a w Q h ht hj hq;have h:agO P cfg bJ ops.toList true (fun t A=>k .normal t A) t A=some r:=h;unfold agO at h;cases ho:amC P cfg ops.toList with
  | false=>
   rw [ho] at h;cases hcr:Rm P cfg ops.toList with
   | true=>
    rw [hcr] at h;exact alq (all:=ops.toList) je zH hm hc hcr h ht hj fun t' E' A' B' a8 a' w' h1 h2 h3 h4=>hq .normal t' E' A' B' a8 a' w' h1 h2 h3 h4
   | false=>
    rw [hcr] at h;cases hb:Z8 P cfg ops.toList with
    | false=>rw [hb] at h; exact absurd h (by simp)
    | true=>
     rw [hb] at h;exact anb (all:=ops.toList) je hm hc hb h ht hj fun t' E' A' B' a8 a' w' h1 h2 h3 h4=>hq .normal t' E' A' B' a8 a' w' h1 h2 h3 h4
  | true=>
   rw [ho] at h;exact ajg (all:=ops.toList) je hm hc ho h ht hj fun t' E' A' B' a8 a' w' h1 h2 h3 h4=>hq .normal t' E' A' B' a8 a' w' h1 h2 h3 h4
 | .seq x y,p,hs,hc=>by
  simp only [codeOk,aD] at hc;intro k r t A E B ρ base a w Q h ht hj hq;have h:uy P cfg bJ L f x (2 * p) (ak7 k fun t A=>uy P cfg bJ L f y (2 * p+1) k t A) t A=some r:=h;refine wp_seq ?_;refine pM je zH hm og x (2 * p) hs.au7 hc.1 _ r t A E B ρ base a w _ h ht hj fun e t' E' A' B' a8 a' w' h1 h2 h3 h4=>?_;cases e with
  | normal=>
   have h1:uy P cfg bJ L f y (2 * p+1) k t' A' = some r:=h1;exact pM je zH hm og y (2 * p+1) hs.au8 hc.2 k r t' A' E' B' a8 base a' w' Q h1 h2 h4.kj fun e t'' PD A'' RB zQ a'' Pa q1 q2 q3 q4=>hq e t'' PD A'' RB zQ a'' Pa q1 q2 (q3.trans h3) (h4.trans q4)
  | exit id=>exact hq (.exit id) t' E' A' B' a8 a' w' h1 h2 h3 h4
  | goto l=>exact hq (.goto l) t' E' A' B' a8 a' w' h1 h2 h3 h4
  | ret=>exact hq .ret t' E' A' B' a8 a' w' h1 h2 h3 h4
 | .cond c x y,p,hs,hc=>by
  simp only [codeOk,aD] at hc;intro k r t A E B ρ base a w Q h ht hj hq;have h:ak6 t c (fun t=>uy P cfg bJ L f x (2 * p) k t A) (fun t=>uy P cfg bJ L f y (2 * p+1) k t A)=some r:=h;have key:∃ t',(∀ i,t'.get i=t.get i)/\((a.eval c = .bool true/\uy P cfg bJ L f x (2 * p) k t' A=some r)\/(a.eval c = .bool false/\uy P cfg bJ L f y (2 * p+1) k t' A=some r)):=by
   have tK:=ht.ev c;cases c with
   | tmp d=>
    have h:BK.rec (motive:=fun _=>Option R) (fun b=>Bool.rec (motive:=fun _=>Option R) (uy P cfg bJ L f y (2 * p+1) k (t.set (.bool false) d) A) (uy P cfg bJ L f x (2 * p) k (t.set (.bool true) d) A) b) none none (yZ ((t.get d).getD .bG))=some r:=h;cases hb:yZ ((t.get d).getD .bG) with
    | no=>rw [hb] at h; exact absurd h (by simp)
    | lP=>rw [hb] at h; exact absurd h (by simp)
    | bool b=>
     rw [hb] at h;have hbv:=Ix hb;have tK:VC P E ρ ((t.get d).getD .bG) (a.eval (.tmp d)):=tK;rw [hbv] at tK;have:=tK.hX;refine ⟨t.set (.bool b) d,Rz hb,?_⟩;cases b
     ·exact .inr ⟨this,h⟩
     ·exact .inl ⟨this,h⟩
   | const v=>
    have h:BK.rec (motive:=fun _=>Option R) (fun b=>Bool.rec (motive:=fun _=>Option R) (uy P cfg bJ L f y (2 * p+1) k t A) (uy P cfg bJ L f x (2 * p) k t A) b) none none (yZ (nJ t (.const v)))=some r:=h;cases hb:yZ (nJ t (.const v)) with
    | no=>rw [hb] at h; exact absurd h (by simp)
    | lP=>rw [hb] at h; exact absurd h (by simp)
    | bool b=>
     rw [hb] at h;rw [Ix hb] at tK;have:=tK.hX;refine ⟨t,fun _=>rfl,?_⟩;cases b
     ·exact .inr ⟨this,h⟩
     ·exact .inl ⟨this,h⟩
   | global g=>exact absurd h (by simp [ak6,nJ,yZ])
   | func g=>exact absurd h (by simp [ak6,nJ,yZ])
  obtain ⟨t',B9,h⟩:=key;have ht':=ht.same B9;rcases h with ⟨hb,h⟩ | ⟨hb,h⟩
  ·exact wp_cond_true hb (pM je zH hm og x (2 * p) hs.asL hc.1 k r t' A E B ρ base a w Q h ht' hj hq)
  ·exact wp_cond_false hb (pM je zH hm og y (2 * p+1) hs.asM hc.2 k r t' A E B ρ base a w Q h ht' hj hq)
 | .block id x,p,hs,hc=>by
  have hc:codeOk N x=true:=hc;intro k r t A E B ρ base a w Q h ht hj hq;have h:uy P cfg bJ L f x (2 * p) (ap0 id k) t A=some r:=h;refine wp_block ?_;refine pM je zH hm og x (2 * p) hs.block hc _ r t A E B ρ base a w _ h ht hj fun e t' E' A' B' a8 a' w' h1 h2 h3 h4=>?_;cases e with
  | normal=>exact hq .normal t' E' A' B' a8 a' w' h1 h2 h3 h4
  | exit id'=>
   have h1:Bool.rec (motive:=fun _=>Option R) (k (.exit id') t' A') (k .normal t' A') (Nat.beq id' id)=some r:=h1;cases hb:Nat.beq id' id with
   | true=>
    rw [hb] at h1;have:=bm hb;simp only [aq.out,Exit.inBlock,aV this];exact hq .normal t' E' A' B' a8 a' w' h1 h2 h3 h4
   | false=>
    rw [hb] at h1;have:=Nat.ne_of_beq_eq_false hb;simp only [aq.out,Exit.inBlock,ay this];exact hq (.exit id') t' E' A' B' a8 a' w' h1 h2 h3 h4
  | goto l=>exact hq (.goto l) t' E' A' B' a8 a' w' h1 h2 h3 h4
  | ret=>exact hq .ret t' E' A' B' a8 a' w' h1 h2 h3 h4
 | .loop x,p,hs,hc=>by
  have hc:codeOk N x=true:=hc;intro k r t A E B ρ base a w Q h ht hj hq;have h:Option.rec (motive:=fun _=>bL->aB->Option R) (ack (uy P cfg bJ L f x (2 * p)) k L) (fun F=>aoH F k) (cfg.lp f p) t A=some r:=h;cases hF:cfg.lp f p with
  | some F=>
   rw [hF] at h;exact og p F x hF hs N hc R k r t A E B ρ base a w Q h ht hj hq
  | none=>
   rw [hF] at h;exact wp_loop_rounds L (aar (pM je zH hm og x (2 * p) hs.loop hc) L k r t A E B ρ base a w Q h ht hj hq)
 | .scope x,p,hs,hc=>by
  have hc:codeOk N x=true:=hc;intro k r t A E B ρ base a w Q h ht hj hq;have h:uy P cfg bJ L f x (2 * p) (agP k) t A=some r:=h;refine wp_scope_straight ?_;refine pM je zH hm og x (2 * p) hs.scope hc _ r t A E B ρ base a w _ h ht hj fun e t' E' A' B' a8 a' w' h1 h2 h3 h4=>?_;cases e with
  | normal=>exact hq .normal t' E' A' B' a8 a' w' h1 h2 h3 h4
  | exit id=>exact hq (.exit id) t' E' A' B' a8 a' w' h1 h2 h3 h4
  | goto l=>exact absurd h1 (by simp [agP])
  | ret=>exact hq .ret t' E' A' B' a8 a' w' h1 h2 h3 h4
 | .rangeFunc ..,p,_,_ | .refuse _,p,_,_=>by
  intro k r t A E B ρ base a w Q h ht hj hq;exact absurd h (by simp [uy])
end
theorem Lx:∀ (l:List KV) (i k:Nat) (t:bL),(rB l i t).get k=if i<=k/\k < i+l.length then l[k - i]? else t.get k
 | [],i,k,t=>by
  rw [rB,ay];simp
 | v::l,i,k,t=>by
  rw [rB,Lx l (i+1) k,Trie.sm];by_cases h1:k=i
  ·subst h1
   rw [ay (by omega),aV rfl,aV (by simp)];simp
  ·by_cases h2:i+1<=k/\k < i+1+l.length
   ·rw [aV h2,aV (by simp; omega),show k - i=(k - (i+1))+1 by omega]
    simp
   ·rw [ay h2,ay h1,ay (by simp; omega)]
theorem Jd {A:aB} {B:St} {base N:Nat} {w:World} {ρ:a7} {t:bL} {a:Act} (hj:KJ P E A B ρ base w) (ht:nU P E ρ t N a):∀ (rs:List ResultVar) (vs:List KV),Pt P A t rs=some vs->
  ∃ cU,Jb P E ρ vs cU/\(rs.mapM (afW a)).run P w=Result.ok cU w
 | [],vs,h=>by simp [Pt] at h; subst h; exact ⟨[],⟨[],.nil,.nil⟩,by simp⟩
 | .tmp x::rs,vs,h=>by
  simp only [Pt] at h;obtain ⟨us,hu,rfl⟩:=de.1 h;obtain ⟨us',⟨m,h1,h3⟩,h2⟩:=Jd hj ht rs us hu;obtain ⟨u,h4,h5⟩:=ht.ev (.tmp x);refine ⟨_::us',⟨u::m,.cons h4 h1,.cons h5 h3⟩,?_⟩;simp [List.mapM_cons,h2,Act.eval,afW]
 | .cell x ty::rs,vs,h=>by
  simp only [Pt] at h;split at h
  ·rename_i v hv
   obtain ⟨us,hu,rfl⟩:=de.1 h;obtain ⟨us',⟨m,h1,h3⟩,h2⟩:=Jd hj ht rs us hu;obtain ⟨u,h4,h5⟩:=ht.ev (.tmp x);have hg:ba (ace P ty A [nJ t (.tmp x)]) v:=by rw [hv]; exact rfl
   obtain ⟨z,h6,h7⟩:=amP E A B _ _ v hj.k (.cons h4 .nil) hg;have h6:loadAt P ty B u=some z:=h6;obtain ⟨ad,h8,z',h9,xU⟩:=Xx (P:=P) hj.s.rel h5 h6;refine ⟨z'::us',⟨z::m,.cons h7 h1,.cons h9 h3⟩,?_⟩;have h8:a.tmps.getD x undef = .pointer (some ad):=h8;simp only [List.mapM_cons,Sem.run_bind,afW,h8,asAddr,Sem.run_pure,n8,xU,h2]
  ·simp at h
theorem UJ {ρ:a7} {vs:List KV} {cU:List Value} (h:Jb P E ρ vs cU):VC P E ρ (Ll vs) (if h:cU.toArray.size=1 then cU.toArray[0] else .tuple cU.toArray):=by
 obtain ⟨m,h1,h2⟩:=h
 match vs with
 | []=>
  rw [h1.cw] at h2;rw [h2.cw];exact ⟨_,.agQ .nil,VR.mkTuple .nil⟩
 | [v]=>
  obtain ⟨u,rfl,h3⟩:=h1.gu;obtain ⟨y,ys,rfl,h4,h5⟩:=h2.cons_inv;rw [h5.cw];exact ⟨u,h3,h4⟩
 | v::v2::vs=>
  obtain ⟨u,us,rfl,h3,h4⟩:=h1.cons_inv;obtain ⟨u2,us2,rfl,h5,h6⟩:=h4.cons_inv;obtain ⟨y,ys,rfl,h7,h8⟩:=h2.cons_inv;obtain ⟨y2,ys2,rfl,h9,xU⟩:=h8.cons_inv;rw [dif_neg (by simp)];exact ⟨_,.agQ (.cons h3 (.cons h5 h6)),VR.mkTuple (.cons h7 (.cons h9 xU))⟩
def alr (vs:List Value):Value:=if h:vs.toArray.size=1 then vs.toArray[0] else .tuple vs.toArray
theorem RJ {R:Type} {cfg:ga} {bJ:qI R} (je:vO P cfg.pc) (zH:PC P bJ) (hm:P.follows .mixedOrders=true) (L:Nat) {f:FuncId} {fn:Func} {c:Code} (hf:P.funcs[f]? = some fn) (hb:fn.body=some c) (cq:codeOk fn.ntmps c=true) (og:aqn P cfg f c)
  {args:List KV} {A:aB} {k:List KV->aB->Option R} {r:R} (h:uy P cfg bJ L f c 1 (amD P fn k) (rB args 0 .leaf) A=some r) {E:Env} {B:St} {ρ:a7} {mO:List Value} {base:Nat} {w:World} (hv:Jb P E ρ args mO) (hj:KJ P E A B ρ base w) :
  Calls P f mO.toArray w fun e w'=>∃ vs cU E' A' B' a8,e = .returned (alr cU)/\Jb P E' a8 vs cU/\Ev P base E A B ρ w E' A' B' a8 w'/\k vs A' = some r:=by
 refine calls_of_wp hf hb ?_;obtain ⟨ao1,ZS,N7⟩:=hv;have hlen:mO.length=args.length:=by rw [N7.length,ZS.length]
 have ht:nU P E ρ (rB args 0 .leaf) (max fn.ntmps args.length) { tmps:=mO.toArray++Array.replicate (fn.ntmps - mO.toArray.size) undef,defers:=[] }:=by
  have gI:(mO.toArray++Array.replicate (fn.ntmps - mO.toArray.size) undef).size=max fn.ntmps args.length:=by
   simp [hlen];omega
  refine ⟨gI,fun i=>?_,fun i hi=>?_⟩
  ·rw [Lx]
   simp only [cP,true_and,bh,Nat.sub_zero,Trie.Wd];by_cases hi:i < args.length
   ·rw [aV hi]
    obtain ⟨u,hu⟩:∃ u,args[i]? = some u:=⟨_,dF hi⟩
    obtain ⟨m,h1,h2⟩:=ZS.get hu;obtain ⟨u',h3,h4⟩:=N7.get h1;rw [hu];have:(mO.toArray++Array.replicate (fn.ntmps - mO.toArray.size) undef).getD i undef=u':=by
     rw [ji,Array.getElem?_append_left (by simpa [hlen] using hi)];simp [h3]
    rw [this];exact ⟨m,h2,h4⟩
   ·rw [ay hi]
    exact VC.bG
  ·rw [Lx,ay,Trie.Wd]
   simp only [cP,true_and,bh];have:=Nat.le_max_right fn.ntmps args.length;omega
 have aea:codeOk (max fn.ntmps args.length) c=true:=pH (Nat.le_max_left _ _) c cq;refine pM (L:=L) (f:=f) (N:=max fn.ntmps args.length) je zH hm og c 1 .root aea _ r _ A E B ρ base _ w _ h ht hj fun e t' E' A' B' a8 a' w' h1 h2 h3 h4=>?_;have fin:∀ vs,Pt P A' t' fn.results.toList=some vs->k vs A' = some r->∀ e:aq,(e = .normal\/e = .ret)->bodyPost P fn (fun e w'=>∃ vs cU E' A' B' a8,e = .returned (alr cU)/\Jb P E' a8 vs cU/\Ev P base E A B ρ w E' A' B' a8 w'/\k vs A' = some r) e.out a' w':=by
  intro vs hr hk e he;obtain ⟨cU,hvs,qh⟩:=Jd (P:=P) h4.kj h2 _ _ hr;have anh:(results fn a'.tmps).run P w' = .ok (if h:cU.toArray.size=1 then cU.toArray[0] else .tuple cU.toArray) w':=by
   rw [adX,Sem.run_bind,Array.mapM_eq_mapM_toList,Sem.run_map,qh];rfl
  have ahr:bodyPost P fn (fun e w'=>∃ vs cU E' A' B' a8,e = .returned (alr cU)/\Jb P E' a8 vs cU/\Ev P base E A B ρ w E' A' B' a8 w'/\k vs A' = some r) .ret a' w':=by
   exact ⟨h3,_,anh,vs,cU,E',A',B',a8,rfl,hvs,h4,hk⟩
  rcases he with rfl | rfl
  ·exact ahr
  ·exact ahr
 cases e with
 | normal=>
  have h1:Option.rec (motive:=fun _=>Option R) none (fun vs=>k vs A') (Pt P A' t' fn.results.toList)=some r:=h1;cases hr:Pt P A' t' fn.results.toList with
  | none=>rw [hr] at h1; exact absurd h1 (by simp)
  | some vs=>rw [hr] at h1; exact fin vs hr h1 .normal (.inl rfl)
 | ret=>
  have h1:Option.rec (motive:=fun _=>Option R) none (fun vs=>k vs A') (Pt P A' t' fn.results.toList)=some r:=h1;cases hr:Pt P A' t' fn.results.toList with
  | none=>rw [hr] at h1; exact absurd h1 (by simp)
  | some vs=>rw [hr] at h1; exact fin vs hr h1 .ret (.inr rfl)
 | exit id=>exact absurd h1 (by simp [amD])
 | goto l=>exact absurd h1 (by simp [amD])
end Go.K
end
section
namespace Go.K
open Go Go.aF
variable {P:Program} {E:Env}
def akb (P:Program) (ac:FuncId->Option (List KV->aB->yY)):Prop:=∀ g F,ac g=some F->∀ {R:Type} (args:List KV) (A:aB) (k:KV->aB->Option R) (r:R),yY.run k (F args A)=some r->PB P g/\
 ∀ (E:Env) (B:St) (ρ:a7) (base:Nat) (w:World) (mO:List Value),Jb P E ρ args mO->KJ P E A B ρ base w->
  Calls P g mO.toArray w fun e w'=>∃ v v' E' A' B' a8,e = .returned v'/\VC P E' a8 v v'/\Ev P base E A B ρ w E' A' B' a8 w'/\k v A' = some r
theorem akb.none {P:Program} : akb P fun _=>.none:=fun g F h=>by simp at h
def z7 (P:Program) (cfg:ga):Prop:=akb P cfg.x.ac/\∀ f fn c,P.funcs[f]? = some fn->fn.body=some c->aqn P cfg f c
theorem UK {R:Type} {cfg:ga} {bJ:qI R} {L:Nat} {f:FuncId} {args:List KV} {A:aB} {k:List KV->aB->Option R} {r:R} (hP:P.funcs.toList.all qx=true) (h:acm P cfg bJ L f args A k=some r) :
  ∃ fn c, P.funcs[f]? = some fn ∧ fn.body = some c ∧ codeOk fn.ntmps c = true ∧ (fn.name == "runtime.NumGoroutine") = false ∧ uy P cfg bJ L f c 1 (amD P fn k) (rB args 0 .leaf) A = some r := by
 unfold acm at h;split at h
 ·rename_i fn hf
  split at h
  ·rename_i c hc
   have hf' : P.funcs[f]? = some fn:=by simpa using hf
   have cq:=iu.1 hP fn (jj hf);unfold qx at cq;rw [hc] at cq;simp only [aD,nD] at cq;exact ⟨fn,c,hf',hc,cq.1,cq.2,h⟩
  ·simp at h
 ·simp at h
theorem yL {R:Type} {cfg:ga} (hP:P.funcs.toList.all qx=true) (hm:P.follows .mixedOrders=true) (je:vO P cfg.pc) (og:z7 P cfg) (L:Nat):∀ n,PC (R:=R) P (M8 P cfg L n)
 | 0=>fun f args A k r h=>absurd h (by simp [M8])
 | n+1=>fun f args A k r h=>by
  have h:Bool.rec (motive:=fun _=>Option R) none (Option.rec (motive:=fun _=>Option R) (acm P cfg (M8 P cfg L n) L f args A fun vs B=>k (Ll vs) B) (fun F=>yY.run k (F args A)) (cfg.x.ac f)) (Nat.blt f yB)=some r:=h;cases hy:Nat.blt f yB with
  | false=>rw [hy] at h; exact absurd h (by simp)
  | true=>
   rw [hy] at h;cases hac:cfg.x.ac f with
   | some F=>
    rw [hac] at h;exact og.1 f F hac args A k r h
   | none=>
    rw [hac] at h;have h:acm P cfg (M8 P cfg L n) L f args A (fun vs B=>k (Ll vs) B)=some r:=h;obtain ⟨fn,c,hf,hc,cq,hnm,h⟩:=UK hP h;refine ⟨⟨hy,fn,hf,by simp [hc],hnm⟩,fun E B ρ base w mO hv hj=>?_⟩;refine (RJ je (yL hP hm je og L n) hm L hf hc cq (og.2 f fn c hf hc) h hv hj).mono ?_;rintro e w' ⟨vs,cU,E',A',B',a8,rfl,h1,h2,h3⟩;exact ⟨Ll vs,_,E',A',B',a8,rfl,UJ h1,h2,h3⟩
mutual
theorem VK.zK {E0:Env} (hz:E0.z=E.z):∀ {v:KV} {u:Value} {c:CK},VK P E v u->kindOk c v=true->VK P E0 v u
 | .int k n,u,c,h,_=>h
 | .bool b,u,c,h,_=>h
 | .str s,u,c,h,_=>h
 | .ts T m n es acc,u,c,h,hk=>by
  cases c <;> simp [kindOk] at hk;rename_i t;cases m <;> simp at hk;obtain ⟨ht,bC,h1,a,cap,rfl,h2,h3,h4⟩:=h.pL;simp only [VK];refine ⟨ht,bC,bo.zEs hz h1 ht.typed,a,cap,rfl,h2,?_,trivial⟩;refine h3.imp id ?_;rintro ⟨b,off,r,e1,e2,e3⟩;exact ⟨b,off,r,e1,by rw [hz]; exact e2,e3⟩
 | .agg cs,u,c,h,hk=>by cases c <;> simp [kindOk] at hk
 | .lP cs,u,c,h,hk=>by cases c <;> simp [kindOk] at hk
 | .tp T Tc i k es acc,u,c,h,hk=>by cases c <;> simp [kindOk] at hk
 | .al T b o n,u,c,h,hk=>by cases c <;> simp [kindOk] at hk
 | .ap T Tc b i k,u,c,h,hk=>by cases c <;> simp [kindOk] at hk
 | .ptr b off,u,c,h,hk=>by cases c <;> simp [kindOk] at hk
 | .sl b off n cap,u,c,h,hk=>by cases c <;> simp [kindOk] at hk
 | .JS,u,c,h,hk=>by cases c <;> simp [kindOk] at hk
 | .nS,u,c,h,hk=>by cases c <;> simp [kindOk] at hk
 | .EY,u,c,h,hk=>by cases c <;> simp [kindOk] at hk
 | .map b,u,c,h,hk=>by cases c <;> simp [kindOk] at hk
 | .fn f a b,u,c,h,hk=>by cases c <;> simp [kindOk] at hk
 | .Lg,u,c,h,hk=>by cases c <;> simp [kindOk] at hk
 | .iface t x,u,c,h,hk=>by cases c <;> simp [kindOk] at hk
 | .Lh,u,c,h,hk=>by cases c <;> simp [kindOk] at hk
 | .bG,u,c,h,hk=>by cases c <;> simp [kindOk] at hk
theorem VK.zE {E0:Env} (hz:E0.z=E.z):∀ {v:KV} {u:Value} {l:Bb},VK P E v u->cI l v=true->VK P E0 v u
 | .int k n,u,l,h,_=>h
 | .bool b,u,l,h,_=>h
 | .str s,u,l,h,_=>h
 | .agg cs,u,l,h,hk=>by
  simp only [cI,aD] at hk;obtain ⟨m,rfl,h1⟩:=h.pG;exact .tD (bo.zKs hz h1 hk.2)
 | .ts T m n es acc,u,l,h,hk=>by
  have Ca:∃ c,kindOk c (.ts T m n es acc)=true:=by
   simp only [cI,aD] at hk;cases wx:l.ks with
   | nil=>rw [wx] at hk; simp [aO] at hk
   | cons c cs=>rw [wx] at hk; simp only [aO,aD] at hk; exact ⟨c,hk.2.1⟩
  obtain ⟨c,hk⟩:=Ca;cases c <;> simp [kindOk] at hk;rename_i t;cases m <;> simp at hk;obtain ⟨ht,bC,h1,a,cap,rfl,h2,h3,h4⟩:=h.pL;simp only [VK];refine ⟨ht,bC,bo.zEs hz h1 ht.typed,a,cap,rfl,h2,?_,trivial⟩;refine h3.imp id ?_;rintro ⟨b,off,r,e1,e2,e3⟩;exact ⟨b,off,r,e1,by rw [hz]; exact e2,e3⟩
 | .lP cs,u,l,h,hk=>by simp [cI] at hk
 | .tp T Tc i k es acc,u,l,h,hk=>by
  obtain ⟨h1,_⟩:=jQ hk;cases wx:l.ks with
  | nil=>rw [wx] at h1; simp [KV.cells,aO] at h1
  | cons c cs=>rw [wx] at h1; cases c <;> simp [KV.cells,aO,kindOk] at h1
 | .al T b o n,u,l,h,hk=>by
  obtain ⟨h1,_⟩:=jQ hk;cases wx:l.ks with
  | nil=>rw [wx] at h1; simp [KV.cells,aO] at h1
  | cons c cs=>rw [wx] at h1; cases c <;> simp [KV.cells,aO,kindOk] at h1
 | .ap T Tc b i k,u,l,h,hk=>by
  obtain ⟨h1,_⟩:=jQ hk;cases wx:l.ks with
  | nil=>rw [wx] at h1; simp [KV.cells,aO] at h1
  | cons c cs=>rw [wx] at h1; cases c <;> simp [KV.cells,aO,kindOk] at h1
 | .ptr b off,u,l,h,hk=>by
  obtain ⟨h1,_⟩:=jQ hk;cases wx:l.ks with
  | nil=>rw [wx] at h1; simp [KV.cells,aO] at h1
  | cons c cs=>rw [wx] at h1; cases c <;> simp [KV.cells,aO,kindOk] at h1
 | .sl b off n cap,u,l,h,hk=>by
  obtain ⟨h1,_⟩:=jQ hk;cases wx:l.ks with
  | nil=>rw [wx] at h1; simp [KV.cells,aO] at h1
  | cons c cs=>rw [wx] at h1; cases c <;> simp [KV.cells,aO,kindOk] at h1
 | .JS,u,l,h,hk=>h
 | .nS,u,l,h,hk=>h
 | .EY,u,l,h,hk=>h
 | .map b,u,l,h,hk=>by
  obtain ⟨h1,_⟩:=jQ hk;cases wx:l.ks with
  | nil=>rw [wx] at h1; simp [KV.cells,aO] at h1
  | cons c cs=>rw [wx] at h1; cases c <;> simp [KV.cells,aO,kindOk] at h1
 | .fn f a b,u,l,h,hk=>by
  obtain ⟨h1,_⟩:=jQ hk;cases wx:l.ks with
  | nil=>rw [wx] at h1; simp [KV.cells,aO] at h1
  | cons c cs=>rw [wx] at h1; cases c <;> simp [KV.cells,aO,kindOk] at h1
 | .Lg,u,l,h,hk=>h
 | .iface t x,u,l,h,hk=>by
  obtain ⟨h1,_⟩:=jQ hk;cases wx:l.ks with
  | nil=>rw [wx] at h1; simp [KV.cells,aO] at h1
  | cons c cs=>rw [wx] at h1; cases c <;> simp [KV.cells,aO,kindOk] at h1
 | .Lh,u,l,h,hk=>h
 | .bG,u,l,h,hk=>h
theorem bo.zKs {E0:Env} (hz:E0.z=E.z):∀ {vs:List KV} {us:List Value} {ks:List CK},bo P E vs us->aO ks vs=true->bo P E0 vs us
 | [],us,ks,h,_=>by rw [h.cw]; exact .nil
 | v::vs,us,[],h,hk=>by simp [aO] at hk
 | v::vs,us,c::ks,h,hk=>by
  simp only [aO,aD] at hk;simp only [bo] at h ⊢;obtain ⟨y,ys,e,h1,h2⟩:=h;exact ⟨y,ys,e,VK.zK hz h1 hk.1,bo.zKs hz h2 hk.2⟩
theorem bo.zEs {E0:Env} (hz:E0.z=E.z):∀ {vs:List KV} {us:List Value} {l:Bb},bo P E vs us->gY l vs=true->bo P E0 vs us
 | [],us,l,h,_=>by rw [h.cw]; exact .nil
 | v::vs,us,l,h,hk=>by
  simp only [gY,aD] at hk;simp only [bo] at h ⊢;obtain ⟨y,ys,e,h1,h2⟩:=h;exact ⟨y,ys,e,VK.zE hz h1 hk.1,bo.zEs hz h2 hk.2⟩
end
theorem VK.asN {E0:Env} (hz:E0.z=E.z) {c:CK} {v:KV} {u:Value} (h:VK P E v u):VK P E0 (K.qq c v) u:=by
 have hn:=h.qq (c:=c);cases hk:kindOk c (K.qq c v) with
 | true=>exact hn.zK hz hk
 | false=>
  have:K.qq c v = .bG:=by
   revert hk
   unfold K.qq;split
   ·intro hk; simp [kindOk] at hk
   ·rename_i t t' m n es acc
    cases hb:Nat.beq t t' with
    | false=>intro _; rfl
    | true=>intro hk; simp [kindOk] at hk
   ·cases hb:kindOk c v with
    | false=>intro _; rfl
    | true=>intro hk; rw [ai,hb] at hk; simp at hk
  rw [this];exact .wD
theorem bo.ani {E0:Env} (hz:E0.z=E.z):∀ {ks:List CK} {cs:List KV} {l:List Value},bo P E cs l->cs.length=ks.length->bo P E0 (K.E6 ks cs) l
 | [],[],l,h,_=>by rw [h.cw]; exact .nil
 | [],_::_,_,_,e=>by simp at e
 | _::_,[],_,_,e=>by simp at e
 | c::ks,v::cs,l,h,e=>by
  obtain ⟨y,ys,rfl,h1,h2⟩:=h.cons_inv;exact .cons (h1.asN hz) (bo.ani hz h2 (by simpa using e))
theorem VK.auv {E0:Env} (hz:E0.z=E.z) {l:Bb} {v:KV} {u:Value} (h:VK P E v u):VK P E0 (K.ig l v) u:=by
 unfold K.ig;split
 ·rename_i cs
  obtain ⟨m,rfl,h1⟩:=h.pG;cases hb:(l.agg&&Nat.beq cs.length l.ks.length) with
  | false=>exact .wD
  | true=>
   simp only [aD] at hb;exact .tD (h1.ani hz (bm hb.2))
 ·cases l.agg with
  | true=>exact .wD
  | false=>
   rw [aw];split
   ·exact h.asN hz
   ·exact .wD
theorem VK.avK {E0:Env} (hz:E0.z=E.z) {t:TypeId} {v:KV} {u:Value} (h:VK P E v u):VK P E0 (K.Z6 P t v) u:=by
 unfold K.Z6;cases hb:cI (bu P t) (K.ig (bu P t) v) with
 | false=>exact .wD
 | true=>exact VK.vA _ hb (h.auv hz)
theorem bo.ahs {E0:Env} (hz:E0.z=E.z):∀ {ts:List TypeId} {vs:List KV} {us:List Value},bo P E vs us->vs.length=ts.length->bo P E0 (normArgs P ts vs) us
 | [],[],us,h,_=>by rw [h.cw]; exact .nil
 | [],_::_,_,_,e=>by simp at e
 | _::_,[],_,_,e=>by simp at e
 | t::ts,v::vs,us,h,e=>by
  obtain ⟨y,ys,rfl,h1,h2⟩:=h.cons_inv;exact .cons (h1.avK hz) (bo.ahs hz h2 (by simpa using e))
theorem Ly:∀ (ts:List TypeId) (vs:List KV),Bg P ts vs=normArgs P ts vs
 | [],vs=>by cases vs <;> rfl
 | t::ts,[]=>rfl
 | t::ts,v::vs=>by simp [Bg,normArgs,Ly ts vs]
def Env.bare (E:Env):Env:={ E with κ:=fun _=>none,φ:=fun _=>none,α:=fun _=>none }
theorem gU.bare {A:aB} {B:St} (h:gU P E A B):gU P E.bare .empty B where
 row b cs cc hb:=by simp [aB.empty,aB.get] at hb
 aZ b top sz hb:=by simp [aB.empty,aB.get] at hb
 z:=h.z
 apart b x e:=by simp [Env.bare] at e
 inj b c x e:=by simp [Env.bare] at e
 lT b c g _ _ _ _ _ _ e:=by simp [Env.bare] at e
 oC b x e:=by simp [Env.bare] at e
 qJ b g e:=by simp [Env.bare] at e
 live b o hb:=by simp [aB.empty,aB.get] at hb
 jd b x e:=by simp [Env.bare] at e
 rb:=h.rb
 mM b g e:=by simp [Env.bare] at e
 fresh:=h.fresh
 mem:=h.mem
 ar:=by
  have hn:∀ b v,¬ aB.empty.get b=some (.arr v):=fun b v hb=>by simp [aB.empty,aB.get] at hb
  exact ⟨fun b v hb=>(hn b v hb).elim,fun b v hb=>by simp [aB.empty,aB.get] at hb,fun x ⟨b,v,_,_,hb,_⟩=>(hn b v hb).elim,fun b c v u x L N L' N' hb=>(hn b v hb).elim,fun b c v u x y L N L' N' cs e own g k cm e' tJ k' hb=>(hn b v hb).elim,fun b x e=>by simp [Env.bare] at e,fun b p e=>by simp [Env.bare] at e,fun b x L N e=>by simp [Env.bare] at e,fun b v x L N cs e own g k hb=>(hn b v hb).elim,fun b v hb=>(hn b v hb).elim⟩
theorem anj {x:Nat} : ¬ AR .empty E.bare x:=fun ⟨b,v,_,_,hb,_⟩=>by simp [aB.empty,aB.get] at hb
theorem ank {B:St} {g:Nat} : ¬ AF .empty E.bare B g:=fun ⟨b,v,_,_,_,_,_,_,_,hb,_⟩=>by simp [aB.empty,aB.get] at hb
theorem asO {B:St} {y:Nat} : ¬ AT .empty E.bare B y:=fun q=>q.elim anj fun ⟨_,q,_⟩=>ank q
theorem Ev.bare {base:Nat} {A A1:aB} {B B1:St} {ρ qg:a7} {w w1:World} {E1:Env} (h:gU P E A B) (tK:Ev P base E.bare .empty B ρ w E1 A1 B1 qg w1):Ev P base E A B ρ w { E with z:=E1.z } A B1 qg w1:=by
 have hle:E.le { E with z:=E1.z }:=⟨fun _ _ e=>e,fun _ _ e=>e,tK.le.z,fun _ _ e=>e⟩
 have RK:∀ x,x < B.next->B1.get x=B.get x:=fun x hx=>tK.pF x hx (fun b e=>by simp [Env.bare] at e) asO;have oK:∀ g,g < B.next->B1.members g=B.members g:=fun g hg=>tK.uz g hg (fun b e=>by simp [Env.bare] at e) ank;have kl:=tK.gX.next;have MS:∀ b r,E1.z b=some r->E.z b=some r\/B.next<=b:=fun b r e=>by
  rcases tK.yp b r e with e | e | e
  ·exact .inl e
  ·exact (anj e).elim
  ·exact .inr e
 have vB:∀ y,AR A { E with z:=E1.z } y->AR A E y:=fun y q=>q;have au9:∀ g,AF A E B g->g < B.next:=fun g ⟨b,v,x,L,N,cs,e,own,k,h1,h2,h3⟩=>(h.ar.xB b v x L N cs e own g k h1 h2 h3).1;have Oh:∀ g,AF A { E with z:=E1.z } B1 g->AF A E B g:=fun g ⟨b,v,x,L,N,cs,e,own,k,h1,h2,h3⟩=>⟨b,v,x,L,N,cs,e,own,k,h1,h2,by rw [<- RK x (h.ar.jd b x L N h2)]; exact h3⟩
 refine ⟨⟨?_,?_,tK.kV.z,?_,h.inj,h.lT,h.oC,h.qJ,h.live,?_,tK.kV.rb,?_,tK.kV.fresh,tK.kV.mem,h.ar.pF hle (fun _=>rfl) (fun _ _ e=>e) (fun _ _ e=>e) (aW _) kl (fun x q=>RK x (h.Nb q)) MS (fun _ _ e=>.inl e) (fun b g e=>.inl ⟨b,e⟩) (fun g q=>oK g (au9 g q)) h.mem⟩,tK.gX,hle,aW _,fun x hx _ _=>RK x hx,fun _ _ e=>.inl e,fun b r e=>(MS b r e).imp id .inr,fun _ _ e=>.inl ⟨_,e⟩,fun g hg _ _=>oK g hg,fun y q=>.inl (vB y q),fun g q=>.inl (Oh g q),tK.zX,fun y q=>.inl (q.imp (vB y) fun ⟨g,q1,q2⟩=>⟨g,Oh g q1,by rw [<- oK g (au9 g (Oh g q1))]; exact q2⟩),tK.rows⟩
 ·intro b cs cc hb
  obtain ⟨x,c,h1,h2,h3⟩:=h.row b cs cc hb;exact ⟨x,c,h1,by rw [RK x (h.jd b x h1)]; exact h2,h3.mono hle⟩
 ·intro b top sz hb
  rcases h.aZ b top sz hb with h1 | ⟨g,h1,h2,h3⟩
  ·exact .inl h1
  ·have hg:=h.mM b g h1
   refine .inr ⟨g,h1,h2,fun x hx cs e own f k hr=>?_⟩;rw [oK g hg] at hx;rw [RK x (h.mem g x hx)] at hr;exact h3 x hx cs e own f k hr
 ·intro b x hb
  have hx:=h.jd b x hb;cases hz:E1.z x with
  | none=>rfl
  | some r=>
   rcases MS x r hz with e | e
   ·rw [h.apart b x hb] at e; simp at e
   ·omega
 ·intro b x hb; have:=h.jd b x hb; omega
 ·intro b g hb; have:=h.mM b g hb; omega
theorem asP {g:FuncId} {F:List KV->KR KV} (hy:Nat.blt g yB=true) (hP:P.funcs.toList.all qx=true) (hm:P.follows .mixedOrders=true)
  (h:∀ als v,als.length=(gw P g).length->ba (F (normArgs P (gw P g) als)) v->∃ cfg L n,vO P cfg.pc/\z7 P cfg/\zW P cfg L n g (normArgs P (gw P g) als)=some v):a9 P g F:=by
 intro args v hF hlen;obtain ⟨cfg,L,n,je,og,qh⟩:=h _ v hlen hF;have zH:=yL (R:=KV) hP hm je og L n;obtain ⟨fn,c,hf,hc,cq,hnm,qh⟩:=UK hP qh;refine ⟨⟨hy,fn,hf,by simp [hc],hnm⟩,fun E A B ρ base w mO hv hj=>?_⟩;obtain ⟨ao1,ZS,N7⟩:=hv;have hv0:Jb P E.bare ρ (normArgs P (gw P g) args) mO:=⟨ao1,bo.ahs (E:=E) (E0:=E.bare) rfl ZS hlen,N7⟩
 refine (RJ je zH hm L hf hc cq (og.2 g fn c hf hc) qh hv0 ⟨hj.k.bare,hj.s⟩).mono ?_;rintro e w' ⟨vs,cU,E0,A0,B1,qg,rfl,⟨m,h1,h1'⟩,h2,h3⟩;have h3:Bool.rec (motive:=fun _=>Option KV) none (some (Ll (Bg P (wB P g) (B5 A0 vs).1))) (Nat.beq vs.length (wB P g).length)=some v:=h3;obtain ⟨E1,hf1,h1⟩:=Nc h2.kV h1;have tK:=Ev.bare hj.k (h2.trans (hf1.ev (.refl h2.gX.kV)));cases hb:Nat.beq vs.length (wB P g).length with
 | false=>rw [hb] at h3; exact absurd h3 (by simp)
 | true=>
  rw [hb] at h3;have h3:some (Ll (Bg P (wB P g) (B5 A0 vs).1))=some v:=h3;simp only [dG] at h3;subst h3;refine ⟨_,_,B1,qg,rfl,UJ ⟨m,?_,h1'⟩,tK⟩;rw [Ly];exact bo.ahs (E:=E1) (E0:={ E with z:=E1.z }) rfl h1 ((Ry A0 vs).trans (bm hb))
end Go.K
end
section
namespace Go.K
open Go Go.aF
noncomputable section
inductive CD where
 | k (c:CK)
 | lit (v:KV)
 | aZ (t:TypeId)
 | arr (t:TypeId)
 | ref (w:KV)
def acy (bs:List Nat) (v:KV):KV:=
 match v with
 | .ptr j o=>.ptr (bs.getD j 0) o
 | v=>v
def Di (bs:List Nat):List KV->List KV
 | []=>[]
 | v::vs=>acy bs v::Di bs vs
def inst (bs:List Nat) (v:KV):KV:=
 match v with
 | .ptr j o=>.ptr (bs.getD j 0) o
 | .fn f first cap=>.fn f (Di bs first) (Di bs cap)
 | v=>v
def isP (nr:Nat):KV->Bool
 | .ptr j _=>Nat.blt j nr
 | _=>false
def aht (nr:Nat):List KV->Bool
 | []=>true
 | v::vs=>isP nr v&&aht nr vs
def aei (nr:Nat):KV->Bool
 | .ptr j _=>Nat.blt j nr
 | .fn (.func _) first cap=>aht nr first&&aht nr cap
 | _=>false
def eqP:KV->KV->Bool
 | .ptr a o,.ptr b q=>Nat.beq a b&&Nat.beq o q
 | _,_=>false
def ahu:List KV->List KV->Bool
 | [],[]=>true
 | v::vs,u::us=>eqP v u&&ahu vs us
 | _,_=>false
def UL:KV->KV->Bool
 | .ptr a o,.ptr b q=>Nat.beq a b&&Nat.beq o q
 | .fn (.func f) a b,.fn (.func g) c d=>Nat.beq f g&&ahu a c&&ahu b d
 | _,_=>false
def z8:KV->KV->Bool
 | .fn (.func f) [] [],.fn (.func g) [] []=>Nat.beq f g
 | .JS,.JS=>true
 | .nS,.nS=>true
 | .EY,.EY=>true
 | .Lg,.Lg=>true
 | .Lh,.Lh=>true
 | _,_=>false
def UM (A:aB) (t:TypeId) (v:KV):KV:=
 match v with
 | .nS=>.ts t .any 0 [] pI
 | .al t' b o _=>match A.get b with
  | some (.arr (.ts t2 _ N es acc))=>cond (Nat.beq t t'&&Nat.beq t t2&&Nat.beq o 0) (.ts t .any N es acc) .bG
  | _=>.bG
 | _=>.bG
def gK (P:Program) (A:aB) (d:CD) (v:KV):KV:=
 match d with
 | .k c=>cond (kindOk c (qq c v)) (eJ P iU (leaf c (qq c v))) .bG
 | .lit w=>cond (z8 w v) w .bG
 | .aZ t=>match v with
  | .nS=>eJ P iU (.ts t .any 0 [] pI)
  | .ts t' (.aZ _) n es acc=>cond (Nat.beq t t') (eJ P iU (.ts t .any n es acc)) .bG
  | _=>.bG
 | .arr t=>eJ P iU (UM A t v)
 | .ref w=>w
def gL (P:Program) (A:aB):List CD->List KV->List KV
 | d::ds,v::vs=>gK P A d v::gL P A ds vs
 | _,_=>[]
def lF (d:CD) (v:KV):Bool:=
 match d with
 | .k c=>kindOk c v
 | .lit w=>z8 w v
 | .aZ t=>kindOk (.slice t) v
 | .arr t=>kindOk (.slice t) v
 | .ref w=>UL w v
def eF:List CD->List KV->Bool
 | [],[]=>true
 | d::ds,v::vs=>lF d v&&eF ds vs
 | _,_=>false
structure VD where
 agg:Bool
 ks:List CD
def zl (P:Program) (A:aB) (d:VD) (v:KV):KV:=
 match v with
 | .agg cs=>cond (d.agg&&Nat.beq cs.length d.ks.length) (.agg (gL P A d.ks cs)) .bG
 | v=>cond d.agg .bG (match d.ks with
  | [c]=>gK P A c v
  | _=>.bG)
def Bi (d:VD) (v:KV):Bool:=
 match v with
 | .agg cs=>d.agg&&eF d.ks cs
 | v=>!d.agg&&eF d.ks [v]
structure aQ where
 eI:List (Tmp×VD)
 rows:List (Tmp×List CD×Nat)
 aej:List (Tmp×Nat×Nat)
def valOf (t:bL) (i:Tmp):KV:=(t.get i).getD .bG
def tL (P:Program) (t:bL) (A:aB):List (Tmp×VD)->List KV
 | []=>[]
 | p::ps=>zl P A p.2 (valOf t p.1)::tL P t A ps
def jE:List (Tmp×VD)->List KV->Bool
 | [],[]=>true
 | p::ps,v::vs=>Bi p.2 v&&jE ps vs
 | _,_=>false
def ava:Option KV->Option Nat
 | some (.ptr b _)=>some b
 | _=>none
def awI (t:bL) (i:Nat):Option Nat:=
 cond (Nat.blt i 100000) (ava (t.get i)) (match t.get (i % 100000) with
  | some (.fn _ first cap)=>ava (ajY (i / 100000 - 1) (first++cap))
  | _=>none)
def rowOf (t:bL) (A:aB) (p:Tmp×List CD×Nat):Option (Nat×List KV):=
 match awI t p.1 with
 | some b=>match A.get b with
  | some (.row cs e)=>cond (Nat.beq e p.2.2&&Nat.beq cs.length p.2.1.length) (some (b,cs)) none
  | _=>none
 | _=>none
def aqo (t:bL) (A:aB) (p:Tmp×List CD×Nat):Nat:=((rowOf t A p).getD (0,[])).1
def Ng (t:bL) (A:aB) (p:Tmp×List CD×Nat):List KV:=((rowOf t A p).getD (0,[])).2
def DH (t:bL) (A:aB):List (Tmp×List CD×Nat)->List Nat
 | []=>[]
 | p::ps=>aqo t A p::DH t A ps
def Oj (P:Program) (t:bL) (A:aB):List (Tmp×List CD×Nat)->List (List KV)
 | []=>[]
 | p::ps=>gL P A p.2.1 (Ng t A p)::Oj P t A ps
def Dj (P:Program) (t:bL) (A:aB):List (Tmp×List CD×Nat)->Bool
 | []=>true
 | p::ps=>(rowOf t A p).isSome&&(eF p.2.1 (gL P A p.2.1 (Ng t A p))&&Dj P t A ps)
def asQ (v:Option KV) (b:Option Nat) (off:Nat):Bool:=
 match v,b with
 | some (.ptr b o),some b'=>Nat.beq o off&&Nat.beq b b'
 | _,_=>false
def Ws (t:bL) (bs:List Nat):List (Tmp×Nat×Nat)->Bool
 | []=>true
 | p::ps=>asQ (t.get p.1) bs[p.2.1]? p.2.2&&Ws t bs ps
def Bj:List Nat->Bool
 | []=>true
 | b::bs=>bs.all (fun c=>!Nat.beq b c)&&Bj bs
structure FI where
 ok:Bool
 f:Option Nat
 fm:Bool
def szL (P:Program) (t:TypeId):Nat:=(bu P t).ks.length
def xW (P:Program) (A:aB) (t:TypeId) (v:KV):FI:=
 match v with
 | .nS=>⟨true,none,true⟩
 | .ts _ (.aZ f) n _ _=>match A.get f with
  | some (.aZ top sz)=>⟨cond (Nat.beq sz (szL P t)) (ik top n) false,some f,true⟩
  | _=>⟨false,none,true⟩
 | _=>⟨false,none,true⟩
def Ol (P:Program) (A:aB) (t:TypeId) (v:KV):FI:=
 match v with
 | .nS=>⟨Nat.ble 1 (szL P t),none,false⟩
 | .al _ b _ n=>match A.get b with
  | some (.arr (.ts _ _ N _ _))=>⟨ik N n,some b,false⟩
  | _=>⟨false,none,false⟩
 | _=>⟨false,none,false⟩
def DI:Option lg->Bool
 | some (.aZ _ _)=>true
 | _=>false
theorem akc (P:Program) (A:aB) (t:TypeId) (v:KV):(xW P A t v).fm=true:=by
 unfold xW;split
 ·rfl
 ·split <;> rfl
 ·rfl
theorem arc (P:Program) (A:aB) (t:TypeId) (v:KV):(Ol P A t v).fm=false:=by
 unfold Ol;split
 ·rfl
 ·split <;> rfl
 ·rfl
theorem ard {P:Program} {A:aB} {t:TypeId} {v:KV} {x:Nat} (h:(xW P A t v).f=some x):DI (A.get x)=true:=by
 unfold xW at h;split at h
 ·simp at h
 ·split at h
  ·rename_i e; simp at h; subst h; rw [e]; rfl
  ·simp at h
 ·simp at h
def oE (P:Program) (A:aB):List CD->List KV->List FI
 | .aZ t::ds,v::vs=>xW P A t v::oE P A ds vs
 | .arr t::ds,v::vs=>Ol P A t v::oE P A ds vs
 | _::ds,_::vs=>oE P A ds vs
 | _,_=>[]
def Je (P:Program) (t:bL) (A:aB):List (Tmp×VD)->List FI
 | []=>[]
 | p::ps=>oE P A p.2.ks (valOf t p.1).cells++Je P t A ps
def Lz (P:Program) (t:bL) (A:aB):List (Tmp×List CD×Nat)->List FI
 | []=>[]
 | p::ps=>oE P A p.2.1 (Ng t A p)++Lz P t A ps
def acz:List FI->Bool
 | []=>true
 | x::xs=>cond (acz xs) x.ok false
def RL:List FI->List (Option Nat)
 | []=>[]
 | x::xs=>x.f::RL xs
def lQ:List (Option Nat)->List Nat
 | []=>[]
 | some f::xs=>f::lQ xs
 | none::xs=>lQ xs
def Jf (nr:Nat) (bs:List Nat):List CD->List KV->Bool
 | .ref w::ds,v::vs=>aei nr w&&(UL (inst bs w) v&&Jf nr bs ds vs)
 | _::ds,_::vs=>Jf nr bs ds vs
 | _,_=>true
def UN (nr:Nat) (bs:List Nat) (t:bL):List (Tmp×VD)->Bool
 | []=>true
 | p::ps=>Jf nr bs p.2.ks (valOf t p.1).cells&&UN nr bs t ps
def acA (nr:Nat) (bs:List Nat) (t:bL) (A:aB):List (Tmp×List CD×Nat)->Bool
 | []=>true
 | p::ps=>Jf nr bs p.2.1 (Ng t A p)&&acA nr bs t A ps
structure GR where
 ok:Bool
 bs:List Nat
 fs:List (Option Nat)
 vs:List KV
 rs:List (List KV)
def aQ.WW (S:aQ) (P:Program) (t:bL) (A:aB):List FI:=Je P t A S.eI++Lz P t A S.rows
def aQ.gV (S:aQ) (P:Program) (t:bL) (A:aB):GR:=
 ⟨cond (Dj P t A S.rows&&Bj (DH t A S.rows)&&Ws t (DH t A S.rows) S.aej&&jE S.eI (tL P t A S.eI)&&Bj (lQ (RL (S.WW P t A)))&&UN S.rows.length (DH t A S.rows) t S.eI&&acA S.rows.length (DH t A S.rows) t A S.rows) (acz (S.WW P t A)) false,
  DH t A S.rows,RL (S.WW P t A),tL P t A S.eI,Oj P t A S.rows⟩
def RM (j:Nat) (v:KV):KV:=
 match v with
 | .ts t _ n es acc=>.ts t (.aZ j) n es acc
 | v=>v
def Wt (j:Nat) (v:KV):KV:=
 match v with
 | .ts t _ n _ _=>.al t j 0 n
 | v=>v
def u5:List CD->Nat
 | []=>0
 | .aZ _::ds=>Nat.succ (u5 ds)
 | .arr _::ds=>Nat.succ (u5 ds)
 | _::ds=>u5 ds
def uA (j:Nat) (bs:List Nat):List CD->List KV->List KV
 | .aZ _::ds,v::vs=>RM j v::uA (Nat.succ j) bs ds vs
 | .arr _::ds,v::vs=>Wt j v::uA (Nat.succ j) bs ds vs
 | .ref w::ds,_::vs=>inst bs w::uA j bs ds vs
 | _::ds,v::vs=>v::uA j bs ds vs
 | _,_=>[]
def aek (j:Nat) (bs:List Nat) (d:VD) (v:KV):KV:=
 match v with
 | .agg cs=>.agg (uA j bs d.ks cs)
 | v=>match d.ks with
  | [.aZ _]=>RM j v
  | [.arr _]=>Wt j v
  | [.ref w]=>inst bs w
  | _=>v
def ael (j:Nat) (bs:List Nat):List (Tmp×VD)->List KV->List (Nat×KV)
 | p::ps,v::vs=>(p.1,aek j bs p.2 v)::ael (j+u5 p.2.ks) bs ps vs
 | _,_=>[]
def qM:List (Tmp×VD)->Nat
 | []=>0
 | p::ps=>u5 p.2.ks+qM ps
def aem (j:Nat) (bs:List Nat):List (Tmp×List CD×Nat)->List (List KV)->List (List KV)
 | p::ps,r::rs=>uA j bs p.2.1 r::aem (j+u5 p.2.1) bs ps rs
 | _,_=>[]
def sK (P:Program):List CD->List KV->List lg
 | .aZ t::ds,v::vs=>.aZ (lenOf v) (szL P t)::sK P ds vs
 | .arr _::ds,v::vs=>.arr v::sK P ds vs
 | _::ds,_::vs=>sK P ds vs
 | _,_=>[]
def Ce (P:Program):List (Tmp×VD)->List KV->List lg
 | p::ps,v::vs=>sK P p.2.ks v.cells++Ce P ps vs
 | _,_=>[]
def DJ (P:Program):List (Tmp×List CD×Nat)->List (List KV)->List lg
 | p::ps,r::rs=>sK P p.2.1 r++DJ P ps rs
 | _,_=>[]
def aQ.lens (S:aQ) (P:Program) (vs:List KV) (rs:List (List KV)):List lg:=Ce P S.eI vs++DJ P S.rows rs
def Ej (bs:List Nat):List (Tmp×Nat×Nat)->List (Nat×KV)
 | []=>[]
 | p::ps=>(p.1,.ptr (bs.getD p.2.1 0) p.2.2)::Ej bs ps
def aQ.tm (S:aQ) (fb:Nat) (bs:List Nat) (vs:List KV):bL:=oL (ael fb bs S.eI vs++Ej bs S.aej)
def aQ.LA (S:aQ) (fb:Nat) (bs:List Nat) (rs:List (List KV)):List (List KV):=aem (fb+qM S.eI) bs S.rows rs
def wI (A:aB):List lg->aB
 | []=>A
 | p::ps=>wI (A.new p) ps
def DK (A:aB):List (Option Nat)->aB
 | []=>A
 | some f::fs=>DK (A.put f .dead) fs
 | none::fs=>DK A fs
def rM (A:aB):List Nat->List (Tmp×List CD×Nat)->List (List KV)->aB
 | b::bs,p::ps,r::rs=>rM (A.put b (.row r p.2.2)) bs ps rs
 | _,_,_=>A
def aQ.back (S:aQ) (P:Program) (bs:List Nat) (fs:List (Option Nat)) (vs:List KV) (rs:List (List KV)) (A:aB):aB:=
 wI (DK (rM A bs S.rows (S.LA A.next bs rs)) fs) (S.lens P vs rs)
def u6 (A:aB):List (Tmp×List CD×Nat)->List (List KV)->aB
 | p::ps,r::rs=>u6 (A.new (.row r p.2.2)) ps rs
 | _,_=>A
def aQ.nr (S:aQ):Nat:=S.rows.length
def upto:Nat->List Nat->List Nat
 | 0,l=>l
 | n+1,l=>upto n (n::l)
def aQ.ids (S:aQ):List Nat:=upto S.rows.length []
def aQ.mem (S:aQ) (P:Program) (vs:List KV) (rs:List (List KV)):aB:=wI (u6 .empty S.rows (S.LA S.nr S.ids rs)) (S.lens P vs rs)
def z9:List Nat->List Nat->Bool
 | [],[]=>true
 | a::aw2,b::bs=>Nat.beq a b&&z9 aw2 bs
 | _,_=>false
def Dk (P:Program) (cfg:ga) (L n:Nat) (f:FuncId) (p:Nat) (body:Code) (S:aQ) (vs:List KV) (rs:List (List KV)):Option (aq×List KV×List (List KV)):=
 uy P cfg (M8 P cfg L n) L f body (2 * p) (fun e t A=>
  Bool.rec (motive:=fun _=>Option (aq×List KV×List (List KV))) none (some (e,(S.gV P t A).vs,(S.gV P t A).rs)) (cond (z9 (S.gV P t A).bs S.ids) (S.gV P t A).ok false)) (S.tm S.nr S.ids vs) (S.mem P vs rs)
def yM:aq->Bool
 | .normal=>true
 | _=>false
def y7 (rd:List KV->List (List KV)->Option (aq×List KV×List (List KV))):Nat->List KV->List (List KV)->Option (aq×List KV×List (List KV))
 | 0,_,_=>none
 | n+1,vs,rs=>match rd vs rs with
  | some (e,cU,oQ)=>cond (yM e) (y7 rd n cU oQ) (some (e,cU,oQ))
  | none=>none
inductive wJ where
 | no
 | out (e:aq) (vs:List KV) (rs:List (List KV))
 | br (c:Bool) (x y:wJ)
def wJ.ev:wJ->Option (aq×List KV×List (List KV))
 | .no=>none
 | .out e vs rs=>some (e,vs,rs)
 | .br c x y=>cond c x.ev y.ev
def wJ.tell (P:Program) (S:aQ) (bs:List Nat) (fs:List (Option Nat)) (A:aB):wJ->M7
 | .no=>.no
 | .out e vs rs=>.out e (S.tm A.next bs vs) (S.back P bs fs vs rs A)
 | .br c x y=>.br c (x.tell P S bs fs A) (y.tell P S bs fs A)
abbrev LFn:=List KV->List (List KV)->wJ
def avb (P:Program) (S:aQ) (F:LFn):bL->aB->M7:=fun t A=>
 .br (S.gV P t A).ok ((F (S.gV P t A).vs (S.gV P t A).rs).tell P S (S.gV P t A).bs (S.gV P t A).fs A) .no
end
end Go.K
end
