/- Part of the proof of BinsMeet: a machine that runs the program's code over open terms, shown to be the model's, and the plain models of its functions. No conditions. -/
import Derived.Test.YtahhdndhkgbcjaaFp
import Derived.LoopN
section
namespace Go.K
open Go Go.aV
variable {P:Program} {E:Env}
theorem LW {cfg:c9} {all:List Oper} {b:List Nat} {i:Nat} {y:Oper} : ∀ (xs:List Oper) (k:Nat),Ho P cfg all b i y xs k=true→∀ (j:Nat) (x:Oper),xs[j]? = some x→k+j < i→zM P cfg all x y=true→cP b i (k+j)=true∨(m3 P cfg all x y=false∧(Qp all (k+j) x i y).isSome=true)
  | [],k,_,j,x,hx,_,_=>by simp at hx
  | x0 :: xs,k,h,0,x,hx,aY,hc=>by
    simp at hx
    subst hx
    simp only [Ho,Bool.and_eq_true,Bool.or_eq_true,Bool.not_eq_true'] at h
    rcases h.1 with ((h1 | h1) | h1) | h1
    · have:=Nat.le_of_ble_eq_true h1; omega
    · rw [hc] at h1; simp at h1
    · exact .inl h1
    · exact .inr h1
  | x0 :: xs,k,h,j+1,x,hx,aY,hc=>by
    simp only [Ho,Bool.and_eq_true] at h
    have:=LW xs (k+1) h.2 j x (by simpa using hx) (by omega) hc
    rwa [show k+1+j=k+(j+1) by omega] at this
theorem FH {cfg:c9} {all:List Oper} {b:List Nat} : ∀ (os:List Oper) (k:Nat),Bg P cfg all b os k=true→∀ (i:Nat) (o:Oper),os[i]? = some o→Ho P cfg all b (k+i) o all 0=true
  | [],k,_,i,o,ho=>by simp at ho
  | o0 :: os,k,h,0,o,ho=>by
    simp at ho
    subst ho
    simp only [Bg,Bool.and_eq_true] at h
    exact h.1
  | o0 :: os,k,h,i+1,o,ho=>by
    simp only [Bg,Bool.and_eq_true] at h
    have:=FH os (k+1) h.2 i o (by simpa using ho)
    rwa [show k+1+i=k+(i+1) by omega] at this
theorem LX {cfg:c9} {all:List Oper} {b:List Nat} {i:Nat} {y:Oper} {p:Option Operand×Operand} : ∀ (xs:List Oper) (k j:Nat) (x:Oper),xs[j]? = some x→k+j < i→zM P cfg all x y=true→cP b i (k+j)=false→Qp all (k+j) x i y=some p→p ∈ wa P cfg all b i y xs k
  | [],k,j,x,hx,_,_,_,_=>by simp at hx
  | x0 :: xs,k,0,x,hx,aY,hm,hb,he=>by
    simp at hx
    subst hx
    have h1:(Nat.ble i k || !zM P cfg all x0 y || cP b i k)=false:=by
      rw [hm,show cP b i k=false from hb]
      cases h:Nat.ble i k with
      | false=>rfl
      | true=>have:=Nat.le_of_ble_eq_true h; omega
    simp only [wa]
    rw [h1,cond_false,show Qp all k x0 i y=some p from he]
    exact List.mem_cons_self
  | x0 :: xs,k,j+1,x,hx,aY,hm,hb,he=>by
    have e:k+(j+1)=k+1+j:=by omega
    have:=LX (b:=b) (p:=p) xs (k+1) j x (by simpa using hx) (show k+1+j < i by omega) hm (by rw [← e]; exact hb) (by rw [← e]; exact he)
    simp only [wa]
    cases (Nat.ble i k || !zM P cfg all x0 y || cP b i k) with
    | true=>exact this
    | false=>
      rw [cond_false]
      split
      · exact List.mem_cons_of_mem _ this
      · exact this
theorem IA {cfg:c9} {all:List Oper} {b:List Nat} {p:Option Operand×Operand} : ∀ (os:List Oper) (k i:Nat) (y:Oper),os[i]? = some y→p ∈ wa P cfg all b (k+i) y all 0→p ∈ OA P cfg all b os k
  | [],k,i,y,hy,_=>by simp at hy
  | o :: os,k,0,y,hy,h=>by
    simp at hy
    subst hy
    exact List.mem_append_left _ h
  | o :: os,k,i+1,y,hy,h=>by
    refine List.mem_append_right _ (IA os (k+1) i y (by simpa using hy) ?_)
    rwa [show k+1+i=k+(i+1) by omega]
structure IB (P:Program) (cfg:c9) (all:List Oper):Prop where
  Ff:fN P all
  kind:∀ o ∈ all,cY (bG P cfg o.op)≤3
  ord:∀ i j x y,all[i]? = some y→all[j]? = some x→j < i→zM P cfg all x y=true→cP (az [] all) i j=true∨(m3 P cfg all x y=false∧∃ p,Qp all j x i y=some p∧p ∈ zN P cfg all)
  plain:∀ p,p ∈ zN P cfg all→JL P cfg all=true
theorem aaJ {cfg:c9} {all:List Oper} (h:aah P cfg all=true):IB P cfg all:=by
  unfold aah at h
  simp only [Bool.and_eq_true] at h
  refine ⟨nA h.1.1.1,fun o ho=>Nat.le_of_ble_eq_true (List.all_eq_true.1 h.1.1.2 o ho),fun i j x y hy hx aY hm=>?_,fun p hp=>?_⟩
  · have:=FH all 0 h.1.2 i y hy
    rw [Nat.zero_add] at this
    have:=LW all 0 this j x hx (by omega) hm
    rw [Nat.zero_add] at this
    cases hb:cP (az [] all) i j with
    | true=>exact .inl rfl
    | false=>
      rcases this with h1 | ⟨h1,h2⟩
      · rw [hb] at h1; simp at h1
      · obtain ⟨p,hp⟩:=Option.isSome_iff_exists.1 h2
        refine .inr ⟨h1,p,hp,IA all 0 i y hy ?_⟩
        rw [Nat.zero_add]
        exact LX all 0 j x hx (by omega) hm (by rw [Nat.zero_add]; exact hb) (by rw [Nat.zero_add]; exact hp)
  · have h2:=h.2
    simp only [Bool.or_eq_true] at h2
    rcases h2 with h2 | h2
    · rw [List.isEmpty_iff] at h2
      rw [h2] at hp
      simp at hp
    · exact h2
structure T1 (P:Program) (cfg:c9) (all:List Oper):Prop where
  Ff:fN P all
  nW:∀ {i j:Nat} {x y:Oper},all[i]? = some y→all[j]? = some x→j < i→m3 P cfg all x y=true→cP (az [] all) i j=true
theorem IB.toT {cfg:c9} {all:List Oper} (hf:IB P cfg all):T1 P cfg all:=⟨hf.Ff,fun {i j x y} hy hx aY hc=>by
  rcases hf.ord i j x y hy hx aY (by unfold zM; rw [hc]; rfl) with h | ⟨h,_⟩
  · exact h
  · rw [hc] at h; simp at h⟩
def LY (P:Program) (cfg:c9) (all:List Oper) (i:Nat):Prop:=∀ j q,all[j]? = some q→Nat.ble 3 (cY (bG P cfg q.op))=true→(j < i→cP (az [] all) i j=true)∧(i < j→cP (az [] all) j i=true)
theorem tl {x y:Oper} {p:Option Operand×Operand} (h:CH x y=some p):(∃ T,y.op = .load T p.2)∧((p.1=none∧Hn x.op=true)∨∃ T a v,p.1=some a∧x.op = .store T a v):=by
  unfold CH at h
  split at h
  · rename_i a ha
    have hl:∃ T,y.op = .load T a:=by
      unfold adt at ha
      split at ha
      · rename_i T a' e; simp at ha; subst ha; exact ⟨T,e⟩
      · simp at ha
    cases hs:Hn x.op with
    | true=>
      rw [hs,cond_true] at h
      simp at h
      subst h
      exact ⟨hl,.inl ⟨rfl,rfl⟩⟩
    | false=>
      rw [hs,cond_false] at h
      split at h
      · rename_i a2 SD
        simp at h
        subst h
        refine ⟨hl,.inr ?_⟩
        unfold LG at SD
        split at SD
        · rename_i T a3 v e; simp at SD; subst SD; exact ⟨T,_,v,rfl,e⟩
        · simp at SD
      · simp at h
  · simp at h
theorem T3 {all:List Oper} {i j:Nat} {x y:Oper} {p:Option Operand×Operand} (h:Qp all j x i y=some p) :
    (CH x y=some p∧oV i p.2 all 0=true∧CG j p.1 all=true)∨(CH y x=some p∧oV j p.2 all 0=true∧CG i p.1 all=true):=by
  unfold Qp at h
  split at h
  · rename_i q hq
    cases hb:(oV i q.2 all 0 && CG j q.1 all) with
    | false=>rw [hb] at h; simp at h
    | true=>
      rw [hb,cond_true] at h
      simp at h
      subst h
      simp only [Bool.and_eq_true] at hb
      exact .inl ⟨hq,hb.1,hb.2⟩
  · split at h
    · rename_i q hq
      cases hb:(oV j q.2 all 0 && CG i q.1 all) with
      | false=>rw [hb] at h; simp at h
      | true=>
        rw [hb,cond_true] at h
        simp at h
        subst h
        simp only [Bool.and_eq_true] at hb
        exact .inr ⟨hq,hb.1,hb.2⟩
    · simp at h
theorem x7 {cfg:c9} {o:Oper} {T:TypeId} {a:Operand} (h:o.op = .load T a):cY (bG P cfg o.op)=1:=by rw [h]; rfl
theorem unordered {cfg:c9} {all:List Oper} (hf:IB P cfg all) {i j:Nat} {o q:Oper} (ho:all[i]? = some o) (hq:all[j]? = some q) (hk:cY (bG P cfg o.op)≠0) (h3:Nat.ble 3 (cY (bG P cfg q.op))=true) :
    ((j < i→cP (az [] all) i j=true)∧(i < j→cP (az [] all) j i=true))∨∃ p,p ∈ zN P cfg all∧CH q o=some p∧oV i p.2 all 0=true∧CG j p.1 all=true:=by
  have qc:Nat.beq (cY (bG P cfg o.op)) 0=false:=by
    cases hb:Nat.beq (cY (bG P cfg o.op)) 0 with
    | false=>rfl
    | true=>exact absurd (Nat.eq_of_beq_eq_true hb) hk
  have hnl:∀ T a,q.op≠.load T a:=fun T a e=>by rw [x7 e] at h3; simp at h3
  rcases Nat.lt_trichotomy j i with h | h | h
  · rcases hf.ord i j q o ho hq h (by unfold zM; rw [h3,qc]; simp) with h1 | ⟨_,p,h1,h2⟩
    · exact .inl ⟨fun _=>h1,fun h'=>by omega⟩
    · rcases T3 h1 with ⟨e1,e2,e3⟩ | ⟨e1,e2,e3⟩
      · exact .inr ⟨p,h2,e1,e2,e3⟩
      · obtain ⟨⟨T,e⟩,_⟩:=tl e1
        exact absurd e (hnl _ _)
  · exact .inl ⟨fun h'=>by omega,fun h'=>by omega⟩
  · rcases hf.ord j i o q hq ho h (by unfold zM; rw [h3,qc]; simp) with h1 | ⟨_,p,h1,h2⟩
    · exact .inl ⟨fun h'=>by omega,fun _=>h1⟩
    · rcases T3 h1 with ⟨e1,e2,e3⟩ | ⟨e1,e2,e3⟩
      · obtain ⟨⟨T,e⟩,_⟩:=tl e1
        exact absurd e (hnl _ _)
      · exact .inr ⟨p,h2,e1,e2,e3⟩
theorem FJ {cfg:c9} {all:List Oper} (hf:IB P cfg all) {i:Nat} {o:Oper} (ho:all[i]? = some o) (hk:cY (bG P cfg o.op)≠0) (hn:∀ T a,o.op≠.load T a):LY P cfg all i:=fun j q hq h3=>by
  rcases unordered hf ho hq hk h3 with h | ⟨p,_,h,_⟩
  · exact h
  · obtain ⟨⟨T,e⟩,_⟩:=tl h
    exact absurd e (hn _ _)
theorem u0 {cfg:c9} {o:Oper} (h:cY (bG P cfg o.op)≤3):∀ f args,bG P cfg o.op≠.call f args:=by
  intro f args e
  rw [e] at h
  simp [cY] at h
theorem tq {d:Tmp} {l:List Tmp} (h:d ∈ l):AK (some d) l=true:=by
  simp only [AK,List.any_eq_true]
  exact ⟨d,h,by simp⟩
theorem fy {x:Tmp} : ∀ {xs:List Operand},Operand.tmp x ∈ xs→x ∈ k7 xs
  | [],h=>by simp at h
  | y :: ys,h=>by
    rcases List.mem_cons.1 h with h | h
    · subst h; simp [k7]
    · have:=fy h
      cases y <;> simp [k7,this]
section
variable {cfg:c9} {all:List Oper} {L:List Out} {t0:bd} {A0:ak}
theorem T4 (hf:T1 P cfg all) {S:Nat→Bool} (hc:fc all S) {i:Nat} {o:Oper} (ho:all[i]? = some o) (dQ:S i=false) (hJ:gU all S i) {y:Tmp} (hy:y ∈ jC P cfg all o) :
    (jR S all L 0 t0).get y=(jR (fun j=>Nat.blt j i) all L 0 t0).get y:=by
  refine gY rfl fun j q hq hd=>?_
  rw [Nat.zero_add]
  rcases Nat.lt_trichotomy j i with h | h | h
  · have:cP (az [] all) i j=true:=hf.nW ho hq h (by
      unfold m3
      rw [hd,tq hy]
      rfl)
    rw [hc.ready hf.Ff ho hJ j this]
    symm; rw [Nat.blt_eq]; exact h
  · subst h
    rw [dQ]
    symm
    cases hb:Nat.blt j j with
    | false=>rfl
    | true=>rw [Nat.blt_eq] at hb; omega
  · have hb:cP (az [] all) j i=true:=hf.nW hq ho h (by
      unfold m3
      rw [hd,tq hy]
      simp)
    have:S j=false:=by
      cases hs:S j with
      | false=>rfl
      | true=>have:=hc j i hs hb; rw [dQ] at this; simp at this
    rw [this]
    symm
    cases hbb:Nat.blt j i with
    | false=>rfl
    | true=>rw [Nat.blt_eq] at hbb; omega
theorem LZ (hf:IB P cfg all) {S:Nat→Bool} (hc:fc all S) {i:Nat} {o:Oper} (ho:all[i]? = some o) (dQ:S i=false) (hJ:gU all S i) (hX:LY P cfg all i) :
    iV P cfg S all L 0 A0=iV P cfg (fun j=>Nat.blt j i) all L 0 A0:=by
  refine y4 fun j q x hq hx ht=>?_
  rw [Nat.zero_add]
  have h3:Nat.ble 3 (cY (bG P cfg q.op))=true:=by unfold turns at ht; simp only [Bool.and_eq_true] at ht; exact ht.2
  rcases Nat.lt_trichotomy j i with h | h | h
  · have:cP (az [] all) i j=true:=(hX j q hq h3).1 h
    rw [hc.ready hf.Ff ho hJ j this]
    symm; rw [Nat.blt_eq]; exact h
  · subst h
    rw [dQ]
    symm
    cases hb:Nat.blt j j with
    | false=>rfl
    | true=>rw [Nat.blt_eq] at hb; omega
  · have hb:cP (az [] all) j i=true:=(hX j q hq h3).2 h
    have:S j=false:=by
      cases hs:S j with
      | false=>rfl
      | true=>have:=hc j i hs hb; rw [dQ] at this; simp at this
    rw [this]
    symm
    cases hbb:Nat.blt j i with
    | false=>rfl
    | true=>rw [Nat.blt_eq] at hbb; omega
theorem Bs (hf:T1 P cfg all) {S:Nat→Bool} (hc:fc all S) {i:Nat} {o:Oper} {x:Out} (ho:all[i]? = some o) (hx:L[i]? = some x) (dQ:S i=false) (y:Tmp) :
    (jR (aZ S i) all L 0 t0).get y=(mj (jR S all L 0 t0) o.dst x.2.1).get y:=by
  rw [pC]
  by_cases hd:o.dst=some y
  · rw [if_pos hd]
    have:=TY (S:=S) (y:=y) (os:=all) (L:=L) (k:=0) (i:=i) (t:=t0) ho hx hd (fun j q hq TZ aY=>by
      rw [Nat.zero_add]
      have hb:cP (az [] all) j i=true:=hf.nW hq ho aY (by
        unfold m3
        rw [TZ,hd]
        simp [sR])
      cases hs:S j with
      | false=>rfl
      | true=>have:=hc j i hs hb; rw [dQ] at this; simp at this)
    rw [Nat.zero_add] at this
    exact this
  · rw [if_neg hd]
    refine gY rfl fun j q hq TZ=>?_
    rw [Nat.zero_add]
    have bo:j≠i:=by
      intro e
      subst e
      rw [ho] at hq
      simp at hq
      subst hq
      exact hd TZ
    unfold aZ
    have:Nat.beq j i=false:=by
      cases hb:Nat.beq j i with
      | false=>rfl
      | true=>exact absurd (Nat.eq_of_beq_eq_true hb) bo
    rw [this,Bool.or_false]
theorem qU {S:Nat→Bool} {i:Nat} {o:Oper} {x:Out} (ho:all[i]? = some o) (hx:L[i]? = some x) (ht:turns P cfg o x=false):iV P cfg (aZ S i) all L 0 A0=iV P cfg S all L 0 A0:=by
  refine y4 fun j q y hq hy hty=>?_
  rw [Nat.zero_add]
  have bo:j≠i:=by
    intro e
    subst e
    rw [ho] at hq; rw [hx] at hy
    simp at hq hy
    subst hq hy
    rw [ht] at hty; simp at hty
  unfold aZ
  have:Nat.beq j i=false:=by
    cases hb:Nat.beq j i with
    | false=>rfl
    | true=>exact absurd (Nat.eq_of_beq_eq_true hb) bo
  rw [this,Bool.or_false]
theorem aaK {i:Nat} {o:Oper} {x:Out} (ho:all[i]? = some o) (hx:L[i]? = some x) (ht:turns P cfg o x=true):iV P cfg (fun j=>Nat.blt j (i+1)) all L 0 A0=x.2.2:=by
  have key:∀ (os:List Oper) (L:List Out) (k i:Nat) (A:ak) (o:Oper) (x:Out),os[i]? = some o→L[i]? = some x→turns P cfg o x=true→iV P cfg (fun j=>Nat.blt j (k+i+1)) os L k A=x.2.2:=by
    intro os
    induction os with
    | nil=>intro L k i A o x ho; simp at ho
    | cons q os ih=>
      intro L k i A o x ho hx ht
      cases L with
      | nil=>simp at hx
      | cons u L=>
        simp only [iV]
        have aY:Nat.blt k (k+i+1)=true:=by rw [Nat.blt_eq]; omega
        rw [aY,Bool.true_and]
        cases i with
        | zero=>
          simp at ho hx
          subst ho hx
          rw [ht,cond_true]
          have:∀ (os:List Oper) (L:List Out) (m:Nat) (A:ak),k+1≤m→iV P cfg (fun j=>Nat.blt j (k+0+1)) os L m A=A:=by
            intro os
            induction os with
            | nil=>intro L m A _; cases L <;> rfl
            | cons q os ih=>
              intro L m A hm
              cases L with
              | nil=>rfl
              | cons u L=>
                simp only [iV]
                have:Nat.blt m (k+0+1)=false:=by
                  cases hb:Nat.blt m (k+0+1) with
                  | false=>rfl
                  | true=>rw [Nat.blt_eq] at hb; omega
                rw [this,Bool.false_and,cond_false]
                exact ih L _ A (by omega)
          exact this os L (k+1) _ (Nat.le_refl _)
        | succ i=>
          have:=ih L (k+1) i (cond (turns P cfg q u) u.2.2 A) o x (by simpa using ho) (by simpa using hx) ht
          rwa [show k+1+i+1=k+(i+1)+1 by omega] at this
  have:=key all L 0 i A0 o x ho hx ht
  rwa [Nat.zero_add] at this
theorem acy (hf:IB P cfg all) {S:Nat→Bool} (hc:fc all S) {i:Nat} {o:Oper} {x:Out} (ho:all[i]? = some o) (hx:L[i]? = some x) (dQ:S i=false) (hJ:gU all S i) (ht:turns P cfg o x=true) :
    iV P cfg (aZ S i) all L 0 A0=x.2.2:=by
  have h3:Nat.ble 3 (cY (bG P cfg o.op))=true:=by unfold turns at ht; simp only [Bool.and_eq_true] at ht; exact ht.2
  have hk:cY (bG P cfg o.op)≠0:=by have:=Nat.le_of_ble_eq_true h3; omega
  have h1:iV P cfg (aZ S i) all L 0 A0=iV P cfg (fun j=>Nat.blt j (i+1)) all L 0 A0:=by
    refine y4 fun j q y hq hy hty=>?_
    rw [Nat.zero_add]
    have hq3:Nat.ble 3 (cY (bG P cfg q.op))=true:=by unfold turns at hty; simp only [Bool.and_eq_true] at hty; exact hty.2
    have hX:LY P cfg all i:=FJ hf ho hk fun T a e=>by rw [x7 e] at h3; simp at h3
    rcases Nat.lt_trichotomy j i with h | h | h
    · have:cP (az [] all) i j=true:=(hX j q hq hq3).1 h
      have:=hc.ready hf.Ff ho hJ j this
      unfold aZ
      rw [this,Bool.true_or]
      symm; rw [Nat.blt_eq]; omega
    · subst h
      have:aZ S j j=true:=by simp [aZ]
      rw [this]
      symm; rw [Nat.blt_eq]; omega
    · have hb:cP (az [] all) j i=true:=(hX j q hq hq3).2 h
      have:S j=false:=by
        cases hs:S j with
        | false=>rfl
        | true=>have:=hc j i hs hb; rw [dQ] at this; simp at this
      unfold aZ
      have bo:Nat.beq j i=false:=by
        cases hb:Nat.beq j i with
        | false=>rfl
        | true=>have:=Nat.eq_of_beq_eq_true hb; omega
      rw [this,bo]
      symm
      cases hbb:Nat.blt j (i+1) with
      | false=>rfl
      | true=>rw [Nat.blt_eq] at hbb; omega
  rw [h1]
  exact aaK ho hx ht
end
theorem V9 {all:List Oper} {o:Oper} {j:Nat} {want:Bool} {d:Tmp} (hg:o.guard=some (j,want)) (hd:(all[j]?).bind (·.dst)=some d):d ∈ sh all o:=by
  unfold sh
  rw [hg]
  simp [hd]
theorem FK {all:List Oper} {o:Oper} {t t1:bd} {wd:Bool} {N:Nat} {ρ:aw} {a:Act} (ht:iK P E ρ t N a) (hl:∀ y ∈ sh all o,t1.get y=t.get y) (h:LV all o t1 wd):Region.wanted o (yielded ⟨all⟩ a.tmps)=wd:=by
  rcases h with ⟨hg,rfl⟩ | ⟨j,want,d,hg,hd,h⟩
  · unfold Region.wanted
    rw [hg]
  · have wG:=hl d (V9 hg hd)
    have n5:=ht.val d
    unfold Region.wanted
    rw [hg]
    simp only
    unfold yielded
    have e:(⟨all⟩:Array Oper)[j]? = all[j]?:=by simp
    rw [e,hd]
    simp only [Option.bind_some]
    rcases h with ⟨b,h1,rfl⟩ | ⟨l,h1,rfl⟩
    · rw [← wG,h1] at n5
      have hcv:=n5.cF
      cases hc:a.tmps[d]? with
      | none=>simp [Array.getD_eq_getD_getElem?,hc,undef] at hcv
      | some u=>
        have:u = .bool b:=by rw [← hcv]; simp [Array.getD_eq_getD_getElem?,hc]
        subst this
        rfl
    · rw [← wG,h1] at n5
      obtain ⟨u,h2,h3⟩:=n5
      obtain ⟨m,rfl,_⟩:=h2.Fv
      obtain ⟨m',h4,_⟩:=h3.xQ
      cases hc:a.tmps[d]? with
      | none=>rfl
      | some u=>
        have:u = .tuple m':=by rw [← h4]; simp [Array.getD_eq_getD_getElem?,hc]
        subst this
        rfl
theorem Bt {t t1:bd} {N:Nat} {ρ:aw} {a:Act} (ht:iK P E ρ t N a) {x:Operand} (h:∀ y,x = .tmp y→t1.get y=t.get y):VC P E ρ (ir t1 x) (a.eval x):=by
  have:=ht.ev x
  cases x with
  | tmp y=>simp only [ir] at this ⊢; rw [h y rfl]; exact this
  | const v=>exact this
  | global g=>exact this
  | func f=>exact this
theorem af7 {cfg:c9} {o:Oper} {t:bd} {A A1 A' : ak} {v:KV} (h:aE (nE (bG P cfg o.op) t A) (v,A1)) (hk:cY (bG P cfg o.op)=0):aE (nE (bG P cfg o.op) t A') (v,A'):=by
  generalize bG P cfg o.op=ins at h hk
  cases ins with
  | pure f xs=>obtain ⟨u,h1,h2⟩:=aE.map h; simp at h2; obtain ⟨rfl,_⟩:=h2; exact h1.tj
  | read f xs=>simp [cY] at hk
  | act f xs=>simp [cY] at hk
  | look f xs=>obtain ⟨u,h1,h2⟩:=aE.map h; simp at h2; obtain ⟨rfl,_⟩:=h2; exact h1.tj
  | wO g f xs=>obtain ⟨u,h1,h2⟩:=aE.map h; simp at h2; obtain ⟨rfl,_⟩:=h2; exact h1.tj
  | zJ g f xs=>simp [cY] at hk
  | call f xs=>exact h.elim
  | bad=>exact h.elim
theorem JT {cfg:c9} {S:Nat→Bool} (h:∀ i,S i=false):∀ {os:List Oper} {L:List Out} {k:Nat} {A:ak},iV P cfg S os L k A=A
  | [],L,k,A=>by cases L <;> rfl
  | o :: os,[],k,A=>rfl
  | o :: os,x :: L,k,A=>by simp only [iV]; rw [h,Bool.false_and,cond_false]; exact JT h
theorem x8 {S:Nat→Bool} (h:∀ i,S i=false):∀ {os:List Oper} {L:List Out} {k:Nat} {t:bd},jR S os L k t=t
  | [],L,k,A=>by cases L <;> rfl
  | o :: os,[],k,A=>rfl
  | o :: os,x :: L,k,A=>by simp only [jR]; rw [h,cond_false]; exact x8 h
theorem af8 {A:ak} {o:gx} {b:Nat} (hb:b < A.next) (cs:List KV) (e:Nat):A.get b=some (.row cs e) ↔ (A.new o).get b=some (.row cs e):=by
  rw [ak.bR,if_neg (by omega)]
theorem FL {A:ak} {o:gx} {b c:Nat} (h:b≠c∨((∀ cs e,A.get b≠some (.row cs e))∧∀ cs e,o≠.row cs e)) (cs:List KV) (e:Nat):A.get b=some (.row cs e) ↔ (A.put c o).get b=some (.row cs e):=by
  rw [ak.bt]
  by_cases SL:b=c
  · rw [if_pos SL]
    rcases h with h | ⟨h1,h2⟩
    · exact absurd SL h
    · exact ⟨fun q=>absurd q (h1 _ _),fun q=>absurd (by simpa using q) (h2 cs e)⟩
  · rw [if_neg SL]
def IC (A A' : ak):Prop:=A.next≤A'.next∧∀ b,b < A.next→∀ cs e,A.get b=some (.row cs e) ↔ A'.get b=some (.row cs e)
theorem xH {A:ak} {o:gx} : IC A (A.new o):=⟨by simp,fun _ hb cs e=>af8 hb cs e⟩
theorem Hu {A:ak} {c:Nat} {o o' : gx} (hc:A.get c=some o') (h' : ∀ cs e,o'≠.row cs e) (h:∀ cs e,o≠.row cs e):IC A (A.put c o):=⟨by simp,fun b _ cs e=>by
  by_cases SL:b=c
  · subst SL
    exact FL (.inr ⟨fun cs e q=>by rw [hc] at q; simp at q; exact h' cs e q,h⟩) cs e
  · exact FL (.inl SL) cs e⟩
theorem IC.trans {A B C:ak} (h:IC A B) (k:IC B C):IC A C:=⟨Nat.le_trans h.1 k.1,fun b hb cs e=>(h.2 b hb cs e).trans (k.2 b (Nat.lt_of_lt_of_le hb h.1) cs e)⟩
theorem C1 {e sz b n f m:Nat} {base new:List KV} {ab an:Nat→KV} {A A' : ak} {v:KV} {more:Bool} (h:aE (LD e sz b n base ab A f m new an more) (v,A')):A' = A.put f (.aJ (n+m) sz):=by
  obtain ⟨_,h⟩:=aE.il h
  simp only [Prod.mk.injEq] at h
  exact h.2.symm
theorem L1 {e b n m:Nat} {base new:List KV} {ab an:Nat→KV} {A A' : ak} {v:KV} {more:Bool} (h:aE (R9 e b n base ab A m new an more) (v,A')):∃ o,A' = A.new (.arr o):=by
  obtain ⟨_,h⟩:=aE.il h
  simp only [Prod.mk.injEq] at h
  exact ⟨_,h.2.symm⟩
theorem YI {e sz b:Nat} {A A' : ak} {xs:List KV} {v:KV} (h:aE (Fm e sz b A xs) (v,A')):IC A A':=by
  unfold Fm at h
  split at h
  · obtain ⟨_,h⟩:=aE.cond h
    rw [C1 h]
    exact xH.trans (Hu (o':=.aJ 0 sz) (by simp) (by simp) (by simp))
  · obtain ⟨_,h⟩:=aE.cond h
    rw [C1 h]
    exact xH.trans (Hu (o':=.aJ 0 sz) (by simp) (by simp) (by simp))
  · split at h
    · rename_i hf
      obtain ⟨_,h⟩:=aE.cond h
      rw [C1 h]
      exact Hu hf (by simp) (by simp)
    · exact h.elim
  · exact h.elim
theorem ID {e b:Nat} {A A' : ak} {xs:List KV} {v:KV} (h:aE (xE e b A xs) (v,A')):IC A A':=by
  unfold xE at h
  split at h
  · obtain ⟨_,h⟩:=aE.cond h
    obtain ⟨o,rfl⟩:=L1 h
    exact xH
  · split at h
    · rename_i hf
      obtain ⟨_,h⟩:=aE.cond h
      obtain ⟨o,rfl⟩:=L1 h
      exact (Hu hf (by simp) (by simp)).trans xH
    · exact h.elim
  · exact h.elim
theorem Wa {e sz b:Nat} {mt:Bool} {A A' : ak} {xs:List KV} {v:KV} (h:aE (Bd e sz b mt A xs) (v,A')):IC A A':=by
  unfold Bd at h
  split at h
  · split at h
    · rename_i y' _
      revert h
      cases afT _ with
      | true=>exact fun h=>ID h
      | false=>
        cases mt with
        | true=>exact fun h=>ID h
        | false=>exact fun h=>YI h
    · exact h.elim
  · exact h.elim
theorem aeE {c:Bool} {i:lT} {t:bd} {A:ak} {x:KV×ak} (h:aE (nE (cond c i .bad) t A) x):aE (nE i t A) x:=by
  cases c with
  | true=>exact h
  | false=>exact h.elim
theorem T5 {cfg:c9} {o:Oper} {t:bd} {A A' : ak} {v:KV} (hs:Hn o.op=true) (h:aE (nE (bG P cfg o.op) t A) (v,A')):IC A A':=by
  revert hs h
  cases hop:o.op <;> intro hs h <;> simp [Hn] at hs
  · rename_i T
    have h:aE (nE (kd P T) t A) (v,A'):=h
    unfold kd at h
    split at h
    · rename_i z _
      cases hb:(flat z && z.cells.toList.all scalar && dV (eG z).cells) with
      | false=>rw [hb] at h; exact h.elim
      | true=>
        rw [hb,cond_true] at h
        have h:(KV.ptr A.next 0,A.new (.row (eG z).cells (hH P T)))=(v,A'):=h
        simp only [Prod.mk.injEq] at h
        rw [← h.2]
        exact xH
    · exact h.elim
  · rename_i T x
    have h:aE (uu (hH P T) A [ir t x]) (v,A'):=h
    unfold uu at h
    simp only at h
    obtain ⟨_,h⟩:=aE.cond h
    have h:(KV.ptr A.next 0,A.new (.row (ir t x).cells (hH P T)))=(v,A'):=h
    simp only [Prod.mk.injEq] at h
    rw [← h.2]
    exact xH
  · rename_i c
    split at hs
    · rename_i hc
      have h:aE (nE (gV P cfg c) t A) (v,A'):=h
      unfold gV at h
      rw [hc] at h
      simp only [tg] at h
      unfold yV at h
      split at h
      · split at h
        · split at h
          · split at h
            · exact Wa (aeE h)
            · exact h.elim
          · exact h.elim
        · exact h.elim
      · exact h.elim
    · simp at hs
theorem QA {cfg:c9} {o:Oper} {T:TypeId} {a x:Operand} {t:bd} {A A' : ak} {v:KV} (ho:o.op = .store T a x) (h:aE (nE (bG P cfg o.op) t A) (v,A')) :
    A'.next=A.next∧∀ b,((∃ b2 off,ir t a = .ptr b2 off∧b≠b2)∨∃ U Tc c i k,ir t a = .ap U Tc c i k)→∀ cs e,A.get b=some (.row cs e) ↔ A'.get b=some (.row cs e):=by
  rw [ho] at h
  have h:aE (LB P T A [ir t a,ir t x]) (v,A'):=h
  unfold LB at h
  split at h
  · rename_i c off w heq
    simp only [List.cons.injEq,and_true] at heq
    obtain ⟨_,h⟩:=aE.cond h
    split at h
    · split at h
      · have h:(mV,_)=(v,A'):=h
        simp only [Prod.mk.injEq] at h
        rw [← h.2]
        refine ⟨rfl,fun b hb cs e=>FL (.inl ?_) cs e⟩
        rcases hb with ⟨b2,af4,h1,h2⟩ | ⟨U,Tc,c',i,k,h1⟩
        · rw [heq.1] at h1; simp at h1; rw [h1.1]; exact h2
        · rw [heq.1] at h1; simp at h1
      · exact h.elim
    · exact h.elim
  · rename_i U Tc c i k w heq
    split at h
    · rename_i hA
      obtain ⟨_,h⟩:=aE.cond h
      split at h
      · have h:(mV,_)=(v,A'):=h
        simp only [Prod.mk.injEq] at h
        rw [← h.2]
        refine ⟨rfl,fun b _ cs e=>?_⟩
        by_cases SL:b=c
        · subst SL
          exact FL (.inr ⟨fun cs e q=>by rw [hA] at q; simp at q,by simp⟩) cs e
        · exact FL (.inl SL) cs e
      · exact h.elim
    · exact h.elim
  · exact h.elim
theorem JU {t:bd} {nx:Nat} : ∀ {l:List (Option Operand×Operand)},JK t nx l=true→∀ p ∈ l,Bf t nx p=true
  | [],_,p,hp=>by simp at hp
  | q :: l,h,p,hp=>by
    have h:Bool.rec (motive:=fun _=>Bool) false (JK t nx l) (Bf t nx q)=true:=h
    cases hq:Bf t nx q with
    | false=>rw [hq] at h; simp at h
    | true=>
      rw [hq] at h
      rcases List.mem_cons.1 hp with rfl | hp
      · exact hq
      · exact JU h p hp
theorem QB {i:Nat} {x:Tmp} : ∀ (os:List Oper) (k:Nat),oV i (.tmp x) os k=true→∀ j o,os[j]? = some o→i≤k+j→o.dst≠some x
  | [],k,_,j,o,ho,_=>by simp at ho
  | q :: os,k,h,0,o,ho,hle=>by
    simp at ho
    subst ho
    simp only [oV,Bool.and_eq_true,Bool.or_eq_true,Bool.not_eq_true'] at h
    rcases h.1 with h1 | h1
    · rw [Nat.blt_eq] at h1; omega
    · intro e
      rw [e,tq (by simp [k7])] at h1
      simp at h1
  | q :: os,k,h,j+1,o,ho,hle=>by
    simp only [oV,Bool.and_eq_true] at h
    exact QB os (k+1) h.2 j o (by simpa using ho) (by omega)
section
variable {cfg:c9} {all:List Oper} {L:List Out} {t0:bd} {A0:ak}
theorem YJ {tn t1:bd} {i:Nat} {x:Operand} (Eu:∀ y,tn.get y=(jR (fun _=>true) all L 0 t0).get y) (uo:∀ y,t1.get y=(jR (fun j=>Nat.blt j i) all L 0 t0).get y) (h:oV i x all 0=true):ir tn x=ir t1 x:=by
  cases x with
  | tmp y=>
    simp only [ir]
    rw [Eu y,uo y,gY (S':=fun j=>Nat.blt j i) rfl fun j o ho hd=>?_]
    rw [Nat.zero_add]
    symm
    rw [Nat.blt_eq]
    refine Nat.lt_of_not_le fun hle=>?_
    exact QB all 0 h j o ho (by omega) hd
  | const v=>rfl
  | global g=>rfl
  | func f=>rfl
theorem aaL (j:Nat):(∃ q x,all[j]? = some q∧L[j]? = some x∧turns P cfg q x=true∧iV P cfg (fun k=>Nat.blt k (j+1)) all L 0 A0=x.2.2)∨
    ((∀ q x,all[j]? = some q→L[j]? = some x→turns P cfg q x=false)∧iV P cfg (fun k=>Nat.blt k (j+1)) all L 0 A0=iV P cfg (fun k=>Nat.blt k j) all L 0 A0):=by
  by_cases h:∃ q x,all[j]? = some q∧L[j]? = some x∧turns P cfg q x=true
  · obtain ⟨q,x,h1,h2,h3⟩:=h
    refine .inl ⟨q,x,h1,h2,h3,?_⟩
    have:=aaK (A0:=A0) h1 h2 h3
    exact this
  · have hn:∀ q x,all[j]? = some q→L[j]? = some x→turns P cfg q x=false:=fun q x h1 h2=>by
      cases ht:turns P cfg q x with
      | false=>rfl
      | true=>exact absurd ⟨q,x,h1,h2,ht⟩ h
    refine .inr ⟨hn,y4 fun k q x hq hx ht=>?_⟩
    rw [Nat.zero_add]
    have bo:k≠j:=fun e=>by subst e; rw [hn q x hq hx] at ht; simp at ht
    cases hb:Nat.blt k j with
    | true=>rw [Nat.blt_eq] at hb ⊢; omega
    | false=>
      cases oM:Nat.blt k (j+1) with
      | false=>rfl
      | true=>
        rw [Nat.blt_eq] at oM
        have : ¬ k < j:=fun h=>by rw [← Nat.blt_eq,hb] at h; simp at h
        omega
theorem QC (hf:IB P cfg all) {S:Nat→Bool} (hc:fc all S):∀ n,∃ m,m≤n∧∀ j q x,j < n→all[j]? = some q→L[j]? = some x→turns P cfg q x=true→S j=Nat.blt j m
  | 0=>⟨0,Nat.le_refl 0,fun j q x hj=>by omega⟩
  | n+1=>by
    obtain ⟨m,hm,h⟩:=QC hf hc n
    by_cases hn:∃ q x,all[n]? = some q∧L[n]? = some x∧turns P cfg q x=true∧S n=true
    · obtain ⟨q,x,h1,h2,h3,h4⟩:=hn
      have hq3:Nat.ble 3 (cY (bG P cfg q.op))=true:=by unfold turns at h3; simp only [Bool.and_eq_true] at h3; exact h3.2
      have hk:cY (bG P cfg q.op)≠0:=by have:=Nat.le_of_ble_eq_true hq3; omega
      have hX:=FJ hf h1 hk fun T a e=>by rw [x7 e] at hq3; simp at hq3
      refine ⟨n+1,Nat.le_refl _,fun j q' x' hj h5 h6 h7=>?_⟩
      have hb:Nat.blt j (n+1)=true:=by rw [Nat.blt_eq]; exact hj
      rw [hb]
      by_cases hjn:j=n
      · subst hjn; exact h4
      · have akf:Nat.ble 3 (cY (bG P cfg q'.op))=true:=by unfold turns at h7; simp only [Bool.and_eq_true] at h7; exact h7.2
        exact hc n j h4 ((hX j q' h5 akf).1 (by omega))
    · refine ⟨m,by omega,fun j q x hj h5 h6 h7=>?_⟩
      by_cases hjn:j=n
      · subst hjn
        have hb:Nat.blt j m=false:=by
          cases hb:Nat.blt j m with
          | false=>rfl
          | true=>rw [Nat.blt_eq] at hb; omega
        rw [hb]
        cases hs:S j with
        | false=>rfl
        | true=>exact absurd ⟨q,x,h5,h6,h7,hs⟩ hn
      · exact h j q x (by omega) h5 h6 h7
theorem aeF (hf:IB P cfg all) {S:Nat→Bool} (hc:fc all S):∃ m,(∀ j q x,all[j]? = some q→L[j]? = some x→turns P cfg q x=true→S j=Nat.blt j m)∧iV P cfg S all L 0 A0=iV P cfg (fun j=>Nat.blt j m) all L 0 A0:=by
  obtain ⟨m,_,h⟩:=QC (L:=L) hf hc all.length
  have h' : ∀ j q x,all[j]? = some q→L[j]? = some x→turns P cfg q x=true→S j=Nat.blt j m:=fun j q x h1 h2 h3=>h j q x (List.getElem?_eq_some_iff.1 h1).1 h1 h2 h3
  exact ⟨m,h',y4 fun j q x h1 h2 h3=>by rw [Nat.zero_add]; exact h' j q x h1 h2 h3⟩
def AtK (P:Program) (cfg:c9) (all:List Oper) (L:List Out) (t0:bd) (A0:ak):Prop:=∀ i o x,all[i]? = some o→L[i]? = some x→∃ t1,(∀ y,t1.get y=(jR (fun j=>Nat.blt j i) all L 0 t0).get y)∧(x.1=true→aE (nE (bG P cfg o.op) t1 (iV P cfg (fun j=>Nat.blt j i) all L 0 A0)) (x.2.1,x.2.2))
theorem aaM (rB:AtK P cfg all L t0 A0) (hpl:JL P cfg all=true):∀ j,A0.next≤(iV P cfg (fun k=>Nat.blt k j) all L 0 A0).next
  | 0=>by rw [JT (fun i=>by
      cases hb:Nat.blt i 0 with
      | false=>rfl
      | true=>rw [Nat.blt_eq] at hb; omega)]; exact Nat.le_refl _
  | j+1=>by
    have ih:=aaM rB hpl j
    rcases aaL (P:=P) (cfg:=cfg) (all:=all) (L:=L) (A0:=A0) j with ⟨q,x,h1,h2,h3,h4⟩ | ⟨_,h4⟩
    · rw [h4]
      obtain ⟨t1,_,hg⟩:=rB j q x h1 h2
      unfold turns at h3
      simp only [Bool.and_eq_true] at h3
      have hg:=hg h3.1
      have hp:=List.all_eq_true.1 hpl q (List.mem_of_getElem? h1)
      simp only [Bool.or_eq_true,h3.2,Bool.not_true,Bool.false_eq_true,false_or] at hp
      rcases hp with hp | hp
      · exact Nat.le_trans ih (T5 hp hg).1
      · obtain ⟨a2,SD⟩:=Option.isSome_iff_exists.1 hp
        unfold LG at SD
        split at SD
        · rename_i T a3 v e
          rw [(QA e hg).1]; exact ih
        · simp at SD
    · rw [h4]; exact ih
theorem aaN (hf:IB P cfg all) {S:Nat→Bool} (hc:fc all S) {i:Nat} {o:Oper} {T:TypeId} {a:Operand} (ho:all[i]? = some o) (wL:o.op = .load T a) (dQ:S i=false) (hJ:gU all S i) (Z3 : ¬ LY P cfg all i)
    (rB:AtK P cfg all L t0 A0) {tn:bd} (Eu:∀ y,tn.get y=(jR (fun _=>true) all L 0 t0).get y) (adL:JK tn A0.next (zN P cfg all)=true)
    {t1:bd} (uo:∀ y,t1.get y=(jR (fun j=>Nat.blt j i) all L 0 t0).get y) {v:KV} {A1:ak} (hg:aE (nE (bG P cfg o.op) t1 (iV P cfg (fun j=>Nat.blt j i) all L 0 A0)) (v,A1)) :
    aE (nE (bG P cfg o.op) t1 (iV P cfg S all L 0 A0)) (v,iV P cfg S all L 0 A0):=by
  have hk:cY (bG P cfg o.op)≠0:=by rw [x7 wL]; simp
  have hex:∃ p,p ∈ zN P cfg all∧p.2=a∧oV i a all 0=true:=by
    refine Classical.byContradiction fun bo=>Z3 fun j q hq h3=>?_
    rcases unordered hf ho hq hk h3 with h | ⟨p,h1,h2,h3,_⟩
    · exact h
    · obtain ⟨⟨T',e⟩,_⟩:=tl h2
      rw [wL] at e
      simp only [Op.load.injEq] at e
      exact absurd ⟨p,h1,e.2.symm,by rw [e.2]; exact h3⟩ bo
  obtain ⟨p,hp,ZW,hnd⟩:=hex
  have n5:=YJ Eu uo hnd
  have hpd:=JU adL p hp
  have hpl:=hf.plain p hp
  rw [wL] at hg ⊢
  have akg:∀ A,nE (bG P cfg (.load T a)) t1 A=(Ov P T A [ir t1 a]).map fun v=>(v,A):=fun _=>rfl
  rw [akg] at hg ⊢
  obtain ⟨u,Bb,he⟩:=aE.map hg
  simp only [Prod.mk.injEq] at he
  obtain ⟨rfl,_⟩:=he
  clear hg
  have hg:=Bb
  clear Bb
  refine aE.tj (f:=fun v=>(v,iV P cfg S all L 0 A0)) ?_
  unfold Bf at hpd
  rw [ZW,n5] at hpd
  cases hv:ir t1 a with
  | tp U Tc m k es acc=>rw [hv] at hg; exact hg
  | ptr b off=>
    rw [hv] at hg hpd
    simp only [Bool.and_eq_true] at hpd
    have hb:=hpd.1
    rw [Nat.blt_eq] at hb
    have fa:∃ cs e,(iV P cfg (fun j=>Nat.blt j i) all L 0 A0).get b=some (.row cs e):=by
      have hg:aE (match EH P T,size? P T with
        | some ag,some n=>match (K.rowAt (iV P cfg (fun j=>Nat.blt j i) all L 0 A0) b).bind fun cs=>oS n (uQ off cs) with
          | some l=>cond ag (.ok (.agg l)) (match l with | [v]=>.ok v | _=>.no)
          | none=>.no
        | _,_=>.no) u:=hg
      split at hg
      · split at hg
        · rename_i l hl
          obtain ⟨cs,h1,_⟩:=Option.bind_eq_some_iff.1 hl
          unfold K.rowAt at h1
          split at h1
          · rename_i bk e h2; exact ⟨bk,e,h2⟩
          · simp at h1
        · exact hg.elim
      · exact hg.elim
    obtain ⟨cs,e,fa⟩:=fa
    obtain ⟨m,hm,hX⟩:=aeF (L:=L) (A0:=A0) hf hc
    have step:∀ k,(∀ q x,all[k]? = some q→L[k]? = some x→turns P cfg q x=true→¬ ((k < i→cP (az [] all) i k=true)∧(i < k→cP (az [] all) k i=true)))→
        ((iV P cfg (fun j=>Nat.blt j k) all L 0 A0).get b=some (.row cs e) ↔ (iV P cfg (fun j=>Nat.blt j (k+1)) all L 0 A0).get b=some (.row cs e)):=by
      intro k Fb
      rcases aaL (P:=P) (cfg:=cfg) (all:=all) (L:=L) (A0:=A0) k with ⟨q,x,h1,h2,h3,h4⟩ | ⟨_,h4⟩
      · rw [h4]
        have YB:=h3
        unfold turns at YB
        simp only [Bool.and_eq_true] at YB
        rcases unordered hf ho h1 hk YB.2 with h5 | ⟨p',h5,h6,h7,h8⟩
        · exact absurd h5 (Fb q x h1 h2 h3)
        · obtain ⟨tk,htk,hgk⟩:=rB k q x h1 h2
          have hgk:=hgk YB.1
          obtain ⟨⟨T',e1⟩,e2⟩:=tl h6
          rw [wL] at e1
          simp only [Op.load.injEq] at e1
          have aaO:=JU adL p' h5
          unfold Bf at aaO
          rw [← e1.2,n5,hv] at aaO
          simp only [Bool.and_eq_true] at aaO
          rcases e2 with ⟨e2,e3⟩ | ⟨U,a2,v2,e2,e3⟩
          · exact (T5 e3 hgk).2 b (Nat.lt_of_lt_of_le hb (aaM rB hpl k)) cs e
          · refine (QA e3 hgk).2 b ?_ cs e
            rw [e2] at aaO h8
            have Q8:=YJ Eu htk h8
            have h9:=aaO.2
            simp only at h9
            rw [Q8] at h9
            split at h9
            · rename_i b2 af4 e4
              refine .inl ⟨b2,af4,e4,fun e5=>?_⟩
              subst e5
              simp at h9
            · rename_i U' Tc' c' i' k' e4; exact .inr ⟨_,_,_,_,_,e4⟩
            · simp at h9
      · rw [h4]
    have aja:(iV P cfg S all L 0 A0).get b=some (.row cs e):=by
      rw [hX]
      rcases Nat.le_total m i with hle | hle
      · have down:∀ d k,k+d=i→m≤k→(iV P cfg (fun j=>Nat.blt j k) all L 0 A0).get b=some (.row cs e):=by
          intro d
          induction d with
          | zero=>intro k hk _; have:k=i:=by omega
                  rw [this]; exact fa
          | succ d ih=>
            intro k hk Re
            refine (step k fun q x h1 h2 h3 v9=>?_).2 (ih (k+1) (by omega) (by omega))
            have h4:=hm k q x h1 h2 h3
            have h5:S k=true:=hc.ready hf.Ff ho hJ k (v9.1 (by omega))
            rw [h5] at h4
            have h4:=h4.symm
            rw [Nat.blt_eq] at h4
            omega
        exact down (i - m) m (by omega) (Nat.le_refl m)
      · have up:∀ d,i+d≤m→(iV P cfg (fun j=>Nat.blt j (i+d)) all L 0 A0).get b=some (.row cs e):=by
          intro d
          induction d with
          | zero=>intro _; exact fa
          | succ d ih=>
            intro hd
            refine (step (i+d) fun q x h1 h2 h3 v9=>?_).1 (ih (by omega))
            have h4:=hm (i+d) q x h1 h2 h3
            have h5:Nat.blt (i+d) m=true:=by rw [Nat.blt_eq]; omega
            rw [h5] at h4
            by_cases hd0:d=0
            · subst hd0
              rw [Nat.add_zero] at h4
              rw [dQ] at h4; simp at h4
            · have:=hc (i+d) i h4 (v9.2 (by omega))
              rw [dQ] at this; simp at this
        have:=up (m - i) (by omega)
        rwa [show i+(m - i)=m by omega] at this
    have wG:K.rowAt (iV P cfg S all L 0 A0) b=K.rowAt (iV P cfg (fun j=>Nat.blt j i) all L 0 A0) b:=by
      unfold K.rowAt
      rw [fa,aja]
    show aE (match EH P T,size? P T with
        | some ag,some n=>match (K.rowAt (iV P cfg S all L 0 A0) b).bind fun cs=>oS n (uQ off cs) with
          | some l=>cond ag (.ok (.agg l)) (match l with | [v]=>.ok v | _=>.no)
          | none=>.no
        | _,_=>.no) u
    rw [wG]
    exact hg
  | _=>rw [hv] at hpd; simp at hpd
end
theorem Wb {R:Type} {cfg:c9} {bb:jG R} (gX:qE P cfg.pc) (hm:P.follows .mixedOrders=true) {id:Nat} {all:List Oper} {N base:Nat} (Fa:all.all (mc N)=true) {k:bd→ak→Option R} {r:R} {t:bd} {A:ak} {B:St} {ρ:aw} {a:Act} {w:World} {Q:Exit→Act→World→Prop}
    (v9:aah P cfg all=true) (h:oU P cfg bb all (fun t' A'=>Bool.rec (motive:=fun _=>Option R) none (k t' A') (JK t' A.next (zN P cfg all))) all t A=some r) (ht:iK P E ρ t N a) (hj:KJ P E A B ρ base w)
    (hq:∀ t' E' A' B' aq a' w',k t' A' = some r→iK P E' aq t' N a'→a'.defers=a.defers→Ev P base E A B ρ w E' A' B' aq w'→Q .normal a' w'):(Code.region id ⟨all⟩ true).wp P Q a w:=by
  have hf:=aaJ v9
  obtain ⟨L,tn,An,kN,hk⟩:=LU (fun o ho f args=>u0 (hf.kind o ho) f args) h
  obtain ⟨hlen,Eu,hAn,rB⟩:=kN.at
  have hdk:JK tn A.next (zN P cfg all)=true∧k tn An=some r:=by
    cases hd:JK tn A.next (zN P cfg all) with
    | false=>simp only [hd] at hk; exact absurd hk (by simp)
    | true=>simp only [hd] at hk; exact ⟨rfl,hk⟩
  obtain ⟨adL,hk⟩:=hdk
  have akh:AtK P cfg all L t A:=fun i o x ho hx=>by obtain ⟨t1,q1,_,q3,_⟩:=rB i o x ho hx; exact ⟨t1,q1,q3⟩
  have FM:Ev P base E A B ρ w E A B ρ w.drew:=(ck.refl hj.k).ev (b7.drew hj.s)
  refine wp_region_any hm ?_
  show wpAny P .any ⟨all⟩ Q all.length (Array.replicate all.length false) a w.drew
  have qe:∀ i,(Array.replicate all.length false).getD i false=false:=by
    intro i
    rw [Array.getD_eq_getD_getElem?,Array.getElem?_replicate]
    split <;> rfl
  let Inv:(Nat→Bool)→Act→World→Prop:=fun S a' w'=>∃ E' B' aq,a'.defers=a.defers∧Ev P base E A B ρ w.drew E' (iV P cfg S all L 0 A) B' aq w'∧iK P E' aq (jR S all L 0 t) N a'
  refine xk hf.Ff Inv ?_ ?_ ?_ all.length _ a w.drew (by simp) ?_ (fun i j hi _=>by
      have h2:(Array.replicate all.length false).getD i false=true:=hi
      rw [qe] at h2; simp at h2) ⟨E,B,ρ,rfl,?_,?_⟩
  ·
    rintro S S' a' w' S7 ⟨E',B',aq,h1,h2,h3⟩
    have e1:iV P cfg S all L 0 A=iV P cfg S' all L 0 A:=y4 fun i o x ho _ _=>by rw [Nat.zero_add]; exact S7 i (List.getElem?_eq_some_iff.1 ho).1
    refine ⟨E',B',aq,h1,by rw [← e1]; exact h2,h3.same fun y=>?_⟩
    exact gY rfl fun i o ho _=>by rw [Nat.zero_add]; exact (S7 i (List.getElem?_eq_some_iff.1 ho).1).symm
  ·
    rintro S a' w' i o ⟨E',B',aq,h1,h2,h3⟩ hc ho dQ hJ _
    have hi:i < L.length:=by rw [hlen]; exact (List.getElem?_eq_some_iff.1 ho).1
    have hx:L[i]? = some L[i]:=List.getElem?_eq_getElem hi
    obtain ⟨t1,uo,hw,aaP,Fb⟩:=rB i o L[i] ho hx
    have x9:∀ y ∈ jC P cfg all o,t1.get y=(jR S all L 0 t).get y:=fun y hy=>by rw [uo y,T4 hf.toT hc ho dQ hJ hy]
    have Cw:=FK h3 (fun y hy=>x9 y (by unfold jC; exact List.mem_append_left _ hy)) hw
    have jd:∀ d,o.dst=some d→d < N:=by
      intro d ed
      have:=List.all_eq_true.1 Fa o (List.mem_of_getElem? ho)
      unfold mc at this
      rw [ed] at this
      simp only at this
      rw [Nat.blt_eq] at this
      exact this
    have X4:(⟨all⟩:Array Oper)[i]? = some o:=by simpa using ho
    unfold wpOp
    rw [X4]
    simp only [Cw]
    cases Et:L[i].1 with
    | false=>
      simp only [Bool.false_eq_true,if_false]
      have hv:=Fb Et
      refine ⟨E',B',aq,by rw [put_defers]; exact h1,?_,?_⟩
      · rw [qU ho hx (by unfold turns; rw [Et]; rfl)]
        exact h2
      · refine (h3.put jd VC.undef).same fun y=>?_
        rw [Bs hf.toT hc ho hx dQ y,hv]
    | true=>
      simp only [if_true]
      refine .inl ?_
      have hg:=aaP Et
      have hgS:∃ A1,aE (nE (bG P cfg o.op) t1 (iV P cfg S all L 0 A)) (L[i].2.1,A1)∧iV P cfg (aZ S i) all L 0 A=A1:=by
        by_cases yG:cY (bG P cfg o.op)=0
        · refine ⟨_,af7 hg yG,qU ho hx ?_⟩
          unfold turns
          rw [yG,show Nat.ble 3 0=false from rfl,Bool.and_false]
        · by_cases hX:LY P cfg all i
          · rw [LZ (L:=L) (A0:=A) hf hc ho dQ hJ hX]
            refine ⟨_,hg,?_⟩
            cases Eu:turns P cfg o L[i] with
            | true=>exact acy hf hc ho hx dQ hJ Eu
            | false=>
              have h4:=uZ hg (by simpa [turns,Et] using Eu)
              rw [qU ho hx Eu,LZ (L:=L) (A0:=A) hf hc ho dQ hJ hX,h4]
          · have hex:∃ T a,o.op = .load T a:=Classical.byContradiction fun bo=>hX (FJ hf ho yG fun T a e=>bo ⟨T,a,e⟩)
            obtain ⟨T,a',wL⟩:=hex
            refine ⟨_,aaN hf hc ho wL dQ hJ hX akh Eu adL uo hg,qU ho hx ?_⟩
            unfold turns
            rw [x7 wL,show Nat.ble 3 1=false from rfl,Bool.and_false]
      obtain ⟨A1,Lz,hA1⟩:=hgS
      refine CZ gX Lz (fun x YK=>Bt h3 fun y e=>x9 y ?_) h2.kj fun zQ C0 iP v' sX h4 h5=>?_
      · unfold jC
        subst e
        exact List.mem_append_right _ (fy YK)
      · refine ⟨zQ,C0,iP,by rw [put_defers]; exact h1,?_,?_⟩
        · rw [hA1]; exact h2.trans h5
        · refine ((h3.mono h5.le (h5.dj.le h2.dj.cW)).put jd h4).same fun y=>?_
          rw [Bs hf.toT hc ho hx dQ y]
  ·
    rintro S a' w' eZ ⟨E',B',aq,h1,h2,h3⟩
    have e1:iV P cfg S all L 0 A=An:=by rw [hAn]; exact y4 fun i o x ho _ _=>by rw [Nat.zero_add]; exact eZ i (List.getElem?_eq_some_iff.1 ho).1
    rw [e1] at h2
    refine hq tn E' An B' aq a' w' hk (h3.same fun y=>?_) h1 (FM.trans h2)
    rw [Eu y]
    exact gY rfl fun i o ho _=>by rw [Nat.zero_add]; exact (eZ i (List.getElem?_eq_some_iff.1 ho).1).symm
  · simp
  · rw [JT qe]
    exact .refl hj.k FM.dj.cW
  · refine ht.same fun y=>?_
    rw [x8 qe]
end Go.K
end
section
namespace Go.K
open Go Go.aV
variable {P:Program} {E:Env}
theorem aki {A:ak} {B:St} {bk:List Value} {a8:Nat} (h:eh P E A B):ck P E A B E A (B.new (.row bk a8 true none)):=by
  have rH:∀ x,AR A E x→(B.new (.row bk a8 true none)).get x=B.get x:=fun x q=>by have:=h.yY q; rw [St.bR,if_neg (by omega)]
  refine ⟨⟨?_,?_,?_,h.apart,h.inj,h.fO,h.eS,h.jq,h.live,?_,?_,?_,?_,?_,h.ar.eU (Env.le_refl _) (fun _=>rfl) (fun _ _ e=>e) (fun _ _ e=>e) (Nat.le_refl _) (by simp) rH (fun _ _ e=>.inl e) (fun _ _ e=>.inl e) (fun b g e=>.inl ⟨b,e⟩) (fun _ _=>by simp) h.mem⟩,Env.le_refl _,Nat.le_refl _,?_,fun _ _ e=>.inl e,fun _ _ e=>.inl e,fun _ _ e=>.inl e,fun _ _ _ _=>by simp,fun _ q=>.inl q,fun _ q=>.inl (q.of (fun _=>rfl) (fun _ _ e=>e) rH),fun _ _ q=>.inl (by simpa using q),fun _ q=>.inl (q.of (fun _=>rfl) (fun _ _ e=>e) rH fun _ _=>by simp),iZ TB⟩
  · intro b ie FB hb
    obtain ⟨x,c,h1,h2,h3⟩:=h.row b ie FB hb
    have:=h.dT b x h1
    exact ⟨x,c,h1,by rw [St.bR,if_neg (by omega)]; exact h2,h3⟩
  · intro b top x3 hb
    rcases h.aJ b top x3 hb with h1 | ⟨g,h1,TE,h2⟩
    · exact .inl h1
    · refine .inr ⟨g,h1,TE,fun x hx c e own f k hg=>?_⟩
      rw [St.bR] at hg
      split at hg
      · simp at hg
      · exact h2 x (by simpa using hx) c e own f k hg
  · intro b r hb
    have:=h.jr b r hb
    rw [St.bR,if_neg (by omega)]
    exact h.z b r hb
  · intro b x hb; have:=h.dT b x hb; rw [St.bz]; omega
  · intro b r hb; have:=h.jr b r hb; rw [St.bz]; omega
  · intro b g hb; have:=h.fV b g hb; rw [St.bz]; omega
  · intro g hg; rw [St.bz] at hg; rw [St.gF]; exact h.fresh g (by omega)
  · intro g x hx; rw [St.gF] at hx; rw [St.bz]; have:=h.mem g x hx; omega
  · intro x hx _ _; rw [St.bR,if_neg (by omega)]
structure Fr (E:Env) (A:ak) (B:St) (b0 y:Nat):Prop where
  lo:b0≤y
  hi:y < B.next
  un:∀ b,E.κ b≠some y
  z:E.z y=none
  YL : ¬ AT A E B y
theorem Fr.step {A A' : ak} {B B' : St} {E' : Env} {b0 y base:Nat} {ρ aq:aw} {w w' : World} (h:Fr E A B b0 y) (k:Ev P base E A B ρ w E' A' B' aq w'):Fr E' A' B' b0 y∧B'.get y=B.get y:=by
  have hn:=k.dj.next
  refine ⟨⟨h.lo,Nat.lt_of_lt_of_le h.hi hn,fun b e=>?_,?_,fun q=>?_⟩,k.eU y h.hi h.un h.YL⟩
  · rcases k.new b y e with e | e
    · exact h.un b e
    · have:=h.hi; omega
  · cases hz:E'.z y with
    | none=>rfl
    | some r=>
      rcases k.oW y r hz with e | e | e
      · rw [h.z] at e; simp at e
      · exact absurd (.inl e) h.YL
      · have:=h.hi; omega
  · rcases k.ky y q with e | e
    · exact h.YL e
    · have:=h.hi; omega
theorem akj {E0:Env} {A0 A:ak} {B0 B:St} {qd ρ aq:aw} {w0 w w' : World} {base y a8:Nat} {ie bk:List Value} (h:Ev P base E0 A0 B0 qd w0 E A B ρ w) (hy:Fr E A B B0.next y) (hold:B.get y=some (.row ie a8 true none))
    (g:b7 base ρ B w aq (B.put y (.row bk a8 true none)) w'):Ev P base E0 A0 B0 qd w0 E A (B.put y (.row bk a8 true none)) aq w':=by
  have hs:=h.cW
  have rH:∀ x,AR A E x→(B.put y (.row bk a8 true none)).get x=B.get x:=fun x q=>by
    rw [St.bt,if_neg]
    intro e
    subst e
    exact hy.YL (.inl q)
  have CW:∀ q,AF A E (B.put y (.row bk a8 true none)) q→AF A E B q:=fun q r=>r.of (fun _=>rfl) (fun _ _ e=>e) rH
  have hAT:∀ q,AT A E (B.put y (.row bk a8 true none)) q→AT A E B q:=fun q r=>r.of (fun _=>rfl) (fun _ _ e=>e) rH fun _ _=>by simp
  refine ⟨⟨?_,?_,?_,hs.apart,hs.inj,hs.fO,hs.eS,hs.jq,hs.live,hs.dT,hs.jr,hs.fV,?_,?_,hs.ar.eU (Env.le_refl _) (fun _=>rfl) (fun _ _ e=>e) (fun _ _ e=>e) (Nat.le_refl _) (Nat.le_refl _) rH (fun _ _ e=>.inl e) (fun _ _ e=>.inl e) (fun b g e=>.inl ⟨b,e⟩) (fun _ _=>by simp) hs.mem⟩,h.dj.trans g,h.le,h.next,?_,h.new,h.oW,h.oX,?_,h.js,fun q r=>h.jJ q (CW q r),?_,fun q r=>h.ky q (hAT q r),?_⟩
  · intro b cs e hb
    obtain ⟨x,c,h1,h2,h3⟩:=hs.row b cs e hb
    refine ⟨x,c,h1,?_,h3⟩
    rw [St.bt,if_neg (fun e=>hy.un b (by rw [← e]; exact h1))]
    exact h2
  · intro b top sz hb
    rcases hs.aJ b top sz hb with h1 | ⟨q,h1,TE,h2⟩
    · exact .inl h1
    · refine .inr ⟨q,h1,TE,fun x hx c e own f k hg=>?_⟩
      rw [St.bt] at hg
      split at hg
      · simp at hg
      · exact h2 x (by simpa using hx) c e own f k hg
  · intro b r hb
    rw [St.bt,if_neg]
    · exact hs.z b r hb
    · intro e
      subst e
      rw [hy.z] at hb
      simp at hb
  · intro q hq; rw [St.mR]; exact hs.fresh q hq
  · intro q x hx; rw [St.mR] at hx; exact hs.mem q x hx
  · intro x hx hn ha
    rw [St.bt,if_neg (fun e=>by have:=hy.lo; omega)]
    exact h.eU x hx hn ha
  · intro q hq hn ha; rw [St.mR]; exact h.mr q hq hn ha
  · intro q x hx; rw [St.mR] at hx; exact h.qC q x hx
  · intro x hx c e own a9 hg
    rw [St.bt,if_neg (fun e=>by have:=hy.lo; omega)] at hg
    exact h.rows x hx c e own a9 hg
theorem ajb {E0:Env} {A0 A:ak} {B0 B:St} {qd ρ:aw} {w0 w:World} {base y a8:Nat} {cs:List KV} {bk:List Value} (h:Ev P base E0 A0 B0 qd w0 E A B ρ w) (hy:Fr E A B B0.next y) (hold:B.get y=some (.row bk a8 true none)) (hv:aO P E cs bk) :
    E.le (E.hO A.next y)∧Ev P base E0 A0 B0 qd w0 (E.hO A.next y) (A.new (.row cs a8)) B ρ w:=by
  have hs:=h.cW
  have hle:E.le (E.hO A.next y):=⟨fun _ _ e=>e,fun b x e=>by
    have:=hs.eS b x e
    simp only [Env.hO]; rw [if_neg (by omega)]; exact e,fun _ _ e=>e,fun _ _ e=>e⟩
  have hA:∀ (b:Nat) (v:KV),(A.new (.row cs a8)).get b=some (.arr v)→A.get b=some (.arr v):=fun b v hb=>by
    rw [ak.bR] at hb
    split at hb
    · simp at hb
    · exact hb
  have TD:∀ (b:Nat) (v:KV),(A.new (.row cs a8)).get b=some (.fB v)→A.get b=some (.fB v):=fun b v hb=>by
    rw [ak.bR] at hb
    split at hb
    · simp at hb
    · exact hb
  have m5:∀ x,AR (A.new (.row cs a8)) (E.hO A.next y) x→AR A E x:=fun _ q=>q.of (fun _=>rfl) hA
  have CW:∀ g,AF (A.new (.row cs a8)) (E.hO A.next y) B g→AF A E B g:=fun _ q=>q.of (fun _=>rfl) hA fun _ _=>rfl
  have hAT:∀ x,AT (A.new (.row cs a8)) (E.hO A.next y) B x→AT A E B x:=fun _ q=>q.of (fun _=>rfl) hA (fun _ _=>rfl) fun _ _=>rfl
  refine ⟨hle,⟨⟨?_,?_,hs.z,?_,?_,?_,?_,?_,?_,?_,hs.jr,hs.fV,hs.fresh,hs.mem,?_⟩,h.dj,Env.le_trans h.le hle,by have:=h.next; rw [ak.bz]; omega,h.eU,?_,h.oW,h.oX,h.mr,fun x q=>h.js x (m5 x q),fun g q=>h.jJ g (CW g q),h.qC,fun x q=>h.ky x (hAT x q),h.rows⟩⟩
  · intro b ie FB hb
    rw [ak.bR] at hb
    split at hb
    · rename_i e
      simp at hb
      obtain ⟨rfl,rfl⟩:=hb
      exact ⟨y,bk,by simp [Env.hO,e],hold,hv.mono hle⟩
    · obtain ⟨x,c,h1,h2,h3⟩:=hs.row b ie FB hb
      exact ⟨x,c,hle.κ _ _ h1,h2,h3.mono hle⟩
  · intro b top x3 hb
    rw [ak.bR] at hb
    split at hb
    · simp at hb
    · exact hs.aJ b top x3 hb
  · intro b x hb
    simp only [Env.hO] at hb ⊢
    split at hb
    · simp at hb; subst hb; exact hy.z
    · exact hs.apart b x hb
  · intro b c x hb hc
    simp only [Env.hO] at hb hc
    split at hb <;> split at hc
    · omega
    · simp at hb; subst hb; exact absurd hc (hy.un c)
    · simp at hc; subst hc; exact absurd hb (hy.un b)
    · exact hs.inj b c x hb hc
  · exact xl.new (E:=E.hO A.next y) (fun x z g a b c d e f hx hz=>hs.fO x z g a b c d e f hx hz) (.inl fun _ _=>by simp)
  · intro b x hb
    simp only [Env.hO] at hb
    rw [ak.bz]
    split at hb
    · omega
    · have:=hs.eS b x hb; omega
  · intro b g hb; have:=hs.jq b g hb; rw [ak.bz]; omega
  · intro b o hb
    rw [ak.bR] at hb
    rw [ak.bz]
    split at hb
    · omega
    · have:=hs.live b o hb; omega
  · intro b x hb
    simp only [Env.hO] at hb
    split at hb
    · simp at hb; have:=hy.hi; omega
    · exact hs.dT b x hb
  · have m4:∀ b,(E.hO A.next y).α b=E.α b:=fun _=>rfl
    have TC:∀ c x,(E.hO A.next y).κ c=some x→(c=A.next∧x=y)∨E.κ c=some x:=fun c x e=>by
      simp only [Env.hO] at e
      split at e
      · rename_i e1; simp at e; exact .inl ⟨e1,e.symm⟩
      · exact .inr e
    refine ⟨fun b v hb=>(hs.ar.arr b v (hA _ _ hb)).mono hle rfl fun _ _ _ _=>rfl,fun b v hb=>(hs.ar.fB b v (TD _ _ hb)).mono hle rfl,fun x q=>?_,fun b c v u x L N L' N' h1 h2 h3 h4=>hs.ar.inj b c v u x L N L' N' (hA _ _ h1) (hA _ _ h2) h3 h4,
      fun b c v u x z L N L' N' cs e own g k bk e' k8 k' h1 h2 h3 h4 h5 h6=>hs.ar.oH b c v u x z L N L' N' cs e own g k bk e' k8 k' (hA _ _ h1) (hA _ _ h2) h3 h4 h5 h6,fun b x e=>?_,fun b p e=>?_,fun b x L N e=>hs.ar.dT b x L N e,fun b v x L N cs e own g k h1 h2 h3=>?_⟩
    · obtain ⟨h1,h2⟩:=hs.ar.z x (m5 x q)
      refine ⟨h1,fun c e=>?_⟩
      rcases TC c x e with ⟨_,rfl⟩ | e
      · exact hy.YL (.inl (m5 _ q))
      · exact h2 c e
    · rcases TC b x e with ⟨rfl,_⟩ | e
      · cases hb:E.α A.next with
        | none=>exact hb
        | some p=>have:=hs.ar.eS _ p hb; omega
      · exact hs.ar.V2 b x e
    · have:=hs.ar.eS b p e; rw [ak.bz]; omega
    · obtain ⟨h4,h5,h6⟩:=hs.ar.nC b v x L N cs e own g k (hA _ _ h1) h2 h3
      refine ⟨h4,h5,fun z hz bo=>?_⟩
      obtain ⟨h7,h8,h9⟩:=h6 z hz bo
      refine ⟨h7,fun q=>h8 (m5 z q),fun c e'=>?_⟩
      rcases TC c z e' with ⟨_,rfl⟩ | e'
      · exact hy.YL (.inr ⟨g,⟨b,v,x,L,N,cs,e,own,k,hA _ _ h1,h2,h3⟩,hz⟩)
      · exact h9 c e'
  · intro b x hb
    simp only [Env.hO] at hb
    split at hb
    · simp at hb; subst hb; exact .inr hy.lo
    · exact h.new b x hb
theorem T6 {cfg:c9} (gX:qE P cfg.pc) {o:Oper} {p:Operand×List Operand} (hp:Bi o=some p) {t:bd} {A A' : ak} {v:KV} {base:Nat} {B:St} {ρ:aw} {a:Act} {w:World} {next:Act→World→Prop} {Q:Exit→Act→World→Prop}
    (h:aE (nE (vv P cfg t p) t A) (v,A')) (hv:∀ x ∈ p.1 :: p.2,VC P E ρ (ir t x) (a.eval x)) (hj:KJ P E A B ρ base w)
    (hk:∀ E' B' aq v' w',VC P E' aq v v'→Ev P base E A B ρ w E' A' B' aq w'→next (a.put o.dst v') w'):o.wp P a w next Q:=by
  classical
  have aG:compile P o.op = .call p.1 p.2:=by
    unfold Bi at hp
    split at hp
    · rename_i c ho hg
      split at hp
      · rename_i d hc
        simp at hp
        subst hp
        rw [ho]
        exact Qx (cfg:=c9.none) (show gV P c9.none c=_ by unfold gV; rw [hc])
      · simp at hp
    · simp at hp
  unfold vv at h
  split at h
  · rename_i g hfv
    split at h
    · rename_i F hF
      obtain ⟨u,h1,h2⟩:=aE.map h
      simp only [Prod.mk.injEq] at h2
      obtain ⟨rfl,rfl⟩:=h2
      obtain ⟨hlen,hf⟩:=aE.cond h1
      obtain ⟨hg,kN⟩:=gX g F hF _ _ hf (Nat.eq_of_beq_eq_true hlen)
      have bH:=jm P o
      rw [aG] at bH
      obtain ⟨em,h3,h4⟩:=Yr (xs:=p.1 :: p.2) hv
      obtain ⟨y,ys,e,h5,h6⟩:=h3.cons_inv
      simp only [List.map_cons,List.cons.injEq] at e
      obtain ⟨rfl,rfl⟩:=e
      rw [hfv] at h5
      obtain ⟨l,m,e5,e6,e7⟩:=h5.yW
      have:=e6.bh
      subst this
      have:=e7.bh
      subst this
      obtain ⟨bN,h7,h8⟩:=bH.2 ρ em a.eval g (p.2.map em) h4 hg.1 (by rw [e5]; simp only [fw]; rw [hg.1]; simp) hg.2
      unfold Oper.wp
      rw [h8 w]
      refine (kN E A B ρ base w bN ⟨p.2.map em,by rw [pB]; exact h6,h7⟩ hj).mono ?_
      rintro e w' ⟨v',E',B',aq,rfl,h9,wN⟩
      exact hk E' B' aq v' w' h9 wN
    · exact h.elim
  · exact h.elim
inductive QD (P:Program) (cfg:c9) (all:List Oper) (A:ak):List Oper→bd→List Out→bd→Prop where
  | nil {t:bd} : QD P cfg all A [] t [] t
  | cons {o:Oper} {os:List Oper} {t t1 t' : bd} {wd:Bool} {v:KV} {L:List Out}
      (same:∀ i,t1.get i=t.get i) (want:LV all o t wd)
      (yes:wd=true→(jH all o=true∧v = .av)∨(jH all o=false∧(aE (nE (bG P cfg o.op) t1 A) (v,A)∨∃ p,Bi o=some p∧aE (nE (vv P cfg t1 p) t1 A) (v,A)))) (no:wd=false→v=mV∧jH all o=false)
      (rest:QD P cfg all A os (mj t1 o.dst v) L t'):QD P cfg all A (o :: os) t ((wd,v,A) :: L) t'
theorem lh {o:Oper} {T:TypeId} {d:Tmp} (h:dE o=some (T,d)):o.op = .alloc T∧o.guard=none∧o.dst=some d:=by
  unfold dE at h
  split at h
  · rename_i T' d' h1 h2 h3
    simp at h
    obtain ⟨rfl,rfl⟩:=h
    exact ⟨h1,h2,h3⟩
  · simp at h
theorem wh {all:List Oper} {o:Oper} {T:TypeId} {d:Tmp} {x:Operand} (h:ml all o=some (T,d,x)):o.op = .store T (.tmp d) x∧o.guard=none∧o.dst=none∧px d all=true:=by
  unfold ml at h
  split at h
  · rename_i T' d' x' h1 h2 h3
    cases hb:px d' all with
    | false=>rw [hb] at h; simp at h
    | true=>
      rw [hb,cond_true] at h
      simp at h
      obtain ⟨rfl,rfl,rfl⟩:=h
      exact ⟨h1,h2,h3,hb⟩
  · simp at h
theorem JV {all:List Oper} {o:Oper} (h:jH all o=true):(∃ T d,dE o=some (T,d))∨∃ T d x,ml all o=some (T,d,x):=by
  unfold jH at h
  simp only [Bool.or_eq_true,Option.isSome_iff_exists] at h
  rcases h with ⟨⟨T,d⟩,h⟩ | ⟨⟨T,d,x⟩,h⟩
  · exact .inl ⟨T,d,h⟩
  · exact .inr ⟨T,d,x,h⟩
theorem acz {all:List Oper} {o:Oper} (h:jH all o=true):o.guard=none:=by
  rcases JV h with ⟨T,d,h⟩ | ⟨T,d,x,h⟩
  · exact (lh h).2.1
  · exact (wh h).2.1
theorem ya {R:Type} {cfg:c9} {bb:jG R} {all:List Oper} {k:bd→ak→Option R} {r:R} : ∀ {os:List Oper} {t:bd} {A:ak},(∀ o ∈ os,jH all o=true∨cY (bG P cfg o.op)≤1∨(Bi o).isSome=true)→Tp P cfg bb all k os t A=some r→
    ∃ L t',QD P cfg all A os t L t'∧k t' A=some r
  | [],t,A,_,h=>⟨[],t,.nil,h⟩
  | o :: os,t,A,hn,h=>by
    have h:ach P cfg bb all o (Tp P cfg bb all k os) t A=some r:=h
    have Cs:=fun q hq=>hn q (List.mem_cons_of_mem o hq)
    unfold ach at h
    cases hb:jH all o with
    | true=>
      rw [hb] at h
      have h:Tp P cfg bb all k os (mj t o.dst .av) A=some r:=h
      obtain ⟨L,t',h1,h2⟩:=ya Cs h
      exact ⟨_,t',.cons (fun _=>rfl) (.inl ⟨acz hb,rfl⟩) (fun _=>.inl ⟨hb,rfl⟩) (fun e=>by simp at e) h1,h2⟩
    | false=>
      rw [hb] at h
      cases hdy:Bi o with
      | some p=>
        simp only [hdy] at h
        have h:LF bb t A (fun v A=>Tp P cfg bb all k os (mj t o.dst v) A) (vv P cfg t p)=some r:=h
        have hg:o.guard=none:=by
          unfold Bi at hdy
          split at hdy
          · assumption
          · simp at hdy
        have Hk:vv P cfg t p = .bad∨∃ g f,vv P cfg t p = .wO g f p.2:=by
          unfold vv
          split
          · split
            · exact .inr ⟨_,_,rfl⟩
            · exact .inl rfl
          · exact .inl rfl
        obtain ⟨v,A1,h1,h2⟩:=y3 (fun f args e=>by
          rcases Hk with h | ⟨g,f',h⟩ <;> rw [h] at e <;> simp at e) h
        have e:A1=A:=by
          rcases Hk with h | ⟨g,f',h⟩
          · rw [h] at h1; exact h1.elim
          · rw [h] at h1
            obtain ⟨u,_,h3⟩:=aE.map h1
            simp at h3
            exact h3.2.symm
        subst e
        obtain ⟨L,t',h3,h4⟩:=ya Cs h2
        exact ⟨_,t',.cons (fun _=>rfl) (.inl ⟨hg,rfl⟩) (fun _=>.inr ⟨hb,.inr ⟨p,hdy,h1⟩⟩) (fun e=>by simp at e) h3,h4⟩
      | none=>
      simp only [hdy] at h
      have hk:cY (bG P cfg o.op)≤1:=by
        rcases hn o (by simp) with e | e | e
        · rw [hb] at e; simp at e
        · exact e
        · rw [hdy] at e; simp at e
      have hk3:Nat.ble 3 (cY (bG P cfg o.op))=false:=by
        cases hc:Nat.ble 3 (cY (bG P cfg o.op)) with
        | false=>rfl
        | true=>have:=Nat.le_of_ble_eq_true hc; omega
      have hnc:=u0 (P:=P) (cfg:=cfg) (o:=o) (by omega)
      have h:rG P cfg bb all o (Tp P cfg bb all k os) t A=some r:=h
      unfold rG at h
      cases hg:o.guard with
      | none=>
        rw [hg] at h
        obtain ⟨v,A1,h1,h2⟩:=y3 hnc h
        have e:=uZ h1 hk3
        subst e
        obtain ⟨L,t',h3,h4⟩:=ya Cs h2
        exact ⟨_,t',.cons (fun _=>rfl) (.inl ⟨hg,rfl⟩) (fun _=>.inr ⟨hb,.inl h1⟩) (fun e=>by simp at e) h3,h4⟩
      | some p=>
        obtain ⟨j,want⟩:=p
        rw [hg] at h
        obtain ⟨d,hd,h⟩:=JR h
        rcases h with ⟨b,t1,h1,h2,h3⟩ | ⟨l,h1,h2⟩
        · rcases h3 with ⟨h3,h4⟩ | ⟨h3,h4⟩
          · obtain ⟨v,A1,h5,h6⟩:=y3 hnc h4
            have e:=uZ h5 hk3
            subst e
            obtain ⟨L,t',h7,h8⟩:=ya Cs h6
            exact ⟨_,t',.cons h2 (.inr ⟨j,want,d,hg,hd,.inl ⟨b,h1,h3.symm⟩⟩) (fun _=>.inr ⟨hb,.inl h5⟩) (fun e=>by simp at e) h7,h8⟩
          · obtain ⟨L,t',h7,h8⟩:=ya Cs h4
            exact ⟨_,t',.cons h2 (.inr ⟨j,want,d,hg,hd,.inl ⟨b,h1,h3.symm⟩⟩) (fun e=>by simp at e) (fun _=>⟨rfl,hb⟩) h7,h8⟩
        · obtain ⟨L,t',h7,h8⟩:=ya Cs h2
          exact ⟨_,t',.cons (fun _=>rfl) (.inr ⟨j,want,d,hg,hd,.inr ⟨l,h1,rfl⟩⟩) (fun e=>by simp at e) (fun _=>⟨rfl,hb⟩) h7,h8⟩
theorem QD.at {cfg:c9} {all:List Oper} {A:ak} : ∀ {os:List Oper} {t t' : bd} {L:List Out},QD P cfg all A os t L t'→
    L.length=os.length∧(∀ y,t'.get y=(jR (fun _=>true) os L 0 t).get y)∧
    ∀ i o x,os[i]? = some o→L[i]? = some x→∃ t1,(∀ y,t1.get y=(jR (fun j=>Nat.blt j i) os L 0 t).get y)∧LV all o t1 x.1∧(x.1=true→(jH all o=true∧x.2.1 = .av)∨(jH all o=false∧(aE (nE (bG P cfg o.op) t1 A) (x.2.1,A)∨∃ p,Bi o=some p∧aE (nE (vv P cfg t1 p) t1 A) (x.2.1,A))))∧(x.1=false→x.2.1=mV∧jH all o=false)
  | _,_,_,_,.nil=>⟨rfl,fun _=>rfl,fun i o x ho=>by simp at ho⟩
  | o :: os,t,t',(wd,v,_) :: L,.cons (t1:=t1) same want yes no rest=>by
    obtain ⟨h1,h2,h4⟩:=rest.at
    have Dx:∀ y,(mj t1 o.dst v).get y=(mj t o.dst v).get y:=fun y=>by rw [pC,pC,same]
    refine ⟨by simp [h1],fun y=>?_,fun i q x hq hx=>?_⟩
    · rw [h2 y]
      simp only [jR,cond_true]
      rw [x6]
      exact gY (Dx y) fun _ _ _ _=>rfl
    · cases i with
      | zero=>
        simp at hq hx
        subst hq hx
        have e0:∀ (os:List Oper) (L:List Out) (k:Nat) (t:bd),jR (fun j=>Nat.blt j 0) os L k t=t:=by
          intro os
          induction os with
          | nil=>intro L k t; cases L <;> rfl
          | cons o os ih=>intro L k t; cases L with
            | nil=>rfl
            | cons x L=>simp only [jR]; exact ih L _ t
        refine ⟨t1,fun y=>by rw [e0]; exact same y,?_,yes,no⟩
        rcases want with h | ⟨j,wt,d,e2,e3,e4⟩
        · exact .inl h
        · exact .inr ⟨j,wt,d,e2,e3,by rw [same]; exact e4⟩
      | succ i=>
        obtain ⟨t2,h5,h6,h7,h8⟩:=h4 i q x (by simpa using hq) (by simpa using hx)
        have hsh:(fun j=>Nat.blt (j+1) (i+1))=fun j=>Nat.blt j i:=by
          funext j
          cases hb:Nat.blt j i with
          | true=>rw [Nat.blt_eq] at hb ⊢; omega
          | false=>
            cases hc:Nat.blt (j+1) (i+1) with
            | false=>rfl
            | true=>rw [Nat.blt_eq] at hc; rw [show Nat.blt j i=true from by rw [Nat.blt_eq]; omega] at hb; simp at hb
        have h01:Nat.blt 0 (i+1)=true:=by rw [Nat.blt_eq]; omega
        refine ⟨t2,fun y=>?_,h6,h7,h8⟩
        rw [h5 y]
        simp only [jR,h01,cond_true]
        rw [x6,hsh]
        exact gY (Dx y) fun _ _ _ _=>rfl
theorem yb {cfg:c9} {all:List Oper} {b:List Nat} {i:Nat} {y:Oper} : ∀ (xs:List Oper) (k:Nat),xF P cfg all b i y xs k=true→∀ (j:Nat) (x:Oper),xs[j]? = some x→k+j < i→m3 P cfg all x y=true→cP b i (k+j)=true
  | [],k,_,j,x,hx,_,_=>by simp at hx
  | x0 :: xs,k,h,0,x,hx,aY,hc=>by
    simp at hx
    subst hx
    simp only [xF,Bool.and_eq_true,Bool.or_eq_true,Bool.not_eq_true'] at h
    rcases h.1 with (h1 | h1) | h1
    · have:=Nat.le_of_ble_eq_true h1; omega
    · rw [hc] at h1; simp at h1
    · exact h1
  | x0 :: xs,k,h,j+1,x,hx,aY,hc=>by
    simp only [xF,Bool.and_eq_true] at h
    have:=yb xs (k+1) h.2 j x (by simpa using hx) (by omega) hc
    rwa [show k+1+j=k+(j+1) by omega] at this
theorem u3 {cfg:c9} {all:List Oper} {b:List Nat} : ∀ (os:List Oper) (k:Nat),sq P cfg all b os k=true→∀ (i:Nat) (o:Oper),os[i]? = some o→xF P cfg all b (k+i) o all 0=true
  | [],k,_,i,o,ho=>by simp at ho
  | o0 :: os,k,h,0,o,ho=>by
    simp at ho
    subst ho
    simp only [sq,Bool.and_eq_true] at h
    exact h.1
  | o0 :: os,k,h,i+1,o,ho=>by
    simp only [sq,Bool.and_eq_true] at h
    have:=u3 os (k+1) h.2 i o (by simpa using ho)
    rwa [show k+1+i=k+(i+1) by omega] at this
theorem IE {i:Nat} {d:Tmp} : ∀ (os:List Oper) (k:Nat),Bh i d os k=true→∀ (j:Nat) (o:Oper),os[j]? = some o→k+j≠i→o.dst≠some d
  | [],k,_,j,o,ho,_=>by simp at ho
  | q :: os,k,h,0,o,ho,bo=>by
    simp at ho
    subst ho
    simp only [Bh,Bool.and_eq_true,Bool.or_eq_true,Bool.not_eq_true'] at h
    rcases h.1 with h1 | h1
    · exact absurd (Nat.eq_of_beq_eq_true h1) (by simpa using bo)
    · intro e
      rw [e,tq (by simp)] at h1
      simp at h1
  | q :: os,k,h,j+1,o,ho,bo=>by
    simp only [Bh,Bool.and_eq_true] at h
    exact IE os (k+1) h.2 j o (by simpa using ho) (by omega)
theorem DG {all:List Oper} {i:Nat} {d:Tmp} : ∀ (os:List Oper) (k:Nat),uT all i d os k=true→∀ (j:Nat) (o:Oper),os[j]? = some o→k+j≠i→∀ T x,ml all o≠some (T,d,x)
  | [],k,_,j,o,ho,_=>by simp at ho
  | q :: os,k,h,0,o,ho,bo=>by
    simp at ho
    subst ho
    simp only [uT,Bool.and_eq_true,Bool.or_eq_true] at h
    intro T x e
    rcases h.1 with h1 | h1
    · exact absurd (Nat.eq_of_beq_eq_true h1) (by simpa using bo)
    · rw [e] at h1
      simp at h1
  | q :: os,k,h,j+1,o,ho,bo=>by
    simp only [uT,Bool.and_eq_true] at h
    exact DG os (k+1) h.2 j o (by simpa using ho) (by omega)
theorem FN {d:Tmp} : ∀ {os:List Oper},px d os=true→∃ (j:Nat) (o:Oper) (T:TypeId),os[j]? = some o∧dE o=some (T,d)
  | [],h=>by simp [px] at h
  | o :: os,h=>by
    simp only [px,Bool.or_eq_true] at h
    rcases h with h | h
    · split at h
      · rename_i T e he
        have:=Nat.eq_of_beq_eq_true h
        subst this
        exact ⟨0,o,T,rfl,he⟩
      · simp at h
    · obtain ⟨j,q,T,h1,h2⟩:=FN h
      exact ⟨j+1,q,T,by simpa using h1,h2⟩
structure Xa (P:Program) (cfg:c9) (all:List Oper):Prop where
  ord:T1 P cfg all
  kind:∀ o ∈ all,jH all o=true∨cY (bG P cfg o.op)≤1∨(Bi o).isSome=true
  dst:∀ (i:Nat) (o:Oper) (T:TypeId) (d:Tmp),all[i]? = some o→dE o=some (T,d)→∀ (j:Nat) (q:Oper),all[j]? = some q→j≠i→q.dst≠some d
  st:∀ (i:Nat) (o:Oper) (T:TypeId) (d:Tmp) (x:Operand),all[i]? = some o→ml all o=some (T,d,x)→oV i x all 0=true∧(∀ (j:Nat) (q:Oper),all[j]? = some q→j≠i→∀ T' x',ml all q≠some (T',d,x'))∧(∃ (j:Nat) (q:Oper) (T' : TypeId),j < i∧all[j]? = some q∧dE q=some (T',d))∧x≠.tmp d
theorem FO {all:List Oper} : ∀ (os:List Oper) (k:Nat),Ft all os k=true→∀ (i:Nat) (o:Oper),os[i]? = some o→
    (∀ T d,dE o=some (T,d)→Bh (k+i) d all 0=true)∧∀ T d x,ml all o=some (T,d,x)→oV (k+i) x all 0=true∧uT all (k+i) d all 0=true∧px d (all.take (k+i))=true∧x≠.tmp d
  | [],k,_,i,o,ho=>by simp at ho
  | o0 :: os,k,h,0,o,ho=>by
    simp at ho
    subst ho
    simp only [Ft,Bool.and_eq_true] at h
    refine ⟨fun T d e=>?_,fun T d x e=>?_⟩
    · have:=h.1.1
      rw [e] at this
      exact this
    · have:=h.1.2
      rw [e] at this
      simp only [Bool.and_eq_true,Bool.not_eq_true'] at this
      refine ⟨this.1.1.1,this.1.1.2,this.1.2,fun e2=>?_⟩
      have h3:=this.2
      rw [e2,tq (by simp [k7])] at h3
      simp at h3
  | o0 :: os,k,h,i+1,o,ho=>by
    simp only [Ft,Bool.and_eq_true] at h
    have:=FO os (k+1) h.2 i o (by simpa using ho)
    rwa [show k+1+i=k+(i+1) by omega] at this
theorem aaQ {cfg:c9} {all:List Oper} (h:LH P cfg all=true):Xa P cfg all:=by
  unfold LH at h
  simp only [Bool.and_eq_true] at h
  obtain ⟨⟨⟨h1,h2⟩,h3⟩,h4⟩:=h
  refine ⟨⟨nA h1,fun {i j x y} hy hx aY hc=>?_⟩,fun o ho=>?_,fun i o T d ho he j q hq bo=>?_,fun i o T d x ho he=>?_⟩
  · have:=u3 all 0 h3 i y hy
    rw [Nat.zero_add] at this
    have:=yb all 0 this j x hx (by omega) hc
    rwa [Nat.zero_add] at this
  · have:=List.all_eq_true.1 h2 o ho
    simp only [Bool.or_eq_true] at this
    rcases this with (h | h) | h
    · exact .inl h
    · exact .inr (.inl (Nat.le_of_ble_eq_true h))
    · exact .inr (.inr h)
  · have:=(FO all 0 h4 i o ho).1 T d he
    rw [Nat.zero_add] at this
    exact IE all 0 this j q hq (by omega)
  · have:=(FO all 0 h4 i o ho).2 T d x he
    rw [Nat.zero_add] at this
    refine ⟨this.1,fun j q hq bo T' x'=>DG all 0 this.2.1 j q hq (by omega) T' x',?_,this.2.2.2⟩
    obtain ⟨j,q,T',h5,h6⟩:=FN this.2.2.1
    rw [List.getElem?_take] at h5
    split at h5
    · rename_i aY; exact ⟨j,q,T',aY,h5,h6⟩
    · simp at h5
theorem vy {all:List Oper} {d:Tmp} {T:TypeId} {x:Operand} : ∀ {os:List Oper},mm all d os=some (T,x)→∃ (i:Nat) (o:Oper),os[i]? = some o∧ml all o=some (T,d,x)
  | [],h=>by simp [mm] at h
  | o :: os,h=>by
    unfold mm at h
    split at h
    · rename_i T' e x' he
      cases hb:Nat.beq d e with
      | true=>
        rw [hb,cond_true] at h
        have:=Nat.eq_of_beq_eq_true hb
        subst this
        simp at h
        obtain ⟨rfl,rfl⟩:=h
        exact ⟨0,o,rfl,he⟩
      | false=>
        rw [hb,cond_false] at h
        obtain ⟨i,q,h1,h2⟩:=vy h
        exact ⟨i+1,q,by simpa using h1,h2⟩
    · obtain ⟨i,q,h1,h2⟩:=vy h
      exact ⟨i+1,q,by simpa using h1,h2⟩
theorem vz {all:List Oper} {d:Tmp} : ∀ {os:List Oper},mm all d os=none→∀ (i:Nat) (o:Oper),os[i]? = some o→∀ T x,ml all o≠some (T,d,x)
  | [],_,i,o,ho=>by simp at ho
  | q :: os,h,i,o,ho=>by
    unfold mm at h
    intro T x e
    split at h
    · rename_i T' e' x' he
      cases hb:Nat.beq d e' with
      | true=>rw [hb] at h; simp at h
      | false=>
        rw [hb,cond_false] at h
        cases i with
        | zero=>
          simp at ho
          subst ho
          rw [he] at e
          simp at e
          rw [e.2.1,Nat.beq_refl] at hb
          simp at hb
        | succ i=>exact vz h i o (by simpa using ho) T x e
    · rename_i hn
      cases i with
      | zero=>simp at ho; subst ho; rw [hn] at e; simp at e
      | succ i=>exact vz h i o (by simpa using ho) T x e
theorem yc {all:List Oper} {t:bd} {T:TypeId} {d:Tmp} {cs:List KV} (h:py P all t T d=some cs):∃ z,kr P T=some z∧flat z=true∧z.cells.toList.all scalar=true∧dV (eG z).cells=true∧some (eG z).cells.length=size? P T∧
    (∀ T' x,mm all d all=some (T',x)→T=T'∧some (ir t x).cells.length=size? P T∧dV (ir t x).cells=true∧cs=(ir t x).cells)∧(mm all d all=none→cs=(eG z).cells):=by
  unfold py at h
  split at h
  · rename_i z hz
    cases hb:(flat z && z.cells.toList.all scalar && dV (eG z).cells && decide (some (eG z).cells.length=size? P T)) with
    | false=>rw [hb] at h; simp at h
    | true=>
      rw [hb,cond_true] at h
      simp only [Bool.and_eq_true,decide_eq_true_eq] at hb
      refine ⟨z,hz,hb.1.1.1,hb.1.1.2,hb.1.2,hb.2,fun T' x hs=>?_,fun hs=>?_⟩
      · rw [hs] at h
        simp only at h
        cases hc:(Nat.beq T T' && decide (some (ir t x).cells.length=size? P T) && dV (ir t x).cells) with
        | false=>rw [hc] at h; simp at h
        | true=>
          rw [hc,cond_true] at h
          simp only [Bool.and_eq_true,decide_eq_true_eq] at hc
          exact ⟨Nat.eq_of_beq_eq_true hc.1.1,hc.1.2,hc.2,by simpa using h.symm⟩
      · rw [hs] at h
        simpa using h.symm
  · simp at h
theorem JW {R:Type} {all:List Oper} {t0:bd} {k:bd→ak→Option R} {r:R} : ∀ {os:List Oper} {t:bd} {A:ak},Qq P all t0 k os t A=some r→∀ o ∈ os,∀ T d,dE o=some (T,d)→∃ cs,py P all t0 T d=some cs
  | [],_,_,_,o,ho,_,_,_=>by simp at ho
  | q :: os,t,A,h,o,ho,T,d,he=>by
    have h:Option.rec (motive:=fun _=>Option R) (Qq P all t0 k os t A) (fun p=>
      Option.rec (motive:=fun _=>Option R) none (fun cs=>Qq P all t0 k os (t.set (.ptr A.next 0) p.2) (A.new (.row cs (hH P p.1)))) (py P all t0 p.1 p.2)) (dE q)=some r:=h
    cases hq:dE q with
    | none=>
      rw [hq] at h
      rcases List.mem_cons.1 ho with rfl | ho
      · rw [hq] at he; simp at he
      · exact JW h o ho T d he
    | some p=>
      rw [hq] at h
      cases hc:py P all t0 p.1 p.2 with
      | none=>simp only [hc] at h; exact absurd h (by simp)
      | some cs=>
        simp only [hc] at h
        rcases List.mem_cons.1 ho with rfl | ho
        · rw [hq] at he
          simp at he
          subst he
          exact ⟨cs,hc⟩
        · exact JW h o ho T d he
end Go.K
end
section
namespace Go.K
open Go Go.aV
variable {P:Program} {E:Env}
theorem QE:∀ {l vs:List Value},l.length=vs.length→dr 0 l vs=some vs
  | [],[],_=>rfl
  | [],_ :: _,h=>by simp at h
  | _ :: _,[],h=>by simp at h
  | x :: l,v :: vs,h=>by rw [oI,QE (by simpa using h)]; rfl
theorem ahR {a:Act} {d:Tmp} {v:Value} (h:d < a.tmps.size):(a.put (some d) v).tmps.getD d undef=v:=by
  simp [Act.put,Array.getD_eq_getD_getElem?,h]
theorem adM {a:Act} {dst:Option Tmp} {d:Tmp} {v:Value} (h:dst≠some d):(a.put dst v).tmps.getD d undef=a.tmps.getD d undef:=by
  cases dst with
  | none=>rfl
  | some e=>
    have bo:e≠d:=fun q=>h (by rw [q])
    simp [Act.put,Array.getD_eq_getD_getElem?,Array.getElem?_setIfInBounds_ne bo]
def akk (P:Program) (E:Env) (all:List Oper) (tn:bd) (S:Nat→Bool) (T:TypeId) (d:Tmp) (bk:List Value):Prop:=
  some bk.length=size? P T∧(∀ (i:Nat) (o:Oper) T' x,all[i]? = some o→ml all o=some (T',d,x)→S i=true→aO P E (ir tn x).cells bk)∧
    ((∀ (i:Nat) (o:Oper) T' x,all[i]? = some o→ml all o=some (T',d,x)→S i=false)→∃ z,kr P T=some z∧aO P E (eG z).cells bk)
def Sd (P:Program) (E:Env) (A:ak) (B:St) (ρ:aw) (b0:Nat) (all:List Oper) (tn:bd) (S:Nat→Bool) (a:Act) (y:Nat→Nat):Prop:=
  ∀ (j:Nat) (o:Oper) (T:TypeId) (d:Tmp),all[j]? = some o→dE o=some (T,d)→S j=true→
    VR ρ (sN (y j)) (a.tmps.getD d undef)∧Fr E A B b0 (y j)∧(∃ bk,B.get (y j)=some (.row bk (hH P T) true none)∧akk P E all tn S T d bk)∧
    ∀ (j' : Nat) (o' : Oper) (T' : TypeId) (d' : Tmp),all[j']? = some o'→dE o' = some (T',d')→S j' = true→y j' = y j→j' = j
theorem zR {all:List Oper} {o:Oper} {T:TypeId} {d:Tmp} (h:dE o=some (T,d)):ml all o=none:=by
  cases hb:ml all o with
  | none=>rfl
  | some p=>
    obtain ⟨T',d',x⟩:=p
    have h1:=(lh h).1
    have h2:=(wh hb).1
    rw [h1] at h2
    simp at h2
theorem fC {S:Nat→Bool} {i j:Nat} (h:j≠i):aZ S i j=S j:=by
  unfold aZ
  cases hb:Nat.beq j i with
  | false=>simp
  | true=>exact absurd (Nat.eq_of_beq_eq_true hb) h
theorem QF {S:Nat→Bool} {i:Nat} : aZ S i i=true:=by simp [aZ]
theorem Sd.step {E' : Env} {A:ak} {B B' : St} {ρ aq:aw} {base b0:Nat} {w w' : World} {all:List Oper} {tn:bd} {S:Nat→Bool} {a:Act} {y:Nat→Nat} {i:Nat} {o:Oper} {v' : Value} {cfg:c9} (h:Sd P E A B ρ b0 all tn S a y) (hf:Xa P cfg all)
    (ho:all[i]? = some o) (hb:jH all o=false) (k:Ev P base E A B ρ w E' A B' aq w') (eK:ρ.le aq):Sd P E' A B' aq b0 all tn (aZ S i) (a.put o.dst v') y:=by
  intro j q T d hq he hS
  have bo:∀ (m:Nat) (q:Oper),all[m]? = some q→jH all q=true→m≠i:=fun m q hm qF e=>by
    subst e
    rw [ho] at hm
    simp at hm
    subst hm
    rw [hb] at qF
    simp at qF
  have hal:∀ {q:Oper} {T:TypeId} {d:Tmp},dE q=some (T,d)→jH all q=true:=fun e=>by unfold jH; rw [e]; rfl
  have hX:∀ {q:Oper} {T:TypeId} {d:Tmp} {x:Operand},ml all q=some (T,d,x)→jH all q=true:=fun e=>by unfold jH; rw [e]; simp
  have YM:=bo j q hq (hal he)
  rw [fC YM] at hS
  obtain ⟨h1,h2,⟨bk,h3,h4,h5,h6⟩,h7⟩:=h j q T d hq he hS
  obtain ⟨h8,h9⟩:=h2.step k
  refine ⟨?_,h8,⟨bk,by rw [h9]; exact h3,h4,fun m q' T' x hm L3 OM=>?_,fun hn=>?_⟩,fun j' o' T' d' nX wJ Wc=>?_⟩
  · rw [adM (hf.dst j q T d hq he i o ho (Ne.symm YM))]
    exact h1.mono eK
  · rw [fC (bo m q' hm (hX L3))] at OM
    exact (h5 m q' T' x hm L3 OM).mono k.le
  · obtain ⟨z,wN,Yx⟩:=h6 fun m q' T' x hm L3=>by
      have:=hn m q' T' x hm L3
      rwa [fC (bo m q' hm (hX L3))] at this
    exact ⟨z,wN,Yx.mono k.le⟩
  · rw [fC (bo j' o' nX (hal wJ))] at Wc
    exact h7 j' o' T' d' nX wJ Wc
theorem JX {R:Type} {all:List Oper} {tn:bd} {k:bd→ak→Option R} {r:R} {E0:Env} {A0:ak} {B0 B:St} {qd ρ:aw} {w0 w:World} {base N:Nat} {a:Act} {y:Nat→Nat} : ∀ (os:List Oper) (m:Nat) (t:bd) (E:Env) (A:ak),all.drop m=os→Qq P all tn k os t A=some r→
    Ev P base E0 A0 B0 qd w0 E A B ρ w→iK P E ρ t N a→(∀ (j:Nat) (o:Oper) T d,m≤j→all[j]? = some o→dE o=some (T,d)→d < N)→
    (∀ (j:Nat) (o:Oper) (T:TypeId) (d:Tmp),m≤j→all[j]? = some o→dE o=some (T,d)→VR ρ (sN (y j)) (a.tmps.getD d undef)∧Fr E A B B0.next (y j)∧(∀ cs,py P all tn T d=some cs→∃ bk,B.get (y j)=some (.row bk (hH P T) true none)∧aO P E cs bk)∧
      ∀ (j' : Nat) (o' : Oper) (T' : TypeId) (d' : Tmp),m≤j'→all[j']? = some o'→dE o' = some (T',d')→y j' = y j→j' = j)→
    ∃ t' E' A',k t' A' = some r∧iK P E' ρ t' N a∧Ev P base E0 A0 B0 qd w0 E' A' B ρ w
  | [],m,t,E,A,_,h,jg,ht,_,_=>⟨t,E,A,h,ht,jg⟩
  | o :: os,m,t,E,A,hd,h,jg,ht,hN,hb=>by
    have ho:all[m]? = some o:=by
      have:(all.drop m)[0]? = some o:=by rw [hd]; rfl
      rw [List.getElem?_drop] at this
      simpa using this
    have wM:all.drop (m+1)=os:=by rw [← List.drop_drop,hd]; rfl
    have h:Option.rec (motive:=fun _=>Option R) (Qq P all tn k os t A) (fun p=>
      Option.rec (motive:=fun _=>Option R) none (fun cs=>Qq P all tn k os (t.set (.ptr A.next 0) p.2) (A.new (.row cs (hH P p.1)))) (py P all tn p.1 p.2)) (dE o)=some r:=h
    cases hq:dE o with
    | none=>
      rw [hq] at h
      exact JX (y:=y) os (m+1) t E A wM h jg ht (fun j o' T d hj=>hN j o' T d (by omega)) fun j o' T d hj Rd he=>by
        obtain ⟨h1,h2,h3,h4⟩:=hb j o' T d (by omega) Rd he
        exact ⟨h1,h2,h3,fun j' o'' T' d' nX=>h4 j' o'' T' d' (by omega)⟩
    | some p=>
      obtain ⟨T,d⟩:=p
      rw [hq] at h
      cases hc:py P all tn T d with
      | none=>simp only [hc] at h; exact absurd h (by simp)
      | some cs=>
        simp only [hc] at h
        obtain ⟨h1,h2,h3,h4⟩:=hb m o T d (Nat.le_refl m) ho hq
        obtain ⟨bk,h5,h6⟩:=h3 cs hc
        obtain ⟨hle,akl⟩:=ajb (cs:=cs) jg h2 h5 h6
        have TC:(E.hO A.next (y m)).κ A.next=some (y m):=by simp [Env.hO]
        refine JX (y:=y) os (m+1) _ (E.hO A.next (y m)) (A.new (.row cs (hH P T))) wM h akl ⟨ht.size,fun i=>?_,fun i hi=>?_⟩ (fun j o' T d hj=>hN j o' T d (by omega)) fun j o' T' d' hj Rd he=>?_
        · rw [Trie.fv]
          by_cases hid:i=d
          · subst hid
            rw [if_pos rfl]
            exact ⟨_,.rz TC,h1⟩
          · rw [if_neg hid]
            exact (ht.val i).mono hle (fun _ _ e=>e)
        · rw [Trie.fv,if_neg]
          · exact ht.none i hi
          · intro e
            subst e
            exact absurd (hN m o T i (Nat.le_refl m) ho hq) (Nat.not_lt_of_le hi)
        · obtain ⟨g1,g2,g3,g4⟩:=hb j o' T' d' (by omega) Rd he
          have akm:y j≠y m:=fun e=>by have:=h4 j o' T' d' (by omega) Rd he e; omega
          refine ⟨g1,⟨g2.lo,g2.hi,fun b e=>?_,g2.z,fun q=>?_⟩,fun ie hc0=>?_,fun j' o'' T'' d'' nX=>g4 j' o'' T'' d'' (by omega)⟩
          · simp only [Env.hO] at e
            split at e
            · simp at e; exact akm e.symm
            · exact g2.un b e
          · have hA:∀ (b:Nat) (v:KV),(A.new (.row cs (hH P T))).get b=some (.arr v)→A.get b=some (.arr v):=fun b v hb=>by
              rw [ak.bR] at hb
              split at hb
              · simp at hb
              · exact hb
            exact g2.YL (q.of (fun _=>rfl) hA (fun _ _=>rfl) fun _ _=>rfl)
          · obtain ⟨jY,g5,g6⟩:=g3 ie hc0
            exact ⟨jY,g5,g6.mono hle⟩
theorem aaR {R:Type} {cfg:c9} {bb:jG R} (gX:qE P cfg.pc) (hm:P.follows .mixedOrders=true) {id:Nat} {all:List Oper} {N base:Nat} (Fa:all.all (mc N)=true) {k:bd→ak→Option R} {r:R} {t:bd} {A:ak} {B:St} {ρ:aw} {a:Act} {w:World} {Q:Exit→Act→World→Prop}
    (v9:LH P cfg all=true) (h:Tp P cfg bb all (fun t A=>Qq P all t k all t A) all t A=some r) (ht:iK P E ρ t N a) (hj:KJ P E A B ρ base w)
    (hq:∀ t' E' A' B' aq a' w',k t' A' = some r→iK P E' aq t' N a'→a'.defers=a.defers→Ev P base E A B ρ w E' A' B' aq w'→Q .normal a' w'):(Code.region id ⟨all⟩ true).wp P Q a w:=by
  classical
  have hf:=aaQ v9
  obtain ⟨L,tn,kN,hk⟩:=ya hf.kind h
  obtain ⟨hlen,Eu,rB⟩:=kN.at
  have pq:=JW hk
  have FM:Ev P base E A B ρ w E A B ρ w.drew:=(ck.refl hj.k).ev (b7.drew hj.s)
  have jd:∀ (i:Nat) (o:Oper),all[i]? = some o→∀ d,o.dst=some d→d < N:=by
    intro i o ho d ed
    have:=List.all_eq_true.1 Fa o (List.mem_of_getElem? ho)
    unfold mc at this
    rw [ed] at this
    simp only at this
    rw [Nat.blt_eq] at this
    exact this
  refine wp_region_any hm ?_
  show wpAny P .any ⟨all⟩ Q all.length (Array.replicate all.length false) a w.drew
  have qe:∀ i,(Array.replicate all.length false).getD i false=false:=by
    intro i
    rw [Array.getD_eq_getD_getElem?,Array.getElem?_replicate]
    split <;> rfl
  let Inv:(Nat→Bool)→Act→World→Prop:=fun S a' w'=>∃ E' B' aq y,a'.defers=a.defers∧Ev P base E A B ρ w.drew E' A B' aq w'∧iK P E' aq (jR S all L 0 t) N a'∧Sd P E' A B' aq B.next all tn S a' y
  refine xk hf.ord.Ff Inv ?_ ?_ ?_ all.length _ a w.drew (by simp) ?_ (fun i j hi _=>by
      have h2:(Array.replicate all.length false).getD i false=true:=hi
      rw [qe] at h2; simp at h2) ⟨E,B,ρ,fun _=>0,rfl,.refl hj.k FM.dj.cW,?_,?_⟩
  ·
    rintro S S' a' w' S7 ⟨E',B',aq,y,h1,h2,h3,h4⟩
    have hS:∀ (i:Nat) (o:Oper),all[i]? = some o→S i=S' i:=fun i o ho=>S7 i (List.getElem?_eq_some_iff.1 ho).1
    refine ⟨E',B',aq,y,h1,h2,h3.same fun z=>gY rfl fun i o ho _=>by rw [Nat.zero_add]; exact (hS i o ho).symm,fun j o T d ho he hSj=>?_⟩
    obtain ⟨q1,q2,⟨bk,q3,q4,q5,q6⟩,q7⟩:=h4 j o T d ho he (by rw [hS j o ho]; exact hSj)
    exact ⟨q1,q2,⟨bk,q3,q4,fun m q T' x hm L3 OM=>q5 m q T' x hm L3 (by rw [hS m q hm]; exact OM),fun hn=>q6 fun m q T' x hm L3=>by rw [hS m q hm]; exact hn m q T' x hm L3⟩,fun j' o' T' d' nX wJ Wc=>q7 j' o' T' d' nX wJ (by rw [hS j' o' nX]; exact Wc)⟩
  ·
    rintro S a' w' i o ⟨E',B',aq,y,h1,h2,h3,h4⟩ hc ho dQ hJ _
    have hi:i < L.length:=by rw [hlen]; exact (List.getElem?_eq_some_iff.1 ho).1
    have hx:L[i]? = some L[i]:=List.getElem?_eq_getElem hi
    obtain ⟨t1,uo,hw,aaP,Fb⟩:=rB i o L[i] ho hx
    have x9:∀ z ∈ jC P cfg all o,t1.get z=(jR S all L 0 t).get z:=fun z hz=>by rw [uo z,T4 hf.ord hc ho dQ hJ hz]
    have Cw:=FK h3 (fun z hz=>x9 z (by unfold jC; exact List.mem_append_left _ hz)) hw
    have X4:(⟨all⟩:Array Oper)[i]? = some o:=by simpa using ho
    unfold wpOp
    rw [X4]
    simp only [Cw]
    cases Et:L[i].1 with
    | false=>
      simp only [Bool.false_eq_true,if_false]
      obtain ⟨hv,Tf⟩:=Fb Et
      refine ⟨E',B',aq,y,by rw [put_defers]; exact h1,h2,?_,h4.step hf ho Tf (.refl h2.cW h2.dj.cW) (fun _ _ e=>e)⟩
      refine (h3.put (jd i o ho) VC.undef).same fun z=>?_
      rw [Bs hf.ord hc ho hx dQ z,hv]
    | true=>
      simp only [if_true]
      refine .inl ?_
      rcases aaP Et with ⟨L3,hv⟩ | ⟨Tf,hg⟩
      · rcases JV L3 with ⟨T,d,he⟩ | ⟨T,d,x,he⟩
        ·
          obtain ⟨e1,e2,e3⟩:=lh he
          obtain ⟨cs,Cm⟩:=pq o (List.mem_of_getElem? ho) T d he
          obtain ⟨z,HJ,wH,hz3,hz4,hz5,_⟩:=yc Cm
          have aG:compile P o.op = .make (B7 P T) []:=by rw [e1]; rfl
          obtain ⟨iU,v',w2,SZ,kQ,hr3⟩:=OG (em:=fun _=>undef) (bF:=a'.eval) (obj:=vk (hH P T) z) (mk:=sN) aG h2.dj.cW (fun x hx=>by simp at hx) (by simp only [B7,HJ,Option.bind_some,wH,hz3,Bool.and_self,cond_true])
          unfold Oper.wp
          rw [SZ]
          have cA:d < a'.tmps.size:=by rw [h3.size]; exact jd i o ho d e3
          have Lr:=h2.dj.next
          have eK:=hr3.le h2.dj.cW
          have hX:=aki (bk:=z.cells.toList) (a8:=hH P T) h2.cW
          have jg:Ev P base E' A B' aq w' E' A (B'.new (vk (hH P T) z)) iU w2:=hX.ev hr3
          refine ⟨E',B'.new (vk (hH P T) z),iU,fun m=>if m=i then B'.next else y m,by rw [put_defers]; exact h1,h2.trans jg,?_,fun j q U c hq A6 hS=>?_⟩
          · refine ((h3.mono (Env.le_refl _) eK).put (v:=.av) (jd i o ho) ⟨.chan none,.lK,by simp [VR]⟩).same fun z=>?_
            rw [Bs hf.ord hc ho hx dQ z,hv]
          · have hold:∀ (m:Nat) (q:Oper) (U:TypeId) (c:Tmp),all[m]? = some q→dE q=some (U,c)→aZ S i m=true→m≠i→S m=true:=fun m q U c _ _ hS bo=>by rwa [fC bo] at hS
            have OO:∀ (m:Nat) (q:Oper) (U:TypeId) (c:Tmp) (x:Operand),all[m]? = some q→ml all q=some (U,c,x)→m≠i:=fun m q U c x hm qF e=>by
              subst e
              rw [ho] at hm
              simp at hm
              subst hm
              rw [zR he] at qF
              simp at qF
            by_cases YM:j=i
            · subst YM
              rw [ho] at hq
              simp at hq
              subst hq
              rw [he] at A6
              simp at A6
              obtain ⟨rfl,rfl⟩:=A6
              simp only [if_true]
              refine ⟨?_,⟨Lr,by simp,fun b e=>?_,?_,fun q=>?_⟩,⟨z.cells.toList,by simp [vk],?_,fun m q T' x hm qF OM=>?_,fun _=>⟨z,HJ,uU hz4⟩⟩,fun j' o' T' d' nX wJ Wc hy=>?_⟩
              · rw [e3,ahR cA]; exact kQ
              · have:=h2.cW.dT b _ e; omega
              · cases hzz:E'.z B'.next with
                | none=>rfl
                | some r=>have:=h2.cW.jr _ r hzz; omega
              · rcases q with q | ⟨g,_,q⟩
                · obtain ⟨b,v,L',N',q1,q2⟩:=q
                  have:=h2.cW.ar.dT b _ _ _ q2
                  omega
                · rw [vk,St.gF] at q
                  have:=h2.cW.mem g _ q
                  omega
              · rw [← (uU (P:=P) (E:=E') hz4).length] at hz5
                exact hz5
              ·
                exfalso
                have hmi:=OO m q T' d x hm qF
                rw [fC hmi] at OM
                obtain ⟨_,_,⟨j0,q0,T0,aY,YN,SV⟩,_⟩:=hf.st m q T' d x hm qF
                have:j0=j:=by
                  by_cases hjj:j0=j
                  · exact hjj
                  · exact absurd (lh SV).2.2 (hf.dst j o T d ho he j0 q0 YN hjj)
                subst this
                have hb:cP (az [] all) m j0=true:=hf.ord.nW hm YN aY (by
                  unfold m3
                  rw [(lh SV).2.2,show AK (some d) (jC P cfg all q)=true from tq (by
                    unfold jC
                    refine List.mem_append_right _ ?_
                    rw [(wh qF).1]
                    exact fy (show Operand.tmp d ∈ [Operand.tmp d,x] by simp))]
                  rfl)
                have:=hc m j0 OM hb
                rw [dQ] at this; simp at this
              · by_cases V7:j' = j
                · exact V7
                · exfalso
                  rw [if_neg V7] at hy
                  have:=(h4 j' o' T' d' nX wJ (hold j' o' T' d' nX wJ Wc V7)).2.1.hi
                  omega
            · simp only [if_neg YM]
              obtain ⟨q1,q2,⟨bk,q3,q4,q5,q6⟩,q7⟩:=h4 j q U c hq A6 (hold j q U c hq A6 hS YM)
              obtain ⟨q8,q9⟩:=q2.step jg
              refine ⟨?_,q8,⟨bk,by rw [q9]; exact q3,q4,fun m q' T' x hm qF OM=>?_,fun hn=>?_⟩,fun j' o' T' d' nX wJ Wc hy=>?_⟩
              · rw [adM (hf.dst j q U c hq A6 i o ho (Ne.symm YM))]
                exact q1.mono eK
              · rw [fC (OO m q' T' c x hm qF)] at OM
                exact q5 m q' T' x hm qF OM
              · exact q6 fun m q' T' x hm qF=>by
                  have:=hn m q' T' x hm qF
                  rwa [fC (OO m q' T' c x hm qF)] at this
              · by_cases V7:j' = i
                · rw [if_pos V7] at hy
                  have:=q2.hi
                  omega
                · rw [if_neg V7] at hy
                  exact q7 j' o' T' d' nX wJ (hold j' o' T' d' nX wJ Wc V7) hy
        ·
          obtain ⟨e1,e2,e3,_⟩:=wh he
          obtain ⟨hnd,af9,⟨j0,q0,T0,aY,YN,SV⟩,hxd⟩:=hf.st i o T d x ho he
          have hb0:cP (az [] all) i j0=true:=hf.ord.nW ho YN aY (by
            unfold m3
            rw [(lh SV).2.2,show AK (some d) (jC P cfg all o)=true from tq (by
              unfold jC
              refine List.mem_append_right _ ?_
              rw [e1]
              exact fy (show Operand.tmp d ∈ [Operand.tmp d,x] by simp))]
            rfl)
          have hS0:S j0=true:=hc.ready hf.ord.Ff ho hJ j0 hb0
          obtain ⟨q1,q2,⟨ie,q3,q4,_,_⟩,q7⟩:=h4 j0 q0 T0 d YN SV hS0
          obtain ⟨cs,Cm⟩:=pq q0 (List.mem_of_getElem? YN) T0 d SV
          obtain ⟨z,_,_,_,_,_,hz6,hz7⟩:=yc Cm
          have akn:mm all d all=some (T,x):=by
            cases hs:mm all d all with
            | none=>exact absurd he (vz hs i o ho T x)
            | some p=>
              obtain ⟨T2,x2⟩:=p
              obtain ⟨i2,o2,h5,h6⟩:=vy hs
              by_cases hii:i2=i
              · subst hii
                rw [ho] at h5
                simp at h5
                subst h5
                rw [he] at h6
                simp at h6
                rw [h6.1,h6.2]
              · exact absurd h6 (af9 i2 o2 h5 hii T2 x2)
          obtain ⟨hT,hl,LM,_⟩:=hz6 T x akn
          subst hT
          have n5:ir tn x=ir t1 x:=YJ Eu uo hnd
          rw [n5] at hl LM
          have SR:VC P E' aq (ir t1 x) (a'.eval x):=Bt h3 fun z e=>x9 z (by
            unfold jC
            refine List.mem_append_right _ ?_
            rw [e1]
            subst e
            exact fy (show Operand.tmp z ∈ [Operand.tmp d,Operand.tmp z] by simp))
          obtain ⟨u,hu1,hu2⟩:=SR
          have aga:=hu1.cells (qB LM)
          have eZ:u.cells.toList.all scalar=true:=List.all_eq_true.2 (aga.scalar LM)
          have agb:some u.cells.size=size? P T0:=by
            rw [← hl]
            have:=aga.length
            simp only [Array.length_toList] at this
            rw [this]
          have aG:compile P o.op = .act (xg P T0) [.tmp d,x]:=by rw [e1]; rfl
          have bH:=jm P o
          rw [aG] at bH
          let em:Operand→Value:=fun q=>if q = .tmp d then sN (y j0) else u
          have hw:dr 0 ie u.cells.toList=some u.cells.toList:=QE (by
            rw [← agb] at q4
            simp only [Option.some.injEq] at q4
            rw [q4]; simp)
          obtain ⟨iU,v',nx,w2,SZ,kQ,hr3,hr4⟩:=bH aq B' (B'.put (y j0) (.row u.cells.toList (hH P T0) true none)) base w' em a'.eval undef h2.dj.cW (fun q hq=>by
              rcases List.mem_cons.1 hq with rfl | hq
              · show VR aq (em (.tmp d)) (a'.tmps.getD d undef)
                simp only [em,if_true]
                exact q1
              · simp only [List.mem_singleton] at hq
                subst hq
                simp only [em,if_neg hxd]
                exact hu2) (by
              have h1:em (.tmp d)=sN (y j0):=by simp [em]
              have h2:em x=u:=by simp [em,hxd]
              simp [h1,h2,xg,aV.storeAt,sN,agb,St.pg,bA,eZ,q3,hw,St.cl])
          have ako:=akj h2 q2 q3 hr4
          have eK:=hr4.le h2.dj.cW
          have rH:∀ x,AR A E' x→(B'.put (y j0) (.row u.cells.toList (hH P T0) true none)).get x=B'.get x:=fun x q=>by
            rw [St.bt,if_neg]
            intro e
            subst e
            exact q2.YL (.inl q)
          have hAT:∀ q,AT A E' (B'.put (y j0) (.row u.cells.toList (hH P T0) true none)) q→AT A E' B' q:=fun q r=>r.of (fun _=>rfl) (fun _ _ e=>e) rH fun _ _=>by simp
          have hFr:∀ q,Fr E' A B' B.next q→Fr E' A (B'.put (y j0) (.row u.cells.toList (hH P T0) true none)) B.next q:=fun q f=>⟨f.lo,f.hi,f.un,f.z,fun r=>f.YL (hAT q r)⟩
          have ajc:∀ v:Value,a'.put o.dst v=a':=fun v=>by rw [e3]; rfl
          have S6:Inv (aZ S i) (a'.put o.dst v') w2:=by
            rw [ajc]
            refine ⟨E',_,iU,y,h1,ako,(h3.mono (Env.le_refl _) eK).same fun z=>?_,fun j q U c hq A6 hS=>?_⟩
            · rw [Bs hf.ord hc ho hx dQ z,e3]; rfl
            · have YM:j≠i:=fun e=>by
                subst e
                rw [ho] at hq
                simp at hq
                subst hq
                rw [zR A6] at he
                simp at he
              have hold:∀ (m:Nat) (q:Oper) (U:TypeId) (c:Tmp),all[m]? = some q→dE q=some (U,c)→aZ S i m=true→S m=true:=fun m q U c hm A6 hS=>by
                have:m≠i:=fun e=>by
                  subst e
                  rw [ho] at hm
                  simp at hm
                  subst hm
                  rw [zR A6] at he
                  simp at he
                rwa [fC this] at hS
              rw [fC YM] at hS
              obtain ⟨p1,p2,⟨bk,p3,p4,p5,p6⟩,p7⟩:=h4 j q U c hq A6 hS
              refine ⟨p1.mono eK,hFr _ p2,?_,fun j' o' T' d' nX wJ Wc=>p7 j' o' T' d' nX wJ (hold j' o' T' d' nX wJ Wc)⟩
              by_cases hj0:j=j0
              · subst hj0
                rw [YN] at hq
                simp at hq
                subst hq
                rw [SV] at A6
                simp at A6
                obtain ⟨rfl,rfl⟩:=A6
                refine ⟨u.cells.toList,by simp,by simpa using agb,fun m q' T' x' hm qF _=>?_,fun hn=>?_⟩
                · have hmi:m=i:=by
                    by_cases hmi:m=i
                    · exact hmi
                    · exact absurd qF (af9 m q' hm hmi T' x')
                  subst hmi
                  rw [ho] at hm
                  simp at hm
                  subst hm
                  rw [he] at qF
                  simp at qF
                  rw [← qF.2,n5]
                  exact aga
                · have:=hn i o T0 x ho he
                  rw [QF] at this
                  simp at this
              · have hcd:c≠d:=fun e=>by
                  subst e
                  exact absurd (lh SV).2.2 (hf.dst j q U c hq A6 j0 q0 YN (Ne.symm hj0))
                have OO:∀ (m:Nat) (q:Oper) (U:TypeId) (x:Operand),all[m]? = some q→ml all q=some (U,c,x)→m≠i:=fun m q U x hm qF e=>by
                  subst e
                  rw [ho] at hm
                  simp at hm
                  subst hm
                  rw [he] at qF
                  simp at qF
                  exact hcd qF.2.1.symm
                refine ⟨bk,?_,p4,fun m q' T' x' hm qF OM=>?_,fun hn=>?_⟩
                · rw [St.bt,if_neg]
                  · exact p3
                  · intro e
                    exact hj0 ((p7 j0 q0 T0 d YN SV hS0 e.symm).symm)
                · rw [fC (OO m q' T' x' hm qF)] at OM
                  exact p5 m q' T' x' hm qF OM
                · exact p6 fun m q' T' x' hm qF=>by
                    have:=hn m q' T' x' hm qF
                    rwa [fC (OO m q' T' x' hm qF)] at this
          unfold Oper.wp
          rw [SZ]
          cases nx with
          | value u'=>have:u' = v':=kQ; subst this; exact S6
          | skip=>have:v' = undef:=kQ; subst this; exact S6
          | _=>exact kQ.elim
      ·
        have Oa:∀ zQ C0 iP v' sX,VC P zQ iP L[i].2.1 v'→Ev P base E' A B' aq w' zQ A C0 iP sX→Inv (aZ S i) (a'.put o.dst v') sX:=fun zQ C0 iP v' sX h5 h6=>by
          have eK:=h6.dj.le h2.dj.cW
          refine ⟨zQ,C0,iP,y,by rw [put_defers]; exact h1,h2.trans h6,?_,h4.step hf ho Tf h6 eK⟩
          refine ((h3.mono h6.le eK).put (jd i o ho) h5).same fun z=>?_
          rw [Bs hf.ord hc ho hx dQ z]
        rcases hg with hg | ⟨p,hp,hg⟩
        · refine CZ gX hg (fun x YK=>Bt h3 fun z e=>x9 z ?_) h2.kj Oa
          unfold jC
          subst e
          exact List.mem_append_right _ (fy YK)
        · refine T6 gX hp hg (fun x YK=>Bt h3 fun z e=>x9 z ?_) h2.kj Oa
          unfold jC
          subst e
          refine List.mem_append_right _ (fy ?_)
          unfold Bi at hp
          split at hp
          · rename_i c Lb _
            split at hp
            · rename_i d nz
              simp at hp
              subst hp
              rw [Lb]
              show Operand.tmp z ∈ Sa (gV P cfg c)
              unfold gV
              rw [nz]
              exact YK
            · simp at hp
          · simp at hp
  ·
    rintro S a' w' eZ ⟨E',B',aq,y,h1,h2,h3,h4⟩
    have hS:∀ (i:Nat) (o:Oper),all[i]? = some o→S i=true:=fun i o ho=>eZ i (List.getElem?_eq_some_iff.1 ho).1
    have akp:iK P E' aq tn N a':=h3.same fun z=>by
      rw [Eu z]
      exact gY rfl fun i o ho _=>by rw [Nat.zero_add]; exact (hS i o ho).symm
    obtain ⟨t',E2,A2,f1,f2,f3⟩:=JX (y:=y) all 0 tn E' A rfl hk h2 akp (fun j o T d _ ho he=>jd j o ho d (lh he).2.2) fun j o T d _ ho he=>by
      obtain ⟨q1,q2,⟨bk,q3,q4,q5,q6⟩,q7⟩:=h4 j o T d ho he (hS j o ho)
      refine ⟨q1,q2,fun cs Cm=>⟨bk,q3,?_⟩,fun j' o' T' d' _ nX wJ hy=>q7 j' o' T' d' nX wJ (hS j' o' nX) hy⟩
      obtain ⟨z,HJ,_,_,_,_,hz6,hz7⟩:=yc Cm
      cases hs:mm all d all with
      | some p=>
        obtain ⟨T2,x2⟩:=p
        obtain ⟨i2,o2,h5,h6⟩:=vy hs
        rw [(hz6 T2 x2 hs).2.2.2]
        exact q5 i2 o2 T2 x2 h5 h6 (hS i2 o2 h5)
      | none=>
        rw [hz7 hs]
        obtain ⟨z',g1,g2⟩:=q6 fun m q' T' x hm qF=>absurd qF (vz hs m q' hm T' x)
        rw [HJ] at g1
        simp at g1
        subst g1
        exact g2
    exact hq t' E2 A2 B' aq a' w' f1 f2 h1 (FM.trans f3)
  · simp
  · refine ht.same fun z=>?_
    rw [x8 qe]
  · intro j o T d ho he hSj
    have hSj:(Array.replicate all.length false).getD j false=true:=hSj
    rw [qe] at hSj
    simp at hSj
end Go.K
end
section
namespace Go.K
open Go Go.aV
variable {P:Program} {E:Env}
theorem L4 {R:Type} {cfg:c9} {bb:jG R} {all:List Oper} {k:bd→ak→Option R} : ∀ (a b:List Oper),oU P cfg bb all k (a ++ b)=oU P cfg bb all (oU P cfg bb all k b) a
  | [],b=>rfl
  | o :: a,b=>by
    show rG P cfg bb all o (oU P cfg bb all k (a ++ b))=rG P cfg bb all o (oU P cfg bb all (oU P cfg bb all k b) a)
    rw [L4 a b]
theorem Xb {cfg:c9} {all:List Oper} {o:Oper} (h:cY (bG P cfg o.op)≤1):jH all o=false:=by
  cases hb:jH all o with
  | false=>rfl
  | true=>
    exfalso
    rcases JV hb with ⟨T,d,e⟩ | ⟨T,d,x,e⟩
    · rw [(lh e).1] at h
      have h:cY (kd P T)≤1:=h
      unfold kd at h
      split at h
      · rename_i z _
        cases hc:(flat z && z.cells.toList.all scalar && dV (eG z).cells) <;> rw [hc] at h <;> simp [cY] at h
      · simp [cY] at h
    · rw [(wh e).1] at h
      have h:(3:Nat)≤1:=h
      omega
theorem Bu {R:Type} {cfg:c9} {bb:jG R} {all:List Oper} {k:bd→ak→Option R} {r:R} : ∀ {os:List Oper} {t:bd} {A:ak},(∀ o ∈ os,cY (bG P cfg o.op)≤1)→oU P cfg bb all k os t A=some r→
    ∃ L t',QD P cfg all A os t L t'∧k t' A=some r
  | [],t,A,_,h=>⟨[],t,.nil,h⟩
  | o :: os,t,A,hn,h=>by
    have Cs:=fun q hq=>hn q (List.mem_cons_of_mem o hq)
    have hk:=hn o (by simp)
    have hb:=Xb (all:=all) hk
    have hk3:Nat.ble 3 (cY (bG P cfg o.op))=false:=by
      cases hc:Nat.ble 3 (cY (bG P cfg o.op)) with
      | false=>rfl
      | true=>have:=Nat.le_of_ble_eq_true hc; omega
    have hnc:=u0 (P:=P) (cfg:=cfg) (o:=o) (by omega)
    have h:rG P cfg bb all o (oU P cfg bb all k os) t A=some r:=h
    unfold rG at h
    cases hg:o.guard with
    | none=>
      rw [hg] at h
      obtain ⟨v,A1,h1,h2⟩:=y3 hnc h
      have e:=uZ h1 hk3
      subst e
      obtain ⟨L,t',h3,h4⟩:=Bu Cs h2
      exact ⟨_,t',.cons (fun _=>rfl) (.inl ⟨hg,rfl⟩) (fun _=>.inr ⟨hb,.inl h1⟩) (fun e=>by simp at e) h3,h4⟩
    | some p=>
      obtain ⟨j,want⟩:=p
      rw [hg] at h
      obtain ⟨d,hd,h⟩:=JR h
      rcases h with ⟨b,t1,h1,h2,h3⟩ | ⟨l,h1,h2⟩
      · rcases h3 with ⟨h3,h4⟩ | ⟨h3,h4⟩
        · obtain ⟨v,A1,h5,h6⟩:=y3 hnc h4
          have e:=uZ h5 hk3
          subst e
          obtain ⟨L,t',h7,h8⟩:=Bu Cs h6
          exact ⟨_,t',.cons h2 (.inr ⟨j,want,d,hg,hd,.inl ⟨b,h1,h3.symm⟩⟩) (fun _=>.inr ⟨hb,.inl h5⟩) (fun e=>by simp at e) h7,h8⟩
        · obtain ⟨L,t',h7,h8⟩:=Bu Cs h4
          exact ⟨_,t',.cons h2 (.inr ⟨j,want,d,hg,hd,.inl ⟨b,h1,h3.symm⟩⟩) (fun e=>by simp at e) (fun _=>⟨rfl,hb⟩) h7,h8⟩
      · obtain ⟨L,t',h7,h8⟩:=Bu Cs h2
        exact ⟨_,t',.cons (fun _=>rfl) (.inr ⟨j,want,d,hg,hd,.inr ⟨l,h1,rfl⟩⟩) (fun e=>by simp at e) (fun _=>⟨rfl,hb⟩) h7,h8⟩
section
variable {cfg:c9} {all os:List Oper} {L:List Out} {t0:bd} {m:Nat}
theorem acA (hf:T1 P cfg all) (Cv:∀ j q,os[j]? = some q→all[m+j]? = some q) {S:Nat→Bool} (hc:fc all S) {i:Nat} {o:Oper} (ho:os[i]? = some o) (dQ:S (m+i)=false) (hJ:gU all S (m+i)) {y:Tmp} (hy:y ∈ jC P cfg all o) :
    (jR (fun j=>S (m+j)) os L 0 t0).get y=(jR (fun j=>Nat.blt j i) os L 0 t0).get y:=by
  refine gY rfl fun j q hq hd=>?_
  rw [Nat.zero_add]
  have Rd:=Cv i o ho
  have zH:=Cv j q hq
  rcases Nat.lt_trichotomy j i with h | h | h
  · have:cP (az [] all) (m+i) (m+j)=true:=hf.nW Rd zH (by omega) (by
      unfold m3
      rw [hd,tq hy]
      rfl)
    rw [hc.ready hf.Ff Rd hJ (m+j) this]
    symm; rw [Nat.blt_eq]; exact h
  · subst h
    rw [dQ]
    symm
    cases hb:Nat.blt j j with
    | false=>rfl
    | true=>rw [Nat.blt_eq] at hb; omega
  · have hb:cP (az [] all) (m+j) (m+i)=true:=hf.nW zH Rd (by omega) (by
      unfold m3
      rw [hd,tq hy]
      simp)
    have:S (m+j)=false:=by
      cases hs:S (m+j) with
      | false=>rfl
      | true=>have:=hc (m+j) (m+i) hs hb; rw [dQ] at this; simp at this
    rw [this]
    symm
    cases hbb:Nat.blt j i with
    | false=>rfl
    | true=>rw [Nat.blt_eq] at hbb; omega
theorem aaS (hf:T1 P cfg all) (Cv:∀ j q,os[j]? = some q→all[m+j]? = some q) {S:Nat→Bool} (hc:fc all S) {i:Nat} {o:Oper} {x:Out} (ho:os[i]? = some o) (hx:L[i]? = some x) (dQ:S (m+i)=false) (y:Tmp) :
    (jR (fun j=>aZ S (m+i) (m+j)) os L 0 t0).get y=(mj (jR (fun j=>S (m+j)) os L 0 t0) o.dst x.2.1).get y:=by
  have akq:(fun j=>aZ S (m+i) (m+j))=aZ (fun j=>S (m+j)) i:=by
    funext j
    unfold aZ
    cases hb:Nat.beq j i with
    | true=>have:=Nat.eq_of_beq_eq_true hb; subst this; simp
    | false=>
      have bo:=Nat.ne_of_beq_eq_false hb
      cases oM:Nat.beq (m+j) (m+i) with
      | false=>rfl
      | true=>have:=Nat.eq_of_beq_eq_true oM; omega
  rw [akq,pC]
  by_cases hd:o.dst=some y
  · rw [if_pos hd]
    have:=TY (S:=fun j=>S (m+j)) (y:=y) (os:=os) (L:=L) (k:=0) (i:=i) (t:=t0) ho hx hd (fun j q hq TZ aY=>by
      rw [Nat.zero_add]
      have hb:cP (az [] all) (m+j) (m+i)=true:=hf.nW (Cv j q hq) (Cv i o ho) (by omega) (by
        unfold m3
        rw [TZ,hd]
        simp [sR])
      cases hs:S (m+j) with
      | false=>rfl
      | true=>have:=hc (m+j) (m+i) hs hb; rw [dQ] at this; simp at this)
    rw [Nat.zero_add] at this
    exact this
  · rw [if_neg hd]
    refine gY rfl fun j q hq TZ=>?_
    rw [Nat.zero_add]
    have bo:j≠i:=by
      intro e
      subst e
      rw [ho] at hq
      simp at hq
      subst hq
      exact hd TZ
    unfold aZ
    have:Nat.beq j i=false:=by
      cases hb:Nat.beq j i with
      | false=>rfl
      | true=>exact absurd (Nat.eq_of_beq_eq_true hb) bo
    rw [this,Bool.or_false]
end
theorem FQ {cfg:c9} {b:List Nat} {c:Nat} : ∀ (os:List Oper) (k:Nat),Bk P cfg b c os k=true→∀ (i:Nat) (o:Oper),os[i]? = some o→(k+i=c→o.guard=none)∧(k+i≠c→cY (bG P cfg o.op)≤1∧(k+i < c→cP b c (k+i)=true)∧(c < k+i→cP b (k+i) c=true))
  | [],k,_,i,o,ho=>by simp at ho
  | q :: os,k,h,0,o,ho=>by
    simp at ho
    subst ho
    simp only [Bk,Bool.and_eq_true] at h
    rw [Nat.add_zero]
    cases hb:Nat.beq k c with
    | true=>
      have:=Nat.eq_of_beq_eq_true hb
      rw [hb,cond_true] at h
      exact ⟨fun _=>by simpa using h.1,fun bo=>absurd this bo⟩
    | false=>
      have bo:=Nat.ne_of_beq_eq_false hb
      rw [hb,cond_false] at h
      simp only [Bool.and_eq_true] at h
      refine ⟨fun e=>absurd e bo,fun _=>⟨Nat.le_of_ble_eq_true h.1.1,fun aY=>?_,fun aY=>?_⟩⟩
      · have h2:=h.1.2
        rw [show Nat.blt k c=true from by rw [Nat.blt_eq]; exact aY,cond_true] at h2
        exact h2
      · have h2:=h.1.2
        have:Nat.blt k c=false:=by
          cases oM:Nat.blt k c with
          | false=>rfl
          | true=>rw [Nat.blt_eq] at oM; omega
        rw [this,cond_false] at h2
        exact h2
  | q :: os,k,h,i+1,o,ho=>by
    simp only [Bk,Bool.and_eq_true] at h
    have:=FQ os (k+1) h.2 i o (by simpa using ho)
    rwa [show k+1+i=k+(i+1) by omega] at this
theorem L5 {cfg:c9} {c:Nat} : ∀ {os:List Oper} {k:Nat},Bj P cfg os k=some c→k≤c∧c < k+os.length
  | [],k,h=>by simp [Bj] at h
  | o :: os,k,h=>by
    simp only [Bj] at h
    cases hb:aai P cfg o with
    | true=>rw [hb,cond_true] at h; simp at h; subst h; simp
    | false=>
      rw [hb,cond_false] at h
      obtain ⟨h1,h2⟩:=L5 h
      simp only [List.length_cons]
      omega
theorem YO {R:Type} {cfg:c9} {bb:jG R} (gX:qE P cfg.pc) (wQ:Br P bb) (hm:P.follows .mixedOrders=true) {id:Nat} {all:List Oper} {N base:Nat} (Fa:all.all (mc N)=true) {k:bd→ak→Option R} {r:R} {t:bd} {A:ak} {B:St} {ρ:aw} {a:Act} {w:World} {Q:Exit→Act→World→Prop}
    (v9:CI P cfg all=true) (h:oU P cfg bb all k all t A=some r) (ht:iK P E ρ t N a) (hj:KJ P E A B ρ base w)
    (hq:∀ t' E' A' B' aq a' w',k t' A' = some r→iK P E' aq t' N a'→a'.defers=a.defers→Ev P base E A B ρ w E' A' B' aq w'→Q .normal a' w'):(Code.region id ⟨all⟩ true).wp P Q a w:=by
  unfold CI at v9
  split at v9
  · rename_i c hc
    simp only [Bool.and_eq_true] at v9
    obtain ⟨⟨akr,Lo⟩,har⟩:=v9
    have hf:T1 P cfg all:=⟨nA akr,fun {i j x y} hy hx aY nz=>by
      have:=u3 all 0 Lo i y hy
      rw [Nat.zero_add] at this
      have:=yb all 0 this j x hx (by omega) nz
      rwa [Nat.zero_add] at this⟩
    have T7:∀ (i:Nat) (o:Oper),all[i]? = some o→(i=c→o.guard=none)∧(i≠c→cY (bG P cfg o.op)≤1∧(i < c→cP (az [] all) c i=true)∧(c < i→cP (az [] all) i c=true)):=fun i o ho=>by
      have:=FQ all 0 har i o ho
      rwa [Nat.zero_add] at this
    have aY:c < all.length:=by have:=(L5 hc).2; omega
    obtain ⟨oc,Lb⟩:∃ oc,all[c]? = some oc:=⟨_,List.getElem?_eq_getElem aY⟩
    have ahS:all=all.take c ++ oc :: all.drop (c+1):=by
      have h1:=(List.take_append_drop c all).symm
      have h2:all.drop c=oc :: all.drop (c+1):=by
        rw [List.drop_eq_getElem_cons aY]
        rw [List.getElem?_eq_getElem aY] at Lb
        simp at Lb
        rw [Lb]
      rw [h2] at h1
      exact h1
    have Ig:∀ j q,(all.take c)[j]? = some q→all[0+j]? = some q∧j < c:=fun j q Ew=>by
      rw [List.getElem?_take] at Ew
      split at Ew
      · rename_i A8; rw [Nat.zero_add]; exact ⟨Ew,A8⟩
      · simp at Ew
    have FT:∀ j q,(all.drop (c+1))[j]? = some q→all[c+1+j]? = some q:=fun j q Ew=>by rwa [List.getElem?_drop] at Ew
    have h' : oU P cfg bb all (oU P cfg bb all k (oc :: all.drop (c+1))) (all.take c) t A=some r:=by
      have:oU P cfg bb all k (all.take c ++ oc :: all.drop (c+1)) t A=some r:=by rw [← ahS]; exact h
      rwa [L4] at this
    obtain ⟨L,tp,kN,hk⟩:=Bu (fun o ho=>by
      obtain ⟨j,nX⟩:=List.getElem?_of_mem ho
      obtain ⟨h1,h2⟩:=Ig j o nX
      rw [Nat.zero_add] at h1
      exact ((T7 j o h1).2 (by omega)).1) h'
    obtain ⟨hlen,htp,rB⟩:=kN.at
    have FM:Ev P base E A B ρ w E A B ρ w.drew:=(ck.refl hj.k).ev (b7.drew hj.s)
    have jd:∀ (i:Nat) (o:Oper),all[i]? = some o→∀ d,o.dst=some d→d < N:=by
      intro i o ho d ed
      have:=List.all_eq_true.1 Fa o (List.mem_of_getElem? ho)
      unfold mc at this
      rw [ed] at this
      simp only at this
      rw [Nat.blt_eq] at this
      exact this
    refine wp_region_any hm ?_
    show wpAny P .any ⟨all⟩ Q all.length (Array.replicate all.length false) a w.drew
    have qe:∀ i,(Array.replicate all.length false).getD i false=false:=by
      intro i
      rw [Array.getD_eq_getD_getElem?,Array.getElem?_replicate]
      split <;> rfl
    let Inv:(Nat→Bool)→Act→World→Prop:=fun S a' w'=>
      (S c=false∧∃ E' B' aq,a'.defers=a.defers∧Ev P base E A B ρ w.drew E' A B' aq w'∧iK P E' aq (jR (fun j=>S (0+j)) (all.take c) L 0 t) N a')∨
      (S c=true∧∃ A2 t2 L2 tn E' B' aq,QD P cfg all A2 (all.drop (c+1)) t2 L2 tn∧k tn A2=some r∧a'.defers=a.defers∧Ev P base E A B ρ w.drew E' A2 B' aq w'∧iK P E' aq (jR (fun j=>S (c+1+j)) (all.drop (c+1)) L2 0 t2) N a')
    have one:∀ (os:List Oper) (m:Nat) (L:List Out) (A2:ak) (t2:bd) (S:Nat→Bool) (i:Nat) (o:Oper) (a' : Act) (w' : World) (E' : Env) (B' : St) (aq:aw) (next:Act→World→Prop),(∀ j q,os[j]? = some q→all[m+j]? = some q)→L.length=os.length→
        (∀ i o x,os[i]? = some o→L[i]? = some x→∃ t1,(∀ y,t1.get y=(jR (fun j=>Nat.blt j i) os L 0 t2).get y)∧LV all o t1 x.1∧(x.1=true→(jH all o=true∧x.2.1 = .av)∨(jH all o=false∧(aE (nE (bG P cfg o.op) t1 A2) (x.2.1,A2)∨∃ p,Bi o=some p∧aE (nE (vv P cfg t1 p) t1 A2) (x.2.1,A2))))∧(x.1=false→x.2.1=mV∧jH all o=false))→
        os[i]? = some o→cY (bG P cfg o.op)≤1→fc all S→S (m+i)=false→gU all S (m+i)→Ev P base E A B ρ w.drew E' A2 B' aq w'→iK P E' aq (jR (fun j=>S (m+j)) os L 0 t2) N a'→
        (∀ E2 B2 iU a2 w2,a2.defers=a'.defers→Ev P base E A B ρ w.drew E2 A2 B2 iU w2→iK P E2 iU (jR (fun j=>aZ S (m+i) (m+j)) os L 0 t2) N a2→next a2 w2)→wpOp P ⟨all⟩ Q (m+i) next a' w':=by
      intro os m L A2 t2 S i o a' w' E' B' aq next Cv hL agc ho hkd Wf dQ hJ h2 h3 eN
      have hi:i < L.length:=by rw [hL]; exact (List.getElem?_eq_some_iff.1 ho).1
      have hx:L[i]? = some L[i]:=List.getElem?_eq_getElem hi
      obtain ⟨t1,uo,hw,aaP,Fb⟩:=agc i o L[i] ho hx
      have x9:∀ z ∈ jC P cfg all o,t1.get z=(jR (fun j=>S (m+j)) os L 0 t2).get z:=fun z hz=>by rw [uo z,acA hf Cv Wf ho dQ hJ hz]
      have Cw:=FK h3 (fun z hz=>x9 z (by unfold jC; exact List.mem_append_left _ hz)) hw
      have X4:(⟨all⟩:Array Oper)[m+i]? = some o:=by simpa using Cv i o ho
      unfold wpOp
      rw [X4]
      simp only [Cw]
      cases Et:L[i].1 with
      | false=>
        simp only [Bool.false_eq_true,if_false]
        obtain ⟨hv,_⟩:=Fb Et
        refine eN E' B' aq _ _ (by rw [put_defers]) h2 ?_
        refine (h3.put (jd (m+i) o (Cv i o ho)) VC.undef).same fun z=>?_
        rw [aaS hf Cv Wf ho hx dQ z,hv]
      | true=>
        simp only [if_true]
        refine .inl ?_
        rcases aaP Et with ⟨L3,_⟩ | ⟨_,hg⟩
        · rw [Xb hkd] at L3; simp at L3
        · have Oa:∀ zQ C0 iP v' sX,VC P zQ iP L[i].2.1 v'→Ev P base E' A2 B' aq w' zQ A2 C0 iP sX→next (a'.put o.dst v') sX:=fun zQ C0 iP v' sX h5 h6=>by
            have eK:=h6.dj.le h2.dj.cW
            refine eN zQ C0 iP _ _ (by rw [put_defers]) (h2.trans h6) ?_
            refine ((h3.mono h6.le eK).put (jd (m+i) o (Cv i o ho)) h5).same fun z=>?_
            rw [aaS hf Cv Wf ho hx dQ z]
          rcases hg with hg | ⟨p,hp,hg⟩
          · refine CZ gX hg (fun x YK=>Bt h3 fun z e=>x9 z ?_) h2.kj Oa
            unfold jC
            subst e
            exact List.mem_append_right _ (fy YK)
          · refine T6 gX hp hg (fun x YK=>Bt h3 fun z e=>x9 z ?_) h2.kj Oa
            unfold jC
            subst e
            refine List.mem_append_right _ (fy ?_)
            unfold Bi at hp
            split at hp
            · rename_i c' aks _
              split at hp
              · rename_i d nz
                simp at hp
                subst hp
                rw [aks]
                show Operand.tmp z ∈ Sa (gV P cfg c')
                unfold gV
                rw [nz]
                exact YK
              · simp at hp
            · simp at hp
    have agd:∀ j q,(all.take c)[j]? = some q→all[0+j]? = some q:=fun j q Ew=>(Ig j q Ew).1
    refine xk hf.Ff Inv ?_ ?_ ?_ all.length _ a w.drew (by simp) ?_ (fun i j hi _=>by
        have h2:(Array.replicate all.length false).getD i false=true:=hi
        rw [qe] at h2; simp at h2) (.inl ⟨qe c,E,B,ρ,rfl,.refl hj.k FM.dj.cW,?_⟩)
    ·
      rintro S S' a' w' S7 (⟨h0,E',B',aq,h1,h2,h3⟩ | ⟨h0,A2,t2,L2,tn,E',B',aq,g1,g2,h1,h2,h3⟩)
      · refine .inl ⟨by rw [← S7 c aY]; exact h0,E',B',aq,h1,h2,h3.same fun z=>gY rfl fun i o ho _=>?_⟩
        rw [Nat.zero_add]
        exact (S7 _ (List.getElem?_eq_some_iff.1 (agd i o ho)).1).symm
      · refine .inr ⟨by rw [← S7 c aY]; exact h0,A2,t2,L2,tn,E',B',aq,g1,g2,h1,h2,h3.same fun z=>gY rfl fun i o ho _=>?_⟩
        rw [Nat.zero_add]
        exact (S7 _ (List.getElem?_eq_some_iff.1 (FT i o ho)).1).symm
    ·
      rintro S a' w' i o aaT Wf ho dQ hJ _
      rcases Nat.lt_trichotomy i c with Xc | Xc | Xc
      ·
        have hkd:=(T7 i o ho).2 (by omega)
        have hoi:(all.take c)[i]? = some o:=by rw [List.getElem?_take,if_pos Xc]; exact ho
        rcases aaT with ⟨h0,E',B',aq,h1,h2,h3⟩ | ⟨h0,_⟩
        · have:=one (all.take c) 0 L A t S i o a' w' E' B' aq (Inv (aZ S i)) agd hlen rB hoi hkd.1 Wf (by rw [Nat.zero_add]; exact dQ) (by rw [Nat.zero_add]; exact hJ) h2 h3 fun E2 B2 iU a2 w2 q1 q2 q3=>by
            rw [Nat.zero_add] at q3
            exact .inl ⟨by rw [fC (by omega)]; exact h0,E2,B2,iU,q1.trans h1,q2,q3⟩
          rwa [Nat.zero_add] at this
        · have:=Wf c i h0 (hkd.2.1 Xc)
          rw [dQ] at this; simp at this
      ·
        subst Xc
        rw [Lb] at ho
        simp at ho
        subst ho
        rcases aaT with ⟨h0,E',B',aq,h1,h2,h3⟩ | ⟨h0,_⟩
        · have eZ:∀ j q,(all.take i)[j]? = some q→S (0+j)=true:=fun j q Ew=>by
            obtain ⟨g1,g2⟩:=Ig j q Ew
            refine Wf.ready hf.Ff Lb hJ (0+j) ?_
            have:=((T7 (0+j) q g1).2 (by omega)).2.1 (by omega)
            exact this
          have YB:iK P E' aq tp N a':=h3.same fun z=>by
            rw [htp z]
            exact gY rfl fun j q Ew _=>by have:=(eZ j q Ew).symm; simpa using this
          have hg:=(T7 i oc Lb).1 rfl
          have qc:rG P cfg bb all oc (oU P cfg bb all k (all.drop (i+1))) tp A=some r:=hk
          unfold rG at qc
          rw [hg] at qc
          have qc:LF bb tp A (fun v A=>oU P cfg bb all k (all.drop (i+1)) (mj tp oc.dst v) A) (bG P cfg oc.op)=some r:=qc
          have X4:(⟨all⟩:Array Oper)[i]? = some oc:=by simpa using Lb
          have Cw:Region.wanted oc (yielded ⟨all⟩ a'.tmps)=true:=by unfold Region.wanted; rw [hg]
          unfold wpOp
          rw [X4]
          simp only [Cw,if_true]
          refine .inl (Qz gX wQ qc YB h2.kj fun E2 A2 B2 iU v v' w2 q1 q2 q3=>?_)
          obtain ⟨L2,tn,g1,g2⟩:=Bu (fun q hqm=>by
            obtain ⟨j,nX⟩:=List.getElem?_of_mem hqm
            have g:=FT j q nX
            exact ((T7 _ q g).2 (by omega)).1) q1
          have eK:=q3.dj.le h2.dj.cW
          refine .inr ⟨QF,A2,_,L2,tn,E2,B2,iU,g1,g2,by rw [put_defers]; exact h1,h2.trans q3,?_⟩
          refine ((YB.mono q3.le eK).put (jd i oc Lb) q2).same fun z=>?_
          have ahT:∀ j q,(all.drop (i+1))[j]? = some q→aZ S i (i+1+j)=false:=fun j q Ew=>by
            rw [fC (by omega)]
            cases hs:S (i+1+j) with
            | false=>rfl
            | true=>
              have:=Wf (i+1+j) i hs (((T7 _ q (FT j q Ew)).2 (by omega)).2.2 (by omega))
              rw [dQ] at this; simp at this
          rw [gY (S':=fun _=>false) rfl fun j q Ew _=>by rw [Nat.zero_add]; exact ahT j q Ew]
          rw [x8 (fun _=>rfl)]
        · rw [dQ] at h0; simp at h0
      ·
        have hkd:=(T7 i o ho).2 (by omega)
        obtain ⟨j,rfl⟩:∃ j,i=c+1+j:=⟨i - (c+1),by omega⟩
        have hoi:(all.drop (c+1))[j]? = some o:=by rw [List.getElem?_drop]; exact ho
        have hSc:S c=true:=Wf.ready hf.Ff ho hJ c (hkd.2.2 Xc)
        rcases aaT with ⟨h0,_⟩ | ⟨h0,A2,t2,L2,tn,E',B',aq,g1,g2,h1,h2,h3⟩
        · rw [hSc] at h0; simp at h0
        · obtain ⟨YP,_,agc⟩:=g1.at
          exact one (all.drop (c+1)) (c+1) L2 A2 t2 S j o a' w' E' B' aq (Inv (aZ S (c+1+j))) FT YP agc hoi hkd.1 Wf dQ hJ h2 h3 fun E2 B2 iU a2 w2 q1 q2 q3=>
            .inr ⟨by rw [fC (by omega)]; exact h0,A2,t2,L2,tn,E2,B2,iU,g1,g2,q1.trans h1,q2,q3⟩
    ·
      rintro S a' w' eZ aaT
      rcases aaT with ⟨h0,_⟩ | ⟨h0,A2,t2,L2,tn,E',B',aq,g1,g2,h1,h2,h3⟩
      · rw [eZ c aY] at h0; simp at h0
      · obtain ⟨_,Eu,_⟩:=g1.at
        refine hq tn E' A2 B' aq a' w' g2 (h3.same fun z=>?_) h1 (FM.trans h2)
        rw [Eu z]
        exact gY rfl fun j q Ew _=>by rw [Nat.zero_add]; exact (eZ _ (List.getElem?_eq_some_iff.1 (FT j q Ew)).1).symm
    · simp
    · refine ht.same fun z=>?_
      have:(fun j=>(Array.replicate all.length false).getD (0+j) false)=fun _=>false:=by funext j; exact qe _
      show (jR (fun j=>(Array.replicate all.length false).getD (0+j) false) (all.take c) L 0 t).get z=_
      rw [this,x8 (fun _=>rfl)]
  · simp at v9
end Go.K
end
section
namespace Go.K
open Go Go.aV
variable {P:Program} {E:Env}
inductive Sub (root:Code):Nat→Code→Prop where
  | root:Sub root 1 root
  | aiC {p:Nat} {a b:Code} : Sub root p (.seq a b)→Sub root (2 * p) a
  | aiD {p:Nat} {a b:Code} : Sub root p (.seq a b)→Sub root (2 * p+1) b
  | age {p:Nat} {c:Operand} {a b:Code} : Sub root p (.cond c a b)→Sub root (2 * p) a
  | agf {p:Nat} {c:Operand} {a b:Code} : Sub root p (.cond c a b)→Sub root (2 * p+1) b
  | block {p id:Nat} {a:Code} : Sub root p (.block id a)→Sub root (2 * p) a
  | loop {p:Nat} {a:Code} : Sub root p (.loop a)→Sub root (2 * p) a
  | scope {p:Nat} {a:Code} : Sub root p (.scope a)→Sub root (2 * p) a
def T8 (P:Program) (N:Nat) {R:Type} (c:Code) (f:KE R→bd→ak→Option R):Prop:=
  ∀ (k:KE R) (r:R) (t:bd) (A:ak) (E:Env) (B:St) (ρ:aw) (base:Nat) (a:Act) (w:World) (Q:Exit→Act→World→Prop),f k t A=some r→iK P E ρ t N a→KJ P E A B ρ base w→
    (∀ e t' E' A' B' aq a' w',k e t' A' = some r→iK P E' aq t' N a'→a'.defers=a.defers→Ev P base E A B ρ w E' A' B' aq w'→Q e.out a' w')→c.wp P Q a w
def Xd (P:Program) (N:Nat) (body:Code) (F:bd→ak→Fq):Prop:=∀ (R:Type),T8 P N (R:=R) (.loop body) (fun k t A=>aci F k t A)
def adN (P:Program) (cfg:c9) (f:FuncId) (root:Code):Prop:=∀ p F body,cfg.lp f p=some F→Sub root p (.loop body)→∀ N,codeOk N body=true→Xd P N body F
section
variable {R:Type} {cfg:c9} {bb:jG R} {L:Nat} {f:FuncId}
theorem L7 {N:Nat} {c:Code} {g:KE R→bd→ak→Option R} (hg:T8 P N c g):∀ (n:Nat) (k:KE R) (r:R) (t:bd) (A:ak) (E:Env) (B:St) (ρ:aw) (base:Nat) (a:Act) (w:World) (Q:Exit→Act→World→Prop),OB g k n t A=some r→iK P E ρ t N a→KJ P E A B ρ base w→
    (∀ e t' E' A' B' aq a' w',k e t' A' = some r→iK P E' aq t' N a'→a'.defers=a.defers→Ev P base E A B ρ w E' A' B' aq w'→Q e.out a' w')→Code.rounds P c Q n a w
  | 0,k,r,t,A,E,B,ρ,base,a,w,Q,h,ht,hj,hq=>by exact absurd h (by simp [OB])
  | n+1,k,r,t,A,E,B,ρ,base,a,w,Q,h,ht,hj,hq=>by
    rw [rounds_succ]
    have h:g (Yk k (OB g k n)) t A=some r:=h
    refine hg _ r t A E B ρ base a w _ h ht hj fun e t' E' A' B' aq a' w' h1 h2 h3 h4=>?_
    cases e with
    | normal=>
      have h1:OB g k n t' A' = some r:=h1
      exact L7 hg n k r t' A' E' B' aq base a' w' Q h1 h2 h4.kj fun e t'' zQ A'' C0 iP Fh sX q1 q2 q3 q4=>hq e t'' zQ A'' C0 iP Fh sX q1 q2 (q3.trans h3) (h4.trans q4)
    | exit id=>exact hq (.exit id) t' E' A' B' aq a' w' h1 h2 h3 h4
    | goto l=>exact hq (.goto l) t' E' A' B' aq a' w' h1 h2 h3 h4
    | ret=>exact hq .ret t' E' A' B' aq a' w' h1 h2 h3 h4
theorem j2 (gX:qE P cfg.pc) (wQ:Br P bb) (hm:P.follows .mixedOrders=true) {root:Code} (nF:adN P cfg f root) {N:Nat} : ∀ (c:Code) (p:Nat),Sub root p c→codeOk N c=true→T8 P N c (mn P cfg bb L f c p)
  | .skip,p,_,_=>by
    intro k r t A E B ρ base a w Q h ht hj hq
    exact wp_skip (hq .normal t E A B ρ a w h ht rfl (.refl hj.k hj.s))
  | .ret,p,_,_=>by
    intro k r t A E B ρ base a w Q h ht hj hq
    exact wp_ret (hq .ret t E A B ρ a w h ht rfl (.refl hj.k hj.s))
  | .exit id,p,_,_=>by
    intro k r t A E B ρ base a w Q h ht hj hq
    exact wp_exit (hq (.exit id) t E A B ρ a w h ht rfl (.refl hj.k hj.s))
  | .label l,p,_,_=>by
    intro k r t A E B ρ base a w Q h ht hj hq
    exact wp_label (hq .normal t E A B ρ a w h ht rfl (.refl hj.k hj.s))
  | .goto l,p,_,_=>by
    intro k r t A E B ρ base a w Q h ht hj hq
    exact wp_goto (hq (.goto l) t E A B ρ a w h ht rfl (.refl hj.k hj.s))
  | .region id ops false,p,_,hc=>by
    intro k r t A E B ρ base a w Q h ht hj hq
    have h:oU P cfg bb ops.toList (fun t A=>k .normal t A) ops.toList t A=some r:=h
    refine wp_region ?_
    have:=FG (Q:=Q) (base:=base) gX wQ (N:=N) (all:=ops.toList) hc ops.toList 0 t E A B ρ a w (by simp) h ht hj fun t' E' A' B' aq a' w' h1 h2 h3 h4=>hq .normal t' E' A' B' aq a' w' h1 h2 h3 h4
    rw [List.range_eq_range']
    simpa using this
  | .region id ops true,p,_,hc=>by
    intro k r t A E B ρ base a w Q h ht hj hq
    have h:Tq P cfg bb ops.toList true (fun t A=>k .normal t A) t A=some r:=h
    unfold Tq at h
    cases ho:aah P cfg ops.toList with
    | false=>
      rw [ho] at h
      cases hcr:CI P cfg ops.toList with
      | true=>
        rw [hcr] at h
        exact YO (all:=ops.toList) gX wQ hm hc hcr h ht hj fun t' E' A' B' aq a' w' h1 h2 h3 h4=>hq .normal t' E' A' B' aq a' w' h1 h2 h3 h4
      | false=>
        rw [hcr] at h
        cases hb:LH P cfg ops.toList with
        | false=>rw [hb] at h; exact absurd h (by simp)
        | true=>
          rw [hb] at h
          exact aaR (all:=ops.toList) gX hm hc hb h ht hj fun t' E' A' B' aq a' w' h1 h2 h3 h4=>hq .normal t' E' A' B' aq a' w' h1 h2 h3 h4
    | true=>
      rw [ho] at h
      exact Wb (all:=ops.toList) gX hm hc ho h ht hj fun t' E' A' B' aq a' w' h1 h2 h3 h4=>hq .normal t' E' A' B' aq a' w' h1 h2 h3 h4
  | .seq x y,p,hs,hc=>by
    simp only [codeOk,Bool.and_eq_true] at hc
    intro k r t A E B ρ base a w Q h ht hj hq
    have h:mn P cfg bb L f x (2 * p) (Yk k fun t A=>mn P cfg bb L f y (2 * p+1) k t A) t A=some r:=h
    refine wp_seq ?_
    refine j2 gX wQ hm nF x (2 * p) hs.aiC hc.1 _ r t A E B ρ base a w _ h ht hj fun e t' E' A' B' aq a' w' h1 h2 h3 h4=>?_
    cases e with
    | normal=>
      have h1:mn P cfg bb L f y (2 * p+1) k t' A' = some r:=h1
      exact j2 gX wQ hm nF y (2 * p+1) hs.aiD hc.2 k r t' A' E' B' aq base a' w' Q h1 h2 h4.kj fun e t'' zQ A'' C0 iP Fh sX q1 q2 q3 q4=>hq e t'' zQ A'' C0 iP Fh sX q1 q2 (q3.trans h3) (h4.trans q4)
    | exit id=>exact hq (.exit id) t' E' A' B' aq a' w' h1 h2 h3 h4
    | goto l=>exact hq (.goto l) t' E' A' B' aq a' w' h1 h2 h3 h4
    | ret=>exact hq .ret t' E' A' B' aq a' w' h1 h2 h3 h4
  | .cond c x y,p,hs,hc=>by
    simp only [codeOk,Bool.and_eq_true] at hc
    intro k r t A E B ρ base a w Q h ht hj hq
    have h:Yj t c (fun t=>mn P cfg bb L f x (2 * p) k t A) (fun t=>mn P cfg bb L f y (2 * p+1) k t A)=some r:=h
    have key:∃ t',(∀ i,t'.get i=t.get i)∧((a.eval c = .bool true∧mn P cfg bb L f x (2 * p) k t' A=some r)∨(a.eval c = .bool false∧mn P cfg bb L f y (2 * p+1) k t' A=some r)):=by
      have jg:=ht.ev c
      cases c with
      | tmp d=>
        have h:BK.rec (motive:=fun _=>Option R) (fun b=>Bool.rec (motive:=fun _=>Option R) (mn P cfg bb L f y (2 * p+1) k (t.set (.bool false) d) A) (mn P cfg bb L f x (2 * p) k (t.set (.bool true) d) A) b) none none (nY ((t.get d).getD .av))=some r:=h
        cases hb:nY ((t.get d).getD .av) with
        | no=>rw [hb] at h; exact absurd h (by simp)
        | fI=>rw [hb] at h; exact absurd h (by simp)
        | bool b=>
          rw [hb] at h
          have hbv:=wg hb
          have jg:VC P E ρ ((t.get d).getD .av) (a.eval (.tmp d)):=jg
          rw [hbv] at jg
          have:=jg.cF
          refine ⟨t.set (.bool b) d,CY hb,?_⟩
          cases b
          · exact .inr ⟨this,h⟩
          · exact .inl ⟨this,h⟩
      | const v=>
        have h:BK.rec (motive:=fun _=>Option R) (fun b=>Bool.rec (motive:=fun _=>Option R) (mn P cfg bb L f y (2 * p+1) k t A) (mn P cfg bb L f x (2 * p) k t A) b) none none (nY (ir t (.const v)))=some r:=h
        cases hb:nY (ir t (.const v)) with
        | no=>rw [hb] at h; exact absurd h (by simp)
        | fI=>rw [hb] at h; exact absurd h (by simp)
        | bool b=>
          rw [hb] at h
          rw [wg hb] at jg
          have:=jg.cF
          refine ⟨t,fun _=>rfl,?_⟩
          cases b
          · exact .inr ⟨this,h⟩
          · exact .inl ⟨this,h⟩
      | global g=>exact absurd h (by simp [Yj,ir,nY])
      | func g=>exact absurd h (by simp [Yj,ir,nY])
    obtain ⟨t',wG,h⟩:=key
    have uk:=ht.same wG
    rcases h with ⟨hb,h⟩ | ⟨hb,h⟩
    · exact wp_cond_true hb (j2 gX wQ hm nF x (2 * p) hs.age hc.1 k r t' A E B ρ base a w Q h uk hj hq)
    · exact wp_cond_false hb (j2 gX wQ hm nF y (2 * p+1) hs.agf hc.2 k r t' A E B ρ base a w Q h uk hj hq)
  | .block id x,p,hs,hc=>by
    have hc:codeOk N x=true:=hc
    intro k r t A E B ρ base a w Q h ht hj hq
    have h:mn P cfg bb L f x (2 * p) (adu id k) t A=some r:=h
    refine wp_block ?_
    refine j2 gX wQ hm nF x (2 * p) hs.block hc _ r t A E B ρ base a w _ h ht hj fun e t' E' A' B' aq a' w' h1 h2 h3 h4=>?_
    cases e with
    | normal=>exact hq .normal t' E' A' B' aq a' w' h1 h2 h3 h4
    | exit lX=>
      have h1:Bool.rec (motive:=fun _=>Option R) (k (.exit lX) t' A') (k .normal t' A') (Nat.beq lX id)=some r:=h1
      cases hb:Nat.beq lX id with
      | true=>
        rw [hb] at h1
        have:=Nat.eq_of_beq_eq_true hb
        simp only [au.out,Exit.inBlock,if_pos this]
        exact hq .normal t' E' A' B' aq a' w' h1 h2 h3 h4
      | false=>
        rw [hb] at h1
        have:=Nat.ne_of_beq_eq_false hb
        simp only [au.out,Exit.inBlock,if_neg this]
        exact hq (.exit lX) t' E' A' B' aq a' w' h1 h2 h3 h4
    | goto l=>exact hq (.goto l) t' E' A' B' aq a' w' h1 h2 h3 h4
    | ret=>exact hq .ret t' E' A' B' aq a' w' h1 h2 h3 h4
  | .loop x,p,hs,hc=>by
    have hc:codeOk N x=true:=hc
    intro k r t A E B ρ base a w Q h ht hj hq
    have h:Option.rec (motive:=fun _=>bd→ak→Option R) (OB (mn P cfg bb L f x (2 * p)) k L) (fun F=>aci F k) (cfg.lp f p) t A=some r:=h
    cases hF:cfg.lp f p with
    | some F=>
      rw [hF] at h
      exact nF p F x hF hs N hc R k r t A E B ρ base a w Q h ht hj hq
    | none=>
      rw [hF] at h
      exact wp_loop_rounds L (L7 (j2 gX wQ hm nF x (2 * p) hs.loop hc) L k r t A E B ρ base a w Q h ht hj hq)
  | .scope x,p,hs,hc=>by
    have hc:codeOk N x=true:=hc
    intro k r t A E B ρ base a w Q h ht hj hq
    have h:mn P cfg bb L f x (2 * p) (Tr k) t A=some r:=h
    refine wp_scope_straight ?_
    refine j2 gX wQ hm nF x (2 * p) hs.scope hc _ r t A E B ρ base a w _ h ht hj fun e t' E' A' B' aq a' w' h1 h2 h3 h4=>?_
    cases e with
    | normal=>exact hq .normal t' E' A' B' aq a' w' h1 h2 h3 h4
    | exit id=>exact hq (.exit id) t' E' A' B' aq a' w' h1 h2 h3 h4
    | goto l=>exact absurd h1 (by simp [Tr])
    | ret=>exact hq .ret t' E' A' B' aq a' w' h1 h2 h3 h4
  | .rangeFunc ..,p,_,_ | .refuse _,p,_,_=>by
    intro k r t A E B ρ base a w Q h ht hj hq
    exact absurd h (by simp [mn])
end
theorem JY:∀ (l:List KV) (i k:Nat) (t:bd),(Fu l i t).get k=if i≤k∧k < i+l.length then l[k - i]? else t.get k
  | [],i,k,t=>by
    rw [Fu,if_neg]
    simp
  | v :: l,i,k,t=>by
    rw [Fu,JY l (i+1) k,Trie.fv]
    by_cases h1:k=i
    · subst h1
      rw [if_neg (by omega),if_pos rfl,if_pos (by simp)]
      simp
    · by_cases h2:i+1≤k∧k < i+1+l.length
      · rw [if_pos h2,if_pos (by simp; omega),show k - i=(k - (i+1))+1 by omega]
        simp
      · rw [if_neg h2,if_neg h1,if_neg (by simp; omega)]
theorem wR {A:ak} {B:St} {base N:Nat} {w:World} {ρ:aw} {t:bd} {a:Act} (hj:KJ P E A B ρ base w) (ht:iK P E ρ t N a):∀ (rs:List ResultVar) (vs:List KV),Bl P A t rs=some vs→
    ∃ bN,xq P E ρ vs bN∧(rs.mapM (Cz a)).run P w=Result.ok bN w
  | [],vs,h=>by simp [Bl] at h; subst h; exact ⟨[],⟨[],.nil,.nil⟩,by simp⟩
  | .tmp x :: rs,vs,h=>by
    simp only [Bl] at h
    obtain ⟨us,hu,rfl⟩:=Option.map_eq_some_iff.1 h
    obtain ⟨Ye,⟨m,h1,h3⟩,h2⟩:=wR hj ht rs us hu
    obtain ⟨u,h4,h5⟩:=ht.ev (.tmp x)
    refine ⟨_ :: Ye,⟨u :: m,.cons h4 h1,.cons h5 h3⟩,?_⟩
    simp [List.mapM_cons,h2,Act.eval,Cz]
  | .cell x ty :: rs,vs,h=>by
    simp only [Bl] at h
    split at h
    · rename_i v hv
      obtain ⟨us,hu,rfl⟩:=Option.map_eq_some_iff.1 h
      obtain ⟨Ye,⟨m,h1,h3⟩,h2⟩:=wR hj ht rs us hu
      obtain ⟨u,h4,h5⟩:=ht.ev (.tmp x)
      have hg:aE (Ov P ty A [ir t (.tmp x)]) v:=by rw [hv]; exact rfl
      obtain ⟨z,h6,h7⟩:=aaw E A B _ _ v hj.k (.cons h4 .nil) hg
      have h6:loadAt P ty B u=some z:=h6
      obtain ⟨ad,h8,z',h9,wN⟩:=zB (P:=P) hj.s.rel h5 h6
      refine ⟨z' :: Ye,⟨z :: m,.cons h7 h1,.cons h9 h3⟩,?_⟩
      have h8:a.tmps.getD x undef = .pointer (some ad):=h8
      simp only [List.mapM_cons,Sem.run_bind,Cz,h8,asAddr,Sem.run_pure,Result.andThen_ok,wN,h2]
    · simp at h
theorem FU {ρ:aw} {vs:List KV} {bN:List Value} (h:xq P E ρ vs bN):VC P E ρ (xX vs) (if h:bN.toArray.size=1 then bN.toArray[0] else .tuple bN.toArray):=by
  obtain ⟨m,h1,h2⟩:=h
  match vs with
  | []=>
    rw [h1.bh] at h2
    rw [h2.bh]
    exact ⟨_,.Yl .nil,VR.mkTuple .nil⟩
  | [v]=>
    obtain ⟨u,rfl,h3⟩:=h1.cG
    obtain ⟨y,ys,rfl,h4,h5⟩:=h2.cons_inv
    rw [h5.bh]
    exact ⟨u,h3,h4⟩
  | v :: v2 :: vs=>
    obtain ⟨u,us,rfl,h3,h4⟩:=h1.cons_inv
    obtain ⟨u2,us2,rfl,h5,h6⟩:=h4.cons_inv
    obtain ⟨y,ys,rfl,h7,h8⟩:=h2.cons_inv
    obtain ⟨y2,ys2,rfl,h9,wN⟩:=h8.cons_inv
    rw [dif_neg (by simp)]
    exact ⟨_,.Yl (.cons h3 (.cons h5 h6)),VR.mkTuple (.cons h7 (.cons h9 wN))⟩
def YQ (vs:List Value):Value:=if h:vs.toArray.size=1 then vs.toArray[0] else .tuple vs.toArray
theorem C2 {R:Type} {cfg:c9} {bb:jG R} (gX:qE P cfg.pc) (wQ:Br P bb) (hm:P.follows .mixedOrders=true) (L:Nat) {f:FuncId} {fn:Func} {c:Code} (hf:P.funcs[f]? = some fn) (hb:fn.body=some c) (bH:codeOk fn.ntmps c=true) (nF:adN P cfg f c)
    {args:List KV} {A:ak} {k:List KV→ak→Option R} {r:R} (h:mn P cfg bb L f c 1 (aaj P fn k) (Fu args 0 .leaf) A=some r) {E:Env} {B:St} {ρ:aw} {cD:List Value} {base:Nat} {w:World} (hv:xq P E ρ args cD) (hj:KJ P E A B ρ base w) :
    Calls P f cD.toArray w fun e w'=>∃ vs bN E' A' B' aq,e = .returned (YQ bN)∧xq P E' aq vs bN∧Ev P base E A B ρ w E' A' B' aq w'∧k vs A' = some r:=by
  refine calls_of_wp hf hb ?_
  obtain ⟨agh,AW,Q8⟩:=hv
  have hlen:cD.length=args.length:=by rw [Q8.length,AW.length]
  have ht:iK P E ρ (Fu args 0 .leaf) (max fn.ntmps args.length) { tmps:=cD.toArray ++ Array.replicate (fn.ntmps - cD.toArray.size) undef,defers:=[] }:=by
    have cA:(cD.toArray ++ Array.replicate (fn.ntmps - cD.toArray.size) undef).size=max fn.ntmps args.length:=by
      simp [hlen]
      omega
    refine ⟨cA,fun i=>?_,fun i hi=>?_⟩
    · rw [JY]
      simp only [Nat.zero_le,true_and,Nat.zero_add,Nat.sub_zero,Trie.GZ]
      by_cases hi:i < args.length
      · rw [if_pos hi]
        obtain ⟨u,hu⟩:∃ u,args[i]? = some u:=⟨_,List.getElem?_eq_getElem hi⟩
        obtain ⟨m,h1,h2⟩:=AW.get hu
        obtain ⟨u',h3,h4⟩:=Q8.get h1
        rw [hu]
        have:(cD.toArray ++ Array.replicate (fn.ntmps - cD.toArray.size) undef).getD i undef=u':=by
          rw [Array.getD_eq_getD_getElem?,Array.getElem?_append_left (by simpa [hlen] using hi)]
          simp [h3]
        rw [this]
        exact ⟨m,h2,h4⟩
      · rw [if_neg hi]
        exact VC.av
    · rw [JY,if_neg,Trie.GZ]
      simp only [Nat.zero_le,true_and,Nat.zero_add]
      have:=Nat.le_max_right fn.ntmps args.length
      omega
  have WW:codeOk (max fn.ntmps args.length) c=true:=ij (Nat.le_max_left _ _) c bH
  refine j2 (L:=L) (f:=f) (N:=max fn.ntmps args.length) gX wQ hm nF c 1 .root WW _ r _ A E B ρ base _ w _ h ht hj fun e t' E' A' B' aq a' w' h1 h2 h3 h4=>?_
  have fin:∀ vs,Bl P A' t' fn.results.toList=some vs→k vs A' = some r→∀ e:au,(e = .normal∨e = .ret)→bodyPost P fn (fun e w'=>∃ vs bN E' A' B' aq,e = .returned (YQ bN)∧xq P E' aq vs bN∧Ev P base E A B ρ w E' A' B' aq w'∧k vs A' = some r) e.out a' w':=by
    intro vs hr hk e he
    obtain ⟨bN,hvs,kN⟩:=wR (P:=P) h4.kj h2 _ _ hr
    have DC:(results fn a'.tmps).run P w' = .ok (if h:bN.toArray.size=1 then bN.toArray[0] else .tuple bN.toArray) w':=by
      rw [Ql,Sem.run_bind,Array.mapM_eq_mapM_toList,Sem.run_map,kN]
      rfl
    have FT:bodyPost P fn (fun e w'=>∃ vs bN E' A' B' aq,e = .returned (YQ bN)∧xq P E' aq vs bN∧Ev P base E A B ρ w E' A' B' aq w'∧k vs A' = some r) .ret a' w':=by
      exact ⟨h3,_,DC,vs,bN,E',A',B',aq,rfl,hvs,h4,hk⟩
    rcases he with rfl | rfl
    · exact FT
    · exact FT
  cases e with
  | normal=>
    have h1:Option.rec (motive:=fun _=>Option R) none (fun vs=>k vs A') (Bl P A' t' fn.results.toList)=some r:=h1
    cases hr:Bl P A' t' fn.results.toList with
    | none=>rw [hr] at h1; exact absurd h1 (by simp)
    | some vs=>rw [hr] at h1; exact fin vs hr h1 .normal (.inl rfl)
  | ret=>
    have h1:Option.rec (motive:=fun _=>Option R) none (fun vs=>k vs A') (Bl P A' t' fn.results.toList)=some r:=h1
    cases hr:Bl P A' t' fn.results.toList with
    | none=>rw [hr] at h1; exact absurd h1 (by simp)
    | some vs=>rw [hr] at h1; exact fin vs hr h1 .ret (.inr rfl)
  | exit id=>exact absurd h1 (by simp [aaj])
  | goto l=>exact absurd h1 (by simp [aaj])
end Go.K
end
section
namespace Go.K
open Go Go.aV
variable {P:Program} {E:Env}
def T9 (P:Program) (ac:FuncId→Option (List KV→ak→CF)):Prop:=∀ g F,ac g=some F→∀ {R:Type} (args:List KV) (A:ak) (k:KV→ak→Option R) (r:R),CF.run k (F args A)=some r→xG P g∧
  ∀ (E:Env) (B:St) (ρ:aw) (base:Nat) (w:World) (cD:List Value),xq P E ρ args cD→KJ P E A B ρ base w→
    Calls P g cD.toArray w fun e w'=>∃ v v' E' A' B' aq,e = .returned v'∧VC P E' aq v v'∧Ev P base E A B ρ w E' A' B' aq w'∧k v A' = some r
theorem T9.none {P:Program} : T9 P fun _=>.none:=fun g F h=>by simp at h
def zS (P:Program) (cfg:c9):Prop:=T9 P cfg.x.ac∧∀ f fn c,P.funcs[f]? = some fn→fn.body=some c→adN P cfg f c
theorem FV {R:Type} {cfg:c9} {bb:jG R} {L:Nat} {f:FuncId} {args:List KV} {A:ak} {k:List KV→ak→Option R} {r:R} (hP:P.funcs.toList.all jW=true) (h:OC P cfg bb L f args A k=some r) :
    ∃ fn c, P.funcs[f]? = some fn ∧ fn.body = some c ∧ codeOk fn.ntmps c = true ∧ (fn.name == "runtime.NumGoroutine") = false ∧ mn P cfg bb L f c 1 (aaj P fn k) (Fu args 0 .leaf) A = some r := by
  unfold OC at h
  split at h
  · rename_i fn hf
    split at h
    · rename_i c hc
      have hf' : P.funcs[f]? = some fn:=by simpa using hf
      have bH:=List.all_eq_true.1 hP fn (List.mem_of_getElem? hf)
      unfold jW at bH
      rw [hc] at bH
      simp only [Bool.and_eq_true,Bool.not_eq_true'] at bH
      exact ⟨fn,c,hf',hc,bH.1,bH.2,h⟩
    · simp at h
  · simp at h
theorem vA {R:Type} {cfg:c9} (hP:P.funcs.toList.all jW=true) (hm:P.follows .mixedOrders=true) (gX:qE P cfg.pc) (nF:zS P cfg) (L:Nat):∀ n,Br (R:=R) P (Hp P cfg L n)
  | 0=>fun f args A k r h=>absurd h (by simp [Hp])
  | n+1=>fun f args A k r h=>by
    have h:Bool.rec (motive:=fun _=>Option R) none (Option.rec (motive:=fun _=>Option R) (OC P cfg (Hp P cfg L n) L f args A fun vs B=>k (xX vs) B) (fun F=>CF.run k (F args A)) (cfg.x.ac f)) (Nat.blt f yB)=some r:=h
    cases hy:Nat.blt f yB with
    | false=>rw [hy] at h; exact absurd h (by simp)
    | true=>
      rw [hy] at h
      cases hac:cfg.x.ac f with
      | some F=>
        rw [hac] at h
        exact nF.1 f F hac args A k r h
      | none=>
        rw [hac] at h
        have h:OC P cfg (Hp P cfg L n) L f args A (fun vs B=>k (xX vs) B)=some r:=h
        obtain ⟨fn,c,hf,hc,bH,Z0,h⟩:=FV hP h
        refine ⟨⟨hy,fn,hf,by simp [hc],Z0⟩,fun E B ρ base w cD hv hj=>?_⟩
        refine (C2 gX (vA hP hm gX nF L n) hm L hf hc bH (nF.2 f fn c hf hc) h hv hj).mono ?_
        rintro e w' ⟨vs,bN,E',A',B',aq,rfl,h1,h2,h3⟩
        exact ⟨xX vs,_,E',A',B',aq,rfl,FU h1,h2,h3⟩
mutual
theorem VK.zK {E0:Env} (hz:E0.z=E.z):∀ {v:KV} {u:Value} {c:CK},VK P E v u→kindOk c v=true→VK P E0 v u
  | .int k n,u,c,h,_=>h
  | .bool b,u,c,h,_=>h
  | .str s,u,c,h,_=>h
  | .ts T m n es acc,u,c,h,hk=>by
    cases c <;> simp [kindOk] at hk
    rename_i t
    cases m <;> simp at hk
    obtain ⟨ht,aU,h1,a,cap,rfl,h2,h3,h4⟩:=h.iu
    simp only [VK]
    refine ⟨ht,aU,aO.zEs hz h1 ht.typed,a,cap,rfl,h2,?_,trivial⟩
    refine h3.imp id ?_
    rintro ⟨b,off,r,e1,e2,e3⟩
    exact ⟨b,off,r,e1,by rw [hz]; exact e2,e3⟩
  | .agg cs,u,c,h,hk=>by cases c <;> simp [kindOk] at hk
  | .fI cs,u,c,h,hk=>by cases c <;> simp [kindOk] at hk
  | .tp T Tc i k es acc,u,c,h,hk=>by cases c <;> simp [kindOk] at hk
  | .al T b o n,u,c,h,hk=>by cases c <;> simp [kindOk] at hk
  | .ap T Tc b i k,u,c,h,hk=>by cases c <;> simp [kindOk] at hk
  | .ptr b off,u,c,h,hk=>by cases c <;> simp [kindOk] at hk
  | .sl b off n cap,u,c,h,hk=>by cases c <;> simp [kindOk] at hk
  | .w7,u,c,h,hk=>by cases c <;> simp [kindOk] at hk
  | .gw,u,c,h,hk=>by cases c <;> simp [kindOk] at hk
  | .s9,u,c,h,hk=>by cases c <;> simp [kindOk] at hk
  | .map b,u,c,h,hk=>by cases c <;> simp [kindOk] at hk
  | .fn f a b,u,c,h,hk=>by cases c <;> simp [kindOk] at hk
  | .xV,u,c,h,hk=>by cases c <;> simp [kindOk] at hk
  | .iface t x,u,c,h,hk=>by cases c <;> simp [kindOk] at hk
  | .xW,u,c,h,hk=>by cases c <;> simp [kindOk] at hk
  | .av,u,c,h,hk=>by cases c <;> simp [kindOk] at hk
theorem VK.zE {E0:Env} (hz:E0.z=E.z):∀ {v:KV} {u:Value} {l:pt},VK P E v u→bX l v=true→VK P E0 v u
  | .int k n,u,l,h,_=>h
  | .bool b,u,l,h,_=>h
  | .str s,u,l,h,_=>h
  | .agg cs,u,l,h,hk=>by
    simp only [bX,Bool.and_eq_true] at hk
    obtain ⟨m,rfl,h1⟩:=h.iQ
    exact .kP (aO.zKs hz h1 hk.2)
  | .ts T m n es acc,u,l,h,hk=>by
    have qc:∃ c,kindOk c (.ts T m n es acc)=true:=by
      simp only [bX,Bool.and_eq_true] at hk
      cases mi:l.ks with
      | nil=>rw [mi] at hk; simp [ax] at hk
      | cons c cs=>rw [mi] at hk; simp only [ax,Bool.and_eq_true] at hk; exact ⟨c,hk.2.1⟩
    obtain ⟨c,hk⟩:=qc
    cases c <;> simp [kindOk] at hk
    rename_i t
    cases m <;> simp at hk
    obtain ⟨ht,aU,h1,a,cap,rfl,h2,h3,h4⟩:=h.iu
    simp only [VK]
    refine ⟨ht,aU,aO.zEs hz h1 ht.typed,a,cap,rfl,h2,?_,trivial⟩
    refine h3.imp id ?_
    rintro ⟨b,off,r,e1,e2,e3⟩
    exact ⟨b,off,r,e1,by rw [hz]; exact e2,e3⟩
  | .fI cs,u,l,h,hk=>by simp [bX] at hk
  | .tp T Tc i k es acc,u,l,h,hk=>by
    obtain ⟨h1,_⟩:=eB hk
    cases mi:l.ks with
    | nil=>rw [mi] at h1; simp [KV.cells,ax] at h1
    | cons c cs=>rw [mi] at h1; cases c <;> simp [KV.cells,ax,kindOk] at h1
  | .al T b o n,u,l,h,hk=>by
    obtain ⟨h1,_⟩:=eB hk
    cases mi:l.ks with
    | nil=>rw [mi] at h1; simp [KV.cells,ax] at h1
    | cons c cs=>rw [mi] at h1; cases c <;> simp [KV.cells,ax,kindOk] at h1
  | .ap T Tc b i k,u,l,h,hk=>by
    obtain ⟨h1,_⟩:=eB hk
    cases mi:l.ks with
    | nil=>rw [mi] at h1; simp [KV.cells,ax] at h1
    | cons c cs=>rw [mi] at h1; cases c <;> simp [KV.cells,ax,kindOk] at h1
  | .ptr b off,u,l,h,hk=>by
    obtain ⟨h1,_⟩:=eB hk
    cases mi:l.ks with
    | nil=>rw [mi] at h1; simp [KV.cells,ax] at h1
    | cons c cs=>rw [mi] at h1; cases c <;> simp [KV.cells,ax,kindOk] at h1
  | .sl b off n cap,u,l,h,hk=>by
    obtain ⟨h1,_⟩:=eB hk
    cases mi:l.ks with
    | nil=>rw [mi] at h1; simp [KV.cells,ax] at h1
    | cons c cs=>rw [mi] at h1; cases c <;> simp [KV.cells,ax,kindOk] at h1
  | .w7,u,l,h,hk=>h
  | .gw,u,l,h,hk=>h
  | .s9,u,l,h,hk=>h
  | .map b,u,l,h,hk=>by
    obtain ⟨h1,_⟩:=eB hk
    cases mi:l.ks with
    | nil=>rw [mi] at h1; simp [KV.cells,ax] at h1
    | cons c cs=>rw [mi] at h1; cases c <;> simp [KV.cells,ax,kindOk] at h1
  | .fn f a b,u,l,h,hk=>by
    obtain ⟨h1,_⟩:=eB hk
    cases mi:l.ks with
    | nil=>rw [mi] at h1; simp [KV.cells,ax] at h1
    | cons c cs=>rw [mi] at h1; cases c <;> simp [KV.cells,ax,kindOk] at h1
  | .xV,u,l,h,hk=>h
  | .iface t x,u,l,h,hk=>by
    obtain ⟨h1,_⟩:=eB hk
    cases mi:l.ks with
    | nil=>rw [mi] at h1; simp [KV.cells,ax] at h1
    | cons c cs=>rw [mi] at h1; cases c <;> simp [KV.cells,ax,kindOk] at h1
  | .xW,u,l,h,hk=>h
  | .av,u,l,h,hk=>h
theorem aO.zKs {E0:Env} (hz:E0.z=E.z):∀ {vs:List KV} {us:List Value} {ks:List CK},aO P E vs us→ax ks vs=true→aO P E0 vs us
  | [],us,ks,h,_=>by rw [h.bh]; exact .nil
  | v :: vs,us,[],h,hk=>by simp [ax] at hk
  | v :: vs,us,c :: ks,h,hk=>by
    simp only [ax,Bool.and_eq_true] at hk
    simp only [aO] at h ⊢
    obtain ⟨y,ys,e,h1,h2⟩:=h
    exact ⟨y,ys,e,VK.zK hz h1 hk.1,aO.zKs hz h2 hk.2⟩
theorem aO.zEs {E0:Env} (hz:E0.z=E.z):∀ {vs:List KV} {us:List Value} {l:pt},aO P E vs us→cX l vs=true→aO P E0 vs us
  | [],us,l,h,_=>by rw [h.bh]; exact .nil
  | v :: vs,us,l,h,hk=>by
    simp only [cX,Bool.and_eq_true] at hk
    simp only [aO] at h ⊢
    obtain ⟨y,ys,e,h1,h2⟩:=h
    exact ⟨y,ys,e,VK.zE hz h1 hk.1,aO.zEs hz h2 hk.2⟩
end
theorem VK.agi {E0:Env} (hz:E0.z=E.z) {c:CK} {v:KV} {u:Value} (h:VK P E v u):VK P E0 (K.iJ c v) u:=by
  have hn:=h.iJ (c:=c)
  cases hk:kindOk c (K.iJ c v) with
  | true=>exact hn.zK hz hk
  | false=>
    have:K.iJ c v = .av:=by
      revert hk
      unfold K.iJ
      split
      · intro hk; simp [kindOk] at hk
      · rename_i t t' m n es acc
        cases hb:Nat.beq t t' with
        | false=>intro _; rfl
        | true=>intro hk; simp [kindOk] at hk
      · cases hb:kindOk c v with
        | false=>intro _; rfl
        | true=>intro hk; rw [cond_true,hb] at hk; simp at hk
    rw [this]
    exact .lK
theorem aO.aaU {E0:Env} (hz:E0.z=E.z):∀ {ks:List CK} {cs:List KV} {l:List Value},aO P E cs l→cs.length=ks.length→aO P E0 (K.te ks cs) l
  | [],[],l,h,_=>by rw [h.bh]; exact .nil
  | [],_ :: _,_,_,e=>by simp at e
  | _ :: _,[],_,_,e=>by simp at e
  | c :: ks,v :: cs,l,h,e=>by
    obtain ⟨y,ys,rfl,h1,h2⟩:=h.cons_inv
    exact .cons (h1.agi hz) (aO.aaU hz h2 (by simpa using e))
theorem VK.ahU {E0:Env} (hz:E0.z=E.z) {l:pt} {v:KV} {u:Value} (h:VK P E v u):VK P E0 (K.eD l v) u:=by
  unfold K.eD
  split
  · rename_i cs
    obtain ⟨m,rfl,h1⟩:=h.iQ
    cases hb:(l.agg && Nat.beq cs.length l.ks.length) with
    | false=>exact .lK
    | true=>
      simp only [Bool.and_eq_true] at hb
      exact .kP (h1.aaU hz (Nat.eq_of_beq_eq_true hb.2))
  · cases l.agg with
    | true=>exact .lK
    | false=>
      rw [cond_false]
      split
      · exact h.agi hz
      · exact .lK
theorem VK.ajd {E0:Env} (hz:E0.z=E.z) {t:TypeId} {v:KV} {u:Value} (h:VK P E v u):VK P E0 (K.DD P t v) u:=by
  unfold K.DD
  cases hb:bX (a6 P t) (K.eD (a6 P t) v) with
  | false=>exact .lK
  | true=>exact VK.ao _ hb (h.ahU hz)
theorem aO.Ua {E0:Env} (hz:E0.z=E.z):∀ {ts:List TypeId} {vs:List KV} {us:List Value},aO P E vs us→vs.length=ts.length→aO P E0 (normArgs P ts vs) us
  | [],[],us,h,_=>by rw [h.bh]; exact .nil
  | [],_ :: _,_,_,e=>by simp at e
  | _ :: _,[],_,_,e=>by simp at e
  | t :: ts,v :: vs,us,h,e=>by
    obtain ⟨y,ys,rfl,h1,h2⟩:=h.cons_inv
    exact .cons (h1.ajd hz) (aO.Ua hz h2 (by simpa using e))
theorem yd:∀ (ts:List TypeId) (vs:List KV),pz P ts vs=normArgs P ts vs
  | [],vs=>by cases vs <;> rfl
  | t :: ts,[]=>rfl
  | t :: ts,v :: vs=>by simp [pz,normArgs,yd ts vs]
theorem OP:∀ {ts:List TypeId} {vs:List KV},vs.length=ts.length→(normArgs P ts vs).length=ts.length
  | [],[],_=>rfl
  | [],_ :: _,e=>by simp at e
  | _ :: _,[],e=>by simp at e
  | t :: ts,v :: vs,e=>by simp [normArgs,OP (ts:=ts) (vs:=vs) (by simpa using e)]
def Env.bare (E:Env):Env:={ E with κ:=fun _=>none,φ:=fun _=>none,α:=fun _=>none }
theorem eh.bare {A:ak} {B:St} (h:eh P E A B):eh P E.bare .empty B where
  row b cs a8 hb:=by simp [ak.empty,ak.get] at hb
  aJ b top sz hb:=by simp [ak.empty,ak.get] at hb
  z:=h.z
  apart b x e:=by simp [Env.bare] at e
  inj b c x e:=by simp [Env.bare] at e
  fO b c g _ _ _ _ _ _ e:=by simp [Env.bare] at e
  eS b x e:=by simp [Env.bare] at e
  jq b g e:=by simp [Env.bare] at e
  live b o hb:=by simp [ak.empty,ak.get] at hb
  dT b x e:=by simp [Env.bare] at e
  jr:=h.jr
  fV b g e:=by simp [Env.bare] at e
  fresh:=h.fresh
  mem:=h.mem
  ar:=by
    have hn:∀ b v,¬ ak.empty.get b=some (.arr v):=fun b v hb=>by simp [ak.empty,ak.get] at hb
    exact ⟨fun b v hb=>(hn b v hb).elim,fun b v hb=>by simp [ak.empty,ak.get] at hb,fun x ⟨b,v,_,_,hb,_⟩=>(hn b v hb).elim,fun b c v u x L N L' N' hb=>(hn b v hb).elim,fun b c v u x y L N L' N' cs e own g k bk e' k8 k' hb=>(hn b v hb).elim,fun b x e=>by simp [Env.bare] at e,fun b p e=>by simp [Env.bare] at e,fun b x L N e=>by simp [Env.bare] at e,fun b v x L N cs e own g k hb=>(hn b v hb).elim⟩
theorem aaV {x:Nat} : ¬ AR .empty E.bare x:=fun ⟨b,v,_,_,hb,_⟩=>by simp [ak.empty,ak.get] at hb
theorem aaW {B:St} {g:Nat} : ¬ AF .empty E.bare B g:=fun ⟨b,v,_,_,_,_,_,_,_,hb,_⟩=>by simp [ak.empty,ak.get] at hb
theorem agj {B:St} {y:Nat} : ¬ AT .empty E.bare B y:=fun q=>q.elim aaV fun ⟨_,q,_⟩=>aaW q
theorem Ev.bare {base:Nat} {A A1:ak} {B B1:St} {ρ iI:aw} {w w1:World} {E1:Env} (h:eh P E A B) (jg:Ev P base E.bare .empty B ρ w E1 A1 B1 iI w1):Ev P base E A B ρ w { E with z:=E1.z } A B1 iI w1:=by
  have hle:E.le { E with z:=E1.z }:=⟨fun _ _ e=>e,fun _ _ e=>e,jg.le.z,fun _ _ e=>e⟩
  have C3:∀ x,x < B.next→B1.get x=B.get x:=fun x hx=>jg.eU x hx (fun b e=>by simp [Env.bare] at e) agj
  have ig:∀ g,g < B.next→B1.members g=B.members g:=fun g hg=>jg.mr g hg (fun b e=>by simp [Env.bare] at e) aaW
  have eN:=jg.dj.next
  have CP:∀ b r,E1.z b=some r→E.z b=some r∨B.next≤b:=fun b r e=>by
    rcases jg.oW b r e with e | e | e
    · exact .inl e
    · exact (aaV e).elim
    · exact .inr e
  have m5:∀ y,AR A { E with z:=E1.z } y→AR A E y:=fun y q=>q
  have aiE:∀ g,AF A E B g→g < B.next:=fun g ⟨b,v,x,L,N,cs,e,own,k,h1,h2,h3⟩=>(h.ar.nC b v x L N cs e own g k h1 h2 h3).1
  have CW:∀ g,AF A { E with z:=E1.z } B1 g→AF A E B g:=fun g ⟨b,v,x,L,N,cs,e,own,k,h1,h2,h3⟩=>⟨b,v,x,L,N,cs,e,own,k,h1,h2,by rw [← C3 x (h.ar.dT b x L N h2)]; exact h3⟩
  refine ⟨⟨?_,?_,jg.cW.z,?_,h.inj,h.fO,h.eS,h.jq,h.live,?_,jg.cW.jr,?_,jg.cW.fresh,jg.cW.mem,h.ar.eU hle (fun _=>rfl) (fun _ _ e=>e) (fun _ _ e=>e) (Nat.le_refl _) eN (fun x q=>C3 x (h.yY q)) CP (fun _ _ e=>.inl e) (fun b g e=>.inl ⟨b,e⟩) (fun g q=>ig g (aiE g q)) h.mem⟩,jg.dj,hle,Nat.le_refl _,fun x hx _ _=>C3 x hx,fun _ _ e=>.inl e,fun b r e=>(CP b r e).imp id .inr,fun _ _ e=>.inl ⟨_,e⟩,fun g hg _ _=>ig g hg,fun y q=>.inl (m5 y q),fun g q=>.inl (CW g q),jg.qC,fun y q=>.inl (q.imp (m5 y) fun ⟨g,q1,q2⟩=>⟨g,CW g q1,by rw [← ig g (aiE g (CW g q1))]; exact q2⟩),jg.rows⟩
  · intro b cs a8 hb
    obtain ⟨x,c,h1,h2,h3⟩:=h.row b cs a8 hb
    exact ⟨x,c,h1,by rw [C3 x (h.dT b x h1)]; exact h2,h3.mono hle⟩
  · intro b top sz hb
    rcases h.aJ b top sz hb with h1 | ⟨g,h1,h2,h3⟩
    · exact .inl h1
    · have hg:=h.fV b g h1
      refine .inr ⟨g,h1,h2,fun x hx cs e own f k hr=>?_⟩
      rw [ig g hg] at hx
      rw [C3 x (h.mem g x hx)] at hr
      exact h3 x hx cs e own f k hr
  · intro b x hb
    have hx:=h.dT b x hb
    cases hz:E1.z x with
    | none=>rfl
    | some r=>
      rcases CP x r hz with e | e
      · rw [h.apart b x hb] at e; simp at e
      · omega
  · intro b x hb; have:=h.dT b x hb; omega
  · intro b g hb; have:=h.fV b g hb; omega
theorem agk {g:FuncId} {F:List KV→KR KV} (hy:Nat.blt g yB=true) (hP:P.funcs.toList.all jW=true) (hm:P.follows .mixedOrders=true)
    (h:∀ YR v,YR.length=(aC P g).length→aE (F (normArgs P (aC P g) YR)) v→∃ cfg L n,qE P cfg.pc∧zS P cfg∧cm P cfg L n g (normArgs P (aC P g) YR)=some v):bD P g F:=by
  intro args v hF hlen
  obtain ⟨cfg,L,n,gX,nF,kN⟩:=h _ v hlen hF
  have wQ:=vA (R:=KV) hP hm gX nF L n
  obtain ⟨fn,c,hf,hc,bH,Z0,kN⟩:=FV hP kN
  refine ⟨⟨hy,fn,hf,by simp [hc],Z0⟩,fun E A B ρ base w cD hv hj=>?_⟩
  obtain ⟨agh,AW,Q8⟩:=hv
  have hv0:xq P E.bare ρ (normArgs P (aC P g) args) cD:=⟨agh,aO.Ua (E:=E) (E0:=E.bare) rfl AW hlen,Q8⟩
  refine (C2 gX wQ hm L hf hc bH (nF.2 g fn c hf hc) kN hv0 ⟨hj.k.bare,hj.s⟩).mono ?_
  rintro e w' ⟨vs,bN,E0,A0,B1,iI,rfl,⟨m,h1,h1'⟩,h2,h3⟩
  have h3:Bool.rec (motive:=fun _=>Option KV) none (some (xX (pz P (mo P g) (uv A0 vs).1))) (Nat.beq vs.length (mo P g).length)=some v:=h3
  obtain ⟨E1,hf1,h1⟩:=yZ h2.cW h1
  have jg:=Ev.bare hj.k (h2.trans (hf1.ev (.refl h2.dj.cW)))
  cases hb:Nat.beq vs.length (mo P g).length with
  | false=>rw [hb] at h3; exact absurd h3 (by simp)
  | true=>
    rw [hb] at h3
    have h3:some (xX (pz P (mo P g) (uv A0 vs).1))=some v:=h3
    simp only [Option.some.injEq] at h3
    subst h3
    refine ⟨_,_,B1,iI,rfl,FU ⟨m,?_,h1'⟩,jg⟩
    rw [yd]
    exact aO.Ua (E:=E1) (E0:={ E with z:=E1.z }) rfl h1 ((CX A0 vs).trans (Nat.eq_of_beq_eq_true hb))
end Go.K
end
