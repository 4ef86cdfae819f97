/- Part of the proof of BinsAll: a machine that runs the program's code over open terms, shown to be the model's, and the plain models of its functions. No conditions. -/
import Derived.Test.YtahhdndhkgbcjaaFp
import Derived.LoopN
section
namespace Go.K
open Go Go.av
variable {P:Program} {E:Env}
theorem Lo {cfg:dQ} {all:List Oper} {b:List Nat} {i:Nat} {y:Oper} : ∀ (xs:List Oper) (k:Nat),Hl P cfg all b i y xs k=true→∀ (j:Nat) (x:Oper),xs[j]? = some x→k+j < i→Bq P cfg all x y=true→dV b i (k+j)=true∨(qe P cfg all x y=false∧(NT all (k+j) x i y).isSome=true)
  | [],k,_,j,x,hx,_,_=>by simp at hx
  | x0 :: xs,k,h,0,x,hx,aL,hc=>by
    simp at hx
    subst hx
    simp only [Hl,Bool.and_eq_true,Bool.or_eq_true,Bool.not_eq_true'] at h
    rcases h.1 with ((h1 | h1) | h1) | h1
    · have:=Nat.le_of_ble_eq_true h1; omega
    · rw [hc] at h1; simp at h1
    · exact .inl h1
    · exact .inr h1
  | x0 :: xs,k,h,j+1,x,hx,aL,hc=>by
    simp only [Hl,Bool.and_eq_true] at h
    have:=Lo xs (k+1) h.2 j x (by simpa using hx) (by omega) hc
    rwa [show k+1+j=k+(j+1) by omega] at this
theorem F7 {cfg:dQ} {all:List Oper} {b:List Nat} : ∀ (os:List Oper) (k:Nat),Ck P cfg all b os k=true→∀ (i:Nat) (o:Oper),os[i]? = some o→Hl P cfg all b (k+i) o all 0=true
  | [],k,_,i,o,ho=>by simp at ho
  | o0 :: os,k,h,0,o,ho=>by
    simp at ho
    subst ho
    simp only [Ck,Bool.and_eq_true] at h
    exact h.1
  | o0 :: os,k,h,i+1,o,ho=>by
    simp only [Ck,Bool.and_eq_true] at h
    have:=F7 os (k+1) h.2 i o (by simpa using ho)
    rwa [show k+1+i=k+(i+1) by omega] at this
theorem Lq {cfg:dQ} {all:List Oper} {b:List Nat} {i:Nat} {y:Oper} {p:Option Operand×Operand} : ∀ (xs:List Oper) (k j:Nat) (x:Oper),xs[j]? = some x→k+j < i→Bq P cfg all x y=true→dV b i (k+j)=false→NT all (k+j) x i y=some p→p ∈ xO P cfg all b i y xs k
  | [],k,j,x,hx,_,_,_,_=>by simp at hx
  | x0 :: xs,k,0,x,hx,aL,hm,hb,he=>by
    simp at hx
    subst hx
    have h1:(Nat.ble i k || !Bq P cfg all x0 y || dV b i k)=false:=by
      rw [hm,show dV b i k=false from hb]
      cases h:Nat.ble i k with
      | false=>rfl
      | true=>have:=Nat.le_of_ble_eq_true h; omega
    simp only [xO]
    rw [h1,cond_false,show NT all k x0 i y=some p from he]
    exact List.mem_cons_self
  | x0 :: xs,k,j+1,x,hx,aL,hm,hb,he=>by
    have e:k+(j+1)=k+1+j:=by omega
    have:=Lq (b:=b) (p:=p) xs (k+1) j x (by simpa using hx) (show k+1+j < i by omega) hm (by rw [← e]; exact hb) (by rw [← e]; exact he)
    simp only [xO]
    cases (Nat.ble i k || !Bq P cfg all x0 y || dV b i k) with
    | true=>exact this
    | false=>
      rw [cond_false]
      split
      · exact List.mem_cons_of_mem _ this
      · exact this
theorem Iw {cfg:dQ} {all:List Oper} {b:List Nat} {p:Option Operand×Operand} : ∀ (os:List Oper) (k i:Nat) (y:Oper),os[i]? = some y→p ∈ xO P cfg all b (k+i) y all 0→p ∈ MU P cfg all b os k
  | [],k,i,y,hy,_=>by simp at hy
  | o :: os,k,0,y,hy,h=>by
    simp at hy
    subst hy
    exact List.mem_append_left _ h
  | o :: os,k,i+1,y,hy,h=>by
    refine List.mem_append_right _ (Iw os (k+1) i y (by simpa using hy) ?_)
    rwa [show k+1+i=k+(i+1) by omega]
structure Ix (P:Program) (cfg:dQ) (all:List Oper):Prop where
  FD:jg P all
  kind:∀ o ∈ all,ep (ct P cfg o.op)≤3
  ord:∀ i j x y,all[i]? = some y→all[j]? = some x→j < i→Bq P cfg all x y=true→dV (az [] all) i j=true∨(qe P cfg all x y=false∧∃ p,NT all j x i y=some p∧p ∈ Br P cfg all)
  plain:∀ p,p ∈ Br P cfg all→JC P cfg all=true
theorem XW {cfg:dQ} {all:List Oper} (h:Xs P cfg all=true):Ix P cfg all:=by
  unfold Xs at h
  simp only [Bool.and_eq_true] at h
  refine ⟨qv h.1.1.1,fun o ho=>Nat.le_of_ble_eq_true (List.all_eq_true.1 h.1.1.2 o ho),fun i j x y hy hx aL hm=>?_,fun p hp=>?_⟩
  · have:=F7 all 0 h.1.2 i y hy
    rw [Nat.zero_add] at this
    have:=Lo all 0 this j x hx (by omega) hm
    rw [Nat.zero_add] at this
    cases hb:dV (az [] all) i j with
    | true=>exact .inl rfl
    | false=>
      rcases this with h1 | ⟨h1,h2⟩
      · rw [hb] at h1; simp at h1
      · obtain ⟨p,hp⟩:=Option.isSome_iff_exists.1 h2
        refine .inr ⟨h1,p,hp,Iw all 0 i y hy ?_⟩
        rw [Nat.zero_add]
        exact Lq all 0 j x hx (by omega) hm (by rw [Nat.zero_add]; exact hb) (by rw [Nat.zero_add]; exact hp)
  · have h2:=h.2
    simp only [Bool.or_eq_true] at h2
    rcases h2 with h2 | h2
    · rw [List.isEmpty_iff] at h2
      rw [h2] at hp
      simp at hp
    · exact h2
structure Ry (P:Program) (cfg:dQ) (all:List Oper):Prop where
  FD:jg P all
  qN:∀ {i j:Nat} {x y:Oper},all[i]? = some y→all[j]? = some x→j < i→qe P cfg all x y=true→dV (az [] all) i j=true
theorem Ix.toT {cfg:dQ} {all:List Oper} (hf:Ix P cfg all):Ry P cfg all:=⟨hf.FD,fun {i j x y} hy hx aL hc=>by
  rcases hf.ord i j x y hy hx aL (by unfold Bq; rw [hc]; rfl) with h | ⟨h,_⟩
  · exact h
  · rw [hc] at h; simp at h⟩
def Lr (P:Program) (cfg:dQ) (all:List Oper) (i:Nat):Prop:=∀ j q,all[j]? = some q→Nat.ble 3 (ep (ct P cfg q.op))=true→(j < i→dV (az [] all) i j=true)∧(i < j→dV (az [] all) j i=true)
theorem vy {x y:Oper} {p:Option Operand×Operand} (h:DF x y=some p):(∃ T,y.op = .load T p.2)∧((p.1=none∧Hk x.op=true)∨∃ T a v,p.1=some a∧x.op = .store T a v):=by
  unfold DF at h
  split at h
  · rename_i a ha
    have hl:∃ T,y.op = .load T a:=by
      unfold aaQ at ha
      split at ha
      · rename_i T a' e; simp at ha; subst ha; exact ⟨T,e⟩
      · simp at ha
    cases hs:Hk x.op with
    | true=>
      rw [hs,cond_true] at h
      simp at h
      subst h
      exact ⟨hl,.inl ⟨rfl,rfl⟩⟩
    | false=>
      rw [hs,cond_false] at h
      split at h
      · rename_i a2 P0
        simp at h
        subst h
        refine ⟨hl,.inr ?_⟩
        unfold K9 at P0
        split at P0
        · rename_i T a3 v e; simp at P0; subst P0; exact ⟨T,_,v,rfl,e⟩
        · simp at P0
      · simp at h
  · simp at h
theorem Rz {all:List Oper} {i j:Nat} {x y:Oper} {p:Option Operand×Operand} (h:NT all j x i y=some p) :
    (DF x y=some p∧rJ i p.2 all 0=true∧DE j p.1 all=true)∨(DF y x=some p∧rJ j p.2 all 0=true∧DE i p.1 all=true):=by
  unfold NT at h
  split at h
  · rename_i q hq
    cases hb:(rJ i q.2 all 0 && DE j q.1 all) with
    | false=>rw [hb] at h; simp at h
    | true=>
      rw [hb,cond_true] at h
      simp at h
      subst h
      simp only [Bool.and_eq_true] at hb
      exact .inl ⟨hq,hb.1,hb.2⟩
  · split at h
    · rename_i q hq
      cases hb:(rJ j q.2 all 0 && DE i q.1 all) with
      | false=>rw [hb] at h; simp at h
      | true=>
        rw [hb,cond_true] at h
        simp at h
        subst h
        simp only [Bool.and_eq_true] at hb
        exact .inr ⟨hq,hb.1,hb.2⟩
    · simp at h
theorem zO {cfg:dQ} {o:Oper} {T:TypeId} {a:Operand} (h:o.op = .load T a):ep (ct P cfg o.op)=1:=by rw [h]; rfl
theorem unordered {cfg:dQ} {all:List Oper} (hf:Ix P cfg all) {i j:Nat} {o q:Oper} (ho:all[i]? = some o) (hq:all[j]? = some q) (hk:ep (ct P cfg o.op)≠0) (h3:Nat.ble 3 (ep (ct P cfg q.op))=true) :
    ((j < i→dV (az [] all) i j=true)∧(i < j→dV (az [] all) j i=true))∨∃ p,p ∈ Br P cfg all∧DF q o=some p∧rJ i p.2 all 0=true∧DE j p.1 all=true:=by
  have qO:Nat.beq (ep (ct P cfg o.op)) 0=false:=by
    cases hb:Nat.beq (ep (ct P cfg o.op)) 0 with
    | false=>rfl
    | true=>exact absurd (Nat.eq_of_beq_eq_true hb) hk
  have hnl:∀ T a,q.op≠.load T a:=fun T a e=>by rw [zO e] at h3; simp at h3
  rcases Nat.lt_trichotomy j i with h | h | h
  · rcases hf.ord i j q o ho hq h (by unfold Bq; rw [h3,qO]; simp) with h1 | ⟨_,p,h1,h2⟩
    · exact .inl ⟨fun _=>h1,fun h'=>by omega⟩
    · rcases Rz h1 with ⟨e1,e2,e3⟩ | ⟨e1,e2,e3⟩
      · exact .inr ⟨p,h2,e1,e2,e3⟩
      · obtain ⟨⟨T,e⟩,_⟩:=vy e1
        exact absurd e (hnl _ _)
  · exact .inl ⟨fun h'=>by omega,fun h'=>by omega⟩
  · rcases hf.ord j i o q hq ho h (by unfold Bq; rw [h3,qO]; simp) with h1 | ⟨_,p,h1,h2⟩
    · exact .inl ⟨fun h'=>by omega,fun _=>h1⟩
    · rcases Rz h1 with ⟨e1,e2,e3⟩ | ⟨e1,e2,e3⟩
      · obtain ⟨⟨T,e⟩,_⟩:=vy e1
        exact absurd e (hnl _ _)
      · exact .inr ⟨p,h2,e1,e2,e3⟩
theorem F8 {cfg:dQ} {all:List Oper} (hf:Ix P cfg all) {i:Nat} {o:Oper} (ho:all[i]? = some o) (hk:ep (ct P cfg o.op)≠0) (hn:∀ T a,o.op≠.load T a):Lr P cfg all i:=fun j q hq h3=>by
  rcases unordered hf ho hq hk h3 with h | ⟨p,_,h,_⟩
  · exact h
  · obtain ⟨⟨T,e⟩,_⟩:=vy h
    exact absurd e (hn _ _)
theorem wT {cfg:dQ} {o:Oper} (h:ep (ct P cfg o.op)≤3):∀ f args,ct P cfg o.op≠.call f args:=by
  intro f args e
  rw [e] at h
  simp [ep] at h
theorem vz {d:Tmp} {l:List Tmp} (h:d ∈ l):BU (some d) l=true:=by
  simp only [BU,List.any_eq_true]
  exact ⟨d,h,by simp⟩
theorem iU {x:Tmp} : ∀ {xs:List Operand},Operand.tmp x ∈ xs→x ∈ ou xs
  | [],h=>by simp at h
  | y :: ys,h=>by
    rcases List.mem_cons.1 h with h | h
    · subst h; simp [ou]
    · have:=iU h
      cases y <;> simp [ou,this]
section
variable {cfg:dQ} {all:List Oper} {L:List Out} {t0:bp} {A0:aj}
theorem RA (hf:Ry P cfg all) {S:Nat→Bool} (hc:ir all S) {i:Nat} {o:Oper} (ho:all[i]? = some o) (fP:S i=false) (jv:ki all S i) {y:Tmp} (hy:y ∈ mv P cfg all o) :
    (l8 S all L 0 t0).get y=(l8 (fun j=>Nat.blt j i) all L 0 t0).get y:=by
  refine kr rfl fun j q hq hd=>?_
  rw [Nat.zero_add]
  rcases Nat.lt_trichotomy j i with h | h | h
  · have:dV (az [] all) i j=true:=hf.qN ho hq h (by
      unfold qe
      rw [hd,vz hy]
      rfl)
    rw [hc.ready hf.FD ho jv j this]
    symm; rw [Nat.blt_eq]; exact h
  · subst h
    rw [fP]
    symm
    cases hb:Nat.blt j j with
    | false=>rfl
    | true=>rw [Nat.blt_eq] at hb; omega
  · have hb:dV (az [] all) j i=true:=hf.qN hq ho h (by
      unfold qe
      rw [hd,vz hy]
      simp)
    have:S j=false:=by
      cases hs:S j with
      | false=>rfl
      | true=>have:=hc j i hs hb; rw [fP] at this; simp at this
    rw [this]
    symm
    cases ZW:Nat.blt j i with
    | false=>rfl
    | true=>rw [Nat.blt_eq] at ZW; omega
theorem Ls (hf:Ix P cfg all) {S:Nat→Bool} (hc:ir all S) {i:Nat} {o:Oper} (ho:all[i]? = some o) (fP:S i=false) (jv:ki all S i) (gm:Lr P cfg all i) :
    lH P cfg S all L 0 A0=lH P cfg (fun j=>Nat.blt j i) all L 0 A0:=by
  refine AP fun j q x hq hx ht=>?_
  rw [Nat.zero_add]
  have h3:Nat.ble 3 (ep (ct P cfg q.op))=true:=by unfold turns at ht; simp only [Bool.and_eq_true] at ht; exact ht.2
  rcases Nat.lt_trichotomy j i with h | h | h
  · have:dV (az [] all) i j=true:=(gm j q hq h3).1 h
    rw [hc.ready hf.FD ho jv j this]
    symm; rw [Nat.blt_eq]; exact h
  · subst h
    rw [fP]
    symm
    cases hb:Nat.blt j j with
    | false=>rfl
    | true=>rw [Nat.blt_eq] at hb; omega
  · have hb:dV (az [] all) j i=true:=(gm j q hq h3).2 h
    have:S j=false:=by
      cases hs:S j with
      | false=>rfl
      | true=>have:=hc j i hs hb; rw [fP] at this; simp at this
    rw [this]
    symm
    cases ZW:Nat.blt j i with
    | false=>rfl
    | true=>rw [Nat.blt_eq] at ZW; omega
theorem Cy (hf:Ry P cfg all) {S:Nat→Bool} (hc:ir all S) {i:Nat} {o:Oper} {x:Out} (ho:all[i]? = some o) (hx:L[i]? = some x) (fP:S i=false) (y:Tmp) :
    (l8 (a9 S i) all L 0 t0).get y=(ow (l8 S all L 0 t0) o.dst x.2.1).get y:=by
  rw [sh]
  by_cases hd:o.dst=some y
  · rw [if_pos hd]
    have:=Rw (S:=S) (y:=y) (os:=all) (L:=L) (k:=0) (i:=i) (t:=t0) ho hx hd (fun j q hq Rx aL=>by
      rw [Nat.zero_add]
      have hb:dV (az [] all) j i=true:=hf.qN hq ho aL (by
        unfold qe
        rw [Rx,hd]
        simp [u7])
      cases hs:S j with
      | false=>rfl
      | true=>have:=hc j i hs hb; rw [fP] at this; simp at this)
    rw [Nat.zero_add] at this
    exact this
  · rw [if_neg hd]
    refine kr rfl fun j q hq Rx=>?_
    rw [Nat.zero_add]
    have bR:j≠i:=by
      intro e
      subst e
      rw [ho] at hq
      simp at hq
      subst hq
      exact hd Rx
    unfold a9
    have:Nat.beq j i=false:=by
      cases hb:Nat.beq j i with
      | false=>rfl
      | true=>exact absurd (Nat.eq_of_beq_eq_true hb) bR
    rw [this,Bool.or_false]
theorem tK {S:Nat→Bool} {i:Nat} {o:Oper} {x:Out} (ho:all[i]? = some o) (hx:L[i]? = some x) (ht:turns P cfg o x=false):lH P cfg (a9 S i) all L 0 A0=lH P cfg S all L 0 A0:=by
  refine AP fun j q y hq hy hty=>?_
  rw [Nat.zero_add]
  have bR:j≠i:=by
    intro e
    subst e
    rw [ho] at hq; rw [hx] at hy
    simp at hq hy
    subst hq hy
    rw [ht] at hty; simp at hty
  unfold a9
  have:Nat.beq j i=false:=by
    cases hb:Nat.beq j i with
    | false=>rfl
    | true=>exact absurd (Nat.eq_of_beq_eq_true hb) bR
  rw [this,Bool.or_false]
theorem XX {i:Nat} {o:Oper} {x:Out} (ho:all[i]? = some o) (hx:L[i]? = some x) (ht:turns P cfg o x=true):lH P cfg (fun j=>Nat.blt j (i+1)) all L 0 A0=x.2.2:=by
  have key:∀ (os:List Oper) (L:List Out) (k i:Nat) (A:aj) (o:Oper) (x:Out),os[i]? = some o→L[i]? = some x→turns P cfg o x=true→lH P cfg (fun j=>Nat.blt j (k+i+1)) os L k A=x.2.2:=by
    intro os
    induction os with
    | nil=>intro L k i A o x ho; simp at ho
    | cons q os ih=>
      intro L k i A o x ho hx ht
      cases L with
      | nil=>simp at hx
      | cons u L=>
        simp only [lH]
        have aL:Nat.blt k (k+i+1)=true:=by rw [Nat.blt_eq]; omega
        rw [aL,Bool.true_and]
        cases i with
        | zero=>
          simp at ho hx
          subst ho hx
          rw [ht,cond_true]
          have:∀ (os:List Oper) (L:List Out) (m:Nat) (A:aj),k+1≤m→lH P cfg (fun j=>Nat.blt j (k+0+1)) os L m A=A:=by
            intro os
            induction os with
            | nil=>intro L m A _; cases L <;> rfl
            | cons q os ih=>
              intro L m A hm
              cases L with
              | nil=>rfl
              | cons u L=>
                simp only [lH]
                have:Nat.blt m (k+0+1)=false:=by
                  cases hb:Nat.blt m (k+0+1) with
                  | false=>rfl
                  | true=>rw [Nat.blt_eq] at hb; omega
                rw [this,Bool.false_and,cond_false]
                exact ih L _ A (by omega)
          exact this os L (k+1) _ (Nat.le_refl _)
        | succ i=>
          have:=ih L (k+1) i (cond (turns P cfg q u) u.2.2 A) o x (by simpa using ho) (by simpa using hx) ht
          rwa [show k+1+i+1=k+(i+1)+1 by omega] at this
  have:=key all L 0 i A0 o x ho hx ht
  rwa [Nat.zero_add] at this
theorem ZX (hf:Ix P cfg all) {S:Nat→Bool} (hc:ir all S) {i:Nat} {o:Oper} {x:Out} (ho:all[i]? = some o) (hx:L[i]? = some x) (fP:S i=false) (jv:ki all S i) (ht:turns P cfg o x=true) :
    lH P cfg (a9 S i) all L 0 A0=x.2.2:=by
  have h3:Nat.ble 3 (ep (ct P cfg o.op))=true:=by unfold turns at ht; simp only [Bool.and_eq_true] at ht; exact ht.2
  have hk:ep (ct P cfg o.op)≠0:=by have:=Nat.le_of_ble_eq_true h3; omega
  have h1:lH P cfg (a9 S i) all L 0 A0=lH P cfg (fun j=>Nat.blt j (i+1)) all L 0 A0:=by
    refine AP fun j q y hq hy hty=>?_
    rw [Nat.zero_add]
    have hq3:Nat.ble 3 (ep (ct P cfg q.op))=true:=by unfold turns at hty; simp only [Bool.and_eq_true] at hty; exact hty.2
    have gm:Lr P cfg all i:=F8 hf ho hk fun T a e=>by rw [zO e] at h3; simp at h3
    rcases Nat.lt_trichotomy j i with h | h | h
    · have:dV (az [] all) i j=true:=(gm j q hq hq3).1 h
      have:=hc.ready hf.FD ho jv j this
      unfold a9
      rw [this,Bool.true_or]
      symm; rw [Nat.blt_eq]; omega
    · subst h
      have:a9 S j j=true:=by simp [a9]
      rw [this]
      symm; rw [Nat.blt_eq]; omega
    · have hb:dV (az [] all) j i=true:=(gm j q hq hq3).2 h
      have:S j=false:=by
        cases hs:S j with
        | false=>rfl
        | true=>have:=hc j i hs hb; rw [fP] at this; simp at this
      unfold a9
      have bR:Nat.beq j i=false:=by
        cases hb:Nat.beq j i with
        | false=>rfl
        | true=>have:=Nat.eq_of_beq_eq_true hb; omega
      rw [this,bR]
      symm
      cases ZW:Nat.blt j (i+1) with
      | false=>rfl
      | true=>rw [Nat.blt_eq] at ZW; omega
  rw [h1]
  exact XX ho hx ht
end
theorem Tb {all:List Oper} {o:Oper} {j:Nat} {want:Bool} {d:Tmp} (hg:o.guard=some (j,want)) (hd:(all[j]?).bind (·.dst)=some d):d ∈ uB all o:=by
  unfold uB
  rw [hg]
  simp [hd]
theorem xT {all:List Oper} {o:Oper} {t t1:bp} {wd:Bool} {N:Nat} {ρ:ao} {a:Act} (ht:jw P E ρ t N a) (hl:∀ y ∈ uB all o,t1.get y=t.get y) (h:DW all o t1 wd):Region.wanted o (yielded ⟨all⟩ a.tmps)=wd:=by
  rcases h with ⟨hg,rfl⟩ | ⟨j,want,d,hg,hd,h⟩
  · unfold Region.wanted
    rw [hg]
  · have yg:=hl d (Tb hg hd)
    have qV:=ht.val d
    unfold Region.wanted
    rw [hg]
    simp only
    unfold yielded
    have e:(⟨all⟩:Array Oper)[j]? = all[j]?:=by simp
    rw [e,hd]
    simp only [Option.bind_some]
    rcases h with ⟨b,h1,rfl⟩ | ⟨l,h1,rfl⟩
    · rw [← yg,h1] at qV
      have hcv:=qV.dC
      cases hc:a.tmps[d]? with
      | none=>simp [Array.getD_eq_getD_getElem?,hc,undef] at hcv
      | some u=>
        have:u = .bool b:=by rw [← hcv]; simp [Array.getD_eq_getD_getElem?,hc]
        subst this
        rfl
    · rw [← yg,h1] at qV
      obtain ⟨u,h2,h3⟩:=qV
      obtain ⟨m,rfl,_⟩:=h2.FT
      obtain ⟨m',h4,_⟩:=h3.zu
      cases hc:a.tmps[d]? with
      | none=>rfl
      | some u=>
        have:u = .tuple m':=by rw [← h4]; simp [Array.getD_eq_getD_getElem?,hc]
        subst this
        rfl
theorem Cz {t t1:bp} {N:Nat} {ρ:ao} {a:Act} (ht:jw P E ρ t N a) {x:Operand} (h:∀ y,x = .tmp y→t1.get y=t.get y):VC P E ρ (kX t1 x) (a.eval x):=by
  have:=ht.ev x
  cases x with
  | tmp y=>simp only [kX] at this ⊢; rw [h y rfl]; exact this
  | const v=>exact this
  | global g=>exact this
  | func f=>exact this
theorem adJ {cfg:dQ} {o:Oper} {t:bp} {A A1 A' : aj} {v:KV} (h:aG (qC (ct P cfg o.op) t A) (v,A1)) (hk:ep (ct P cfg o.op)=0):aG (qC (ct P cfg o.op) t A') (v,A'):=by
  generalize ct P cfg o.op=ins at h hk
  cases ins with
  | pure f xs=>obtain ⟨u,h1,h2⟩:=aG.map h; simp at h2; obtain ⟨rfl,_⟩:=h2; exact h1.vw
  | read f xs=>simp [ep] at hk
  | act f xs=>simp [ep] at hk
  | look f xs=>obtain ⟨u,h1,h2⟩:=aG.map h; simp at h2; obtain ⟨rfl,_⟩:=h2; exact h1.vw
  | yk g f xs=>obtain ⟨u,h1,h2⟩:=aG.map h; simp at h2; obtain ⟨rfl,_⟩:=h2; exact h1.vw
  | Bo g f xs=>simp [ep] at hk
  | call f xs=>exact h.elim
  | bad=>exact h.elim
theorem JJ {cfg:dQ} {S:Nat→Bool} (h:∀ i,S i=false):∀ {os:List Oper} {L:List Out} {k:Nat} {A:aj},lH P cfg S os L k A=A
  | [],L,k,A=>by cases L <;> rfl
  | o :: os,[],k,A=>rfl
  | o :: os,x :: L,k,A=>by simp only [lH]; rw [h,Bool.false_and,cond_false]; exact JJ h
theorem zP {S:Nat→Bool} (h:∀ i,S i=false):∀ {os:List Oper} {L:List Out} {k:Nat} {t:bp},l8 S os L k t=t
  | [],L,k,A=>by cases L <;> rfl
  | o :: os,[],k,A=>rfl
  | o :: os,x :: L,k,A=>by simp only [l8]; rw [h,cond_false]; exact zP h
theorem adK {A:aj} {o:ia} {b:Nat} (hb:b < A.next) (cs:List KV) (e:Nat):A.get b=some (.row cs e) ↔ (A.new o).get b=some (.row cs e):=by
  rw [aj.cK,if_neg (by omega)]
theorem F9 {A:aj} {o:ia} {b c:Nat} (h:b≠c∨((∀ cs e,A.get b≠some (.row cs e))∧∀ cs e,o≠.row cs e)) (cs:List KV) (e:Nat):A.get b=some (.row cs e) ↔ (A.put c o).get b=some (.row cs e):=by
  rw [aj.bO]
  by_cases Qh:b=c
  · rw [if_pos Qh]
    rcases h with h | ⟨h1,h2⟩
    · exact absurd Qh h
    · exact ⟨fun q=>absurd q (h1 _ _),fun q=>absurd (by simpa using q) (h2 cs e)⟩
  · rw [if_neg Qh]
def Iy (A A' : aj):Prop:=A.next≤A'.next∧∀ b,b < A.next→∀ cs e,A.get b=some (.row cs e) ↔ A'.get b=some (.row cs e)
theorem zi {A:aj} {o:ia} : Iy A (A.new o):=⟨by simp,fun _ hb cs e=>adK hb cs e⟩
theorem Hq {A:aj} {c:Nat} {o o' : ia} (hc:A.get c=some o') (h' : ∀ cs e,o'≠.row cs e) (h:∀ cs e,o≠.row cs e):Iy A (A.put c o):=⟨by simp,fun b _ cs e=>by
  by_cases Qh:b=c
  · subst Qh
    exact F9 (.inr ⟨fun cs e q=>by rw [hc] at q; simp at q; exact h' cs e q,h⟩) cs e
  · exact F9 (.inl Qh) cs e⟩
theorem Iy.trans {A B C:aj} (h:Iy A B) (k:Iy B C):Iy A C:=⟨Nat.le_trans h.1 k.1,fun b hb cs e=>(h.2 b hb cs e).trans (k.2 b (Nat.lt_of_lt_of_le hb h.1) cs e)⟩
theorem DX {e sz b n f m:Nat} {base new:List KV} {ab an:Nat→KV} {A A' : aj} {v:KV} {more:Bool} (h:aG (K6 e sz b n base ab A f m new an more) (v,A')):A' = A.put f (.aW (n+m) sz):=by
  obtain ⟨_,h⟩:=aG.kU h
  simp only [Prod.mk.injEq] at h
  exact h.2.symm
theorem Lt {e b n m:Nat} {base new:List KV} {ab an:Nat→KV} {A A' : aj} {v:KV} {more:Bool} (h:aG (Pp e b n base ab A m new an more) (v,A')):∃ o,A' = A.new (.arr o):=by
  obtain ⟨_,h⟩:=aG.kU h
  simp only [Prod.mk.injEq] at h
  exact ⟨_,h.2.symm⟩
theorem VL {e sz b:Nat} {A A' : aj} {xs:List KV} {v:KV} (h:aG (FL e sz b A xs) (v,A')):Iy A A':=by
  unfold FL at h
  split at h
  · obtain ⟨_,h⟩:=aG.cond h
    rw [DX h]
    exact zi.trans (Hq (o':=.aW 0 sz) (by simp) (by simp) (by simp))
  · obtain ⟨_,h⟩:=aG.cond h
    rw [DX h]
    exact zi.trans (Hq (o':=.aW 0 sz) (by simp) (by simp) (by simp))
  · split at h
    · rename_i hf
      obtain ⟨_,h⟩:=aG.cond h
      rw [DX h]
      exact Hq hf (by simp) (by simp)
    · exact h.elim
  · exact h.elim
theorem Iz {e b:Nat} {A A' : aj} {xs:List KV} {v:KV} (h:aG (zg e b A xs) (v,A')):Iy A A':=by
  unfold zg at h
  split at h
  · obtain ⟨_,h⟩:=aG.cond h
    obtain ⟨o,rfl⟩:=Lt h
    exact zi
  · split at h
    · rename_i hf
      obtain ⟨_,h⟩:=aG.cond h
      obtain ⟨o,rfl⟩:=Lt h
      exact (Hq hf (by simp) (by simp)).trans zi
    · exact h.elim
  · exact h.elim
theorem Td {e sz b:Nat} {mt:Bool} {A A' : aj} {xs:List KV} {v:KV} (h:aG (Ci e sz b mt A xs) (v,A')):Iy A A':=by
  unfold Ci at h
  split at h
  · split at h
    · rename_i y' _
      revert h
      cases adv _ with
      | true=>exact fun h=>Iz h
      | false=>
        cases mt with
        | true=>exact fun h=>Iz h
        | false=>exact fun h=>VL h
    · exact h.elim
  · exact h.elim
theorem ab7 {c:Bool} {i:o6} {t:bp} {A:aj} {x:KV×aj} (h:aG (qC (cond c i .bad) t A) x):aG (qC i t A) x:=by
  cases c with
  | true=>exact h
  | false=>exact h.elim
theorem RB {cfg:dQ} {o:Oper} {t:bp} {A A' : aj} {v:KV} (hs:Hk o.op=true) (h:aG (qC (ct P cfg o.op) t A) (v,A')):Iy A A':=by
  revert hs h
  cases UE:o.op <;> intro hs h <;> simp [Hk] at hs
  · rename_i T
    have h:aG (qC (nu P T) t A) (v,A'):=h
    unfold nu at h
    split at h
    · rename_i z _
      cases hb:(flat z && z.cells.toList.all scalar && fS (gH z).cells) with
      | false=>rw [hb] at h; exact h.elim
      | true=>
        rw [hb,cond_true] at h
        have h:(KV.ptr A.next 0,A.new (.row (gH z).cells (kF P T)))=(v,A'):=h
        simp only [Prod.mk.injEq] at h
        rw [← h.2]
        exact zi
    · exact h.elim
  · rename_i T x
    have h:aG (wg (kF P T) A [kX t x]) (v,A'):=h
    unfold wg at h
    simp only at h
    obtain ⟨_,h⟩:=aG.cond h
    have h:(KV.ptr A.next 0,A.new (.row (kX t x).cells (kF P T)))=(v,A'):=h
    simp only [Prod.mk.injEq] at h
    rw [← h.2]
    exact zi
  · rename_i c
    split at hs
    · rename_i hc
      have h:aG (qC (ko P cfg c) t A) (v,A'):=h
      unfold ko at h
      rw [hc] at h
      simp only [vt] at h
      unfold AE at h
      split at h
      · split at h
        · split at h
          · split at h
            · exact Td (ab7 h)
            · exact h.elim
          · exact h.elim
        · exact h.elim
      · exact h.elim
    · simp at hs
theorem N8 {cfg:dQ} {o:Oper} {T:TypeId} {a x:Operand} {t:bp} {A A' : aj} {v:KV} (ho:o.op = .store T a x) (h:aG (qC (ct P cfg o.op) t A) (v,A')) :
    A'.next=A.next∧∀ b,((∃ b2 off,kX t a = .ptr b2 off∧b≠b2)∨∃ U Tc c i k,kX t a = .ap U Tc c i k)→∀ cs e,A.get b=some (.row cs e) ↔ A'.get b=some (.row cs e):=by
  rw [ho] at h
  have h:aG (K4 P T A [kX t a,kX t x]) (v,A'):=h
  unfold K4 at h
  split at h
  · rename_i c off w heq
    simp only [List.cons.injEq,and_true] at heq
    obtain ⟨_,h⟩:=aG.cond h
    split at h
    · split at h
      · have h:(pg,_)=(v,A'):=h
        simp only [Prod.mk.injEq] at h
        rw [← h.2]
        refine ⟨rfl,fun b hb cs e=>F9 (.inl ?_) cs e⟩
        rcases hb with ⟨b2,adG,h1,h2⟩ | ⟨U,Tc,c',i,k,h1⟩
        · rw [heq.1] at h1; simp at h1; rw [h1.1]; exact h2
        · rw [heq.1] at h1; simp at h1
      · exact h.elim
    · exact h.elim
  · rename_i U Tc c i k w heq
    split at h
    · rename_i hA
      obtain ⟨_,h⟩:=aG.cond h
      split at h
      · have h:(pg,_)=(v,A'):=h
        simp only [Prod.mk.injEq] at h
        rw [← h.2]
        refine ⟨rfl,fun b _ cs e=>?_⟩
        by_cases Qh:b=c
        · subst Qh
          exact F9 (.inr ⟨fun cs e q=>by rw [hA] at q; simp at q,by simp⟩) cs e
        · exact F9 (.inl Qh) cs e
      · exact h.elim
    · exact h.elim
  · exact h.elim
theorem JK {t:bp} {nx:Nat} : ∀ {l:List (Option Operand×Operand)},JB t nx l=true→∀ p ∈ l,Cj t nx p=true
  | [],_,p,hp=>by simp at hp
  | q :: l,h,p,hp=>by
    have h:Bool.rec (motive:=fun _=>Bool) false (JB t nx l) (Cj t nx q)=true:=h
    cases hq:Cj t nx q with
    | false=>rw [hq] at h; simp at h
    | true=>
      rw [hq] at h
      rcases List.mem_cons.1 hp with rfl | hp
      · exact hq
      · exact JK h p hp
theorem N9 {i:Nat} {x:Tmp} : ∀ (os:List Oper) (k:Nat),rJ i (.tmp x) os k=true→∀ j o,os[j]? = some o→i≤k+j→o.dst≠some x
  | [],k,_,j,o,ho,_=>by simp at ho
  | q :: os,k,h,0,o,ho,hle=>by
    simp at ho
    subst ho
    simp only [rJ,Bool.and_eq_true,Bool.or_eq_true,Bool.not_eq_true'] at h
    rcases h.1 with h1 | h1
    · rw [Nat.blt_eq] at h1; omega
    · intro e
      rw [e,vz (by simp [ou])] at h1
      simp at h1
  | q :: os,k,h,j+1,o,ho,hle=>by
    simp only [rJ,Bool.and_eq_true] at h
    exact N9 os (k+1) h.2 j o (by simpa using ho) (by omega)
section
variable {cfg:dQ} {all:List Oper} {L:List Out} {t0:bp} {A0:aj}
theorem VM {tn t1:bp} {i:Nat} {x:Operand} (ER:∀ y,tn.get y=(l8 (fun _=>true) all L 0 t0).get y) (rG:∀ y,t1.get y=(l8 (fun j=>Nat.blt j i) all L 0 t0).get y) (h:rJ i x all 0=true):kX tn x=kX t1 x:=by
  cases x with
  | tmp y=>
    simp only [kX]
    rw [ER y,rG y,kr (S':=fun j=>Nat.blt j i) rfl fun j o ho hd=>?_]
    rw [Nat.zero_add]
    symm
    rw [Nat.blt_eq]
    refine Nat.lt_of_not_le fun hle=>?_
    exact N9 all 0 h j o ho (by omega) hd
  | const v=>rfl
  | global g=>rfl
  | func f=>rfl
theorem XY (j:Nat):(∃ q x,all[j]? = some q∧L[j]? = some x∧turns P cfg q x=true∧lH P cfg (fun k=>Nat.blt k (j+1)) all L 0 A0=x.2.2)∨
    ((∀ q x,all[j]? = some q→L[j]? = some x→turns P cfg q x=false)∧lH P cfg (fun k=>Nat.blt k (j+1)) all L 0 A0=lH P cfg (fun k=>Nat.blt k j) all L 0 A0):=by
  by_cases h:∃ q x,all[j]? = some q∧L[j]? = some x∧turns P cfg q x=true
  · obtain ⟨q,x,h1,h2,h3⟩:=h
    refine .inl ⟨q,x,h1,h2,h3,?_⟩
    have:=XX (A0:=A0) h1 h2 h3
    exact this
  · have hn:∀ q x,all[j]? = some q→L[j]? = some x→turns P cfg q x=false:=fun q x h1 h2=>by
      cases ht:turns P cfg q x with
      | false=>rfl
      | true=>exact absurd ⟨q,x,h1,h2,ht⟩ h
    refine .inr ⟨hn,AP fun k q x hq hx ht=>?_⟩
    rw [Nat.zero_add]
    have bR:k≠j:=fun e=>by subst e; rw [hn q x hq hx] at ht; simp at ht
    cases hb:Nat.blt k j with
    | true=>rw [Nat.blt_eq] at hb ⊢; omega
    | false=>
      cases rC:Nat.blt k (j+1) with
      | false=>rfl
      | true=>
        rw [Nat.blt_eq] at rC
        have : ¬ k < j:=fun h=>by rw [← Nat.blt_eq,hb] at h; simp at h
        omega
theorem Oa (hf:Ix P cfg all) {S:Nat→Bool} (hc:ir all S):∀ n,∃ m,m≤n∧∀ j q x,j < n→all[j]? = some q→L[j]? = some x→turns P cfg q x=true→S j=Nat.blt j m
  | 0=>⟨0,Nat.le_refl 0,fun j q x hj=>by omega⟩
  | n+1=>by
    obtain ⟨m,hm,h⟩:=Oa hf hc n
    by_cases hn:∃ q x,all[n]? = some q∧L[n]? = some x∧turns P cfg q x=true∧S n=true
    · obtain ⟨q,x,h1,h2,h3,h4⟩:=hn
      have hq3:Nat.ble 3 (ep (ct P cfg q.op))=true:=by unfold turns at h3; simp only [Bool.and_eq_true] at h3; exact h3.2
      have hk:ep (ct P cfg q.op)≠0:=by have:=Nat.le_of_ble_eq_true hq3; omega
      have gm:=F8 hf h1 hk fun T a e=>by rw [zO e] at hq3; simp at hq3
      refine ⟨n+1,Nat.le_refl _,fun j q' x' hj h5 h6 h7=>?_⟩
      have hb:Nat.blt j (n+1)=true:=by rw [Nat.blt_eq]; exact hj
      rw [hb]
      by_cases hjn:j=n
      · subst hjn; exact h4
      · have ahE:Nat.ble 3 (ep (ct P cfg q'.op))=true:=by unfold turns at h7; simp only [Bool.and_eq_true] at h7; exact h7.2
        exact hc n j h4 ((gm j q' h5 ahE).1 (by omega))
    · refine ⟨m,by omega,fun j q x hj h5 h6 h7=>?_⟩
      by_cases hjn:j=n
      · subst hjn
        have hb:Nat.blt j m=false:=by
          cases hb:Nat.blt j m with
          | false=>rfl
          | true=>rw [Nat.blt_eq] at hb; omega
        rw [hb]
        cases hs:S j with
        | false=>rfl
        | true=>exact absurd ⟨q,x,h5,h6,h7,hs⟩ hn
      · exact h j q x (by omega) h5 h6 h7
theorem ab8 (hf:Ix P cfg all) {S:Nat→Bool} (hc:ir all S):∃ m,(∀ j q x,all[j]? = some q→L[j]? = some x→turns P cfg q x=true→S j=Nat.blt j m)∧lH P cfg S all L 0 A0=lH P cfg (fun j=>Nat.blt j m) all L 0 A0:=by
  obtain ⟨m,_,h⟩:=Oa (L:=L) hf hc all.length
  have h' : ∀ j q x,all[j]? = some q→L[j]? = some x→turns P cfg q x=true→S j=Nat.blt j m:=fun j q x h1 h2 h3=>h j q x (List.getElem?_eq_some_iff.1 h1).1 h1 h2 h3
  exact ⟨m,h',AP fun j q x h1 h2 h3=>by rw [Nat.zero_add]; exact h' j q x h1 h2 h3⟩
def AtK (P:Program) (cfg:dQ) (all:List Oper) (L:List Out) (t0:bp) (A0:aj):Prop:=∀ i o x,all[i]? = some o→L[i]? = some x→∃ t1,(∀ y,t1.get y=(l8 (fun j=>Nat.blt j i) all L 0 t0).get y)∧(x.1=true→aG (qC (ct P cfg o.op) t1 (lH P cfg (fun j=>Nat.blt j i) all L 0 A0)) (x.2.1,x.2.2))
theorem XZ (tW:AtK P cfg all L t0 A0) (ZJ:JC P cfg all=true):∀ j,A0.next≤(lH P cfg (fun k=>Nat.blt k j) all L 0 A0).next
  | 0=>by rw [JJ (fun i=>by
      cases hb:Nat.blt i 0 with
      | false=>rfl
      | true=>rw [Nat.blt_eq] at hb; omega)]; exact Nat.le_refl _
  | j+1=>by
    have ih:=XZ tW ZJ j
    rcases XY (P:=P) (cfg:=cfg) (all:=all) (L:=L) (A0:=A0) j with ⟨q,x,h1,h2,h3,h4⟩ | ⟨_,h4⟩
    · rw [h4]
      obtain ⟨t1,_,hg⟩:=tW j q x h1 h2
      unfold turns at h3
      simp only [Bool.and_eq_true] at h3
      have hg:=hg h3.1
      have hp:=List.all_eq_true.1 ZJ q (List.mem_of_getElem? h1)
      simp only [Bool.or_eq_true,h3.2,Bool.not_true,Bool.false_eq_true,false_or] at hp
      rcases hp with hp | hp
      · exact Nat.le_trans ih (RB hp hg).1
      · obtain ⟨a2,P0⟩:=Option.isSome_iff_exists.1 hp
        unfold K9 at P0
        split at P0
        · rename_i T a3 v e
          rw [(N8 e hg).1]; exact ih
        · simp at P0
    · rw [h4]; exact ih
theorem X0 (hf:Ix P cfg all) {S:Nat→Bool} (hc:ir all S) {i:Nat} {o:Oper} {T:TypeId} {a:Operand} (ho:all[i]? = some o) (yj:o.op = .load T a) (fP:S i=false) (jv:ki all S i) (Xf : ¬ Lr P cfg all i)
    (tW:AtK P cfg all L t0 A0) {tn:bp} (ER:∀ y,tn.get y=(l8 (fun _=>true) all L 0 t0).get y) (aa8:JB tn A0.next (Br P cfg all)=true)
    {t1:bp} (rG:∀ y,t1.get y=(l8 (fun j=>Nat.blt j i) all L 0 t0).get y) {v:KV} {A1:aj} (hg:aG (qC (ct P cfg o.op) t1 (lH P cfg (fun j=>Nat.blt j i) all L 0 A0)) (v,A1)) :
    aG (qC (ct P cfg o.op) t1 (lH P cfg S all L 0 A0)) (v,lH P cfg S all L 0 A0):=by
  have hk:ep (ct P cfg o.op)≠0:=by rw [zO yj]; simp
  have hex:∃ p,p ∈ Br P cfg all∧p.2=a∧rJ i a all 0=true:=by
    refine Classical.byContradiction fun bR=>Xf fun j q hq h3=>?_
    rcases unordered hf ho hq hk h3 with h | ⟨p,h1,h2,h3,_⟩
    · exact h
    · obtain ⟨⟨T',e⟩,_⟩:=vy h2
      rw [yj] at e
      simp only [Op.load.injEq] at e
      exact absurd ⟨p,h1,e.2.symm,by rw [e.2]; exact h3⟩ bR
  obtain ⟨p,hp,W9,hnd⟩:=hex
  have qV:=VM ER rG hnd
  have ZY:=JK aa8 p hp
  have ZJ:=hf.plain p hp
  rw [yj] at hg ⊢
  have ahF:∀ A,qC (ct P cfg (.load T a)) t1 A=(MO P T A [kX t1 a]).map fun v=>(v,A):=fun _=>rfl
  rw [ahF] at hg ⊢
  obtain ⟨u,Cg,he⟩:=aG.map hg
  simp only [Prod.mk.injEq] at he
  obtain ⟨rfl,_⟩:=he
  clear hg
  have hg:=Cg
  clear Cg
  refine aG.vw (f:=fun v=>(v,lH P cfg S all L 0 A0)) ?_
  unfold Cj at ZY
  rw [W9,qV] at ZY
  cases hv:kX t1 a with
  | tp U Tc m k es acc=>rw [hv] at hg; exact hg
  | ptr b off=>
    rw [hv] at hg ZY
    simp only [Bool.and_eq_true] at ZY
    have hb:=ZY.1
    rw [Nat.blt_eq] at hb
    have iq:∃ cs e,(lH P cfg (fun j=>Nat.blt j i) all L 0 A0).get b=some (.row cs e):=by
      have hg:aG (match E7 P T,size? P T with
        | some ag,some n=>match (K.rowAt (lH P cfg (fun j=>Nat.blt j i) all L 0 A0) b).bind fun cs=>rH n (wK off cs) with
          | some l=>cond ag (.ok (.agg l)) (match l with | [v]=>.ok v | _=>.no)
          | none=>.no
        | _,_=>.no) u:=hg
      split at hg
      · split at hg
        · rename_i l hl
          obtain ⟨cs,h1,_⟩:=Option.bind_eq_some_iff.1 hl
          unfold K.rowAt at h1
          split at h1
          · rename_i bI e h2; exact ⟨bI,e,h2⟩
          · simp at h1
        · exact hg.elim
      · exact hg.elim
    obtain ⟨cs,e,iq⟩:=iq
    obtain ⟨m,hm,gm⟩:=ab8 (L:=L) (A0:=A0) hf hc
    have step:∀ k,(∀ q x,all[k]? = some q→L[k]? = some x→turns P cfg q x=true→¬ ((k < i→dV (az [] all) i k=true)∧(i < k→dV (az [] all) k i=true)))→
        ((lH P cfg (fun j=>Nat.blt j k) all L 0 A0).get b=some (.row cs e) ↔ (lH P cfg (fun j=>Nat.blt j (k+1)) all L 0 A0).get b=some (.row cs e)):=by
      intro k Jt
      rcases XY (P:=P) (cfg:=cfg) (all:=all) (L:=L) (A0:=A0) k with ⟨q,x,h1,h2,h3,h4⟩ | ⟨_,h4⟩
      · rw [h4]
        have Rr:=h3
        unfold turns at Rr
        simp only [Bool.and_eq_true] at Rr
        rcases unordered hf ho h1 hk Rr.2 with h5 | ⟨p',h5,h6,h7,h8⟩
        · exact absurd h5 (Jt q x h1 h2 h3)
        · obtain ⟨tk,htk,hgk⟩:=tW k q x h1 h2
          have hgk:=hgk Rr.1
          obtain ⟨⟨T',e1⟩,e2⟩:=vy h6
          rw [yj] at e1
          simp only [Op.load.injEq] at e1
          have X1:=JK aa8 p' h5
          unfold Cj at X1
          rw [← e1.2,qV,hv] at X1
          simp only [Bool.and_eq_true] at X1
          rcases e2 with ⟨e2,e3⟩ | ⟨U,a2,v2,e2,e3⟩
          · exact (RB e3 hgk).2 b (Nat.lt_of_lt_of_le hb (XZ tW ZJ k)) cs e
          · refine (N8 e3 hgk).2 b ?_ cs e
            rw [e2] at X1 h8
            have Jm:=VM ER htk h8
            have h9:=X1.2
            simp only at h9
            rw [Jm] at h9
            split at h9
            · rename_i b2 adG e4
              refine .inl ⟨b2,adG,e4,fun e5=>?_⟩
              subst e5
              simp at h9
            · rename_i U' Tc' c' i' k' e4; exact .inr ⟨_,_,_,_,_,e4⟩
            · simp at h9
      · rw [h4]
    have agF:(lH P cfg S all L 0 A0).get b=some (.row cs e):=by
      rw [gm]
      rcases Nat.le_total m i with hle | hle
      · have down:∀ d k,k+d=i→m≤k→(lH P cfg (fun j=>Nat.blt j k) all L 0 A0).get b=some (.row cs e):=by
          intro d
          induction d with
          | zero=>intro k hk _; have:k=i:=by omega
                  rw [this]; exact iq
          | succ d ih=>
            intro k hk OO
            refine (step k fun q x h1 h2 h3 xN=>?_).2 (ih (k+1) (by omega) (by omega))
            have h4:=hm k q x h1 h2 h3
            have h5:S k=true:=hc.ready hf.FD ho jv k (xN.1 (by omega))
            rw [h5] at h4
            have h4:=h4.symm
            rw [Nat.blt_eq] at h4
            omega
        exact down (i - m) m (by omega) (Nat.le_refl m)
      · have up:∀ d,i+d≤m→(lH P cfg (fun j=>Nat.blt j (i+d)) all L 0 A0).get b=some (.row cs e):=by
          intro d
          induction d with
          | zero=>intro _; exact iq
          | succ d ih=>
            intro hd
            refine (step (i+d) fun q x h1 h2 h3 xN=>?_).1 (ih (by omega))
            have h4:=hm (i+d) q x h1 h2 h3
            have h5:Nat.blt (i+d) m=true:=by rw [Nat.blt_eq]; omega
            rw [h5] at h4
            by_cases hd0:d=0
            · subst hd0
              rw [Nat.add_zero] at h4
              rw [fP] at h4; simp at h4
            · have:=hc (i+d) i h4 (xN.2 (by omega))
              rw [fP] at this; simp at this
        have:=up (m - i) (by omega)
        rwa [show i+(m - i)=m by omega] at this
    have yg:K.rowAt (lH P cfg S all L 0 A0) b=K.rowAt (lH P cfg (fun j=>Nat.blt j i) all L 0 A0) b:=by
      unfold K.rowAt
      rw [iq,agF]
    show aG (match E7 P T,size? P T with
        | some ag,some n=>match (K.rowAt (lH P cfg S all L 0 A0) b).bind fun cs=>rH n (wK off cs) with
          | some l=>cond ag (.ok (.agg l)) (match l with | [v]=>.ok v | _=>.no)
          | none=>.no
        | _,_=>.no) u
    rw [yg]
    exact hg
  | _=>rw [hv] at ZY; simp at ZY
end
theorem Te {R:Type} {cfg:dQ} {bq:mH R} (fT:o7 P cfg.pc) (hm:P.follows .mixedOrders=true) {id:Nat} {all:List Oper} {N base:Nat} (Fz:all.all (pk N)=true) {k:bp→aj→Option R} {r:R} {t:bp} {A:aj} {B:St} {ρ:ao} {a:Act} {w:World} {Q:Exit→Act→World→Prop}
    (xN:Xs P cfg all=true) (h:qy P cfg bq all (fun t' A'=>Bool.rec (motive:=fun _=>Option R) none (k t' A') (JB t' A.next (Br P cfg all))) all t A=some r) (ht:jw P E ρ t N a) (hj:KJ P E A B ρ base w)
    (hq:∀ t' E' A' B' ak a' w',k t' A' = some r→jw P E' ak t' N a'→a'.defers=a.defers→Ev P base E A B ρ w E' A' B' ak w'→Q .normal a' w'):(Code.region id ⟨all⟩ true).wp P Q a w:=by
  have hf:=XW xN
  obtain ⟨L,tn,An,kH,hk⟩:=Ln (fun o ho f args=>wT (hf.kind o ho) f args) h
  obtain ⟨hlen,ER,hAn,tW⟩:=kH.at
  have hdk:JB tn A.next (Br P cfg all)=true∧k tn An=some r:=by
    cases hd:JB tn A.next (Br P cfg all) with
    | false=>simp only [hd] at hk; exact absurd hk (by simp)
    | true=>simp only [hd] at hk; exact ⟨rfl,hk⟩
  obtain ⟨aa8,hk⟩:=hdk
  have ahG:AtK P cfg all L t A:=fun i o x ho hx=>by obtain ⟨t1,q1,_,q3,_⟩:=tW i o x ho hx; exact ⟨t1,q1,q3⟩
  have Ga:Ev P base E A B ρ w E A B ρ w.drew:=(dm.refl hj.k).ev (da.drew hj.s)
  refine wp_region_any hm ?_
  show wpAny P .any ⟨all⟩ Q all.length (Array.replicate all.length false) a w.drew
  have sS:∀ i,(Array.replicate all.length false).getD i false=false:=by
    intro i
    rw [Array.getD_eq_getD_getElem?,Array.getElem?_replicate]
    split <;> rfl
  let Inv:(Nat→Bool)→Act→World→Prop:=fun S a' w'=>∃ E' B' ak,a'.defers=a.defers∧Ev P base E A B ρ w.drew E' (lH P cfg S all L 0 A) B' ak w'∧jw P E' ak (l8 S all L 0 t) N a'
  refine yN hf.FD Inv ?_ ?_ ?_ all.length _ a w.drew (by simp) ?_ (fun i j hi _=>by
      have h2:(Array.replicate all.length false).getD i false=true:=hi
      rw [sS] at h2; simp at h2) ⟨E,B,ρ,rfl,?_,?_⟩
  ·
    rintro S S' a' w' QB ⟨E',B',ak,h1,h2,h3⟩
    have e1:lH P cfg S all L 0 A=lH P cfg S' all L 0 A:=AP fun i o x ho _ _=>by rw [Nat.zero_add]; exact QB i (List.getElem?_eq_some_iff.1 ho).1
    refine ⟨E',B',ak,h1,by rw [← e1]; exact h2,h3.same fun y=>?_⟩
    exact kr rfl fun i o ho _=>by rw [Nat.zero_add]; exact (QB i (List.getElem?_eq_some_iff.1 ho).1).symm
  ·
    rintro S a' w' i o ⟨E',B',ak,h1,h2,h3⟩ hc ho fP jv _
    have hi:i < L.length:=by rw [hlen]; exact (List.getElem?_eq_some_iff.1 ho).1
    have hx:L[i]? = some L[i]:=List.getElem?_eq_getElem hi
    obtain ⟨t1,rG,hw,X2,Jt⟩:=tW i o L[i] ho hx
    have zQ:∀ y ∈ mv P cfg all o,t1.get y=(l8 S all L 0 t).get y:=fun y hy=>by rw [rG y,RA hf.toT hc ho fP jv hy]
    have zz:=xT h3 (fun y hy=>zQ y (by unfold mv; exact List.mem_append_left _ hy)) hw
    have lW:∀ d,o.dst=some d→d < N:=by
      intro d ed
      have:=List.all_eq_true.1 Fz o (List.mem_of_getElem? ho)
      unfold pk at this
      rw [ed] at this
      simp only at this
      rw [Nat.blt_eq] at this
      exact this
    have SX:(⟨all⟩:Array Oper)[i]? = some o:=by simpa using ho
    unfold wpOp
    rw [SX]
    simp only [zz]
    cases EP:L[i].1 with
    | false=>
      simp only [Bool.false_eq_true,if_false]
      have hv:=Jt EP
      refine ⟨E',B',ak,by rw [put_defers]; exact h1,?_,?_⟩
      · rw [tK ho hx (by unfold turns; rw [EP]; rfl)]
        exact h2
      · refine (h3.put lW VC.undef).same fun y=>?_
        rw [Cy hf.toT hc ho hx fP y,hv]
    | true=>
      simp only [if_true]
      refine .inl ?_
      have hg:=X2 EP
      have hgS:∃ A1,aG (qC (ct P cfg o.op) t1 (lH P cfg S all L 0 A)) (L[i].2.1,A1)∧lH P cfg (a9 S i) all L 0 A=A1:=by
        by_cases Ai:ep (ct P cfg o.op)=0
        · refine ⟨_,adJ hg Ai,tK ho hx ?_⟩
          unfold turns
          rw [Ai,show Nat.ble 3 0=false from rfl,Bool.and_false]
        · by_cases gm:Lr P cfg all i
          · rw [Ls (L:=L) (A0:=A) hf hc ho fP jv gm]
            refine ⟨_,hg,?_⟩
            cases ER:turns P cfg o L[i] with
            | true=>exact ZX hf hc ho hx fP jv ER
            | false=>
              have h4:=wS hg (by simpa [turns,EP] using ER)
              rw [tK ho hx ER,Ls (L:=L) (A0:=A) hf hc ho fP jv gm,h4]
          · have hex:∃ T a,o.op = .load T a:=Classical.byContradiction fun bR=>gm (F8 hf ho Ai fun T a e=>bR ⟨T,a,e⟩)
            obtain ⟨T,a',yj⟩:=hex
            refine ⟨_,X0 hf hc ho yj fP jv gm ahG ER aa8 rG hg,tK ho hx ?_⟩
            unfold turns
            rw [zO yj,show Nat.ble 3 1=false from rfl,Bool.and_false]
      obtain ⟨A1,K2,Zk⟩:=hgS
      refine DU fT K2 (fun x VN=>Cz h3 fun y e=>zQ y ?_) h2.kj fun zM Bv kP v' tT h4 h5=>?_
      · unfold mv
        subst e
        exact List.mem_append_right _ (iU VN)
      · refine ⟨zM,Bv,kP,by rw [put_defers]; exact h1,?_,?_⟩
        · rw [Zk]; exact h2.trans h5
        · refine ((h3.mono h5.le (h5.ej.le h2.ej.dz)).put lW h4).same fun y=>?_
          rw [Cy hf.toT hc ho hx fP y]
  ·
    rintro S a' w' im ⟨E',B',ak,h1,h2,h3⟩
    have e1:lH P cfg S all L 0 A=An:=by rw [hAn]; exact AP fun i o x ho _ _=>by rw [Nat.zero_add]; exact im i (List.getElem?_eq_some_iff.1 ho).1
    rw [e1] at h2
    refine hq tn E' An B' ak a' w' hk (h3.same fun y=>?_) h1 (Ga.trans h2)
    rw [ER y]
    exact kr rfl fun i o ho _=>by rw [Nat.zero_add]; exact (im i (List.getElem?_eq_some_iff.1 ho).1).symm
  · simp
  · rw [JJ sS]
    exact .refl hj.k Ga.ej.dz
  · refine ht.same fun y=>?_
    rw [zP sS]
end Go.K
end
section
namespace Go.K
open Go Go.av
variable {P:Program} {E:Env}
theorem ahH {A:aj} {B:St} {bI:List Value} {bm:Nat} (h:ek P E A B):dm P E A B E A (B.new (.row bI bm true none)):=by
  have uc:∀ x,AR A E x→(B.new (.row bI bm true none)).get x=B.get x:=fun x q=>by have:=h.AK q; rw [St.cK,if_neg (by omega)]
  refine ⟨⟨?_,?_,?_,h.apart,h.inj,h.iH,h.gk,h.lM,h.live,?_,?_,?_,?_,?_,h.ar.gY (Env.le_refl _) (fun _=>rfl) (fun _ _ e=>e) (fun _ _ e=>e) (Nat.le_refl _) (by simp) uc (fun _ _ e=>.inl e) (fun _ _ e=>.inl e) (fun b g e=>.inl ⟨b,e⟩) (fun _ _=>by simp) h.mem⟩,Env.le_refl _,Nat.le_refl _,?_,fun _ _ e=>.inl e,fun _ _ e=>.inl e,fun _ _ e=>.inl e,fun _ _ _ _=>by simp,fun _ q=>.inl q,fun _ q=>.inl (q.of (fun _=>rfl) (fun _ _ e=>e) uc),fun _ _ q=>.inl (by simpa using q),fun _ q=>.inl (q.of (fun _=>rfl) (fun _ _ e=>e) uc fun _ _=>by simp),lO Q9⟩
  · intro b kR FY hb
    obtain ⟨x,c,h1,h2,h3⟩:=h.row b kR FY hb
    have:=h.fB b x h1
    exact ⟨x,c,h1,by rw [St.cK,if_neg (by omega)]; exact h2,h3⟩
  · intro b top zI hb
    rcases h.aW b top zI hb with h1 | ⟨g,h1,Rb,h2⟩
    · exact .inl h1
    · refine .inr ⟨g,h1,Rb,fun x hx c e own f k hg=>?_⟩
      rw [St.cK] at hg
      split at hg
      · simp at hg
      · exact h2 x (by simpa using hx) c e own f k hg
  · intro b r hb
    have:=h.lX b r hb
    rw [St.cK,if_neg (by omega)]
    exact h.z b r hb
  · intro b x hb; have:=h.fB b x hb; rw [St.bV]; omega
  · intro b r hb; have:=h.lX b r hb; rw [St.bV]; omega
  · intro b g hb; have:=h.ji b g hb; rw [St.bV]; omega
  · intro g hg; rw [St.bV] at hg; rw [St.jT]; exact h.fresh g (by omega)
  · intro g x hx; rw [St.jT] at hx; rw [St.bV]; have:=h.mem g x hx; omega
  · intro x hx _ _; rw [St.cK,if_neg (by omega)]
structure Fr (E:Env) (A:aj) (B:St) (b0 y:Nat):Prop where
  lo:b0≤y
  hi:y < B.next
  un:∀ b,E.κ b≠some y
  z:E.z y=none
  VO : ¬ AT A E B y
theorem Fr.step {A A' : aj} {B B' : St} {E' : Env} {b0 y base:Nat} {ρ ak:ao} {w w' : World} (h:Fr E A B b0 y) (k:Ev P base E A B ρ w E' A' B' ak w'):Fr E' A' B' b0 y∧B'.get y=B.get y:=by
  have hn:=k.ej.next
  refine ⟨⟨h.lo,Nat.lt_of_lt_of_le h.hi hn,fun b e=>?_,?_,fun q=>?_⟩,k.gY y h.hi h.un h.VO⟩
  · rcases k.new b y e with e | e
    · exact h.un b e
    · have:=h.hi; omega
  · cases hz:E'.z y with
    | none=>rfl
    | some r=>
      rcases k.qz y r hz with e | e | e
      · rw [h.z] at e; simp at e
      · exact absurd (.inl e) h.VO
      · have:=h.hi; omega
  · rcases k.mK y q with e | e
    · exact h.VO e
    · have:=h.hi; omega
theorem ahI {E0:Env} {A0 A:aj} {B0 B:St} {sR ρ ak:ao} {w0 w w' : World} {base y bm:Nat} {kR bI:List Value} (h:Ev P base E0 A0 B0 sR w0 E A B ρ w) (hy:Fr E A B B0.next y) (hold:B.get y=some (.row kR bm true none))
    (g:da base ρ B w ak (B.put y (.row bI bm true none)) w'):Ev P base E0 A0 B0 sR w0 E A (B.put y (.row bI bm true none)) ak w':=by
  have hs:=h.dz
  have uc:∀ x,AR A E x→(B.put y (.row bI bm true none)).get x=B.get x:=fun x q=>by
    rw [St.bO,if_neg]
    intro e
    subst e
    exact hy.VO (.inl q)
  have Bu:∀ q,AF A E (B.put y (.row bI bm true none)) q→AF A E B q:=fun q r=>r.of (fun _=>rfl) (fun _ _ e=>e) uc
  have hAT:∀ q,AT A E (B.put y (.row bI bm true none)) q→AT A E B q:=fun q r=>r.of (fun _=>rfl) (fun _ _ e=>e) uc fun _ _=>by simp
  refine ⟨⟨?_,?_,?_,hs.apart,hs.inj,hs.iH,hs.gk,hs.lM,hs.live,hs.fB,hs.lX,hs.ji,?_,?_,hs.ar.gY (Env.le_refl _) (fun _=>rfl) (fun _ _ e=>e) (fun _ _ e=>e) (Nat.le_refl _) (Nat.le_refl _) uc (fun _ _ e=>.inl e) (fun _ _ e=>.inl e) (fun b g e=>.inl ⟨b,e⟩) (fun _ _=>by simp) hs.mem⟩,h.ej.trans g,h.le,h.next,?_,h.new,h.qz,h.qA,?_,h.lB,fun q r=>h.lN q (Bu q r),?_,fun q r=>h.mK q (hAT q r),?_⟩
  · intro b cs e hb
    obtain ⟨x,c,h1,h2,h3⟩:=hs.row b cs e hb
    refine ⟨x,c,h1,?_,h3⟩
    rw [St.bO,if_neg (fun e=>hy.un b (by rw [← e]; exact h1))]
    exact h2
  · intro b top sz hb
    rcases hs.aW b top sz hb with h1 | ⟨q,h1,Rb,h2⟩
    · exact .inl h1
    · refine .inr ⟨q,h1,Rb,fun x hx c e own f k hg=>?_⟩
      rw [St.bO] at hg
      split at hg
      · simp at hg
      · exact h2 x (by simpa using hx) c e own f k hg
  · intro b r hb
    rw [St.bO,if_neg]
    · exact hs.z b r hb
    · intro e
      subst e
      rw [hy.z] at hb
      simp at hb
  · intro q hq; rw [St.pZ]; exact hs.fresh q hq
  · intro q x hx; rw [St.pZ] at hx; exact hs.mem q x hx
  · intro x hx hn ha
    rw [St.bO,if_neg (fun e=>by have:=hy.lo; omega)]
    exact h.gY x hx hn ha
  · intro q hq hn ha; rw [St.pZ]; exact h.n9 q hq hn ha
  · intro q x hx; rw [St.pZ] at hx; exact h.rK q x hx
  · intro x hx c e own bo hg
    rw [St.bO,if_neg (fun e=>by have:=hy.lo; omega)] at hg
    exact h.rows x hx c e own bo hg
theorem agG {E0:Env} {A0 A:aj} {B0 B:St} {sR ρ:ao} {w0 w:World} {base y bm:Nat} {cs:List KV} {bI:List Value} (h:Ev P base E0 A0 B0 sR w0 E A B ρ w) (hy:Fr E A B B0.next y) (hold:B.get y=some (.row bI bm true none)) (hv:aP P E cs bI) :
    E.le (E.kq A.next y)∧Ev P base E0 A0 B0 sR w0 (E.kq A.next y) (A.new (.row cs bm)) B ρ w:=by
  have hs:=h.dz
  have hle:E.le (E.kq A.next y):=⟨fun _ _ e=>e,fun b x e=>by
    have:=hs.gk b x e
    simp only [Env.kq]; rw [if_neg (by omega)]; exact e,fun _ _ e=>e,fun _ _ e=>e⟩
  have hA:∀ (b:Nat) (v:KV),(A.new (.row cs bm)).get b=some (.arr v)→A.get b=some (.arr v):=fun b v hb=>by
    rw [aj.cK] at hb
    split at hb
    · simp at hb
    · exact hb
  have Ra:∀ (b:Nat) (v:KV),(A.new (.row cs bm)).get b=some (.iD v)→A.get b=some (.iD v):=fun b v hb=>by
    rw [aj.cK] at hb
    split at hb
    · simp at hb
    · exact hb
  have oZ:∀ x,AR (A.new (.row cs bm)) (E.kq A.next y) x→AR A E x:=fun _ q=>q.of (fun _=>rfl) hA
  have Bu:∀ g,AF (A.new (.row cs bm)) (E.kq A.next y) B g→AF A E B g:=fun _ q=>q.of (fun _=>rfl) hA fun _ _=>rfl
  have hAT:∀ x,AT (A.new (.row cs bm)) (E.kq A.next y) B x→AT A E B x:=fun _ q=>q.of (fun _=>rfl) hA (fun _ _=>rfl) fun _ _=>rfl
  refine ⟨hle,⟨⟨?_,?_,hs.z,?_,?_,?_,?_,?_,?_,?_,hs.lX,hs.ji,hs.fresh,hs.mem,?_⟩,h.ej,Env.le_trans h.le hle,by have:=h.next; rw [aj.bV]; omega,h.gY,?_,h.qz,h.qA,h.n9,fun x q=>h.lB x (oZ x q),fun g q=>h.lN g (Bu g q),h.rK,fun x q=>h.mK x (hAT x q),h.rows⟩⟩
  · intro b kR FY hb
    rw [aj.cK] at hb
    split at hb
    · rename_i e
      simp at hb
      obtain ⟨rfl,rfl⟩:=hb
      exact ⟨y,bI,by simp [Env.kq,e],hold,hv.mono hle⟩
    · obtain ⟨x,c,h1,h2,h3⟩:=hs.row b kR FY hb
      exact ⟨x,c,hle.κ _ _ h1,h2,h3.mono hle⟩
  · intro b top zI hb
    rw [aj.cK] at hb
    split at hb
    · simp at hb
    · exact hs.aW b top zI hb
  · intro b x hb
    simp only [Env.kq] at hb ⊢
    split at hb
    · simp at hb; subst hb; exact hy.z
    · exact hs.apart b x hb
  · intro b c x hb hc
    simp only [Env.kq] at hb hc
    split at hb <;> split at hc
    · omega
    · simp at hb; subst hb; exact absurd hc (hy.un c)
    · simp at hc; subst hc; exact absurd hb (hy.un b)
    · exact hs.inj b c x hb hc
  · exact yP.new (E:=E.kq A.next y) (fun x z g a b c d e f hx hz=>hs.iH x z g a b c d e f hx hz) (.inl fun _ _=>by simp)
  · intro b x hb
    simp only [Env.kq] at hb
    rw [aj.bV]
    split at hb
    · omega
    · have:=hs.gk b x hb; omega
  · intro b g hb; have:=hs.lM b g hb; rw [aj.bV]; omega
  · intro b o hb
    rw [aj.cK] at hb
    rw [aj.bV]
    split at hb
    · omega
    · have:=hs.live b o hb; omega
  · intro b x hb
    simp only [Env.kq] at hb
    split at hb
    · simp at hb; have:=hy.hi; omega
    · exact hs.fB b x hb
  · have oy:∀ b,(E.kq A.next y).α b=E.α b:=fun _=>rfl
    have Aj:∀ c x,(E.kq A.next y).κ c=some x→(c=A.next∧x=y)∨E.κ c=some x:=fun c x e=>by
      simp only [Env.kq] at e
      split at e
      · rename_i e1; simp at e; exact .inl ⟨e1,e.symm⟩
      · exact .inr e
    refine ⟨fun b v hb=>(hs.ar.arr b v (hA _ _ hb)).mono hle rfl fun _ _ _ _=>rfl,fun b v hb=>(hs.ar.iD b v (Ra _ _ hb)).mono hle rfl,fun x q=>?_,fun b c v u x L N L' N' h1 h2 h3 h4=>hs.ar.inj b c v u x L N L' N' (hA _ _ h1) (hA _ _ h2) h3 h4,
      fun b c v u x z L N L' N' cs e own g k bI e' nC k' h1 h2 h3 h4 h5 h6=>hs.ar.qT b c v u x z L N L' N' cs e own g k bI e' nC k' (hA _ _ h1) (hA _ _ h2) h3 h4 h5 h6,fun b x e=>?_,fun b p e=>?_,fun b x L N e=>hs.ar.fB b x L N e,fun b v x L N cs e own g k h1 h2 h3=>?_,fun b v hb=>?_⟩
    · obtain ⟨h1,h2⟩:=hs.ar.z x (oZ x q)
      refine ⟨h1,fun c e=>?_⟩
      rcases Aj c x e with ⟨_,rfl⟩ | e
      · exact hy.VO (.inl (oZ _ q))
      · exact h2 c e
    · rcases Aj b x e with ⟨rfl,_⟩ | e
      · cases hb:E.α A.next with
        | none=>exact hb
        | some p=>have:=hs.ar.gk _ p hb; omega
      · exact hs.ar.QV b x e
    · have:=hs.ar.gk b p e; rw [aj.bV]; omega
    · obtain ⟨h4,h5,h6⟩:=hs.ar.pT b v x L N cs e own g k (hA _ _ h1) h2 h3
      refine ⟨h4,h5,fun z hz bR=>?_⟩
      obtain ⟨h7,h8,h9⟩:=h6 z hz bR
      refine ⟨h7,fun q=>h8 (oZ z q),fun c e'=>?_⟩
      rcases Aj c z e' with ⟨_,rfl⟩ | e'
      · exact hy.VO (.inr ⟨g,⟨b,v,x,L,N,cs,e,own,k,hA _ _ h1,h2,h3⟩,hz⟩)
      · exact h9 c e'
    · obtain ⟨h1,h2⟩:=hs.ar.nk b v (hA _ _ hb)
      rw [aj.bV]
      refine ⟨by omega,?_⟩
      cases hk:(E.kq A.next y).κ b with
      | none=>rfl
      | some x=>
        rcases Aj b x hk with ⟨e,_⟩ | e
        · omega
        · rw [h2] at e; simp at e
  · intro b x hb
    simp only [Env.kq] at hb
    split at hb
    · simp at hb; subst hb; exact .inr hy.lo
    · exact h.new b x hb
theorem RC {cfg:dQ} (fT:o7 P cfg.pc) {o:Oper} {p:Operand×List Operand} (hp:Cn o=some p) {t:bp} {A A' : aj} {v:KV} {base:Nat} {B:St} {ρ:ao} {a:Act} {w:World} {next:Act→World→Prop} {Q:Exit→Act→World→Prop}
    (h:aG (qC (xm P cfg t p) t A) (v,A')) (hv:∀ x ∈ p.1 :: p.2,VC P E ρ (kX t x) (a.eval x)) (hj:KJ P E A B ρ base w)
    (hk:∀ E' B' ak v' w',VC P E' ak v v'→Ev P base E A B ρ w E' A' B' ak w'→next (a.put o.dst v') w'):o.wp P a w next Q:=by
  classical
  have aI:compile P o.op = .call p.1 p.2:=by
    unfold Cn at hp
    split at hp
    · rename_i c ho hg
      split at hp
      · rename_i d hc
        simp at hp
        subst hp
        rw [ho]
        exact N5 (cfg:=dQ.none) (show ko P dQ.none c=_ by unfold ko; rw [hc])
      · simp at hp
    · simp at hp
  unfold xm at h
  split at h
  · rename_i g hfv
    split at h
    · rename_i F hF
      obtain ⟨u,h1,h2⟩:=aG.map h
      simp only [Prod.mk.injEq] at h2
      obtain ⟨rfl,rfl⟩:=h2
      obtain ⟨hlen,hf⟩:=aG.cond h1
      obtain ⟨hg,kH⟩:=fT g F hF _ _ hf (Nat.eq_of_beq_eq_true hlen)
      have bc:=mf P o
      rw [aI] at bc
      obtain ⟨em,h3,h4⟩:=bS (xs:=p.1 :: p.2) hv
      obtain ⟨y,ys,e,h5,h6⟩:=h3.cons_inv
      simp only [List.map_cons,List.cons.injEq] at e
      obtain ⟨rfl,rfl⟩:=e
      rw [hfv] at h5
      obtain ⟨l,m,e5,e6,e7⟩:=h5.AI
      have:=e6.bJ
      subst this
      have:=e7.bJ
      subst this
      obtain ⟨bP,h7,h8⟩:=bc.2 ρ em a.eval g (p.2.map em) h4 hg.1 (by rw [e5]; simp only [iQ]; rw [hg.1]; simp) hg.2
      unfold Oper.wp
      rw [h8 w]
      refine (kH E A B ρ base w bP ⟨p.2.map em,by rw [sg]; exact h6,h7⟩ hj).mono ?_
      rintro e w' ⟨v',E',B',ak,rfl,h9,vi⟩
      exact hk E' B' ak v' w' h9 vi
    · exact h.elim
  · exact h.elim
inductive Ob (P:Program) (cfg:dQ) (all:List Oper) (A:aj):List Oper→bp→List Out→bp→Prop where
  | nil {t:bp} : Ob P cfg all A [] t [] t
  | cons {o:Oper} {os:List Oper} {t t1 t' : bp} {wd:Bool} {v:KV} {L:List Out}
      (same:∀ i,t1.get i=t.get i) (want:DW all o t wd)
      (yes:wd=true→(mI all o=true∧v = .aq)∨(mI all o=false∧(aG (qC (ct P cfg o.op) t1 A) (v,A)∨∃ p,Cn o=some p∧aG (qC (xm P cfg t1 p) t1 A) (v,A)))) (no:wd=false→v=pg∧mI all o=false)
      (rest:Ob P cfg all A os (ow t1 o.dst v) L t'):Ob P cfg all A (o :: os) t ((wd,v,A) :: L) t'
theorem oB {o:Oper} {T:TypeId} {d:Tmp} (h:fq o=some (T,d)):o.op = .alloc T∧o.guard=none∧o.dst=some d:=by
  unfold fq at h
  split at h
  · rename_i T' d' h1 h2 h3
    simp at h
    obtain ⟨rfl,rfl⟩:=h
    exact ⟨h1,h2,h3⟩
  · simp at h
theorem xU {all:List Oper} {o:Oper} {T:TypeId} {d:Tmp} {x:Operand} (h:pw all o=some (T,d,x)):o.op = .store T (.tmp d) x∧o.guard=none∧o.dst=none∧r9 d all=true:=by
  unfold pw at h
  split at h
  · rename_i T' d' x' h1 h2 h3
    cases hb:r9 d' all with
    | false=>rw [hb] at h; simp at h
    | true=>
      rw [hb,cond_true] at h
      simp at h
      obtain ⟨rfl,rfl,rfl⟩:=h
      exact ⟨h1,h2,h3,hb⟩
  · simp at h
theorem JL {all:List Oper} {o:Oper} (h:mI all o=true):(∃ T d,fq o=some (T,d))∨∃ T d x,pw all o=some (T,d,x):=by
  unfold mI at h
  simp only [Bool.or_eq_true,Option.isSome_iff_exists] at h
  rcases h with ⟨⟨T,d⟩,h⟩ | ⟨⟨T,d,x⟩,h⟩
  · exact .inl ⟨T,d,h⟩
  · exact .inr ⟨T,d,x,h⟩
theorem ZZ {all:List Oper} {o:Oper} (h:mI all o=true):o.guard=none:=by
  rcases JL h with ⟨T,d,h⟩ | ⟨T,d,x,h⟩
  · exact (oB h).2.1
  · exact (xU h).2.1
theorem zR {R:Type} {cfg:dQ} {bq:mH R} {all:List Oper} {k:bp→aj→Option R} {r:R} : ∀ {os:List Oper} {t:bp} {A:aj},(∀ o ∈ os,mI all o=true∨ep (ct P cfg o.op)≤1∨(Cn o).isSome=true)→QQ P cfg bq all k os t A=some r→
    ∃ L t',Ob P cfg all A os t L t'∧k t' A=some r
  | [],t,A,_,h=>⟨[],t,.nil,h⟩
  | o :: os,t,A,hn,h=>by
    have h:ZC P cfg bq all o (QQ P cfg bq all k os) t A=some r:=h
    have Dq:=fun q hq=>hn q (List.mem_cons_of_mem o hq)
    unfold ZC at h
    cases hb:mI all o with
    | true=>
      rw [hb] at h
      have h:QQ P cfg bq all k os (ow t o.dst .aq) A=some r:=h
      obtain ⟨L,t',h1,h2⟩:=zR Dq h
      exact ⟨_,t',.cons (fun _=>rfl) (.inl ⟨ZZ hb,rfl⟩) (fun _=>.inl ⟨hb,rfl⟩) (fun e=>by simp at e) h1,h2⟩
    | false=>
      rw [hb] at h
      cases Z0:Cn o with
      | some p=>
        simp only [Z0] at h
        have h:K8 bq t A (fun v A=>QQ P cfg bq all k os (ow t o.dst v) A) (xm P cfg t p)=some r:=h
        have hg:o.guard=none:=by
          unfold Cn at Z0
          split at Z0
          · assumption
          · simp at Z0
        have Hg:xm P cfg t p = .bad∨∃ g f,xm P cfg t p = .yk g f p.2:=by
          unfold xm
          split
          · split
            · exact .inr ⟨_,_,rfl⟩
            · exact .inl rfl
          · exact .inl rfl
        obtain ⟨v,A1,h1,h2⟩:=AO (fun f args e=>by
          rcases Hg with h | ⟨g,f',h⟩ <;> rw [h] at e <;> simp at e) h
        have e:A1=A:=by
          rcases Hg with h | ⟨g,f',h⟩
          · rw [h] at h1; exact h1.elim
          · rw [h] at h1
            obtain ⟨u,_,h3⟩:=aG.map h1
            simp at h3
            exact h3.2.symm
        subst e
        obtain ⟨L,t',h3,h4⟩:=zR Dq h2
        exact ⟨_,t',.cons (fun _=>rfl) (.inl ⟨hg,rfl⟩) (fun _=>.inr ⟨hb,.inr ⟨p,Z0,h1⟩⟩) (fun e=>by simp at e) h3,h4⟩
      | none=>
      simp only [Z0] at h
      have hk:ep (ct P cfg o.op)≤1:=by
        rcases hn o (by simp) with e | e | e
        · rw [hb] at e; simp at e
        · exact e
        · rw [Z0] at e; simp at e
      have hk3:Nat.ble 3 (ep (ct P cfg o.op))=false:=by
        cases hc:Nat.ble 3 (ep (ct P cfg o.op)) with
        | false=>rfl
        | true=>have:=Nat.le_of_ble_eq_true hc; omega
      have hnc:=wT (P:=P) (cfg:=cfg) (o:=o) (by omega)
      have h:ub P cfg bq all o (QQ P cfg bq all k os) t A=some r:=h
      unfold ub at h
      cases hg:o.guard with
      | none=>
        rw [hg] at h
        obtain ⟨v,A1,h1,h2⟩:=AO hnc h
        have e:=wS h1 hk3
        subst e
        obtain ⟨L,t',h3,h4⟩:=zR Dq h2
        exact ⟨_,t',.cons (fun _=>rfl) (.inl ⟨hg,rfl⟩) (fun _=>.inr ⟨hb,.inl h1⟩) (fun e=>by simp at e) h3,h4⟩
      | some p=>
        obtain ⟨j,want⟩:=p
        rw [hg] at h
        obtain ⟨d,hd,h⟩:=DV h
        rcases h with ⟨b,t1,h1,h2,h3⟩ | ⟨l,h1,h2⟩
        · rcases h3 with ⟨h3,h4⟩ | ⟨h3,h4⟩
          · obtain ⟨v,A1,h5,h6⟩:=AO hnc h4
            have e:=wS h5 hk3
            subst e
            obtain ⟨L,t',h7,h8⟩:=zR Dq h6
            exact ⟨_,t',.cons h2 (.inr ⟨j,want,d,hg,hd,.inl ⟨b,h1,h3.symm⟩⟩) (fun _=>.inr ⟨hb,.inl h5⟩) (fun e=>by simp at e) h7,h8⟩
          · obtain ⟨L,t',h7,h8⟩:=zR Dq h4
            exact ⟨_,t',.cons h2 (.inr ⟨j,want,d,hg,hd,.inl ⟨b,h1,h3.symm⟩⟩) (fun e=>by simp at e) (fun _=>⟨rfl,hb⟩) h7,h8⟩
        · obtain ⟨L,t',h7,h8⟩:=zR Dq h2
          exact ⟨_,t',.cons (fun _=>rfl) (.inr ⟨j,want,d,hg,hd,.inr ⟨l,h1,rfl⟩⟩) (fun e=>by simp at e) (fun _=>⟨rfl,hb⟩) h7,h8⟩
theorem Ob.at {cfg:dQ} {all:List Oper} {A:aj} : ∀ {os:List Oper} {t t' : bp} {L:List Out},Ob P cfg all A os t L t'→
    L.length=os.length∧(∀ y,t'.get y=(l8 (fun _=>true) os L 0 t).get y)∧
    ∀ i o x,os[i]? = some o→L[i]? = some x→∃ t1,(∀ y,t1.get y=(l8 (fun j=>Nat.blt j i) os L 0 t).get y)∧DW all o t1 x.1∧(x.1=true→(mI all o=true∧x.2.1 = .aq)∨(mI all o=false∧(aG (qC (ct P cfg o.op) t1 A) (x.2.1,A)∨∃ p,Cn o=some p∧aG (qC (xm P cfg t1 p) t1 A) (x.2.1,A))))∧(x.1=false→x.2.1=pg∧mI all o=false)
  | _,_,_,_,.nil=>⟨rfl,fun _=>rfl,fun i o x ho=>by simp at ho⟩
  | o :: os,t,t',(wd,v,_) :: L,.cons (t1:=t1) same want yes no rest=>by
    obtain ⟨h1,h2,h4⟩:=rest.at
    have En:∀ y,(ow t1 o.dst v).get y=(ow t o.dst v).get y:=fun y=>by rw [sh,sh,same]
    refine ⟨by simp [h1],fun y=>?_,fun i q x hq hx=>?_⟩
    · rw [h2 y]
      simp only [l8,cond_true]
      rw [zN]
      exact kr (En y) fun _ _ _ _=>rfl
    · cases i with
      | zero=>
        simp at hq hx
        subst hq hx
        have e0:∀ (os:List Oper) (L:List Out) (k:Nat) (t:bp),l8 (fun j=>Nat.blt j 0) os L k t=t:=by
          intro os
          induction os with
          | nil=>intro L k t; cases L <;> rfl
          | cons o os ih=>intro L k t; cases L with
            | nil=>rfl
            | cons x L=>simp only [l8]; exact ih L _ t
        refine ⟨t1,fun y=>by rw [e0]; exact same y,?_,yes,no⟩
        rcases want with h | ⟨j,wt,d,e2,e3,e4⟩
        · exact .inl h
        · exact .inr ⟨j,wt,d,e2,e3,by rw [same]; exact e4⟩
      | succ i=>
        obtain ⟨t2,h5,h6,h7,h8⟩:=h4 i q x (by simpa using hq) (by simpa using hx)
        have hsh:(fun j=>Nat.blt (j+1) (i+1))=fun j=>Nat.blt j i:=by
          funext j
          cases hb:Nat.blt j i with
          | true=>rw [Nat.blt_eq] at hb ⊢; omega
          | false=>
            cases hc:Nat.blt (j+1) (i+1) with
            | false=>rfl
            | true=>rw [Nat.blt_eq] at hc; rw [show Nat.blt j i=true from by rw [Nat.blt_eq]; omega] at hb; simp at hb
        have h01:Nat.blt 0 (i+1)=true:=by rw [Nat.blt_eq]; omega
        refine ⟨t2,fun y=>?_,h6,h7,h8⟩
        rw [h5 y]
        simp only [l8,h01,cond_true]
        rw [zN,hsh]
        exact kr (En y) fun _ _ _ _=>rfl
theorem zS {cfg:dQ} {all:List Oper} {b:List Nat} {i:Nat} {y:Oper} : ∀ (xs:List Oper) (k:Nat),zh P cfg all b i y xs k=true→∀ (j:Nat) (x:Oper),xs[j]? = some x→k+j < i→qe P cfg all x y=true→dV b i (k+j)=true
  | [],k,_,j,x,hx,_,_=>by simp at hx
  | x0 :: xs,k,h,0,x,hx,aL,hc=>by
    simp at hx
    subst hx
    simp only [zh,Bool.and_eq_true,Bool.or_eq_true,Bool.not_eq_true'] at h
    rcases h.1 with (h1 | h1) | h1
    · have:=Nat.le_of_ble_eq_true h1; omega
    · rw [hc] at h1; simp at h1
    · exact h1
  | x0 :: xs,k,h,j+1,x,hx,aL,hc=>by
    simp only [zh,Bool.and_eq_true] at h
    have:=zS xs (k+1) h.2 j x (by simpa using hx) (by omega) hc
    rwa [show k+1+j=k+(j+1) by omega] at this
theorem wU {cfg:dQ} {all:List Oper} {b:List Nat} : ∀ (os:List Oper) (k:Nat),uG P cfg all b os k=true→∀ (i:Nat) (o:Oper),os[i]? = some o→zh P cfg all b (k+i) o all 0=true
  | [],k,_,i,o,ho=>by simp at ho
  | o0 :: os,k,h,0,o,ho=>by
    simp at ho
    subst ho
    simp only [uG,Bool.and_eq_true] at h
    exact h.1
  | o0 :: os,k,h,i+1,o,ho=>by
    simp only [uG,Bool.and_eq_true] at h
    have:=wU os (k+1) h.2 i o (by simpa using ho)
    rwa [show k+1+i=k+(i+1) by omega] at this
theorem IA {i:Nat} {d:Tmp} : ∀ (os:List Oper) (k:Nat),Cm i d os k=true→∀ (j:Nat) (o:Oper),os[j]? = some o→k+j≠i→o.dst≠some d
  | [],k,_,j,o,ho,_=>by simp at ho
  | q :: os,k,h,0,o,ho,bR=>by
    simp at ho
    subst ho
    simp only [Cm,Bool.and_eq_true,Bool.or_eq_true,Bool.not_eq_true'] at h
    rcases h.1 with h1 | h1
    · exact absurd (Nat.eq_of_beq_eq_true h1) (by simpa using bR)
    · intro e
      rw [e,vz (by simp)] at h1
      simp at h1
  | q :: os,k,h,j+1,o,ho,bR=>by
    simp only [Cm,Bool.and_eq_true] at h
    exact IA os (k+1) h.2 j o (by simpa using ho) (by omega)
theorem Ex {all:List Oper} {i:Nat} {d:Tmp} : ∀ (os:List Oper) (k:Nat),wM all i d os k=true→∀ (j:Nat) (o:Oper),os[j]? = some o→k+j≠i→∀ T x,pw all o≠some (T,d,x)
  | [],k,_,j,o,ho,_=>by simp at ho
  | q :: os,k,h,0,o,ho,bR=>by
    simp at ho
    subst ho
    simp only [wM,Bool.and_eq_true,Bool.or_eq_true] at h
    intro T x e
    rcases h.1 with h1 | h1
    · exact absurd (Nat.eq_of_beq_eq_true h1) (by simpa using bR)
    · rw [e] at h1
      simp at h1
  | q :: os,k,h,j+1,o,ho,bR=>by
    simp only [wM,Bool.and_eq_true] at h
    exact Ex os (k+1) h.2 j o (by simpa using ho) (by omega)
theorem Gb {d:Tmp} : ∀ {os:List Oper},r9 d os=true→∃ (j:Nat) (o:Oper) (T:TypeId),os[j]? = some o∧fq o=some (T,d)
  | [],h=>by simp [r9] at h
  | o :: os,h=>by
    simp only [r9,Bool.or_eq_true] at h
    rcases h with h | h
    · split at h
      · rename_i T e he
        have:=Nat.eq_of_beq_eq_true h
        subst this
        exact ⟨0,o,T,rfl,he⟩
      · simp at h
    · obtain ⟨j,q,T,h1,h2⟩:=Gb h
      exact ⟨j+1,q,T,by simpa using h1,h2⟩
structure T3 (P:Program) (cfg:dQ) (all:List Oper):Prop where
  ord:Ry P cfg all
  kind:∀ o ∈ all,mI all o=true∨ep (ct P cfg o.op)≤1∨(Cn o).isSome=true
  dst:∀ (i:Nat) (o:Oper) (T:TypeId) (d:Tmp),all[i]? = some o→fq o=some (T,d)→∀ (j:Nat) (q:Oper),all[j]? = some q→j≠i→q.dst≠some d
  st:∀ (i:Nat) (o:Oper) (T:TypeId) (d:Tmp) (x:Operand),all[i]? = some o→pw all o=some (T,d,x)→rJ i x all 0=true∧(∀ (j:Nat) (q:Oper),all[j]? = some q→j≠i→∀ T' x',pw all q≠some (T',d,x'))∧(∃ (j:Nat) (q:Oper) (T' : TypeId),j < i∧all[j]? = some q∧fq q=some (T',d))∧x≠.tmp d
theorem Gc {all:List Oper} : ∀ (os:List Oper) (k:Nat),FQ all os k=true→∀ (i:Nat) (o:Oper),os[i]? = some o→
    (∀ T d,fq o=some (T,d)→Cm (k+i) d all 0=true)∧∀ T d x,pw all o=some (T,d,x)→rJ (k+i) x all 0=true∧wM all (k+i) d all 0=true∧r9 d (all.take (k+i))=true∧x≠.tmp d
  | [],k,_,i,o,ho=>by simp at ho
  | o0 :: os,k,h,0,o,ho=>by
    simp at ho
    subst ho
    simp only [FQ,Bool.and_eq_true] at h
    refine ⟨fun T d e=>?_,fun T d x e=>?_⟩
    · have:=h.1.1
      rw [e] at this
      exact this
    · have:=h.1.2
      rw [e] at this
      simp only [Bool.and_eq_true,Bool.not_eq_true'] at this
      refine ⟨this.1.1.1,this.1.1.2,this.1.2,fun e2=>?_⟩
      have h3:=this.2
      rw [e2,vz (by simp [ou])] at h3
      simp at h3
  | o0 :: os,k,h,i+1,o,ho=>by
    simp only [FQ,Bool.and_eq_true] at h
    have:=Gc os (k+1) h.2 i o (by simpa using ho)
    rwa [show k+1+i=k+(i+1) by omega] at this
theorem X3 {cfg:dQ} {all:List Oper} (h:Lb P cfg all=true):T3 P cfg all:=by
  unfold Lb at h
  simp only [Bool.and_eq_true] at h
  obtain ⟨⟨⟨h1,h2⟩,h3⟩,h4⟩:=h
  refine ⟨⟨qv h1,fun {i j x y} hy hx aL hc=>?_⟩,fun o ho=>?_,fun i o T d ho he j q hq bR=>?_,fun i o T d x ho he=>?_⟩
  · have:=wU all 0 h3 i y hy
    rw [Nat.zero_add] at this
    have:=zS all 0 this j x hx (by omega) hc
    rwa [Nat.zero_add] at this
  · have:=List.all_eq_true.1 h2 o ho
    simp only [Bool.or_eq_true] at this
    rcases this with (h | h) | h
    · exact .inl h
    · exact .inr (.inl (Nat.le_of_ble_eq_true h))
    · exact .inr (.inr h)
  · have:=(Gc all 0 h4 i o ho).1 T d he
    rw [Nat.zero_add] at this
    exact IA all 0 this j q hq (by omega)
  · have:=(Gc all 0 h4 i o ho).2 T d x he
    rw [Nat.zero_add] at this
    refine ⟨this.1,fun j q hq bR T' x'=>Ex all 0 this.2.1 j q hq (by omega) T' x',?_,this.2.2.2⟩
    obtain ⟨j,q,T',h5,h6⟩:=Gb this.2.2.1
    rw [List.getElem?_take] at h5
    split at h5
    · rename_i aL; exact ⟨j,q,T',aL,h5,h6⟩
    · simp at h5
theorem xp {all:List Oper} {d:Tmp} {T:TypeId} {x:Operand} : ∀ {os:List Oper},px all d os=some (T,x)→∃ (i:Nat) (o:Oper),os[i]? = some o∧pw all o=some (T,d,x)
  | [],h=>by simp [px] at h
  | o :: os,h=>by
    unfold px at h
    split at h
    · rename_i T' e x' he
      cases hb:Nat.beq d e with
      | true=>
        rw [hb,cond_true] at h
        have:=Nat.eq_of_beq_eq_true hb
        subst this
        simp at h
        obtain ⟨rfl,rfl⟩:=h
        exact ⟨0,o,rfl,he⟩
      | false=>
        rw [hb,cond_false] at h
        obtain ⟨i,q,h1,h2⟩:=xp h
        exact ⟨i+1,q,by simpa using h1,h2⟩
    · obtain ⟨i,q,h1,h2⟩:=xp h
      exact ⟨i+1,q,by simpa using h1,h2⟩
theorem xq {all:List Oper} {d:Tmp} : ∀ {os:List Oper},px all d os=none→∀ (i:Nat) (o:Oper),os[i]? = some o→∀ T x,pw all o≠some (T,d,x)
  | [],_,i,o,ho=>by simp at ho
  | q :: os,h,i,o,ho=>by
    unfold px at h
    intro T x e
    split at h
    · rename_i T' e' x' he
      cases hb:Nat.beq d e' with
      | true=>rw [hb] at h; simp at h
      | false=>
        rw [hb,cond_false] at h
        cases i with
        | zero=>
          simp at ho
          subst ho
          rw [he] at e
          simp at e
          rw [e.2.1,Nat.beq_refl] at hb
          simp at hb
        | succ i=>exact xq h i o (by simpa using ho) T x e
    · rename_i hn
      cases i with
      | zero=>simp at ho; subst ho; rw [hn] at e; simp at e
      | succ i=>exact xq h i o (by simpa using ho) T x e
theorem zT {all:List Oper} {t:bp} {T:TypeId} {d:Tmp} {cs:List KV} (h:sa P all t T d=some cs):∃ z,pW P T=some z∧flat z=true∧z.cells.toList.all scalar=true∧fS (gH z).cells=true∧some (gH z).cells.length=size? P T∧
    (∀ T' x,px all d all=some (T',x)→T=T'∧some (kX t x).cells.length=size? P T∧fS (kX t x).cells=true∧cs=(kX t x).cells)∧(px all d all=none→cs=(gH z).cells):=by
  unfold sa at h
  split at h
  · rename_i z hz
    cases hb:(flat z && z.cells.toList.all scalar && fS (gH z).cells && decide (some (gH z).cells.length=size? P T)) with
    | false=>rw [hb] at h; simp at h
    | true=>
      rw [hb,cond_true] at h
      simp only [Bool.and_eq_true,decide_eq_true_eq] at hb
      refine ⟨z,hz,hb.1.1.1,hb.1.1.2,hb.1.2,hb.2,fun T' x hs=>?_,fun hs=>?_⟩
      · rw [hs] at h
        simp only at h
        cases hc:(Nat.beq T T' && decide (some (kX t x).cells.length=size? P T) && fS (kX t x).cells) with
        | false=>rw [hc] at h; simp at h
        | true=>
          rw [hc,cond_true] at h
          simp only [Bool.and_eq_true,decide_eq_true_eq] at hc
          exact ⟨Nat.eq_of_beq_eq_true hc.1.1,hc.1.2,hc.2,by simpa using h.symm⟩
      · rw [hs] at h
        simpa using h.symm
  · simp at h
theorem JM {R:Type} {all:List Oper} {t0:bp} {k:bp→aj→Option R} {r:R} : ∀ {os:List Oper} {t:bp} {A:aj},NU P all t0 k os t A=some r→∀ o ∈ os,∀ T d,fq o=some (T,d)→∃ cs,sa P all t0 T d=some cs
  | [],_,_,_,o,ho,_,_,_=>by simp at ho
  | q :: os,t,A,h,o,ho,T,d,he=>by
    have h:Option.rec (motive:=fun _=>Option R) (NU P all t0 k os t A) (fun p=>
      Option.rec (motive:=fun _=>Option R) none (fun cs=>NU P all t0 k os (t.set (.ptr A.next 0) p.2) (A.new (.row cs (kF P p.1)))) (sa P all t0 p.1 p.2)) (fq q)=some r:=h
    cases hq:fq q with
    | none=>
      rw [hq] at h
      rcases List.mem_cons.1 ho with rfl | ho
      · rw [hq] at he; simp at he
      · exact JM h o ho T d he
    | some p=>
      rw [hq] at h
      cases hc:sa P all t0 p.1 p.2 with
      | none=>simp only [hc] at h; exact absurd h (by simp)
      | some cs=>
        simp only [hc] at h
        rcases List.mem_cons.1 ho with rfl | ho
        · rw [hq] at he
          simp at he
          subst he
          exact ⟨cs,hc⟩
        · exact JM h o ho T d he
end Go.K
end
section
namespace Go.K
open Go Go.av
variable {P:Program} {E:Env}
theorem Oc:∀ {l vs:List Value},l.length=vs.length→eS 0 l vs=some vs
  | [],[],_=>rfl
  | [],_ :: _,h=>by simp at h
  | _ :: _,[],h=>by simp at h
  | x :: l,v :: vs,h=>by rw [rv,Oc (by simpa using h)]; rfl
theorem afm {a:Act} {d:Tmp} {v:Value} (h:d < a.tmps.size):(a.put (some d) v).tmps.getD d undef=v:=by
  simp [Act.put,Array.getD_eq_getD_getElem?,h]
theorem aa9 {a:Act} {dst:Option Tmp} {d:Tmp} {v:Value} (h:dst≠some d):(a.put dst v).tmps.getD d undef=a.tmps.getD d undef:=by
  cases dst with
  | none=>rfl
  | some e=>
    have bR:e≠d:=fun q=>h (by rw [q])
    simp [Act.put,Array.getD_eq_getD_getElem?,Array.getElem?_setIfInBounds_ne bR]
def ahJ (P:Program) (E:Env) (all:List Oper) (tn:bp) (S:Nat→Bool) (T:TypeId) (d:Tmp) (bI:List Value):Prop:=
  some bI.length=size? P T∧(∀ (i:Nat) (o:Oper) T' x,all[i]? = some o→pw all o=some (T',d,x)→S i=true→aP P E (kX tn x).cells bI)∧
    ((∀ (i:Nat) (o:Oper) T' x,all[i]? = some o→pw all o=some (T',d,x)→S i=false)→∃ z,pW P T=some z∧aP P E (gH z).cells bI)
def Pu (P:Program) (E:Env) (A:aj) (B:St) (ρ:ao) (b0:Nat) (all:List Oper) (tn:bp) (S:Nat→Bool) (a:Act) (y:Nat→Nat):Prop:=
  ∀ (j:Nat) (o:Oper) (T:TypeId) (d:Tmp),all[j]? = some o→fq o=some (T,d)→S j=true→
    VR ρ (u4 (y j)) (a.tmps.getD d undef)∧Fr E A B b0 (y j)∧(∃ bI,B.get (y j)=some (.row bI (kF P T) true none)∧ahJ P E all tn S T d bI)∧
    ∀ (j' : Nat) (o' : Oper) (T' : TypeId) (d' : Tmp),all[j']? = some o'→fq o' = some (T',d')→S j' = true→y j' = y j→j' = j
theorem Bw {all:List Oper} {o:Oper} {T:TypeId} {d:Tmp} (h:fq o=some (T,d)):pw all o=none:=by
  cases hb:pw all o with
  | none=>rfl
  | some p=>
    obtain ⟨T',d',x⟩:=p
    have h1:=(oB h).1
    have h2:=(xU hb).1
    rw [h1] at h2
    simp at h2
theorem iW {S:Nat→Bool} {i j:Nat} (h:j≠i):a9 S i j=S j:=by
  unfold a9
  cases hb:Nat.beq j i with
  | false=>simp
  | true=>exact absurd (Nat.eq_of_beq_eq_true hb) h
theorem Od {S:Nat→Bool} {i:Nat} : a9 S i i=true:=by simp [a9]
theorem Pu.step {E' : Env} {A:aj} {B B' : St} {ρ ak:ao} {base b0:Nat} {w w' : World} {all:List Oper} {tn:bp} {S:Nat→Bool} {a:Act} {y:Nat→Nat} {i:Nat} {o:Oper} {v' : Value} {cfg:dQ} (h:Pu P E A B ρ b0 all tn S a y) (hf:T3 P cfg all)
    (ho:all[i]? = some o) (hb:mI all o=false) (k:Ev P base E A B ρ w E' A B' ak w') (gL:ρ.le ak):Pu P E' A B' ak b0 all tn (a9 S i) (a.put o.dst v') y:=by
  intro j q T d hq he hS
  have bR:∀ (m:Nat) (q:Oper),all[m]? = some q→mI all q=true→m≠i:=fun m q hm tt e=>by
    subst e
    rw [ho] at hm
    simp at hm
    subst hm
    rw [hb] at tt
    simp at tt
  have hal:∀ {q:Oper} {T:TypeId} {d:Tmp},fq q=some (T,d)→mI all q=true:=fun e=>by unfold mI; rw [e]; rfl
  have gm:∀ {q:Oper} {T:TypeId} {d:Tmp} {x:Operand},pw all q=some (T,d,x)→mI all q=true:=fun e=>by unfold mI; rw [e]; simp
  have VP:=bR j q hq (hal he)
  rw [iW VP] at hS
  obtain ⟨h1,h2,⟨bI,h3,h4,h5,h6⟩,h7⟩:=h j q T d hq he hS
  obtain ⟨h8,h9⟩:=h2.step k
  refine ⟨?_,h8,⟨bI,by rw [h9]; exact h3,h4,fun m q' T' x hm Lu M6=>?_,fun hn=>?_⟩,fun j' o' T' d' tX zv Tf=>?_⟩
  · rw [aa9 (hf.dst j q T d hq he i o ho (Ne.symm VP))]
    exact h1.mono gL
  · rw [iW (bR m q' hm (gm Lu))] at M6
    exact (h5 m q' T' x hm Lu M6).mono k.le
  · obtain ⟨z,vi,Vx⟩:=h6 fun m q' T' x hm Lu=>by
      have:=hn m q' T' x hm Lu
      rwa [iW (bR m q' hm (gm Lu))] at this
    exact ⟨z,vi,Vx.mono k.le⟩
  · rw [iW (bR j' o' tX (hal zv))] at Tf
    exact h7 j' o' T' d' tX zv Tf
theorem JN {R:Type} {all:List Oper} {tn:bp} {k:bp→aj→Option R} {r:R} {E0:Env} {A0:aj} {B0 B:St} {sR ρ:ao} {w0 w:World} {base N:Nat} {a:Act} {y:Nat→Nat} : ∀ (os:List Oper) (m:Nat) (t:bp) (E:Env) (A:aj),all.drop m=os→NU P all tn k os t A=some r→
    Ev P base E0 A0 B0 sR w0 E A B ρ w→jw P E ρ t N a→(∀ (j:Nat) (o:Oper) T d,m≤j→all[j]? = some o→fq o=some (T,d)→d < N)→
    (∀ (j:Nat) (o:Oper) (T:TypeId) (d:Tmp),m≤j→all[j]? = some o→fq o=some (T,d)→VR ρ (u4 (y j)) (a.tmps.getD d undef)∧Fr E A B B0.next (y j)∧(∀ cs,sa P all tn T d=some cs→∃ bI,B.get (y j)=some (.row bI (kF P T) true none)∧aP P E cs bI)∧
      ∀ (j' : Nat) (o' : Oper) (T' : TypeId) (d' : Tmp),m≤j'→all[j']? = some o'→fq o' = some (T',d')→y j' = y j→j' = j)→
    ∃ t' E' A',k t' A' = some r∧jw P E' ρ t' N a∧Ev P base E0 A0 B0 sR w0 E' A' B ρ w
  | [],m,t,E,A,_,h,jh,ht,_,_=>⟨t,E,A,h,ht,jh⟩
  | o :: os,m,t,E,A,hd,h,jh,ht,hN,hb=>by
    have ho:all[m]? = some o:=by
      have:(all.drop m)[0]? = some o:=by rw [hd]; rfl
      rw [List.getElem?_drop] at this
      simpa using this
    have zw:all.drop (m+1)=os:=by rw [← List.drop_drop,hd]; rfl
    have h:Option.rec (motive:=fun _=>Option R) (NU P all tn k os t A) (fun p=>
      Option.rec (motive:=fun _=>Option R) none (fun cs=>NU P all tn k os (t.set (.ptr A.next 0) p.2) (A.new (.row cs (kF P p.1)))) (sa P all tn p.1 p.2)) (fq o)=some r:=h
    cases hq:fq o with
    | none=>
      rw [hq] at h
      exact JN (y:=y) os (m+1) t E A zw h jh ht (fun j o' T d hj=>hN j o' T d (by omega)) fun j o' T d hj OL he=>by
        obtain ⟨h1,h2,h3,h4⟩:=hb j o' T d (by omega) OL he
        exact ⟨h1,h2,h3,fun j' o'' T' d' tX=>h4 j' o'' T' d' (by omega)⟩
    | some p=>
      obtain ⟨T,d⟩:=p
      rw [hq] at h
      cases hc:sa P all tn T d with
      | none=>simp only [hc] at h; exact absurd h (by simp)
      | some cs=>
        simp only [hc] at h
        obtain ⟨h1,h2,h3,h4⟩:=hb m o T d (Nat.le_refl m) ho hq
        obtain ⟨bI,h5,h6⟩:=h3 cs hc
        obtain ⟨hle,ahK⟩:=agG (cs:=cs) jh h2 h5 h6
        have Aj:(E.kq A.next (y m)).κ A.next=some (y m):=by simp [Env.kq]
        refine JN (y:=y) os (m+1) _ (E.kq A.next (y m)) (A.new (.row cs (kF P T))) zw h ahK ⟨ht.size,fun i=>?_,fun i hi=>?_⟩ (fun j o' T d hj=>hN j o' T d (by omega)) fun j o' T' d' hj OL he=>?_
        · rw [Trie.iP]
          by_cases hid:i=d
          · subst hid
            rw [if_pos rfl]
            exact ⟨_,.tU Aj,h1⟩
          · rw [if_neg hid]
            exact (ht.val i).mono hle (fun _ _ e=>e)
        · rw [Trie.iP,if_neg]
          · exact ht.none i hi
          · intro e
            subst e
            exact absurd (hN m o T i (Nat.le_refl m) ho hq) (Nat.not_lt_of_le hi)
        · obtain ⟨g1,g2,g3,g4⟩:=hb j o' T' d' (by omega) OL he
          have ahL:y j≠y m:=fun e=>by have:=h4 j o' T' d' (by omega) OL he e; omega
          refine ⟨g1,⟨g2.lo,g2.hi,fun b e=>?_,g2.z,fun q=>?_⟩,fun kR hc0=>?_,fun j' o'' T'' d'' tX=>g4 j' o'' T'' d'' (by omega)⟩
          · simp only [Env.kq] at e
            split at e
            · simp at e; exact ahL e.symm
            · exact g2.un b e
          · have hA:∀ (b:Nat) (v:KV),(A.new (.row cs (kF P T))).get b=some (.arr v)→A.get b=some (.arr v):=fun b v hb=>by
              rw [aj.cK] at hb
              split at hb
              · simp at hb
              · exact hb
            exact g2.VO (q.of (fun _=>rfl) hA (fun _ _=>rfl) fun _ _=>rfl)
          · obtain ⟨m7,g5,g6⟩:=g3 kR hc0
            exact ⟨m7,g5,g6.mono hle⟩
theorem X4 {R:Type} {cfg:dQ} {bq:mH R} (fT:o7 P cfg.pc) (hm:P.follows .mixedOrders=true) {id:Nat} {all:List Oper} {N base:Nat} (Fz:all.all (pk N)=true) {k:bp→aj→Option R} {r:R} {t:bp} {A:aj} {B:St} {ρ:ao} {a:Act} {w:World} {Q:Exit→Act→World→Prop}
    (xN:Lb P cfg all=true) (h:QQ P cfg bq all (fun t A=>NU P all t k all t A) all t A=some r) (ht:jw P E ρ t N a) (hj:KJ P E A B ρ base w)
    (hq:∀ t' E' A' B' ak a' w',k t' A' = some r→jw P E' ak t' N a'→a'.defers=a.defers→Ev P base E A B ρ w E' A' B' ak w'→Q .normal a' w'):(Code.region id ⟨all⟩ true).wp P Q a w:=by
  classical
  have hf:=X3 xN
  obtain ⟨L,tn,kH,hk⟩:=zR hf.kind h
  obtain ⟨hlen,ER,tW⟩:=kH.at
  have r5:=JM hk
  have Ga:Ev P base E A B ρ w E A B ρ w.drew:=(dm.refl hj.k).ev (da.drew hj.s)
  have lW:∀ (i:Nat) (o:Oper),all[i]? = some o→∀ d,o.dst=some d→d < N:=by
    intro i o ho d ed
    have:=List.all_eq_true.1 Fz o (List.mem_of_getElem? ho)
    unfold pk at this
    rw [ed] at this
    simp only at this
    rw [Nat.blt_eq] at this
    exact this
  refine wp_region_any hm ?_
  show wpAny P .any ⟨all⟩ Q all.length (Array.replicate all.length false) a w.drew
  have sS:∀ i,(Array.replicate all.length false).getD i false=false:=by
    intro i
    rw [Array.getD_eq_getD_getElem?,Array.getElem?_replicate]
    split <;> rfl
  let Inv:(Nat→Bool)→Act→World→Prop:=fun S a' w'=>∃ E' B' ak y,a'.defers=a.defers∧Ev P base E A B ρ w.drew E' A B' ak w'∧jw P E' ak (l8 S all L 0 t) N a'∧Pu P E' A B' ak B.next all tn S a' y
  refine yN hf.ord.FD Inv ?_ ?_ ?_ all.length _ a w.drew (by simp) ?_ (fun i j hi _=>by
      have h2:(Array.replicate all.length false).getD i false=true:=hi
      rw [sS] at h2; simp at h2) ⟨E,B,ρ,fun _=>0,rfl,.refl hj.k Ga.ej.dz,?_,?_⟩
  ·
    rintro S S' a' w' QB ⟨E',B',ak,y,h1,h2,h3,h4⟩
    have hS:∀ (i:Nat) (o:Oper),all[i]? = some o→S i=S' i:=fun i o ho=>QB i (List.getElem?_eq_some_iff.1 ho).1
    refine ⟨E',B',ak,y,h1,h2,h3.same fun z=>kr rfl fun i o ho _=>by rw [Nat.zero_add]; exact (hS i o ho).symm,fun j o T d ho he hSj=>?_⟩
    obtain ⟨q1,q2,⟨bI,q3,q4,q5,q6⟩,q7⟩:=h4 j o T d ho he (by rw [hS j o ho]; exact hSj)
    exact ⟨q1,q2,⟨bI,q3,q4,fun m q T' x hm Lu M6=>q5 m q T' x hm Lu (by rw [hS m q hm]; exact M6),fun hn=>q6 fun m q T' x hm Lu=>by rw [hS m q hm]; exact hn m q T' x hm Lu⟩,fun j' o' T' d' tX zv Tf=>q7 j' o' T' d' tX zv (by rw [hS j' o' tX]; exact Tf)⟩
  ·
    rintro S a' w' i o ⟨E',B',ak,y,h1,h2,h3,h4⟩ hc ho fP jv _
    have hi:i < L.length:=by rw [hlen]; exact (List.getElem?_eq_some_iff.1 ho).1
    have hx:L[i]? = some L[i]:=List.getElem?_eq_getElem hi
    obtain ⟨t1,rG,hw,X2,Jt⟩:=tW i o L[i] ho hx
    have zQ:∀ z ∈ mv P cfg all o,t1.get z=(l8 S all L 0 t).get z:=fun z hz=>by rw [rG z,RA hf.ord hc ho fP jv hz]
    have zz:=xT h3 (fun z hz=>zQ z (by unfold mv; exact List.mem_append_left _ hz)) hw
    have SX:(⟨all⟩:Array Oper)[i]? = some o:=by simpa using ho
    unfold wpOp
    rw [SX]
    simp only [zz]
    cases EP:L[i].1 with
    | false=>
      simp only [Bool.false_eq_true,if_false]
      obtain ⟨hv,QI⟩:=Jt EP
      refine ⟨E',B',ak,y,by rw [put_defers]; exact h1,h2,?_,h4.step hf ho QI (.refl h2.dz h2.ej.dz) (fun _ _ e=>e)⟩
      refine (h3.put (lW i o ho) VC.undef).same fun z=>?_
      rw [Cy hf.ord hc ho hx fP z,hv]
    | true=>
      simp only [if_true]
      refine .inl ?_
      rcases X2 EP with ⟨Lu,hv⟩ | ⟨QI,hg⟩
      · rcases JL Lu with ⟨T,d,he⟩ | ⟨T,d,x,he⟩
        ·
          obtain ⟨e1,e2,e3⟩:=oB he
          obtain ⟨cs,Dk⟩:=r5 o (List.mem_of_getElem? ho) T d he
          obtain ⟨z,UT,Dj,hz3,hz4,hz5,_⟩:=zT Dk
          have aI:compile P o.op = .make (C5 P T) []:=by rw [e1]; rfl
          obtain ⟨kc,v',w2,Qt,n7,hr3⟩:=M0 (em:=fun _=>undef) (cr:=a'.eval) (obj:=xd (kF P T) z) (mk:=u4) aI h2.ej.dz (fun x hx=>by simp at hx) (by simp only [C5,UT,Option.bind_some,Dj,hz3,Bool.and_self,cond_true])
          unfold Oper.wp
          rw [Qt]
          have du:d < a'.tmps.size:=by rw [h3.size]; exact lW i o ho d e3
          have KS:=h2.ej.next
          have gL:=hr3.le h2.ej.dz
          have gm:=ahH (bI:=z.cells.toList) (bm:=kF P T) h2.dz
          have jh:Ev P base E' A B' ak w' E' A (B'.new (xd (kF P T) z)) kc w2:=gm.ev hr3
          refine ⟨E',B'.new (xd (kF P T) z),kc,fun m=>if m=i then B'.next else y m,by rw [put_defers]; exact h1,h2.trans jh,?_,fun j q U c hq Cc hS=>?_⟩
          · refine ((h3.mono (Env.le_refl _) gL).put (v:=.aq) (lW i o ho) ⟨.chan none,.pA,by simp [VR]⟩).same fun z=>?_
            rw [Cy hf.ord hc ho hx fP z,hv]
          · have hold:∀ (m:Nat) (q:Oper) (U:TypeId) (c:Tmp),all[m]? = some q→fq q=some (U,c)→a9 S i m=true→m≠i→S m=true:=fun m q U c _ _ hS bR=>by rwa [iW bR] at hS
            have M7:∀ (m:Nat) (q:Oper) (U:TypeId) (c:Tmp) (x:Operand),all[m]? = some q→pw all q=some (U,c,x)→m≠i:=fun m q U c x hm tt e=>by
              subst e
              rw [ho] at hm
              simp at hm
              subst hm
              rw [Bw he] at tt
              simp at tt
            by_cases VP:j=i
            · subst VP
              rw [ho] at hq
              simp at hq
              subst hq
              rw [he] at Cc
              simp at Cc
              obtain ⟨rfl,rfl⟩:=Cc
              simp only [if_true]
              refine ⟨?_,⟨KS,by simp,fun b e=>?_,?_,fun q=>?_⟩,⟨z.cells.toList,by simp [xd],?_,fun m q T' x hm tt M6=>?_,fun _=>⟨z,UT,wN hz4⟩⟩,fun j' o' T' d' tX zv Tf hy=>?_⟩
              · rw [e3,afm du]; exact n7
              · have:=h2.dz.fB b _ e; omega
              · cases hzz:E'.z B'.next with
                | none=>rfl
                | some r=>have:=h2.dz.lX _ r hzz; omega
              · rcases q with q | ⟨g,_,q⟩
                · obtain ⟨b,v,L',N',q1,q2⟩:=q
                  have:=h2.dz.ar.fB b _ _ _ q2
                  omega
                · rw [xd,St.jT] at q
                  have:=h2.dz.mem g _ q
                  omega
              · rw [← (wN (P:=P) (E:=E') hz4).length] at hz5
                exact hz5
              ·
                exfalso
                have hmi:=M7 m q T' d x hm tt
                rw [iW hmi] at M6
                obtain ⟨_,_,⟨j0,q0,T0,aL,VQ,Qp⟩,_⟩:=hf.st m q T' d x hm tt
                have:j0=j:=by
                  by_cases hjj:j0=j
                  · exact hjj
                  · exact absurd (oB Qp).2.2 (hf.dst j o T d ho he j0 q0 VQ hjj)
                subst this
                have hb:dV (az [] all) m j0=true:=hf.ord.qN hm VQ aL (by
                  unfold qe
                  rw [(oB Qp).2.2,show BU (some d) (mv P cfg all q)=true from vz (by
                    unfold mv
                    refine List.mem_append_right _ ?_
                    rw [(xU tt).1]
                    exact iU (show Operand.tmp d ∈ [Operand.tmp d,x] by simp))]
                  rfl)
                have:=hc m j0 M6 hb
                rw [fP] at this; simp at this
              · by_cases S9:j' = j
                · exact S9
                · exfalso
                  rw [if_neg S9] at hy
                  have:=(h4 j' o' T' d' tX zv (hold j' o' T' d' tX zv Tf S9)).2.1.hi
                  omega
            · simp only [if_neg VP]
              obtain ⟨q1,q2,⟨bI,q3,q4,q5,q6⟩,q7⟩:=h4 j q U c hq Cc (hold j q U c hq Cc hS VP)
              obtain ⟨q8,q9⟩:=q2.step jh
              refine ⟨?_,q8,⟨bI,by rw [q9]; exact q3,q4,fun m q' T' x hm tt M6=>?_,fun hn=>?_⟩,fun j' o' T' d' tX zv Tf hy=>?_⟩
              · rw [aa9 (hf.dst j q U c hq Cc i o ho (Ne.symm VP))]
                exact q1.mono gL
              · rw [iW (M7 m q' T' c x hm tt)] at M6
                exact q5 m q' T' x hm tt M6
              · exact q6 fun m q' T' x hm tt=>by
                  have:=hn m q' T' x hm tt
                  rwa [iW (M7 m q' T' c x hm tt)] at this
              · by_cases S9:j' = i
                · rw [if_pos S9] at hy
                  have:=q2.hi
                  omega
                · rw [if_neg S9] at hy
                  exact q7 j' o' T' d' tX zv (hold j' o' T' d' tX zv Tf S9) hy
        ·
          obtain ⟨e1,e2,e3,_⟩:=xU he
          obtain ⟨hnd,RD,⟨j0,q0,T0,aL,VQ,Qp⟩,hxd⟩:=hf.st i o T d x ho he
          have hb0:dV (az [] all) i j0=true:=hf.ord.qN ho VQ aL (by
            unfold qe
            rw [(oB Qp).2.2,show BU (some d) (mv P cfg all o)=true from vz (by
              unfold mv
              refine List.mem_append_right _ ?_
              rw [e1]
              exact iU (show Operand.tmp d ∈ [Operand.tmp d,x] by simp))]
            rfl)
          have hS0:S j0=true:=hc.ready hf.ord.FD ho jv j0 hb0
          obtain ⟨q1,q2,⟨kR,q3,q4,_,_⟩,q7⟩:=h4 j0 q0 T0 d VQ Qp hS0
          obtain ⟨cs,Dk⟩:=r5 q0 (List.mem_of_getElem? VQ) T0 d Qp
          obtain ⟨z,_,_,_,_,_,hz6,hz7⟩:=zT Dk
          have ahM:px all d all=some (T,x):=by
            cases hs:px all d all with
            | none=>exact absurd he (xq hs i o ho T x)
            | some p=>
              obtain ⟨T2,x2⟩:=p
              obtain ⟨i2,o2,h5,h6⟩:=xp hs
              by_cases hii:i2=i
              · subst hii
                rw [ho] at h5
                simp at h5
                subst h5
                rw [he] at h6
                simp at h6
                rw [h6.1,h6.2]
              · exact absurd h6 (RD i2 o2 h5 hii T2 x2)
          obtain ⟨hT,hl,Lf,_⟩:=hz6 T x ahM
          subst hT
          have qV:kX tn x=kX t1 x:=VM ER rG hnd
          rw [qV] at hl Lf
          have Qm:VC P E' ak (kX t1 x) (a'.eval x):=Cz h3 fun z e=>zQ z (by
            unfold mv
            refine List.mem_append_right _ ?_
            rw [e1]
            subst e
            exact iU (show Operand.tmp z ∈ [Operand.tmp d,Operand.tmp z] by simp))
          obtain ⟨u,hu1,hu2⟩:=Qm
          have adL:=hu1.cells (tq Lf)
          have im:u.cells.toList.all scalar=true:=List.all_eq_true.2 (adL.scalar Lf)
          have adM:some u.cells.size=size? P T0:=by
            rw [← hl]
            have:=adL.length
            simp only [Array.length_toList] at this
            rw [this]
          have aI:compile P o.op = .act (yJ P T0) [.tmp d,x]:=by rw [e1]; rfl
          have bc:=mf P o
          rw [aI] at bc
          let em:Operand→Value:=fun q=>if q = .tmp d then u4 (y j0) else u
          have hw:eS 0 kR u.cells.toList=some u.cells.toList:=Oc (by
            rw [← adM] at q4
            simp only [Option.some.injEq] at q4
            rw [q4]; simp)
          obtain ⟨kc,v',nx,w2,Qt,n7,hr3,hr4⟩:=bc ak B' (B'.put (y j0) (.row u.cells.toList (kF P T0) true none)) base w' em a'.eval undef h2.ej.dz (fun q hq=>by
              rcases List.mem_cons.1 hq with rfl | hq
              · show VR ak (em (.tmp d)) (a'.tmps.getD d undef)
                simp only [em,if_true]
                exact q1
              · simp only [List.mem_singleton] at hq
                subst hq
                simp only [em,if_neg hxd]
                exact hu2) (by
              have h1:em (.tmp d)=u4 (y j0):=by simp [em]
              have h2:em x=u:=by simp [em,hxd]
              simp [h1,h2,yJ,av.storeAt,u4,adM,St.rU,ck,im,q3,hw,St.dn])
          have ahN:=ahI h2 q2 q3 hr4
          have gL:=hr4.le h2.ej.dz
          have uc:∀ x,AR A E' x→(B'.put (y j0) (.row u.cells.toList (kF P T0) true none)).get x=B'.get x:=fun x q=>by
            rw [St.bO,if_neg]
            intro e
            subst e
            exact q2.VO (.inl q)
          have hAT:∀ q,AT A E' (B'.put (y j0) (.row u.cells.toList (kF P T0) true none)) q→AT A E' B' q:=fun q r=>r.of (fun _=>rfl) (fun _ _ e=>e) uc fun _ _=>by simp
          have hFr:∀ q,Fr E' A B' B.next q→Fr E' A (B'.put (y j0) (.row u.cells.toList (kF P T0) true none)) B.next q:=fun q f=>⟨f.lo,f.hi,f.un,f.z,fun r=>f.VO (hAT q r)⟩
          have agH:∀ v:Value,a'.put o.dst v=a':=fun v=>by rw [e3]; rfl
          have QA:Inv (a9 S i) (a'.put o.dst v') w2:=by
            rw [agH]
            refine ⟨E',_,kc,y,h1,ahN,(h3.mono (Env.le_refl _) gL).same fun z=>?_,fun j q U c hq Cc hS=>?_⟩
            · rw [Cy hf.ord hc ho hx fP z,e3]; rfl
            · have VP:j≠i:=fun e=>by
                subst e
                rw [ho] at hq
                simp at hq
                subst hq
                rw [Bw Cc] at he
                simp at he
              have hold:∀ (m:Nat) (q:Oper) (U:TypeId) (c:Tmp),all[m]? = some q→fq q=some (U,c)→a9 S i m=true→S m=true:=fun m q U c hm Cc hS=>by
                have:m≠i:=fun e=>by
                  subst e
                  rw [ho] at hm
                  simp at hm
                  subst hm
                  rw [Bw Cc] at he
                  simp at he
                rwa [iW this] at hS
              rw [iW VP] at hS
              obtain ⟨p1,p2,⟨bI,p3,p4,p5,p6⟩,p7⟩:=h4 j q U c hq Cc hS
              refine ⟨p1.mono gL,hFr _ p2,?_,fun j' o' T' d' tX zv Tf=>p7 j' o' T' d' tX zv (hold j' o' T' d' tX zv Tf)⟩
              by_cases hj0:j=j0
              · subst hj0
                rw [VQ] at hq
                simp at hq
                subst hq
                rw [Qp] at Cc
                simp at Cc
                obtain ⟨rfl,rfl⟩:=Cc
                refine ⟨u.cells.toList,by simp,by simpa using adM,fun m q' T' x' hm tt _=>?_,fun hn=>?_⟩
                · have hmi:m=i:=by
                    by_cases hmi:m=i
                    · exact hmi
                    · exact absurd tt (RD m q' hm hmi T' x')
                  subst hmi
                  rw [ho] at hm
                  simp at hm
                  subst hm
                  rw [he] at tt
                  simp at tt
                  rw [← tt.2,qV]
                  exact adL
                · have:=hn i o T0 x ho he
                  rw [Od] at this
                  simp at this
              · have hcd:c≠d:=fun e=>by
                  subst e
                  exact absurd (oB Qp).2.2 (hf.dst j q U c hq Cc j0 q0 VQ (Ne.symm hj0))
                have M7:∀ (m:Nat) (q:Oper) (U:TypeId) (x:Operand),all[m]? = some q→pw all q=some (U,c,x)→m≠i:=fun m q U x hm tt e=>by
                  subst e
                  rw [ho] at hm
                  simp at hm
                  subst hm
                  rw [he] at tt
                  simp at tt
                  exact hcd tt.2.1.symm
                refine ⟨bI,?_,p4,fun m q' T' x' hm tt M6=>?_,fun hn=>?_⟩
                · rw [St.bO,if_neg]
                  · exact p3
                  · intro e
                    exact hj0 ((p7 j0 q0 T0 d VQ Qp hS0 e.symm).symm)
                · rw [iW (M7 m q' T' x' hm tt)] at M6
                  exact p5 m q' T' x' hm tt M6
                · exact p6 fun m q' T' x' hm tt=>by
                    have:=hn m q' T' x' hm tt
                    rwa [iW (M7 m q' T' x' hm tt)] at this
          unfold Oper.wp
          rw [Qt]
          cases nx with
          | value u'=>have:u' = v':=n7; subst this; exact QA
          | skip=>have:v' = undef:=n7; subst this; exact QA
          | _=>exact n7.elim
      ·
        have Mw:∀ zM Bv kP v' tT,VC P zM kP L[i].2.1 v'→Ev P base E' A B' ak w' zM A Bv kP tT→Inv (a9 S i) (a'.put o.dst v') tT:=fun zM Bv kP v' tT h5 h6=>by
          have gL:=h6.ej.le h2.ej.dz
          refine ⟨zM,Bv,kP,y,by rw [put_defers]; exact h1,h2.trans h6,?_,h4.step hf ho QI h6 gL⟩
          refine ((h3.mono h6.le gL).put (lW i o ho) h5).same fun z=>?_
          rw [Cy hf.ord hc ho hx fP z]
        rcases hg with hg | ⟨p,hp,hg⟩
        · refine DU fT hg (fun x VN=>Cz h3 fun z e=>zQ z ?_) h2.kj Mw
          unfold mv
          subst e
          exact List.mem_append_right _ (iU VN)
        · refine RC fT hp hg (fun x VN=>Cz h3 fun z e=>zQ z ?_) h2.kj Mw
          unfold mv
          subst e
          refine List.mem_append_right _ (iU ?_)
          unfold Cn at hp
          split at hp
          · rename_i c MB _
            split at hp
            · rename_i d qu
              simp at hp
              subst hp
              rw [MB]
              show Operand.tmp z ∈ Pq (ko P cfg c)
              unfold ko
              rw [qu]
              exact VN
            · simp at hp
          · simp at hp
  ·
    rintro S a' w' im ⟨E',B',ak,y,h1,h2,h3,h4⟩
    have hS:∀ (i:Nat) (o:Oper),all[i]? = some o→S i=true:=fun i o ho=>im i (List.getElem?_eq_some_iff.1 ho).1
    have ahO:jw P E' ak tn N a':=h3.same fun z=>by
      rw [ER z]
      exact kr rfl fun i o ho _=>by rw [Nat.zero_add]; exact (hS i o ho).symm
    obtain ⟨t',E2,A2,f1,f2,f3⟩:=JN (y:=y) all 0 tn E' A rfl hk h2 ahO (fun j o T d _ ho he=>lW j o ho d (oB he).2.2) fun j o T d _ ho he=>by
      obtain ⟨q1,q2,⟨bI,q3,q4,q5,q6⟩,q7⟩:=h4 j o T d ho he (hS j o ho)
      refine ⟨q1,q2,fun cs Dk=>⟨bI,q3,?_⟩,fun j' o' T' d' _ tX zv hy=>q7 j' o' T' d' tX zv (hS j' o' tX) hy⟩
      obtain ⟨z,UT,_,_,_,_,hz6,hz7⟩:=zT Dk
      cases hs:px all d all with
      | some p=>
        obtain ⟨T2,x2⟩:=p
        obtain ⟨i2,o2,h5,h6⟩:=xp hs
        rw [(hz6 T2 x2 hs).2.2.2]
        exact q5 i2 o2 T2 x2 h5 h6 (hS i2 o2 h5)
      | none=>
        rw [hz7 hs]
        obtain ⟨z',g1,g2⟩:=q6 fun m q' T' x hm tt=>absurd tt (xq hs m q' hm T' x)
        rw [UT] at g1
        simp at g1
        subst g1
        exact g2
    exact hq t' E2 A2 B' ak a' w' f1 f2 h1 (Ga.trans f3)
  · simp
  · refine ht.same fun z=>?_
    rw [zP sS]
  · intro j o T d ho he hSj
    have hSj:(Array.replicate all.length false).getD j false=true:=hSj
    rw [sS] at hSj
    simp at hSj
end Go.K
end
section
namespace Go.K
open Go Go.av
variable {P:Program} {E:Env}
theorem Lv {R:Type} {cfg:dQ} {bq:mH R} {all:List Oper} {k:bp→aj→Option R} : ∀ (a b:List Oper),qy P cfg bq all k (a ++ b)=qy P cfg bq all (qy P cfg bq all k b) a
  | [],b=>rfl
  | o :: a,b=>by
    show ub P cfg bq all o (qy P cfg bq all k (a ++ b))=ub P cfg bq all o (qy P cfg bq all (qy P cfg bq all k b) a)
    rw [Lv a b]
theorem T4 {cfg:dQ} {all:List Oper} {o:Oper} (h:ep (ct P cfg o.op)≤1):mI all o=false:=by
  cases hb:mI all o with
  | false=>rfl
  | true=>
    exfalso
    rcases JL hb with ⟨T,d,e⟩ | ⟨T,d,x,e⟩
    · rw [(oB e).1] at h
      have h:ep (nu P T)≤1:=h
      unfold nu at h
      split at h
      · rename_i z _
        cases hc:(flat z && z.cells.toList.all scalar && fS (gH z).cells) <;> rw [hc] at h <;> simp [ep] at h
      · simp [ep] at h
    · rw [(xU e).1] at h
      have h:(3:Nat)≤1:=h
      omega
theorem CA {R:Type} {cfg:dQ} {bq:mH R} {all:List Oper} {k:bp→aj→Option R} {r:R} : ∀ {os:List Oper} {t:bp} {A:aj},(∀ o ∈ os,ep (ct P cfg o.op)≤1)→qy P cfg bq all k os t A=some r→
    ∃ L t',Ob P cfg all A os t L t'∧k t' A=some r
  | [],t,A,_,h=>⟨[],t,.nil,h⟩
  | o :: os,t,A,hn,h=>by
    have Dq:=fun q hq=>hn q (List.mem_cons_of_mem o hq)
    have hk:=hn o (by simp)
    have hb:=T4 (all:=all) hk
    have hk3:Nat.ble 3 (ep (ct P cfg o.op))=false:=by
      cases hc:Nat.ble 3 (ep (ct P cfg o.op)) with
      | false=>rfl
      | true=>have:=Nat.le_of_ble_eq_true hc; omega
    have hnc:=wT (P:=P) (cfg:=cfg) (o:=o) (by omega)
    have h:ub P cfg bq all o (qy P cfg bq all k os) t A=some r:=h
    unfold ub at h
    cases hg:o.guard with
    | none=>
      rw [hg] at h
      obtain ⟨v,A1,h1,h2⟩:=AO hnc h
      have e:=wS h1 hk3
      subst e
      obtain ⟨L,t',h3,h4⟩:=CA Dq h2
      exact ⟨_,t',.cons (fun _=>rfl) (.inl ⟨hg,rfl⟩) (fun _=>.inr ⟨hb,.inl h1⟩) (fun e=>by simp at e) h3,h4⟩
    | some p=>
      obtain ⟨j,want⟩:=p
      rw [hg] at h
      obtain ⟨d,hd,h⟩:=DV h
      rcases h with ⟨b,t1,h1,h2,h3⟩ | ⟨l,h1,h2⟩
      · rcases h3 with ⟨h3,h4⟩ | ⟨h3,h4⟩
        · obtain ⟨v,A1,h5,h6⟩:=AO hnc h4
          have e:=wS h5 hk3
          subst e
          obtain ⟨L,t',h7,h8⟩:=CA Dq h6
          exact ⟨_,t',.cons h2 (.inr ⟨j,want,d,hg,hd,.inl ⟨b,h1,h3.symm⟩⟩) (fun _=>.inr ⟨hb,.inl h5⟩) (fun e=>by simp at e) h7,h8⟩
        · obtain ⟨L,t',h7,h8⟩:=CA Dq h4
          exact ⟨_,t',.cons h2 (.inr ⟨j,want,d,hg,hd,.inl ⟨b,h1,h3.symm⟩⟩) (fun e=>by simp at e) (fun _=>⟨rfl,hb⟩) h7,h8⟩
      · obtain ⟨L,t',h7,h8⟩:=CA Dq h2
        exact ⟨_,t',.cons (fun _=>rfl) (.inr ⟨j,want,d,hg,hd,.inr ⟨l,h1,rfl⟩⟩) (fun e=>by simp at e) (fun _=>⟨rfl,hb⟩) h7,h8⟩
section
variable {cfg:dQ} {all os:List Oper} {L:List Out} {t0:bp} {m:Nat}
theorem Z1 (hf:Ry P cfg all) (Du:∀ j q,os[j]? = some q→all[m+j]? = some q) {S:Nat→Bool} (hc:ir all S) {i:Nat} {o:Oper} (ho:os[i]? = some o) (fP:S (m+i)=false) (jv:ki all S (m+i)) {y:Tmp} (hy:y ∈ mv P cfg all o) :
    (l8 (fun j=>S (m+j)) os L 0 t0).get y=(l8 (fun j=>Nat.blt j i) os L 0 t0).get y:=by
  refine kr rfl fun j q hq hd=>?_
  rw [Nat.zero_add]
  have OL:=Du i o ho
  have Bm:=Du j q hq
  rcases Nat.lt_trichotomy j i with h | h | h
  · have:dV (az [] all) (m+i) (m+j)=true:=hf.qN OL Bm (by omega) (by
      unfold qe
      rw [hd,vz hy]
      rfl)
    rw [hc.ready hf.FD OL jv (m+j) this]
    symm; rw [Nat.blt_eq]; exact h
  · subst h
    rw [fP]
    symm
    cases hb:Nat.blt j j with
    | false=>rfl
    | true=>rw [Nat.blt_eq] at hb; omega
  · have hb:dV (az [] all) (m+j) (m+i)=true:=hf.qN Bm OL (by omega) (by
      unfold qe
      rw [hd,vz hy]
      simp)
    have:S (m+j)=false:=by
      cases hs:S (m+j) with
      | false=>rfl
      | true=>have:=hc (m+j) (m+i) hs hb; rw [fP] at this; simp at this
    rw [this]
    symm
    cases ZW:Nat.blt j i with
    | false=>rfl
    | true=>rw [Nat.blt_eq] at ZW; omega
theorem X5 (hf:Ry P cfg all) (Du:∀ j q,os[j]? = some q→all[m+j]? = some q) {S:Nat→Bool} (hc:ir all S) {i:Nat} {o:Oper} {x:Out} (ho:os[i]? = some o) (hx:L[i]? = some x) (fP:S (m+i)=false) (y:Tmp) :
    (l8 (fun j=>a9 S (m+i) (m+j)) os L 0 t0).get y=(ow (l8 (fun j=>S (m+j)) os L 0 t0) o.dst x.2.1).get y:=by
  have adN:(fun j=>a9 S (m+i) (m+j))=a9 (fun j=>S (m+j)) i:=by
    funext j
    unfold a9
    cases hb:Nat.beq j i with
    | true=>have:=Nat.eq_of_beq_eq_true hb; subst this; simp
    | false=>
      have bR:=Nat.ne_of_beq_eq_false hb
      cases rC:Nat.beq (m+j) (m+i) with
      | false=>rfl
      | true=>have:=Nat.eq_of_beq_eq_true rC; omega
  rw [adN,sh]
  by_cases hd:o.dst=some y
  · rw [if_pos hd]
    have:=Rw (S:=fun j=>S (m+j)) (y:=y) (os:=os) (L:=L) (k:=0) (i:=i) (t:=t0) ho hx hd (fun j q hq Rx aL=>by
      rw [Nat.zero_add]
      have hb:dV (az [] all) (m+j) (m+i)=true:=hf.qN (Du j q hq) (Du i o ho) (by omega) (by
        unfold qe
        rw [Rx,hd]
        simp [u7])
      cases hs:S (m+j) with
      | false=>rfl
      | true=>have:=hc (m+j) (m+i) hs hb; rw [fP] at this; simp at this)
    rw [Nat.zero_add] at this
    exact this
  · rw [if_neg hd]
    refine kr rfl fun j q hq Rx=>?_
    rw [Nat.zero_add]
    have bR:j≠i:=by
      intro e
      subst e
      rw [ho] at hq
      simp at hq
      subst hq
      exact hd Rx
    unfold a9
    have:Nat.beq j i=false:=by
      cases hb:Nat.beq j i with
      | false=>rfl
      | true=>exact absurd (Nat.eq_of_beq_eq_true hb) bR
    rw [this,Bool.or_false]
end
theorem Ge {cfg:dQ} {b:List Nat} {c:Nat} : ∀ (os:List Oper) (k:Nat),Cq P cfg b c os k=true→∀ (i:Nat) (o:Oper),os[i]? = some o→(k+i=c→True)∧(k+i≠c→ep (ct P cfg o.op)≤1∧(k+i < c→dV b c (k+i)=true)∧(c < k+i→dV b (k+i) c=true))
  | [],k,_,i,o,ho=>by simp at ho
  | q :: os,k,h,0,o,ho=>by
    simp at ho
    subst ho
    simp only [Cq,Bool.and_eq_true] at h
    rw [Nat.add_zero]
    cases hb:Nat.beq k c with
    | true=>
      have:=Nat.eq_of_beq_eq_true hb
      rw [hb,cond_true] at h
      exact ⟨fun _=>trivial,fun bR=>absurd this bR⟩
    | false=>
      have bR:=Nat.ne_of_beq_eq_false hb
      rw [hb,cond_false] at h
      simp only [Bool.and_eq_true] at h
      refine ⟨fun e=>absurd e bR,fun _=>⟨Nat.le_of_ble_eq_true h.1.1,fun aL=>?_,fun aL=>?_⟩⟩
      · have h2:=h.1.2
        rw [show Nat.blt k c=true from by rw [Nat.blt_eq]; exact aL,cond_true] at h2
        exact h2
      · have h2:=h.1.2
        have:Nat.blt k c=false:=by
          cases rC:Nat.blt k c with
          | false=>rfl
          | true=>rw [Nat.blt_eq] at rC; omega
        rw [this,cond_false] at h2
        exact h2
  | q :: os,k,h,i+1,o,ho=>by
    simp only [Cq,Bool.and_eq_true] at h
    have:=Ge os (k+1) h.2 i o (by simpa using ho)
    rwa [show k+1+i=k+(i+1) by omega] at this
theorem Lw {cfg:dQ} {c:Nat} : ∀ {os:List Oper} {k:Nat},Cp P cfg os k=some c→k≤c∧c < k+os.length
  | [],k,h=>by simp [Cp] at h
  | o :: os,k,h=>by
    simp only [Cp] at h
    cases hb:Xt P cfg o with
    | true=>rw [hb,cond_true] at h; simp at h; subst h; simp
    | false=>
      rw [hb,cond_false] at h
      obtain ⟨h1,h2⟩:=Lw h
      simp only [List.length_cons]
      omega
theorem VS {R:Type} {cfg:dQ} {bq:mH R} (fT:o7 P cfg.pc) (vx:Cx P bq) (hm:P.follows .mixedOrders=true) {id:Nat} {all:List Oper} {N base:Nat} (Fz:all.all (pk N)=true) {k:bp→aj→Option R} {r:R} {t:bp} {A:aj} {B:St} {ρ:ao} {a:Act} {w:World} {Q:Exit→Act→World→Prop}
    (xN:DG P cfg all=true) (h:qy P cfg bq all k all t A=some r) (ht:jw P E ρ t N a) (hj:KJ P E A B ρ base w)
    (hq:∀ t' E' A' B' ak a' w',k t' A' = some r→jw P E' ak t' N a'→a'.defers=a.defers→Ev P base E A B ρ w E' A' B' ak w'→Q .normal a' w'):(Code.region id ⟨all⟩ true).wp P Q a w:=by
  unfold DG at xN
  split at xN
  · rename_i c hc
    simp only [Bool.and_eq_true] at xN
    obtain ⟨⟨ahP,KP⟩,har⟩:=xN
    have hf:Ry P cfg all:=⟨qv ahP,fun {i j x y} hy hx aL qu=>by
      have:=wU all 0 KP i y hy
      rw [Nat.zero_add] at this
      have:=zS all 0 this j x hx (by omega) qu
      rwa [Nat.zero_add] at this⟩
    have T5:∀ (i:Nat) (o:Oper),all[i]? = some o→(i=c→True)∧(i≠c→ep (ct P cfg o.op)≤1∧(i < c→dV (az [] all) c i=true)∧(c < i→dV (az [] all) i c=true)):=fun i o ho=>by
      have:=Ge all 0 har i o ho
      rwa [Nat.zero_add] at this
    have aL:c < all.length:=by have:=(Lw hc).2; omega
    obtain ⟨oc,MB⟩:∃ oc,all[c]? = some oc:=⟨_,List.getElem?_eq_getElem aL⟩
    have afn:all=all.take c ++ oc :: all.drop (c+1):=by
      have h1:=(List.take_append_drop c all).symm
      have h2:all.drop c=oc :: all.drop (c+1):=by
        rw [List.drop_eq_getElem_cons aL]
        rw [List.getElem?_eq_getElem aL] at MB
        simp at MB
        rw [MB]
      rw [h2] at h1
      exact h1
    have H8:∀ j q,(all.take c)[j]? = some q→all[0+j]? = some q∧j < c:=fun j q ES=>by
      rw [List.getElem?_take] at ES
      split at ES
      · rename_i Ce; rw [Nat.zero_add]; exact ⟨ES,Ce⟩
      · simp at ES
    have zU:∀ j q,(all.drop (c+1))[j]? = some q→all[c+1+j]? = some q:=fun j q ES=>by rwa [List.getElem?_drop] at ES
    have h' : qy P cfg bq all (qy P cfg bq all k (oc :: all.drop (c+1))) (all.take c) t A=some r:=by
      have:qy P cfg bq all k (all.take c ++ oc :: all.drop (c+1)) t A=some r:=by rw [← afn]; exact h
      rwa [Lv] at this
    obtain ⟨L,tp,kH,hk⟩:=CA (fun o ho=>by
      obtain ⟨j,tX⟩:=List.getElem?_of_mem ho
      obtain ⟨h1,h2⟩:=H8 j o tX
      rw [Nat.zero_add] at h1
      exact ((T5 j o h1).2 (by omega)).1) h'
    obtain ⟨hlen,htp,tW⟩:=kH.at
    have Ga:Ev P base E A B ρ w E A B ρ w.drew:=(dm.refl hj.k).ev (da.drew hj.s)
    have lW:∀ (i:Nat) (o:Oper),all[i]? = some o→∀ d,o.dst=some d→d < N:=by
      intro i o ho d ed
      have:=List.all_eq_true.1 Fz o (List.mem_of_getElem? ho)
      unfold pk at this
      rw [ed] at this
      simp only at this
      rw [Nat.blt_eq] at this
      exact this
    refine wp_region_any hm ?_
    show wpAny P .any ⟨all⟩ Q all.length (Array.replicate all.length false) a w.drew
    have sS:∀ i,(Array.replicate all.length false).getD i false=false:=by
      intro i
      rw [Array.getD_eq_getD_getElem?,Array.getElem?_replicate]
      split <;> rfl
    let Inv:(Nat→Bool)→Act→World→Prop:=fun S a' w'=>
      (S c=false∧∃ E' B' ak,a'.defers=a.defers∧Ev P base E A B ρ w.drew E' A B' ak w'∧jw P E' ak (l8 (fun j=>S (0+j)) (all.take c) L 0 t) N a')∨
      (S c=true∧∃ A2 t2 L2 tn E' B' ak,Ob P cfg all A2 (all.drop (c+1)) t2 L2 tn∧k tn A2=some r∧a'.defers=a.defers∧Ev P base E A B ρ w.drew E' A2 B' ak w'∧jw P E' ak (l8 (fun j=>S (c+1+j)) (all.drop (c+1)) L2 0 t2) N a')
    have one:∀ (os:List Oper) (m:Nat) (L:List Out) (A2:aj) (t2:bp) (S:Nat→Bool) (i:Nat) (o:Oper) (a' : Act) (w' : World) (E' : Env) (B' : St) (ak:ao) (next:Act→World→Prop),(∀ j q,os[j]? = some q→all[m+j]? = some q)→L.length=os.length→
        (∀ i o x,os[i]? = some o→L[i]? = some x→∃ t1,(∀ y,t1.get y=(l8 (fun j=>Nat.blt j i) os L 0 t2).get y)∧DW all o t1 x.1∧(x.1=true→(mI all o=true∧x.2.1 = .aq)∨(mI all o=false∧(aG (qC (ct P cfg o.op) t1 A2) (x.2.1,A2)∨∃ p,Cn o=some p∧aG (qC (xm P cfg t1 p) t1 A2) (x.2.1,A2))))∧(x.1=false→x.2.1=pg∧mI all o=false))→
        os[i]? = some o→ep (ct P cfg o.op)≤1→ir all S→S (m+i)=false→ki all S (m+i)→Ev P base E A B ρ w.drew E' A2 B' ak w'→jw P E' ak (l8 (fun j=>S (m+j)) os L 0 t2) N a'→
        (∀ E2 B2 kc a2 w2,a2.defers=a'.defers→Ev P base E A B ρ w.drew E2 A2 B2 kc w2→jw P E2 kc (l8 (fun j=>a9 S (m+i) (m+j)) os L 0 t2) N a2→next a2 w2)→wpOp P ⟨all⟩ Q (m+i) next a' w':=by
      intro os m L A2 t2 S i o a' w' E' B' ak next Du hL adO ho Z2 Tg fP jv h2 h3 fO
      have hi:i < L.length:=by rw [hL]; exact (List.getElem?_eq_some_iff.1 ho).1
      have hx:L[i]? = some L[i]:=List.getElem?_eq_getElem hi
      obtain ⟨t1,rG,hw,X2,Jt⟩:=adO i o L[i] ho hx
      have zQ:∀ z ∈ mv P cfg all o,t1.get z=(l8 (fun j=>S (m+j)) os L 0 t2).get z:=fun z hz=>by rw [rG z,Z1 hf Du Tg ho fP jv hz]
      have zz:=xT h3 (fun z hz=>zQ z (by unfold mv; exact List.mem_append_left _ hz)) hw
      have SX:(⟨all⟩:Array Oper)[m+i]? = some o:=by simpa using Du i o ho
      unfold wpOp
      rw [SX]
      simp only [zz]
      cases EP:L[i].1 with
      | false=>
        simp only [Bool.false_eq_true,if_false]
        obtain ⟨hv,_⟩:=Jt EP
        refine fO E' B' ak _ _ (by rw [put_defers]) h2 ?_
        refine (h3.put (lW (m+i) o (Du i o ho)) VC.undef).same fun z=>?_
        rw [X5 hf Du Tg ho hx fP z,hv]
      | true=>
        simp only [if_true]
        refine .inl ?_
        rcases X2 EP with ⟨Lu,_⟩ | ⟨_,hg⟩
        · rw [T4 Z2] at Lu; simp at Lu
        · have Mw:∀ zM Bv kP v' tT,VC P zM kP L[i].2.1 v'→Ev P base E' A2 B' ak w' zM A2 Bv kP tT→next (a'.put o.dst v') tT:=fun zM Bv kP v' tT h5 h6=>by
            have gL:=h6.ej.le h2.ej.dz
            refine fO zM Bv kP _ _ (by rw [put_defers]) (h2.trans h6) ?_
            refine ((h3.mono h6.le gL).put (lW (m+i) o (Du i o ho)) h5).same fun z=>?_
            rw [X5 hf Du Tg ho hx fP z]
          rcases hg with hg | ⟨p,hp,hg⟩
          · refine DU fT hg (fun x VN=>Cz h3 fun z e=>zQ z ?_) h2.kj Mw
            unfold mv
            subst e
            exact List.mem_append_right _ (iU VN)
          · refine RC fT hp hg (fun x VN=>Cz h3 fun z e=>zQ z ?_) h2.kj Mw
            unfold mv
            subst e
            refine List.mem_append_right _ (iU ?_)
            unfold Cn at hp
            split at hp
            · rename_i c' ahQ _
              split at hp
              · rename_i d qu
                simp at hp
                subst hp
                rw [ahQ]
                show Operand.tmp z ∈ Pq (ko P cfg c')
                unfold ko
                rw [qu]
                exact VN
              · simp at hp
            · simp at hp
    have adP:∀ j q,(all.take c)[j]? = some q→all[0+j]? = some q:=fun j q ES=>(H8 j q ES).1
    refine yN hf.FD Inv ?_ ?_ ?_ all.length _ a w.drew (by simp) ?_ (fun i j hi _=>by
        have h2:(Array.replicate all.length false).getD i false=true:=hi
        rw [sS] at h2; simp at h2) (.inl ⟨sS c,E,B,ρ,rfl,.refl hj.k Ga.ej.dz,?_⟩)
    ·
      rintro S S' a' w' QB (⟨h0,E',B',ak,h1,h2,h3⟩ | ⟨h0,A2,t2,L2,tn,E',B',ak,g1,g2,h1,h2,h3⟩)
      · refine .inl ⟨by rw [← QB c aL]; exact h0,E',B',ak,h1,h2,h3.same fun z=>kr rfl fun i o ho _=>?_⟩
        rw [Nat.zero_add]
        exact (QB _ (List.getElem?_eq_some_iff.1 (adP i o ho)).1).symm
      · refine .inr ⟨by rw [← QB c aL]; exact h0,A2,t2,L2,tn,E',B',ak,g1,g2,h1,h2,h3.same fun z=>kr rfl fun i o ho _=>?_⟩
        rw [Nat.zero_add]
        exact (QB _ (List.getElem?_eq_some_iff.1 (zU i o ho)).1).symm
    ·
      rintro S a' w' i o X6 Tg ho fP jv _
      rcases Nat.lt_trichotomy i c with T6 | T6 | T6
      ·
        have Z2:=(T5 i o ho).2 (by omega)
        have hoi:(all.take c)[i]? = some o:=by rw [List.getElem?_take,if_pos T6]; exact ho
        rcases X6 with ⟨h0,E',B',ak,h1,h2,h3⟩ | ⟨h0,_⟩
        · have:=one (all.take c) 0 L A t S i o a' w' E' B' ak (Inv (a9 S i)) adP hlen tW hoi Z2.1 Tg (by rw [Nat.zero_add]; exact fP) (by rw [Nat.zero_add]; exact jv) h2 h3 fun E2 B2 kc a2 w2 q1 q2 q3=>by
            rw [Nat.zero_add] at q3
            exact .inl ⟨by rw [iW (by omega)]; exact h0,E2,B2,kc,q1.trans h1,q2,q3⟩
          rwa [Nat.zero_add] at this
        · have:=Tg c i h0 (Z2.2.1 T6)
          rw [fP] at this; simp at this
      ·
        subst T6
        rw [MB] at ho
        simp at ho
        subst ho
        rcases X6 with ⟨h0,E',B',ak,h1,h2,h3⟩ | ⟨h0,_⟩
        · have im:∀ j q,(all.take i)[j]? = some q→S (0+j)=true:=fun j q ES=>by
            obtain ⟨g1,g2⟩:=H8 j q ES
            refine Tg.ready hf.FD MB jv (0+j) ?_
            have:=((T5 (0+j) q g1).2 (by omega)).2.1 (by omega)
            exact this
          have Rr:jw P E' ak tp N a':=h3.same fun z=>by
            rw [htp z]
            exact kr rfl fun j q ES _=>by have:=(im j q ES).symm; simpa using this
          have qO:ub P cfg bq all oc (qy P cfg bq all k (all.drop (i+1))) tp A=some r:=hk
          have SX:(⟨all⟩:Array Oper)[i]? = some oc:=by simpa using MB
          have X7:∀ {t1:bp} {v:KV} {v' : Value} {E2:Env} {A2:aj} {B2:St} {kc:ao} {w2:World},(∀ y,t1.get y=tp.get y)→qy P cfg bq all k (all.drop (i+1)) (ow t1 oc.dst v) A2=some r→VC P E2 kc v v'→Ev P base E' A B' ak w' E2 A2 B2 kc w2→Inv (a9 S i) (a'.put oc.dst v') w2:=by
            intro t1 v v' E2 A2 B2 kc w2 rG q1 q2 q3
            obtain ⟨L2,tn,g1,g2⟩:=CA (fun q hqm=>by
              obtain ⟨j,tX⟩:=List.getElem?_of_mem hqm
              have g:=zU j q tX
              exact ((T5 _ q g).2 (by omega)).1) q1
            have gL:=q3.ej.le h2.ej.dz
            refine .inr ⟨Od,A2,_,L2,tn,E2,B2,kc,g1,g2,by rw [put_defers]; exact h1,h2.trans q3,?_⟩
            refine (((Rr.same rG).mono q3.le gL).put (lW i oc MB) q2).same fun z=>?_
            have afo:∀ j q,(all.drop (i+1))[j]? = some q→a9 S i (i+1+j)=false:=fun j q ES=>by
              rw [iW (by omega)]
              cases hs:S (i+1+j) with
              | false=>rfl
              | true=>
                have:=Tg (i+1+j) i hs (((T5 _ q (zU j q ES)).2 (by omega)).2.2 (by omega))
                rw [fP] at this; simp at this
            rw [kr (S':=fun _=>false) rfl fun j q ES _=>by rw [Nat.zero_add]; exact afo j q ES]
            rw [zP (fun _=>rfl)]
          have run:∀ {t1:bp},(∀ y,t1.get y=tp.get y)→DW all oc tp true→K8 bq t1 A (fun v A=>qy P cfg bq all k (all.drop (i+1)) (ow t1 oc.dst v) A) (ct P cfg oc.op)=some r→wpOp P ⟨all⟩ Q i (Inv (a9 S i)) a' w':=by
            intro t1 rG hw adN
            have zz:=xT Rr (fun _ _=>rfl) hw
            unfold wpOp
            rw [SX]
            simp only [zz,if_true]
            exact .inl (N7 fT vx adN (Rr.same rG) h2.kj fun E2 A2 B2 kc v v' w2 q1 q2 q3=>X7 rG q1 q2 q3)
          have skip:∀ {t1:bp},(∀ y,t1.get y=tp.get y)→DW all oc tp false→qy P cfg bq all k (all.drop (i+1)) (ow t1 oc.dst pg) A=some r→wpOp P ⟨all⟩ Q i (Inv (a9 S i)) a' w':=by
            intro t1 rG hw UE
            have zz:=xT Rr (fun _ _=>rfl) hw
            unfold wpOp
            rw [SX]
            simp only [zz,Bool.false_eq_true,if_false]
            exact X7 rG UE VC.undef (.refl h2.dz h2.ej.dz)
          unfold ub at qO
          cases hgd:oc.guard with
          | none=>
            rw [hgd] at qO
            exact run (fun _=>rfl) (.inl ⟨hgd,rfl⟩) qO
          | some p=>
            obtain ⟨j,want⟩:=p
            rw [hgd] at qO
            obtain ⟨d,hd,qO⟩:=DV qO
            rcases qO with ⟨b,t1,h4,h5,h6⟩ | ⟨l,h4,h5⟩
            · rcases h6 with ⟨h6,h7⟩ | ⟨h6,h7⟩
              · exact run h5 (.inr ⟨j,want,d,hgd,hd,.inl ⟨b,h4,h6.symm⟩⟩) h7
              · exact skip h5 (.inr ⟨j,want,d,hgd,hd,.inl ⟨b,h4,h6.symm⟩⟩) h7
            · exact skip (fun _=>rfl) (.inr ⟨j,want,d,hgd,hd,.inr ⟨l,h4,rfl⟩⟩) h5
        · rw [fP] at h0; simp at h0
      ·
        have Z2:=(T5 i o ho).2 (by omega)
        obtain ⟨j,rfl⟩:∃ j,i=c+1+j:=⟨i - (c+1),by omega⟩
        have hoi:(all.drop (c+1))[j]? = some o:=by rw [List.getElem?_drop]; exact ho
        have hSc:S c=true:=Tg.ready hf.FD ho jv c (Z2.2.2 T6)
        rcases X6 with ⟨h0,_⟩ | ⟨h0,A2,t2,L2,tn,E',B',ak,g1,g2,h1,h2,h3⟩
        · rw [hSc] at h0; simp at h0
        · obtain ⟨Z3,_,adO⟩:=g1.at
          exact one (all.drop (c+1)) (c+1) L2 A2 t2 S j o a' w' E' B' ak (Inv (a9 S (c+1+j))) zU Z3 adO hoi Z2.1 Tg fP jv h2 h3 fun E2 B2 kc a2 w2 q1 q2 q3=>
            .inr ⟨by rw [iW (by omega)]; exact h0,A2,t2,L2,tn,E2,B2,kc,g1,g2,q1.trans h1,q2,q3⟩
    ·
      rintro S a' w' im X6
      rcases X6 with ⟨h0,_⟩ | ⟨h0,A2,t2,L2,tn,E',B',ak,g1,g2,h1,h2,h3⟩
      · rw [im c aL] at h0; simp at h0
      · obtain ⟨_,ER,_⟩:=g1.at
        refine hq tn E' A2 B' ak a' w' g2 (h3.same fun z=>?_) h1 (Ga.trans h2)
        rw [ER z]
        exact kr rfl fun j q ES _=>by rw [Nat.zero_add]; exact (im _ (List.getElem?_eq_some_iff.1 (zU j q ES)).1).symm
    · simp
    · refine ht.same fun z=>?_
      have:(fun j=>(Array.replicate all.length false).getD (0+j) false)=fun _=>false:=by funext j; exact sS _
      show (l8 (fun j=>(Array.replicate all.length false).getD (0+j) false) (all.take c) L 0 t).get z=_
      rw [this,zP (fun _=>rfl)]
  · simp at xN
end Go.K
end
section
namespace Go.K
open Go Go.av
variable {P:Program} {E:Env}
inductive Sub (root:Code):Nat→Code→Prop where
  | root:Sub root 1 root
  | af4 {p:Nat} {a b:Code} : Sub root p (.seq a b)→Sub root (2 * p) a
  | af5 {p:Nat} {a b:Code} : Sub root p (.seq a b)→Sub root (2 * p+1) b
  | adQ {p:Nat} {c:Operand} {a b:Code} : Sub root p (.cond c a b)→Sub root (2 * p) a
  | adR {p:Nat} {c:Operand} {a b:Code} : Sub root p (.cond c a b)→Sub root (2 * p+1) b
  | block {p id:Nat} {a:Code} : Sub root p (.block id a)→Sub root (2 * p) a
  | loop {p:Nat} {a:Code} : Sub root p (.loop a)→Sub root (2 * p) a
  | scope {p:Nat} {a:Code} : Sub root p (.scope a)→Sub root (2 * p) a
def RE (P:Program) (N:Nat) {R:Type} (c:Code) (f:KE R→bp→aj→Option R):Prop:=
  ∀ (k:KE R) (r:R) (t:bp) (A:aj) (E:Env) (B:St) (ρ:ao) (base:Nat) (a:Act) (w:World) (Q:Exit→Act→World→Prop),f k t A=some r→jw P E ρ t N a→KJ P E A B ρ base w→
    (∀ e t' E' A' B' ak a' w',k e t' A' = some r→jw P E' ak t' N a'→a'.defers=a.defers→Ev P base E A B ρ w E' A' B' ak w'→Q e.out a' w')→c.wp P Q a w
def M8 (P:Program) (N:Nat) (body:Code) (F:bp→aj→AG):Prop:=∀ (R:Type),RE P N (R:=R) (.loop body) (fun k t A=>ZD F k t A)
def aba (P:Program) (cfg:dQ) (f:FuncId) (root:Code):Prop:=∀ p F body,cfg.lp f p=some F→Sub root p (.loop body)→∀ N,codeOk N body=true→M8 P N body F
section
variable {R:Type} {cfg:dQ} {bq:mH R} {L:Nat} {f:FuncId}
theorem Lx {N:Nat} {c:Code} {g:KE R→bp→aj→Option R} (hg:RE P N c g):∀ (n:Nat) (k:KE R) (r:R) (t:bp) (A:aj) (E:Env) (B:St) (ρ:ao) (base:Nat) (a:Act) (w:World) (Q:Exit→Act→World→Prop),MV g k n t A=some r→jw P E ρ t N a→KJ P E A B ρ base w→
    (∀ e t' E' A' B' ak a' w',k e t' A' = some r→jw P E' ak t' N a'→a'.defers=a.defers→Ev P base E A B ρ w E' A' B' ak w'→Q e.out a' w')→Code.rounds P c Q n a w
  | 0,k,r,t,A,E,B,ρ,base,a,w,Q,h,ht,hj,hq=>by exact absurd h (by simp [MV])
  | n+1,k,r,t,A,E,B,ρ,base,a,w,Q,h,ht,hj,hq=>by
    rw [rounds_succ]
    have h:g (Vm k (MV g k n)) t A=some r:=h
    refine hg _ r t A E B ρ base a w _ h ht hj fun e t' E' A' B' ak a' w' h1 h2 h3 h4=>?_
    cases e with
    | normal=>
      have h1:MV g k n t' A' = some r:=h1
      exact Lx hg n k r t' A' E' B' ak base a' w' Q h1 h2 h4.kj fun e t'' zM ZV Bv kP Dv tT q1 q2 q3 q4=>hq e t'' zM ZV Bv kP Dv tT q1 q2 (q3.trans h3) (h4.trans q4)
    | exit id=>exact hq (.exit id) t' E' A' B' ak a' w' h1 h2 h3 h4
    | goto l=>exact hq (.goto l) t' E' A' B' ak a' w' h1 h2 h3 h4
    | ret=>exact hq .ret t' E' A' B' ak a' w' h1 h2 h3 h4
theorem la (fT:o7 P cfg.pc) (vx:Cx P bq) (hm:P.follows .mixedOrders=true) {root:Code} (kL:aba P cfg f root) {N:Nat} : ∀ (c:Code) (p:Nat),Sub root p c→codeOk N c=true→RE P N c (n8 P cfg bq L f c p)
  | .skip,p,_,_=>by
    intro k r t A E B ρ base a w Q h ht hj hq
    exact wp_skip (hq .normal t E A B ρ a w h ht rfl (.refl hj.k hj.s))
  | .ret,p,_,_=>by
    intro k r t A E B ρ base a w Q h ht hj hq
    exact wp_ret (hq .ret t E A B ρ a w h ht rfl (.refl hj.k hj.s))
  | .exit id,p,_,_=>by
    intro k r t A E B ρ base a w Q h ht hj hq
    exact wp_exit (hq (.exit id) t E A B ρ a w h ht rfl (.refl hj.k hj.s))
  | .label l,p,_,_=>by
    intro k r t A E B ρ base a w Q h ht hj hq
    exact wp_label (hq .normal t E A B ρ a w h ht rfl (.refl hj.k hj.s))
  | .goto l,p,_,_=>by
    intro k r t A E B ρ base a w Q h ht hj hq
    exact wp_goto (hq (.goto l) t E A B ρ a w h ht rfl (.refl hj.k hj.s))
  | .region id ops false,p,_,hc=>by
    intro k r t A E B ρ base a w Q h ht hj hq
    have h:qy P cfg bq ops.toList (fun t A=>k .normal t A) ops.toList t A=some r:=h
    refine wp_region ?_
    have:=F6 (Q:=Q) (base:=base) fT vx (N:=N) (all:=ops.toList) hc ops.toList 0 t E A B ρ a w (by simp) h ht hj fun t' E' A' B' ak a' w' h1 h2 h3 h4=>hq .normal t' E' A' B' ak a' w' h1 h2 h3 h4
    rw [List.range_eq_range']
    simpa using this
  | .region id ops true,p,_,hc=>by
    intro k r t A E B ρ base a w Q h ht hj hq
    have h:QR P cfg bq ops.toList true (fun t A=>k .normal t A) t A=some r:=h
    unfold QR at h
    cases ho:Xs P cfg ops.toList with
    | false=>
      rw [ho] at h
      cases hcr:DG P cfg ops.toList with
      | true=>
        rw [hcr] at h
        exact VS (all:=ops.toList) fT vx hm hc hcr h ht hj fun t' E' A' B' ak a' w' h1 h2 h3 h4=>hq .normal t' E' A' B' ak a' w' h1 h2 h3 h4
      | false=>
        rw [hcr] at h
        cases hb:Lb P cfg ops.toList with
        | false=>rw [hb] at h; exact absurd h (by simp)
        | true=>
          rw [hb] at h
          exact X4 (all:=ops.toList) fT hm hc hb h ht hj fun t' E' A' B' ak a' w' h1 h2 h3 h4=>hq .normal t' E' A' B' ak a' w' h1 h2 h3 h4
    | true=>
      rw [ho] at h
      exact Te (all:=ops.toList) fT hm hc ho h ht hj fun t' E' A' B' ak a' w' h1 h2 h3 h4=>hq .normal t' E' A' B' ak a' w' h1 h2 h3 h4
  | .seq x y,p,hs,hc=>by
    simp only [codeOk,Bool.and_eq_true] at hc
    intro k r t A E B ρ base a w Q h ht hj hq
    have h:n8 P cfg bq L f x (2 * p) (Vm k fun t A=>n8 P cfg bq L f y (2 * p+1) k t A) t A=some r:=h
    refine wp_seq ?_
    refine la fT vx hm kL x (2 * p) hs.af4 hc.1 _ r t A E B ρ base a w _ h ht hj fun e t' E' A' B' ak a' w' h1 h2 h3 h4=>?_
    cases e with
    | normal=>
      have h1:n8 P cfg bq L f y (2 * p+1) k t' A' = some r:=h1
      exact la fT vx hm kL y (2 * p+1) hs.af5 hc.2 k r t' A' E' B' ak base a' w' Q h1 h2 h4.kj fun e t'' zM ZV Bv kP Dv tT q1 q2 q3 q4=>hq e t'' zM ZV Bv kP Dv tT q1 q2 (q3.trans h3) (h4.trans q4)
    | exit id=>exact hq (.exit id) t' E' A' B' ak a' w' h1 h2 h3 h4
    | goto l=>exact hq (.goto l) t' E' A' B' ak a' w' h1 h2 h3 h4
    | ret=>exact hq .ret t' E' A' B' ak a' w' h1 h2 h3 h4
  | .cond c x y,p,hs,hc=>by
    simp only [codeOk,Bool.and_eq_true] at hc
    intro k r t A E B ρ base a w Q h ht hj hq
    have h:Vl t c (fun t=>n8 P cfg bq L f x (2 * p) k t A) (fun t=>n8 P cfg bq L f y (2 * p+1) k t A)=some r:=h
    have key:∃ t',(∀ i,t'.get i=t.get i)∧((a.eval c = .bool true∧n8 P cfg bq L f x (2 * p) k t' A=some r)∨(a.eval c = .bool false∧n8 P cfg bq L f y (2 * p+1) k t' A=some r)):=by
      have jh:=ht.ev c
      cases c with
      | tmp d=>
        have h:BK.rec (motive:=fun _=>Option R) (fun b=>Bool.rec (motive:=fun _=>Option R) (n8 P cfg bq L f y (2 * p+1) k (t.set (.bool false) d) A) (n8 P cfg bq L f x (2 * p) k (t.set (.bool true) d) A) b) none none (qQ ((t.get d).getD .aq))=some r:=h
        cases hb:qQ ((t.get d).getD .aq) with
        | no=>rw [hb] at h; exact absurd h (by simp)
        | pQ=>rw [hb] at h; exact absurd h (by simp)
        | bool b=>
          rw [hb] at h
          have hbv:=xR hb
          have jh:VC P E ρ ((t.get d).getD .aq) (a.eval (.tmp d)):=jh
          rw [hbv] at jh
          have:=jh.dC
          refine ⟨t.set (.bool b) d,DT hb,?_⟩
          cases b
          · exact .inr ⟨this,h⟩
          · exact .inl ⟨this,h⟩
      | const v=>
        have h:BK.rec (motive:=fun _=>Option R) (fun b=>Bool.rec (motive:=fun _=>Option R) (n8 P cfg bq L f y (2 * p+1) k t A) (n8 P cfg bq L f x (2 * p) k t A) b) none none (qQ (kX t (.const v)))=some r:=h
        cases hb:qQ (kX t (.const v)) with
        | no=>rw [hb] at h; exact absurd h (by simp)
        | pQ=>rw [hb] at h; exact absurd h (by simp)
        | bool b=>
          rw [hb] at h
          rw [xR hb] at jh
          have:=jh.dC
          refine ⟨t,fun _=>rfl,?_⟩
          cases b
          · exact .inr ⟨this,h⟩
          · exact .inl ⟨this,h⟩
      | global g=>exact absurd h (by simp [Vl,kX,qQ])
      | func g=>exact absurd h (by simp [Vl,kX,qQ])
    obtain ⟨t',yg,h⟩:=key
    have v5:=ht.same yg
    rcases h with ⟨hb,h⟩ | ⟨hb,h⟩
    · exact wp_cond_true hb (la fT vx hm kL x (2 * p) hs.adQ hc.1 k r t' A E B ρ base a w Q h v5 hj hq)
    · exact wp_cond_false hb (la fT vx hm kL y (2 * p+1) hs.adR hc.2 k r t' A E B ρ base a w Q h v5 hj hq)
  | .block id x,p,hs,hc=>by
    have hc:codeOk N x=true:=hc
    intro k r t A E B ρ base a w Q h ht hj hq
    have h:n8 P cfg bq L f x (2 * p) (aaR id k) t A=some r:=h
    refine wp_block ?_
    refine la fT vx hm kL x (2 * p) hs.block hc _ r t A E B ρ base a w _ h ht hj fun e t' E' A' B' ak a' w' h1 h2 h3 h4=>?_
    cases e with
    | normal=>exact hq .normal t' E' A' B' ak a' w' h1 h2 h3 h4
    | exit pd=>
      have h1:Bool.rec (motive:=fun _=>Option R) (k (.exit pd) t' A') (k .normal t' A') (Nat.beq pd id)=some r:=h1
      cases hb:Nat.beq pd id with
      | true=>
        rw [hb] at h1
        have:=Nat.eq_of_beq_eq_true hb
        simp only [ai.out,Exit.inBlock,if_pos this]
        exact hq .normal t' E' A' B' ak a' w' h1 h2 h3 h4
      | false=>
        rw [hb] at h1
        have:=Nat.ne_of_beq_eq_false hb
        simp only [ai.out,Exit.inBlock,if_neg this]
        exact hq (.exit pd) t' E' A' B' ak a' w' h1 h2 h3 h4
    | goto l=>exact hq (.goto l) t' E' A' B' ak a' w' h1 h2 h3 h4
    | ret=>exact hq .ret t' E' A' B' ak a' w' h1 h2 h3 h4
  | .loop x,p,hs,hc=>by
    have hc:codeOk N x=true:=hc
    intro k r t A E B ρ base a w Q h ht hj hq
    have h:Option.rec (motive:=fun _=>bp→aj→Option R) (MV (n8 P cfg bq L f x (2 * p)) k L) (fun F=>ZD F k) (cfg.lp f p) t A=some r:=h
    cases hF:cfg.lp f p with
    | some F=>
      rw [hF] at h
      exact kL p F x hF hs N hc R k r t A E B ρ base a w Q h ht hj hq
    | none=>
      rw [hF] at h
      exact wp_loop_rounds L (Lx (la fT vx hm kL x (2 * p) hs.loop hc) L k r t A E B ρ base a w Q h ht hj hq)
  | .scope x,p,hs,hc=>by
    have hc:codeOk N x=true:=hc
    intro k r t A E B ρ base a w Q h ht hj hq
    have h:n8 P cfg bq L f x (2 * p) (QS k) t A=some r:=h
    refine wp_scope_straight ?_
    refine la fT vx hm kL x (2 * p) hs.scope hc _ r t A E B ρ base a w _ h ht hj fun e t' E' A' B' ak a' w' h1 h2 h3 h4=>?_
    cases e with
    | normal=>exact hq .normal t' E' A' B' ak a' w' h1 h2 h3 h4
    | exit id=>exact hq (.exit id) t' E' A' B' ak a' w' h1 h2 h3 h4
    | goto l=>exact absurd h1 (by simp [QS])
    | ret=>exact hq .ret t' E' A' B' ak a' w' h1 h2 h3 h4
  | .rangeFunc ..,p,_,_ | .refuse _,p,_,_=>by
    intro k r t A E B ρ base a w Q h ht hj hq
    exact absurd h (by simp [n8])
end
theorem zV:∀ (l:List KV) (i k:Nat) (t:bp),(mh l i t).get k=if i≤k∧k < i+l.length then l[k - i]? else t.get k
  | [],i,k,t=>by
    rw [mh,if_neg]
    simp
  | v :: l,i,k,t=>by
    rw [mh,zV l (i+1) k,Trie.iP]
    by_cases h1:k=i
    · subst h1
      rw [if_neg (by omega),if_pos rfl,if_pos (by simp)]
      simp
    · by_cases h2:i+1≤k∧k < i+1+l.length
      · rw [if_pos h2,if_pos (by simp; omega),show k - i=(k - (i+1))+1 by omega]
        simp
      · rw [if_neg h2,if_neg h1,if_neg (by simp; omega)]
theorem ym {A:aj} {B:St} {base N:Nat} {w:World} {ρ:ao} {t:bp} {a:Act} (hj:KJ P E A B ρ base w) (ht:jw P E ρ t N a):∀ (rs:List ResultVar) (vs:List KV),Cr P A t rs=some vs→
    ∃ bP,xS P E ρ vs bP∧(rs.mapM (Dy a)).run P w=Result.ok bP w
  | [],vs,h=>by simp [Cr] at h; subst h; exact ⟨[],⟨[],.nil,.nil⟩,by simp⟩
  | .tmp x :: rs,vs,h=>by
    simp only [Cr] at h
    obtain ⟨us,hu,rfl⟩:=Option.map_eq_some_iff.1 h
    obtain ⟨SZ,⟨m,h1,h3⟩,h2⟩:=ym hj ht rs us hu
    obtain ⟨u,h4,h5⟩:=ht.ev (.tmp x)
    refine ⟨_ :: SZ,⟨u :: m,.cons h4 h1,.cons h5 h3⟩,?_⟩
    simp [List.mapM_cons,h2,Act.eval,Dy]
  | .cell x ty :: rs,vs,h=>by
    simp only [Cr] at h
    split at h
    · rename_i v hv
      obtain ⟨us,hu,rfl⟩:=Option.map_eq_some_iff.1 h
      obtain ⟨SZ,⟨m,h1,h3⟩,h2⟩:=ym hj ht rs us hu
      obtain ⟨u,h4,h5⟩:=ht.ev (.tmp x)
      have hg:aG (MO P ty A [kX t (.tmp x)]) v:=by rw [hv]; exact rfl
      obtain ⟨z,h6,h7⟩:=XH E A B _ _ v hj.k (.cons h4 .nil) hg
      have h6:loadAt P ty B u=some z:=h6
      obtain ⟨ad,h8,z',h9,vi⟩:=Bg (P:=P) hj.s.rel h5 h6
      refine ⟨z' :: SZ,⟨z :: m,.cons h7 h1,.cons h9 h3⟩,?_⟩
      have h8:a.tmps.getD x undef = .pointer (some ad):=h8
      simp only [List.mapM_cons,Sem.run_bind,Dy,h8,asAddr,Sem.run_pure,Result.andThen_ok,vi,h2]
    · simp at h
theorem Gf {ρ:ao} {vs:List KV} {bP:List Value} (h:xS P E ρ vs bP):VC P E ρ (zF vs) (if h:bP.toArray.size=1 then bP.toArray[0] else .tuple bP.toArray):=by
  obtain ⟨m,h1,h2⟩:=h
  match vs with
  | []=>
    rw [h1.bJ] at h2
    rw [h2.bJ]
    exact ⟨_,.QT .nil,VR.mkTuple .nil⟩
  | [v]=>
    obtain ⟨u,rfl,h3⟩:=h1.dH
    obtain ⟨y,ys,rfl,h4,h5⟩:=h2.cons_inv
    rw [h5.bJ]
    exact ⟨u,h3,h4⟩
  | v :: v2 :: vs=>
    obtain ⟨u,us,rfl,h3,h4⟩:=h1.cons_inv
    obtain ⟨u2,us2,rfl,h5,h6⟩:=h4.cons_inv
    obtain ⟨y,ys,rfl,h7,h8⟩:=h2.cons_inv
    obtain ⟨y2,ys2,rfl,h9,vi⟩:=h8.cons_inv
    rw [dif_neg (by simp)]
    exact ⟨_,.QT (.cons h3 (.cons h5 h6)),VR.mkTuple (.cons h7 (.cons h9 vi))⟩
def VT (vs:List Value):Value:=if h:vs.toArray.size=1 then vs.toArray[0] else .tuple vs.toArray
theorem DY {R:Type} {cfg:dQ} {bq:mH R} (fT:o7 P cfg.pc) (vx:Cx P bq) (hm:P.follows .mixedOrders=true) (L:Nat) {f:FuncId} {fn:Func} {c:Code} (hf:P.funcs[f]? = some fn) (hb:fn.body=some c) (bc:codeOk fn.ntmps c=true) (kL:aba P cfg f c)
    {args:List KV} {A:aj} {k:List KV→aj→Option R} {r:R} (h:n8 P cfg bq L f c 1 (Xu P fn k) (mh args 0 .leaf) A=some r) {E:Env} {B:St} {ρ:ao} {cL:List Value} {base:Nat} {w:World} (hv:xS P E ρ args cL) (hj:KJ P E A B ρ base w) :
    Calls P f cL.toArray w fun e w'=>∃ vs bP E' A' B' ak,e = .returned (VT bP)∧xS P E' ak vs bP∧Ev P base E A B ρ w E' A' B' ak w'∧k vs A' = some r:=by
  refine calls_of_wp hf hb ?_
  obtain ⟨Z4,zt,Jm⟩:=hv
  have hlen:cL.length=args.length:=by rw [Jm.length,zt.length]
  have ht:jw P E ρ (mh args 0 .leaf) (max fn.ntmps args.length) { tmps:=cL.toArray ++ Array.replicate (fn.ntmps - cL.toArray.size) undef,defers:=[] }:=by
    have du:(cL.toArray ++ Array.replicate (fn.ntmps - cL.toArray.size) undef).size=max fn.ntmps args.length:=by
      simp [hlen]
      omega
    refine ⟨du,fun i=>?_,fun i hi=>?_⟩
    · rw [zV]
      simp only [Nat.zero_le,true_and,Nat.zero_add,Nat.sub_zero,Trie.zb]
      by_cases hi:i < args.length
      · rw [if_pos hi]
        obtain ⟨u,hu⟩:∃ u,args[i]? = some u:=⟨_,List.getElem?_eq_getElem hi⟩
        obtain ⟨m,h1,h2⟩:=zt.get hu
        obtain ⟨u',h3,h4⟩:=Jm.get h1
        rw [hu]
        have:(cL.toArray ++ Array.replicate (fn.ntmps - cL.toArray.size) undef).getD i undef=u':=by
          rw [Array.getD_eq_getD_getElem?,Array.getElem?_append_left (by simpa [hlen] using hi)]
          simp [h3]
        rw [this]
        exact ⟨m,h2,h4⟩
      · rw [if_neg hi]
        exact VC.aq
    · rw [zV,if_neg,Trie.zb]
      simp only [Nat.zero_le,true_and,Nat.zero_add]
      have:=Nat.le_max_right fn.ntmps args.length
      omega
  have Ij:codeOk (max fn.ntmps args.length) c=true:=jU (Nat.le_max_left _ _) c bc
  refine la (L:=L) (f:=f) (N:=max fn.ntmps args.length) fT vx hm kL c 1 .root Ij _ r _ A E B ρ base _ w _ h ht hj fun e t' E' A' B' ak a' w' h1 h2 h3 h4=>?_
  have fin:∀ vs,Cr P A' t' fn.results.toList=some vs→k vs A' = some r→∀ e:ai,(e = .normal∨e = .ret)→bodyPost P fn (fun e w'=>∃ vs bP E' A' B' ak,e = .returned (VT bP)∧xS P E' ak vs bP∧Ev P base E A B ρ w E' A' B' ak w'∧k vs A' = some r) e.out a' w':=by
    intro vs hr hk e he
    obtain ⟨bP,hvs,kH⟩:=ym (P:=P) h4.kj h2 _ _ hr
    have AA:(results fn a'.tmps).run P w' = .ok (if h:bP.toArray.size=1 then bP.toArray[0] else .tuple bP.toArray) w':=by
      rw [FH,Sem.run_bind,Array.mapM_eq_mapM_toList,Sem.run_map,kH]
      rfl
    have zU:bodyPost P fn (fun e w'=>∃ vs bP E' A' B' ak,e = .returned (VT bP)∧xS P E' ak vs bP∧Ev P base E A B ρ w E' A' B' ak w'∧k vs A' = some r) .ret a' w':=by
      exact ⟨h3,_,AA,vs,bP,E',A',B',ak,rfl,hvs,h4,hk⟩
    rcases he with rfl | rfl
    · exact zU
    · exact zU
  cases e with
  | normal=>
    have h1:Option.rec (motive:=fun _=>Option R) none (fun vs=>k vs A') (Cr P A' t' fn.results.toList)=some r:=h1
    cases hr:Cr P A' t' fn.results.toList with
    | none=>rw [hr] at h1; exact absurd h1 (by simp)
    | some vs=>rw [hr] at h1; exact fin vs hr h1 .normal (.inl rfl)
  | ret=>
    have h1:Option.rec (motive:=fun _=>Option R) none (fun vs=>k vs A') (Cr P A' t' fn.results.toList)=some r:=h1
    cases hr:Cr P A' t' fn.results.toList with
    | none=>rw [hr] at h1; exact absurd h1 (by simp)
    | some vs=>rw [hr] at h1; exact fin vs hr h1 .ret (.inr rfl)
  | exit id=>exact absurd h1 (by simp [Xu])
  | goto l=>exact absurd h1 (by simp [Xu])
end Go.K
end
section
namespace Go.K
open Go Go.av
variable {P:Program} {E:Env}
def T7 (P:Program) (ac:FuncId→Option (List KV→aj→qP)):Prop:=∀ g F,ac g=some F→∀ {R:Type} (args:List KV) (A:aj) (k:KV→aj→Option R) (r:R),qP.run k (F args A)=some r→wQ P g∧
  ∀ (E:Env) (B:St) (ρ:ao) (base:Nat) (w:World) (cL:List Value),xS P E ρ args cL→KJ P E A B ρ base w→
    Calls P g cL.toArray w fun e w'=>∃ v v' E' A' B' ak,e = .returned v'∧VC P E' ak v v'∧Ev P base E A B ρ w E' A' B' ak w'∧k v A' = some r
theorem T7.none {P:Program} : T7 P fun _=>.none:=fun g F h=>by simp at h
def rM (P:Program) (cfg:dQ):Prop:=T7 P cfg.x.ac∧∀ f fn c,P.funcs[f]? = some fn→fn.body=some c→aba P cfg f c
theorem Gg {R:Type} {cfg:dQ} {bq:mH R} {L:Nat} {f:FuncId} {args:List KV} {A:aj} {k:List KV→aj→Option R} {r:R} (hP:P.funcs.toList.all jf=true) (h:MW P cfg bq L f args A k=some r) :
    ∃ fn c, P.funcs[f]? = some fn ∧ fn.body = some c ∧ codeOk fn.ntmps c = true ∧ (fn.name == "runtime.NumGoroutine") = false ∧ n8 P cfg bq L f c 1 (Xu P fn k) (mh args 0 .leaf) A = some r := by
  unfold MW at h
  split at h
  · rename_i fn hf
    split at h
    · rename_i c hc
      have OM:P.funcs[f]? = some fn:=by simpa using hf
      have bc:=List.all_eq_true.1 hP fn (List.mem_of_getElem? hf)
      unfold jf at bc
      rw [hc] at bc
      simp only [Bool.and_eq_true,Bool.not_eq_true'] at bc
      exact ⟨fn,c,OM,hc,bc.1,bc.2,h⟩
    · simp at h
  · simp at h
theorem qL {R:Type} {cfg:dQ} (hP:P.funcs.toList.all jf=true) (hm:P.follows .mixedOrders=true) (fT:o7 P cfg.pc) (kL:rM P cfg) (L:Nat):∀ n,Cx (R:=R) P (AH P cfg L n)
  | 0=>fun f args A k r h=>absurd h (by simp [AH])
  | n+1=>fun f args A k r h=>by
    have h:Bool.rec (motive:=fun _=>Option R) none (Option.rec (motive:=fun _=>Option R) (MW P cfg (AH P cfg L n) L f args A fun vs B=>k (zF vs) B) (fun F=>qP.run k (F args A)) (cfg.x.ac f)) (Nat.blt f yB)=some r:=h
    cases hy:Nat.blt f yB with
    | false=>rw [hy] at h; exact absurd h (by simp)
    | true=>
      rw [hy] at h
      cases hac:cfg.x.ac f with
      | some F=>
        rw [hac] at h
        exact kL.1 f F hac args A k r h
      | none=>
        rw [hac] at h
        have h:MW P cfg (AH P cfg L n) L f args A (fun vs B=>k (zF vs) B)=some r:=h
        obtain ⟨fn,c,hf,hc,bc,Xc,h⟩:=Gg hP h
        refine ⟨⟨hy,fn,hf,by simp [hc],Xc⟩,fun E B ρ base w cL hv hj=>?_⟩
        refine (DY fT (qL hP hm fT kL L n) hm L hf hc bc (kL.2 f fn c hf hc) h hv hj).mono ?_
        rintro e w' ⟨vs,bP,E',A',B',ak,rfl,h1,h2,h3⟩
        exact ⟨zF vs,_,E',A',B',ak,rfl,Gf h1,h2,h3⟩
mutual
theorem VK.zK {E0:Env} (hz:E0.z=E.z):∀ {v:KV} {u:Value} {c:CK},VK P E v u→kindOk c v=true→VK P E0 v u
  | .int k n,u,c,h,_=>h
  | .bool b,u,c,h,_=>h
  | .str s,u,c,h,_=>h
  | .ts T m n es acc,u,c,h,hk=>by
    cases c <;> simp [kindOk] at hk
    rename_i t
    cases m <;> simp at hk
    obtain ⟨ht,a7,h1,a,cap,rfl,h2,h3,h4⟩:=h.kY
    simp only [VK]
    refine ⟨ht,a7,aP.zEs hz h1 ht.typed,a,cap,rfl,h2,?_,trivial⟩
    refine h3.imp id ?_
    rintro ⟨b,off,r,e1,e2,e3⟩
    exact ⟨b,off,r,e1,by rw [hz]; exact e2,e3⟩
  | .agg cs,u,c,h,hk=>by cases c <;> simp [kindOk] at hk
  | .pQ cs,u,c,h,hk=>by cases c <;> simp [kindOk] at hk
  | .tp T Tc i k es acc,u,c,h,hk=>by cases c <;> simp [kindOk] at hk
  | .al T b o n,u,c,h,hk=>by cases c <;> simp [kindOk] at hk
  | .ap T Tc b i k,u,c,h,hk=>by cases c <;> simp [kindOk] at hk
  | .ptr b off,u,c,h,hk=>by cases c <;> simp [kindOk] at hk
  | .sl b off n cap,u,c,h,hk=>by cases c <;> simp [kindOk] at hk
  | .yz,u,c,h,hk=>by cases c <;> simp [kindOk] at hk
  | .jL,u,c,h,hk=>by cases c <;> simp [kindOk] at hk
  | .vm,u,c,h,hk=>by cases c <;> simp [kindOk] at hk
  | .map b,u,c,h,hk=>by cases c <;> simp [kindOk] at hk
  | .fn f a b,u,c,h,hk=>by cases c <;> simp [kindOk] at hk
  | .zC,u,c,h,hk=>by cases c <;> simp [kindOk] at hk
  | .iface t x,u,c,h,hk=>by cases c <;> simp [kindOk] at hk
  | .zD,u,c,h,hk=>by cases c <;> simp [kindOk] at hk
  | .aq,u,c,h,hk=>by cases c <;> simp [kindOk] at hk
theorem VK.zE {E0:Env} (hz:E0.z=E.z):∀ {v:KV} {u:Value} {l:r7},VK P E v u→cZ l v=true→VK P E0 v u
  | .int k n,u,l,h,_=>h
  | .bool b,u,l,h,_=>h
  | .str s,u,l,h,_=>h
  | .agg cs,u,l,h,hk=>by
    simp only [cZ,Bool.and_eq_true] at hk
    obtain ⟨m,rfl,h1⟩:=h.kT
    exact .ny (aP.zKs hz h1 hk.2)
  | .ts T m n es acc,u,l,h,hk=>by
    have qO:∃ c,kindOk c (.ts T m n es acc)=true:=by
      simp only [cZ,Bool.and_eq_true] at hk
      cases pt:l.ks with
      | nil=>rw [pt] at hk; simp [au] at hk
      | cons c cs=>rw [pt] at hk; simp only [au,Bool.and_eq_true] at hk; exact ⟨c,hk.2.1⟩
    obtain ⟨c,hk⟩:=qO
    cases c <;> simp [kindOk] at hk
    rename_i t
    cases m <;> simp at hk
    obtain ⟨ht,a7,h1,a,cap,rfl,h2,h3,h4⟩:=h.kY
    simp only [VK]
    refine ⟨ht,a7,aP.zEs hz h1 ht.typed,a,cap,rfl,h2,?_,trivial⟩
    refine h3.imp id ?_
    rintro ⟨b,off,r,e1,e2,e3⟩
    exact ⟨b,off,r,e1,by rw [hz]; exact e2,e3⟩
  | .pQ cs,u,l,h,hk=>by simp [cZ] at hk
  | .tp T Tc i k es acc,u,l,h,hk=>by
    obtain ⟨h1,_⟩:=gu hk
    cases pt:l.ks with
    | nil=>rw [pt] at h1; simp [KV.cells,au] at h1
    | cons c cs=>rw [pt] at h1; cases c <;> simp [KV.cells,au,kindOk] at h1
  | .al T b o n,u,l,h,hk=>by
    obtain ⟨h1,_⟩:=gu hk
    cases pt:l.ks with
    | nil=>rw [pt] at h1; simp [KV.cells,au] at h1
    | cons c cs=>rw [pt] at h1; cases c <;> simp [KV.cells,au,kindOk] at h1
  | .ap T Tc b i k,u,l,h,hk=>by
    obtain ⟨h1,_⟩:=gu hk
    cases pt:l.ks with
    | nil=>rw [pt] at h1; simp [KV.cells,au] at h1
    | cons c cs=>rw [pt] at h1; cases c <;> simp [KV.cells,au,kindOk] at h1
  | .ptr b off,u,l,h,hk=>by
    obtain ⟨h1,_⟩:=gu hk
    cases pt:l.ks with
    | nil=>rw [pt] at h1; simp [KV.cells,au] at h1
    | cons c cs=>rw [pt] at h1; cases c <;> simp [KV.cells,au,kindOk] at h1
  | .sl b off n cap,u,l,h,hk=>by
    obtain ⟨h1,_⟩:=gu hk
    cases pt:l.ks with
    | nil=>rw [pt] at h1; simp [KV.cells,au] at h1
    | cons c cs=>rw [pt] at h1; cases c <;> simp [KV.cells,au,kindOk] at h1
  | .yz,u,l,h,hk=>h
  | .jL,u,l,h,hk=>h
  | .vm,u,l,h,hk=>h
  | .map b,u,l,h,hk=>by
    obtain ⟨h1,_⟩:=gu hk
    cases pt:l.ks with
    | nil=>rw [pt] at h1; simp [KV.cells,au] at h1
    | cons c cs=>rw [pt] at h1; cases c <;> simp [KV.cells,au,kindOk] at h1
  | .fn f a b,u,l,h,hk=>by
    obtain ⟨h1,_⟩:=gu hk
    cases pt:l.ks with
    | nil=>rw [pt] at h1; simp [KV.cells,au] at h1
    | cons c cs=>rw [pt] at h1; cases c <;> simp [KV.cells,au,kindOk] at h1
  | .zC,u,l,h,hk=>h
  | .iface t x,u,l,h,hk=>by
    obtain ⟨h1,_⟩:=gu hk
    cases pt:l.ks with
    | nil=>rw [pt] at h1; simp [KV.cells,au] at h1
    | cons c cs=>rw [pt] at h1; cases c <;> simp [KV.cells,au,kindOk] at h1
  | .zD,u,l,h,hk=>h
  | .aq,u,l,h,hk=>h
theorem aP.zKs {E0:Env} (hz:E0.z=E.z):∀ {vs:List KV} {us:List Value} {ks:List CK},aP P E vs us→au ks vs=true→aP P E0 vs us
  | [],us,ks,h,_=>by rw [h.bJ]; exact .nil
  | v :: vs,us,[],h,hk=>by simp [au] at hk
  | v :: vs,us,c :: ks,h,hk=>by
    simp only [au,Bool.and_eq_true] at hk
    simp only [aP] at h ⊢
    obtain ⟨y,ys,e,h1,h2⟩:=h
    exact ⟨y,ys,e,VK.zK hz h1 hk.1,aP.zKs hz h2 hk.2⟩
theorem aP.zEs {E0:Env} (hz:E0.z=E.z):∀ {vs:List KV} {us:List Value} {l:r7},aP P E vs us→eo l vs=true→aP P E0 vs us
  | [],us,l,h,_=>by rw [h.bJ]; exact .nil
  | v :: vs,us,l,h,hk=>by
    simp only [eo,Bool.and_eq_true] at hk
    simp only [aP] at h ⊢
    obtain ⟨y,ys,e,h1,h2⟩:=h
    exact ⟨y,ys,e,VK.zE hz h1 hk.1,aP.zEs hz h2 hk.2⟩
end
theorem VK.adS {E0:Env} (hz:E0.z=E.z) {c:CK} {v:KV} {u:Value} (h:VK P E v u):VK P E0 (K.lA c v) u:=by
  have hn:=h.lA (c:=c)
  cases hk:kindOk c (K.lA c v) with
  | true=>exact hn.zK hz hk
  | false=>
    have:K.lA c v = .aq:=by
      revert hk
      unfold K.lA
      split
      · intro hk; simp [kindOk] at hk
      · rename_i t t' m n es acc
        cases hb:Nat.beq t t' with
        | false=>intro _; rfl
        | true=>intro hk; simp [kindOk] at hk
      · cases hb:kindOk c v with
        | false=>intro _; rfl
        | true=>intro hk; rw [cond_true,hb] at hk; simp at hk
    rw [this]
    exact .pA
theorem aP.X8 {E0:Env} (hz:E0.z=E.z):∀ {ks:List CK} {cs:List KV} {l:List Value},aP P E cs l→cs.length=ks.length→aP P E0 (K.vp ks cs) l
  | [],[],l,h,_=>by rw [h.bJ]; exact .nil
  | [],_ :: _,_,_,e=>by simp at e
  | _ :: _,[],_,_,e=>by simp at e
  | c :: ks,v :: cs,l,h,e=>by
    obtain ⟨y,ys,rfl,h1,h2⟩:=h.cons_inv
    exact .cons (h1.adS hz) (aP.X8 hz h2 (by simpa using e))
theorem VK.afp {E0:Env} (hz:E0.z=E.z) {l:r7} {v:KV} {u:Value} (h:VK P E v u):VK P E0 (K.hH l v) u:=by
  unfold K.hH
  split
  · rename_i cs
    obtain ⟨m,rfl,h1⟩:=h.kT
    cases hb:(l.agg && Nat.beq cs.length l.ks.length) with
    | false=>exact .pA
    | true=>
      simp only [Bool.and_eq_true] at hb
      exact .ny (h1.X8 hz (Nat.eq_of_beq_eq_true hb.2))
  · cases l.agg with
    | true=>exact .pA
    | false=>
      rw [cond_false]
      split
      · exact h.adS hz
      · exact .pA
theorem VK.agI {E0:Env} (hz:E0.z=E.z) {t:TypeId} {v:KV} {u:Value} (h:VK P E v u):VK P E0 (K.K7 P t v) u:=by
  unfold K.K7
  cases hb:cZ (bj P t) (K.hH (bj P t) v) with
  | false=>exact .pA
  | true=>exact VK.cf _ hb (h.afp hz)
theorem aP.RF {E0:Env} (hz:E0.z=E.z):∀ {ts:List TypeId} {vs:List KV} {us:List Value},aP P E vs us→vs.length=ts.length→aP P E0 (normArgs P ts vs) us
  | [],[],us,h,_=>by rw [h.bJ]; exact .nil
  | [],_ :: _,_,_,e=>by simp at e
  | _ :: _,[],_,_,e=>by simp at e
  | t :: ts,v :: vs,us,h,e=>by
    obtain ⟨y,ys,rfl,h1,h2⟩:=h.cons_inv
    exact .cons (h1.agI hz) (aP.RF hz h2 (by simpa using e))
theorem zW:∀ (ts:List TypeId) (vs:List KV),se P ts vs=normArgs P ts vs
  | [],vs=>by cases vs <;> rfl
  | t :: ts,[]=>rfl
  | t :: ts,v :: vs=>by simp [se,normArgs,zW ts vs]
def Env.bare (E:Env):Env:={ E with κ:=fun _=>none,φ:=fun _=>none,α:=fun _=>none }
theorem ek.bare {A:aj} {B:St} (h:ek P E A B):ek P E.bare .empty B where
  row b cs bm hb:=by simp [aj.empty,aj.get] at hb
  aW b top sz hb:=by simp [aj.empty,aj.get] at hb
  z:=h.z
  apart b x e:=by simp [Env.bare] at e
  inj b c x e:=by simp [Env.bare] at e
  iH b c g _ _ _ _ _ _ e:=by simp [Env.bare] at e
  gk b x e:=by simp [Env.bare] at e
  lM b g e:=by simp [Env.bare] at e
  live b o hb:=by simp [aj.empty,aj.get] at hb
  fB b x e:=by simp [Env.bare] at e
  lX:=h.lX
  ji b g e:=by simp [Env.bare] at e
  fresh:=h.fresh
  mem:=h.mem
  ar:=by
    have hn:∀ b v,¬ aj.empty.get b=some (.arr v):=fun b v hb=>by simp [aj.empty,aj.get] at hb
    exact ⟨fun b v hb=>(hn b v hb).elim,fun b v hb=>by simp [aj.empty,aj.get] at hb,fun x ⟨b,v,_,_,hb,_⟩=>(hn b v hb).elim,fun b c v u x L N L' N' hb=>(hn b v hb).elim,fun b c v u x y L N L' N' cs e own g k bI e' nC k' hb=>(hn b v hb).elim,fun b x e=>by simp [Env.bare] at e,fun b p e=>by simp [Env.bare] at e,fun b x L N e=>by simp [Env.bare] at e,fun b v x L N cs e own g k hb=>(hn b v hb).elim,fun b v hb=>(hn b v hb).elim⟩
theorem X9 {x:Nat} : ¬ AR .empty E.bare x:=fun ⟨b,v,_,_,hb,_⟩=>by simp [aj.empty,aj.get] at hb
theorem Ya {B:St} {g:Nat} : ¬ AF .empty E.bare B g:=fun ⟨b,v,_,_,_,_,_,_,_,hb,_⟩=>by simp [aj.empty,aj.get] at hb
theorem adT {B:St} {y:Nat} : ¬ AT .empty E.bare B y:=fun q=>q.elim X9 fun ⟨_,q,_⟩=>Ya q
theorem Ev.bare {base:Nat} {A A1:aj} {B B1:St} {ρ hX:ao} {w w1:World} {E1:Env} (h:ek P E A B) (jh:Ev P base E.bare .empty B ρ w E1 A1 B1 hX w1):Ev P base E A B ρ w { E with z:=E1.z } A B1 hX w1:=by
  have hle:E.le { E with z:=E1.z }:=⟨fun _ _ e=>e,fun _ _ e=>e,jh.le.z,fun _ _ e=>e⟩
  have DZ:∀ x,x < B.next→B1.get x=B.get x:=fun x hx=>jh.gY x hx (fun b e=>by simp [Env.bare] at e) adT
  have kS:∀ g,g < B.next→B1.members g=B.members g:=fun g hg=>jh.n9 g hg (fun b e=>by simp [Env.bare] at e) Ya
  have fO:=jh.ej.next
  have FZ:∀ b r,E1.z b=some r→E.z b=some r∨B.next≤b:=fun b r e=>by
    rcases jh.qz b r e with e | e | e
    · exact .inl e
    · exact (X9 e).elim
    · exact .inr e
  have oZ:∀ y,AR A { E with z:=E1.z } y→AR A E y:=fun y q=>q
  have af6:∀ g,AF A E B g→g < B.next:=fun g ⟨b,v,x,L,N,cs,e,own,k,h1,h2,h3⟩=>(h.ar.pT b v x L N cs e own g k h1 h2 h3).1
  have Bu:∀ g,AF A { E with z:=E1.z } B1 g→AF A E B g:=fun g ⟨b,v,x,L,N,cs,e,own,k,h1,h2,h3⟩=>⟨b,v,x,L,N,cs,e,own,k,h1,h2,by rw [← DZ x (h.ar.fB b x L N h2)]; exact h3⟩
  refine ⟨⟨?_,?_,jh.dz.z,?_,h.inj,h.iH,h.gk,h.lM,h.live,?_,jh.dz.lX,?_,jh.dz.fresh,jh.dz.mem,h.ar.gY hle (fun _=>rfl) (fun _ _ e=>e) (fun _ _ e=>e) (Nat.le_refl _) fO (fun x q=>DZ x (h.AK q)) FZ (fun _ _ e=>.inl e) (fun b g e=>.inl ⟨b,e⟩) (fun g q=>kS g (af6 g q)) h.mem⟩,jh.ej,hle,Nat.le_refl _,fun x hx _ _=>DZ x hx,fun _ _ e=>.inl e,fun b r e=>(FZ b r e).imp id .inr,fun _ _ e=>.inl ⟨_,e⟩,fun g hg _ _=>kS g hg,fun y q=>.inl (oZ y q),fun g q=>.inl (Bu g q),jh.rK,fun y q=>.inl (q.imp (oZ y) fun ⟨g,q1,q2⟩=>⟨g,Bu g q1,by rw [← kS g (af6 g (Bu g q1))]; exact q2⟩),jh.rows⟩
  · intro b cs bm hb
    obtain ⟨x,c,h1,h2,h3⟩:=h.row b cs bm hb
    exact ⟨x,c,h1,by rw [DZ x (h.fB b x h1)]; exact h2,h3.mono hle⟩
  · intro b top sz hb
    rcases h.aW b top sz hb with h1 | ⟨g,h1,h2,h3⟩
    · exact .inl h1
    · have hg:=h.ji b g h1
      refine .inr ⟨g,h1,h2,fun x hx cs e own f k hr=>?_⟩
      rw [kS g hg] at hx
      rw [DZ x (h.mem g x hx)] at hr
      exact h3 x hx cs e own f k hr
  · intro b x hb
    have hx:=h.fB b x hb
    cases hz:E1.z x with
    | none=>rfl
    | some r=>
      rcases FZ x r hz with e | e
      · rw [h.apart b x hb] at e; simp at e
      · omega
  · intro b x hb; have:=h.fB b x hb; omega
  · intro b g hb; have:=h.ji b g hb; omega
theorem adU {g:FuncId} {F:List KV→KR KV} (hy:Nat.blt g yB=true) (hP:P.funcs.toList.all jf=true) (hm:P.follows .mixedOrders=true)
    (h:∀ VU v,VU.length=(bM P g).length→aG (F (normArgs P (bM P g) VU)) v→∃ cfg L n,o7 P cfg.pc∧rM P cfg∧lL P cfg L n g (normArgs P (bM P g) VU)=some v):gN P g F:=by
  intro args v hF hlen
  obtain ⟨cfg,L,n,fT,kL,kH⟩:=h _ v hlen hF
  have vx:=qL (R:=KV) hP hm fT kL L n
  obtain ⟨fn,c,hf,hc,bc,Xc,kH⟩:=Gg hP kH
  refine ⟨⟨hy,fn,hf,by simp [hc],Xc⟩,fun E A B ρ base w cL hv hj=>?_⟩
  obtain ⟨Z4,zt,Jm⟩:=hv
  have hv0:xS P E.bare ρ (normArgs P (bM P g) args) cL:=⟨Z4,aP.RF (E:=E) (E0:=E.bare) rfl zt hlen,Jm⟩
  refine (DY fT vx hm L hf hc bc (kL.2 g fn c hf hc) kH hv0 ⟨hj.k.bare,hj.s⟩).mono ?_
  rintro e w' ⟨vs,bP,E0,A0,B1,hX,rfl,⟨m,h1,h1'⟩,h2,h3⟩
  have h3:Bool.rec (motive:=fun _=>Option KV) none (some (zF (se P (py P g) (wh A0 vs).1))) (Nat.beq vs.length (py P g).length)=some v:=h3
  obtain ⟨E1,hf1,h1⟩:=AL h2.dz h1
  have jh:=Ev.bare hj.k (h2.trans (hf1.ev (.refl h2.ej.dz)))
  cases hb:Nat.beq vs.length (py P g).length with
  | false=>rw [hb] at h3; exact absurd h3 (by simp)
  | true=>
    rw [hb] at h3
    have h3:some (zF (se P (py P g) (wh A0 vs).1))=some v:=h3
    simp only [Option.some.injEq] at h3
    subst h3
    refine ⟨_,_,B1,hX,rfl,Gf ⟨m,?_,h1'⟩,jh⟩
    rw [zW]
    exact aP.RF (E:=E1) (E0:={ E with z:=E1.z }) rfl h1 ((DS A0 vs).trans (Nat.eq_of_beq_eq_true hb))
end Go.K
end
