/- Part of the proof of BinsMeet: a machine that runs the program's code over open terms, shown to be the model's, and the plain models of its functions. No conditions. -/
import Derived.Test.YtahhdndhkgbcjaaCp
import Derived.LoopNIn
import Derived.RangeFuncRecord
import Derived.Scope
section
namespace Go.aV
noncomputable section
open Go
variable {P:Program} {call:ca} {all:List Oper} {A0:St}
theorem Lw {b:List Nat} {i:Nat} : ∀ (ys:List Oper) (k:Nat),Ha P b i ys k=true→∀ (j:Nat) (y:Oper),ys[j]? = some y→i≠k+j→wF (compile P y.op)≠0→cP b i (k+j)=true∨cP b (k+j) i=true
  | [],k,_,j,y,hy,_,_=>by simp at hy
  | y0 :: ys,k,h,0,y,hy,bo,hk=>by
    simp at hy
    subst hy
    simp only [Ha,Bool.and_eq_true,Bool.or_eq_true] at h
    rcases h.1 with ((h1 | h1) | h1) | h1
    · exact absurd (Nat.eq_of_beq_eq_true h1) bo
    · exact absurd (Nat.eq_of_beq_eq_true h1) hk
    · exact .inl h1
    · exact .inr h1
  | y0 :: ys,k,h,j+1,y,hy,bo,hk=>by
    simp only [Ha,Bool.and_eq_true] at h
    have:=Lw ys (Nat.succ k) h.2 j y (by simpa using hy) (by rw [Nat.succ_add]; exact bo) hk
    rwa [Nat.succ_add] at this
theorem Ip {b:List Nat} : ∀ (os:List Oper) (k:Nat),EP P b all os k=true→∀ (j:Nat) (o:Oper),os[j]? = some o→wF (compile P o.op)=3→Ha P b (k+j) all 0=true
  | [],k,_,j,o,ho,_=>by simp at ho
  | o0 :: os,k,h,0,o,ho,hk=>by
    simp at ho
    subst ho
    simp only [EP,Bool.and_eq_true,Bool.or_eq_true,Bool.not_eq_true'] at h
    rcases h.1 with h1 | h1
    · rw [hk] at h1; simp at h1
    · exact h1
  | o0 :: os,k,h,j+1,o,ho,hk=>by
    simp only [EP,Bool.and_eq_true] at h
    have:=Ip os (Nat.succ k) h.2 j o (by simpa using ho) hk
    rwa [Nat.succ_add] at this
structure Hi (P:Program) (all:List Oper):Prop where
  Ff:fN P all
  s7:∀ (i:Nat) (o:Oper),all[i]? = some o→wF (compile P o.op)≠2
  order:∀ (i j:Nat) (o y:Oper),all[i]? = some o→all[j]? = some y→wF (compile P o.op)=3→wF (compile P y.op)≠0→i≠j→cP (az [] all) i j=true∨cP (az [] all) j i=true
theorem aer (h:si P all=true):mb P all=true∧Hi P all:=by
  simp only [si,Bool.and_eq_true] at h
  obtain ⟨⟨h1,h2⟩,h3⟩:=h
  refine ⟨h1,nA h1,fun i o ho=>?_,fun i j o y ho hy hk qc bo=>?_⟩
  · have:=List.all_eq_true.1 h2 o (List.mem_of_getElem? ho)
    intro e
    rw [e] at this
    simp at this
  · have h4:=Ip all 0 h3 i o ho hk
    rw [Nat.zero_add] at h4
    have:=Lw all 0 h4 j y hy (by rw [Nat.zero_add]; exact bo) qc
    rwa [Nat.zero_add] at this
structure s8 (P:Program) (all:List Oper) (A0:St) (i:Nat) (R:List Rec) (A:St):Prop where
  post:mP A0 R (dn R)=A
  nx:dP A0 R=A.next
  below:∀ s ∈ R,s.i < i
  s7:∀ s ∈ R,∀ id o,s.gp≠.make id o
  kind:∀ s ∈ R,∃ o,all[s.i]? = some o∧(gv s→wF (compile P o.op)=3)∧∀ f vs,s.gp = .read f vs→wF (compile P o.op)=1
  last:match dn R with
    | none=>∀ s ∈ R,¬ gv s
    | some y=>(∃ s ∈ R,gv s∧s.i=y)∧∀ s ∈ R,gv s→s.i≤y
  reads:∀ s ∈ R,∀ f vs,s.gp = .read f vs→∃ e,f (mP A0 R e) vs=some s.v∧(mP A0 R e).next=s.nx∧
    match e with
    | none=>∀ x ∈ R,gv x→s.i < x.i
    | some y=>y < s.i∧(∃ x ∈ R,gv x∧x.i=y)∧∀ x ∈ R,gv x→x.i < s.i→x.i≤y
  chain:nw (az [] all) R=true
theorem oQ {r:Rec} {R:List Rec} {e:Option Nat} (h:∀ y,e=some y→r.i≠y):mP A0 (r :: R) e=mP A0 R e:=by
  cases e with
  | none=>rfl
  | some y=>
    have bo:=h y rfl
    simp only [mP,Cg]
    split
    · have:Nat.beq r.i y=false:=by
        cases hb:Nat.beq r.i y with
        | false=>rfl
        | true=>exact absurd (Nat.eq_of_beq_eq_true hb) bo
      rw [this,cond_false]
    · rfl
theorem vu {b:List Nat} {R:List Rec} (h:∀ s ∈ R,∀ id o,s.gp≠.make id o) (e:Option Nat) (gT:Nat→Bool):gM b A0 R e gT=mP A0 R e:=by
  have key:∀ (R:List Rec),(∀ s ∈ R,∀ id o,s.gp≠.make id o)→∀ gT A,jU gT A R=A:=by
    intro R
    induction R with
    | nil=>intro _ gT A; rfl
    | cons r R ih=>
      intro h gT A
      have ih:=ih (fun s hs=>h s (by simp [hs])) gT A
      simp only [jU]
      split
      · rename_i id o hd; exact absurd hd (h r (by simp) id o)
      · exact ih
  exact key R h _ _
theorem s8.plain {i:Nat} {R:List Rec} {A:St} (h:s8 P all A0 i R A) {r:Rec} {o:Oper} (hi:r.i=i) (hn:r.nx=A.next) (ho:all[i]? = some o) (hd:r.gp = .val∨∃ f vs,r.gp = .read f vs∧f A vs=some r.v∧wF (compile P o.op)=1) :
    s8 P all A0 (i+1) (r :: R) A:=by
  have zD : ¬ gv r:=by rintro ⟨B,hB⟩; rcases hd with h1 | ⟨f,vs,h1,_⟩ <;> rw [h1] at hB <;> simp at hB
  have Z0:∀ id o,r.gp≠.make id o:=by intro id o e; rcases hd with h1 | ⟨f,vs,h1,_⟩ <;> rw [h1] at e <;> simp at e
  have hl:dn (r :: R)=dn R:=by rcases hd with h1 | ⟨f,vs,h1,_⟩ <;> simp [dn,h1]
  have uO:=h.last
  have bo:∀ y,dn R=some y→r.i≠y:=by
    intro y e
    rw [e] at uO
    obtain ⟨⟨s,hs,_,h2⟩,_⟩:=uO
    have:=h.below s hs
    omega
  refine ⟨by rw [hl,oQ bo]; exact h.post,hn,fun s hs=>?_,fun s hs=>?_,fun s hs=>?_,?_,fun s hs f vs hf=>?_,?_⟩
  · rcases List.mem_cons.1 hs with rfl | hs
    · omega
    · have:=h.below s hs; omega
  · rcases List.mem_cons.1 hs with rfl | hs
    · exact Z0
    · exact h.s7 s hs
  · rcases List.mem_cons.1 hs with rfl | hs
    · refine ⟨o,by rw [hi]; exact ho,fun ha=>absurd ha zD,fun f vs hf=>?_⟩
      rcases hd with h1 | ⟨f',bN,h1,_,h3⟩
      · rw [h1] at hf; simp at hf
      · exact h3
    · exact h.kind s hs
  · rw [hl]
    cases hle:dn R with
    | none=>
      rw [hle] at uO
      intro s hs
      rcases List.mem_cons.1 hs with rfl | hs
      · exact zD
      · exact uO s hs
    | some y=>
      rw [hle] at uO
      obtain ⟨⟨s,hs,h1,h2⟩,h3⟩:=uO
      exact ⟨⟨s,by simp [hs],h1,h2⟩,fun x hx zF=>by
        rcases List.mem_cons.1 hx with rfl | hx
        · exact absurd zF zD
        · exact h3 x hx zF⟩
  · rcases List.mem_cons.1 hs with rfl | hs
    · rcases hd with h1 | ⟨f',bN,h1,h2,_⟩
      · rw [h1] at hf; simp at hf
      · rw [h1] at hf
        simp at hf
        obtain ⟨rfl,rfl⟩:=hf
        refine ⟨dn R,by rw [oQ bo,h.post]; exact h2,by rw [oQ bo,h.post,hn],?_⟩
        cases hle:dn R with
        | none=>
          rw [hle] at uO
          intro x hx zF
          rcases List.mem_cons.1 hx with rfl | hx
          · exact absurd zF zD
          · exact absurd zF (uO x hx)
        | some y=>
          rw [hle] at uO
          obtain ⟨⟨x,hx,h4,h5⟩,h6⟩:=uO
          refine ⟨by have:=h.below x hx; omega,⟨x,by simp [hx],h4,h5⟩,fun z hz haz _=>?_⟩
          rcases List.mem_cons.1 hz with rfl | hz
          · exact absurd haz zD
          · exact h6 z hz haz
    · obtain ⟨e,h1,h2,h3⟩:=h.reads s hs f vs hf
      have K7:=h.below s hs
      have S3:∀ y,e=some y→r.i≠y:=by
        intro y he
        subst he
        have:=h3.1
        omega
      refine ⟨e,by rw [oQ S3]; exact h1,by rw [oQ S3]; exact h2,?_⟩
      cases e with
      | none=>
        intro x hx zF
        rcases List.mem_cons.1 hx with rfl | hx
        · exact absurd zF zD
        · exact h3 x hx zF
      | some y=>
        obtain ⟨h4,⟨x,hx,h5,h6⟩,h7⟩:=h3
        refine ⟨h4,⟨x,by simp [hx],h5,h6⟩,fun z hz haz=>?_⟩
        rcases List.mem_cons.1 hz with rfl | hz
        · exact absurd haz zD
        · exact h7 z hz haz
  · have:=h.chain
    rcases hd with h1 | ⟨f,vs,h1,_⟩ <;> simp [nw,h1,this]
theorem s8.act {i:Nat} {R:List Rec} {A B:St} (hf:Hi P all) (h:s8 P all A0 i R A) {r:Rec} {o:Oper} (hi:r.i=i) (hn:r.nx=B.next) (ho:all[i]? = some o) (hd:r.gp = .act B) (hk:wF (compile P o.op)=3) :
    s8 P all A0 (i+1) (r :: R) B:=by
  have ha:gv r:=⟨B,hd⟩
  have hl:dn (r :: R)=some r.i:=by simp [dn,hd]
  refine ⟨by rw [hl]; simp only [mP,Cg,hd]; rw [show Nat.beq r.i r.i=true from by simp,cond_true],hn,fun s hs=>?_,fun s hs=>?_,fun s hs=>?_,?_,fun s hs f vs sY=>?_,?_⟩
  · rcases List.mem_cons.1 hs with rfl | hs
    · omega
    · have:=h.below s hs; omega
  · rcases List.mem_cons.1 hs with rfl | hs
    · intro id o e; rw [hd] at e; simp at e
    · exact h.s7 s hs
  · rcases List.mem_cons.1 hs with rfl | hs
    · exact ⟨o,by rw [hi]; exact ho,fun _=>hk,fun f vs e=>by rw [hd] at e; simp at e⟩
    · exact h.kind s hs
  · rw [hl]
    refine ⟨⟨r,by simp,ha,rfl⟩,fun s hs _=>?_⟩
    rcases List.mem_cons.1 hs with rfl | hs
    · exact Nat.le_refl _
    · have:=h.below s hs; omega
  · rcases List.mem_cons.1 hs with rfl | hs
    · rw [hd] at sY; simp at sY
    · obtain ⟨e,h1,h2,h3⟩:=h.reads s hs f vs sY
      have K7:=h.below s hs
      have S3:∀ y,e=some y→r.i≠y:=by
        intro y he
        subst he
        have:=h3.1
        omega
      refine ⟨e,by rw [oQ S3]; exact h1,by rw [oQ S3]; exact h2,?_⟩
      cases e with
      | none=>
        intro x hx zF
        rcases List.mem_cons.1 hx with rfl | hx
        · omega
        · exact h3 x hx zF
      | some y=>
        obtain ⟨h4,⟨x,hx,h5,h6⟩,h7⟩:=h3
        refine ⟨h4,⟨x,by simp [hx],h5,h6⟩,fun z hz haz aY=>?_⟩
        rcases List.mem_cons.1 hz with rfl | hz
        · omega
        · exact h7 z hz haz aY
  · have hc:=h.chain
    have uO:=h.last
    simp only [nw,hd,Bool.and_eq_true]
    refine ⟨?_,hc⟩
    cases hle:dn R with
    | none=>rfl
    | some y=>
      rw [hle] at uO
      obtain ⟨⟨s,hs,h1,h2⟩,_⟩:=uO
      obtain ⟨os,h3,h4,_⟩:=h.kind s hs
      have aY:=h.below s hs
      subst h2
      rw [← hi] at ho
      rcases hf.order r.i s.i o os ho h3 hk (by rw [h4 h1]; simp) (by omega) with h5 | h5
      · exact h5
      · have:=Li hf.Ff h5; omega
theorem S9 {A B:St} {r:Option (Tm×St)} {q:Tm×St} (h:WM A B r=some q):Nat.ble A.next B.next=true∧r=some q:=by
  unfold WM at h
  cases hb:Nat.ble A.next B.next with
  | false=>rw [hb] at h; exact absurd h (by simp)
  | true=>rw [hb] at h; exact ⟨rfl,h⟩
theorem Ta (hf:Hi P all):∀ (os:List Oper) (i:Nat) (R:List Rec) (t t' : Tm) (A B:St),all.drop i=os→s8 P all A0 i R A→ER P call all os t A=some (t',B)→
    ∃ R',qP P call (az [] all) all A0 os i R t=some (R',t')∧s8 P all A0 all.length R' B
  | [],i,R,t,t',A,B,hd,hI,h=>by
    simp only [ad6,Option.some.injEq,Prod.mk.injEq] at h
    obtain ⟨rfl,rfl⟩:=h
    have hlen:all.length≤i:=List.drop_eq_nil_iff.1 hd
    refine ⟨R,rfl,⟨hI.post,hI.nx,fun s hs=>?_,hI.s7,hI.kind,hI.last,hI.reads,hI.chain⟩⟩
    obtain ⟨o,h1,_⟩:=hI.kind s hs
    exact (List.getElem?_eq_some_iff.1 h1).1
  | o :: os,i,R,t,t',A,B,hd,hI,h=>by
    have ho:all[i]? = some o:=by
      have:(all.drop i)[0]? = some o:=by rw [hd]; rfl
      rw [List.getElem?_drop] at this
      simpa using this
    have wM:all.drop (i+1)=os:=by rw [← List.drop_drop,hd]; rfl
    simp only [abR] at h
    obtain ⟨wd,Eo,h⟩:=Option.bind_eq_some_iff.1 h
    have mU:∀ gT,(gM (az [] all) A0 R (dn R) gT).at A.next=A:=by
      intro gT
      rw [vu hI.s7,hI.post]
      rfl
    have ahD:∀ gT,gM (az [] all) A0 R (dn R) gT=A:=by
      intro gT
      rw [vu hI.s7,hI.post]
    have step:∀ (r:Rec) (C:St),sS P call (az [] all) all A0 R i t o=some r→s8 P all A0 (i+1) (r :: R) C→ER P call all os (sP t o.dst r.v) C=some (t',B)→
        ∃ R',qP P call (az [] all) all A0 (o :: os) i R t=some (R',t')∧s8 P all A0 all.length R' B:=by
      intro r C h1 h2 h3
      obtain ⟨R',h4,h5⟩:=Ta hf os (i+1) (r :: R) _ t' C B wM h2 h3
      exact ⟨R',by simp only [qP,h1,Option.bind_some]; exact h4,h5⟩
    cases wd with
    | false=>
      rw [cond_false] at h
      obtain ⟨_,h⟩:=S9 h
      exact step ⟨i,undef,dP A0 R,.val⟩ A (by simp [sS,Eo]) (hI.plain rfl hI.nx ho (.inl rfl)) h
    | true=>
      rw [cond_true] at h
      obtain ⟨⟨v,C⟩,h1,h2⟩:=Option.bind_eq_some_iff.1 h
      obtain ⟨adf,h2⟩:=S9 h2
      have adf:Nat.ble A.next C.next=true:=adf
      cases hc:compile P o.op with
      | pure f xs=>
        rw [hc] at h1
        simp only [kZ] at h1
        obtain ⟨u,hu,he⟩:=Option.map_eq_some_iff.1 h1
        simp at he
        obtain ⟨rfl,rfl⟩:=he
        exact step ⟨i,u,dP A0 R,.val⟩ A (by simp [sS,Eo,hc,fM,hu]) (hI.plain rfl hI.nx ho (.inl rfl)) h2
      | read f xs=>
        rw [hc] at h1
        simp only [kZ] at h1
        obtain ⟨u,hu,he⟩:=Option.map_eq_some_iff.1 h1
        simp at he
        obtain ⟨rfl,rfl⟩:=he
        exact step ⟨i,u,dP A0 R,.read f (xs.map (jj t))⟩ A (by simp [sS,Eo,hc,fM,ahD,hu]) (hI.plain rfl hI.nx ho (.inr ⟨_,_,rfl,hu,by rw [hc]; rfl⟩)) h2
      | make f xs=>exact absurd (by rw [hc]; rfl) (hf.s7 i o ho)
      | act f xs=>
        rw [hc] at h1
        simp only [kZ] at h1
        exact step ⟨i,v,C.next,.act C⟩ C (by simp [sS,Eo,hc,fM,mU,h1,hI.nx,adf]) (hI.act hf rfl rfl ho rfl (by rw [hc]; rfl)) h2
      | call f xs=>
        rw [hc] at h1
        simp only [kZ] at h1
        obtain ⟨p,hp,h1⟩:=Option.bind_eq_some_iff.1 h1
        exact step ⟨i,v,C.next,.act C⟩ C (by simp [sS,Eo,hc,fM,mU,hp,h1,hI.nx,adf]) (hI.act hf rfl rfl ho rfl (by rw [hc]; rfl)) h2
      | bad=>exact absurd (by rw [hc]; rfl) (hf.s7 i o ho)
theorem Tb {b:List Nat} {i:Nat} {e:Option Nat} : ∀ {R:List Rec},EO b i e R=true→∀ r ∈ R,gv r→match e with
    | some e=>(cP b i r.i=true→r.i≤e)∧(cP b r.i i=true→e < r.i)
    | none=>cP b i r.i=false
  | [],_,r,hr,_=>by simp at hr
  | x :: R,h,r,hr,ha=>by
    simp only [EO,Bool.and_eq_true] at h
    rcases List.mem_cons.1 hr with rfl | hr
    · obtain ⟨B,hB⟩:=ha
      have h1:=h.1
      rw [hB] at h1
      cases e with
      | none=>simpa using h1
      | some e=>
        simp only [Bool.and_eq_true,Bool.or_eq_true,Bool.not_eq_true'] at h1
        obtain ⟨h2,h3⟩:=h1
        refine ⟨fun hb=>?_,fun hb=>?_⟩
        · rcases h2 with h2 | h2
          · rw [hb] at h2; simp at h2
          · exact Nat.le_of_ble_eq_true h2
        · rcases h3 with h3 | h3
          · rw [hb] at h3; simp at h3
          · rw [Nat.blt_eq] at h3; exact h3
    · exact Tb h.2 r hr ha
theorem Fg:∀ {R:List Rec} {e:Option Nat},e ∈ ia R→e=none∨∃ r ∈ R,gv r∧e=some r.i
  | [],e,h=>by simp [ia] at h; exact .inl h
  | x :: R,e,h=>by
    simp only [ia] at h
    split at h
    · rename_i B hB
      rcases List.mem_cons.1 h with rfl | h
      · exact .inr ⟨x,by simp,⟨B,hB⟩,rfl⟩
      · rcases Fg h with h | ⟨r,hr,h1,h2⟩
        · exact .inl h
        · exact .inr ⟨r,by simp [hr],h1,h2⟩
    · rcases Fg h with h | ⟨r,hr,h1,h2⟩
      · exact .inl h
      · exact .inr ⟨r,by simp [hr],h1,h2⟩
theorem Z5 (hf:Hi P all) {R:List Rec} {B:St} (hI:s8 P all A0 all.length R B) {r:Rec} (hr:r ∈ R) {f:St→List Value→Option Value} {vs:List Value} (hd:r.gp = .read f vs) {e:Option Nat} (he:e ∈ ia R) (hm:EO (az [] all) r.i e R=true) :
    f (mP A0 R e) vs=some r.v∧(mP A0 R e).next=r.nx:=by
  obtain ⟨e',h1,h2,h3⟩:=hI.reads r hr f vs hd
  obtain ⟨o,ho,_,hk⟩:=hI.kind r hr
  have hk:=hk f vs hd
  have vV:=Tb hm
  have bo:∀ x ∈ R,gv x→x.i≠r.i:=by
    intro x hx zF e2
    obtain ⟨ox,hox,Ya,_⟩:=hI.kind x hx
    rw [e2,ho] at hox
    simp at hox; subst hox
    rw [Ya zF] at hk
    simp at hk
  have v9:∀ x ∈ R,gv x→(x.i < r.i→cP (az [] all) r.i x.i=true)∧(r.i < x.i→cP (az [] all) x.i r.i=true):=by
    intro x hx zF
    obtain ⟨ox,hox,Ya,_⟩:=hI.kind x hx
    have h4:=hf.order x.i r.i ox o hox ho (Ya zF) (by rw [hk]; simp) (bo x hx zF)
    refine ⟨fun aY=>?_,fun aY=>?_⟩
    · rcases h4 with h4 | h4
      · have:=Li hf.Ff h4; omega
      · exact h4
    · rcases h4 with h4 | h4
      · exact h4
      · have:=Li hf.Ff h4; omega
  have hee:e=e':=by
    rcases Fg he with rfl | ⟨x,hx,zF,rfl⟩
    · cases e' with
      | none=>rfl
      | some y=>
        obtain ⟨h4,⟨x,hx,h5,h6⟩,_⟩:=h3
        have h7:=vV x hx h5
        have h8:=(v9 x hx h5).1 (by omega)
        simp only at h7
        rw [h7] at h8
        simp at h8
    · have hxr:x.i < r.i:=by
        have h5:=bo x hx zF
        rcases Nat.lt_or_ge x.i r.i with h6 | h6
        · exact h6
        · have h7:=(vV x hx zF).2 ((v9 x hx zF).2 (by omega))
          omega
      cases e' with
      | none=>have:=h3 x hx zF; omega
      | some y=>
        obtain ⟨h4,⟨z,hz,h5,h6⟩,h7⟩:=h3
        have h8:=h7 x hx zF hxr
        have h9:=(vV z hz h5).1 ((v9 z hz h5).1 (by omega))
        have:x.i=y:=by omega
        rw [this]
  rw [hee]
  exact ⟨h1,h2⟩
theorem Td {rd:Option Nat} (dC:n4 P call) (hm:P.follows .mixedOrders=true) {id:Nat} {N base:Nat} (Fa:all.all (mc N)=true) {t t' : Tm} {A B:St} {ρ:Go.aV.aw} {a:Act} {w:World} {Q:Exit→Act→World→Prop}
    (hov:si P all=true) (h:ER P call all all t A=some (t',B)) (ht:TR ρ t N a) (hs:fU ρ A base w) (hq:∀ aq a' w',TR aq t' N a'→a'.defers=a.defers→b7 base ρ A w aq B w'→Q .normal a' w'):(Code.region id ⟨all⟩ true).wpIn (Fr rd) 0 P Q a w:=by
  obtain ⟨bH,hf⟩:=aer hov
  obtain ⟨R,X6,hI⟩:=Ta (A0:=A) hf all 0 [] t t' A B (by simp) ⟨rfl,rfl,fun s hs=>by simp at hs,fun s hs=>by simp at hs,fun s hs=>by simp at hs,fun s hs=>by simp at hs,fun s hs=>by simp at hs,rfl⟩ h
  refine Fc dC hm Fa bH X6 hI.chain (fun r hr f vs hd=>⟨.inr ⟨hI.s7,fun e he hme=>Nat.le_of_eq (Z5 hf hI hr hd he hme).2⟩,fun e he hme=>?_⟩) ht hs fun aq a' w' uk um hg=>?_
  · rw [vu hI.s7]
    exact (Z5 hf hI hr hd he hme).1
  · rw [vu hI.s7,hI.post,hI.nx] at hg
    exact hq aq a' w' uk um hg
end
end Go.aV
end
section
namespace Go.aV
noncomputable section
open Go
def EvR (ρ:aw) (ev bF:Operand→Value):Prop:=∀ x,VR ρ (ev x) (bF x)
theorem EvR.on {ρ:aw} {ev bF:Operand→Value} (h:EvR ρ ev bF) (xs:List Operand):ny ρ ev bF xs:=fun x _=>h x
theorem TR.ev {ρ:aw} {t:Tm} {N:Nat} {a:Act} (h:TR ρ t N a):EvR ρ (jj t) a.eval:=by
  intro x
  cases x with
  | tmp i=>exact h.val i
  | const v=>
    simp only [jj,Act.eval]
    cases hf:flat v with
    | true=>exact VR.of_flat hf
    | false=>simp [VR]
  | global g=>exact h.jO.ev g
  | func f=>exact VR.Hd (l:=[]) (m:=[]) (.func f) rfl .nil .nil
theorem TR.mono {ρ aq:aw} {t:Tm} {N:Nat} {a:Act} (h:TR ρ t N a) (hle:ρ.le aq):TR aq t N a:=⟨h.size,fun i=>(h.val i).mono hle,h.none,h.jO.mono hle⟩
theorem TR.put {ρ:aw} {t:Tm} {N:Nat} {a:Act} {dst:Option Tmp} {v v' : Value} (h:TR ρ t N a) (hd:∀ d,dst=some d→d < N) (hv:VR ρ v v'):TR ρ (sP t dst v) N (a.put dst v'):=by
  cases dst with
  | none=>exact h
  | some d=>
    have hd:=hd d rfl
    refine ⟨by simp [Act.put,h.size],fun i=>?_,fun i hi=>?_,h.jO⟩
    · simp only [sP,Trie.fv,Act.put]
      by_cases e:i=d
      · subst e
        have:i < a.tmps.size:=by rw [h.size]; exact hd
        simp [Array.getD_eq_getD_getElem?,this,hv]
      · have:=h.val i
        simp only [if_neg e]
        simpa [Array.getD_eq_getD_getElem?,Array.getElem?_setIfInBounds_ne (Ne.symm e)] using this
    · simp only [sP,Trie.fv]
      have bo:i≠d:=fun e=>absurd hi (by rw [e]; exact Nat.not_le_of_lt hd)
      rw [if_neg bo]
      exact h.none i hi
theorem put_defers (a:Act) (dst:Option Tmp) (v:Value):(a.put dst v).defers=a.defers:=by cases dst <;> rfl
theorem V0 {ρ:aw} {t:Tm} {N:Nat} {a:Act} {all:List Oper} {o:Oper} {wd:Bool} (h:TR ρ t N a) (hw:sQ all t o.guard=some wd) :
    Region.wanted o (yielded ⟨all⟩ a.tmps)=wd:=by
  unfold sQ at hw
  unfold Region.wanted
  split at hw
  · rename_i hg; simp at hw; rw [hg]; exact hw.symm
  · rename_i j want hg
    rw [hg]
    simp only
    unfold yielded
    have e:(⟨all⟩:Array Oper)[j]? = all[j]?:=by simp
    rw [e]
    cases hd:(all[j]?).bind (·.dst) with
    | none=>rw [hd] at hw; simp [gj] at hw; subst hw; simp
    | some d=>
      rw [hd] at hw
      simp only [Option.bind_some] at hw ⊢
      have hv:=h.val d
      cases ht:t.get d with
      | none=>
        rw [ht] at hw hv
        simp [gj] at hw; subst hw
        simp only [Option.getD_none] at hv
        have hu:a.tmps.getD d undef=undef:=hv.ib (by simp [undef,flat,sL,kO])
        cases hc:a.tmps[d]? with
        | none=>simp
        | some u=>
          have:a.tmps.getD d undef=u:=by simp [Array.getD_eq_getD_getElem?,hc]
          rw [hu] at this
          subst this
          simp [undef]
      | some v=>
        rw [ht] at hw hv
        simp only [Option.getD_some] at hv
        have aY:d < N:=by
          rcases Nat.lt_or_ge d N with h1 | h1
          · exact h1
          · have:=h.none d h1; rw [ht] at this; simp at this
        have hc:a.tmps[d]? = some (a.tmps.getD d undef):=by
          have:d < a.tmps.size:=by rw [h.size]; exact aY
          simp [Array.getD_eq_getD_getElem?,this]
        rw [hc]
        generalize a.tmps.getD d undef=u at hv
        cases v with
        | bool b=>
          simp [gj] at hw
          have:=hv.cF
          subst this
          subst hw
          cases b <;> cases want <;> rfl
        | tuple cs=>
          simp [gj] at hw
          obtain ⟨bk,rfl,_⟩:=hv.xQ
          subst hw
          rfl
        | _=>simp [gj] at hw
theorem aca {P:Program} {call:ca} {rd:Option Nat} (dC:n4 P call) {o:Oper} {t:Tm} {A B:St} {v:Value} {N base:Nat} {ρ:aw} {a:Act} {w:World} {next:Act→World→Prop} {Q:Exit→Act→World→Prop}
    (h:kZ call t A (compile P o.op)=some (v,B)) (ht:TR ρ t N a) (hs:fU ρ A base w)
    (hk:∀ aq v' w',VR aq v v'→b7 base ρ A w aq B w'→next (a.put o.dst v') w'):o.wpIn (Fr rd) 0 P a w next Q:=by
  have bH:=jm P o
  have jg:=ht.ev
  refine Z1 (fun c e=>by rw [e] at h; simp [compile,kZ] at h) ?_
  generalize compile P o.op=ins at h bH
  cases ins with
  | pure f xs=>
    obtain ⟨u,hu,he⟩:=Option.map_eq_some_iff.1 h
    simp at he
    obtain ⟨rfl,rfl⟩:=he
    obtain ⟨v',h1,h2⟩:=bH ρ _ _ _ (jg.on _) hu
    rw [h2 w]
    exact hk ρ v' w h1 (.refl hs)
  | read f xs=>
    obtain ⟨u,hu,he⟩:=Option.map_eq_some_iff.1 h
    simp at he
    obtain ⟨rfl,rfl⟩:=he
    obtain ⟨v',h1,h2⟩:=bH ρ A base w _ _ _ hs.rel (jg.on _) hu
    rw [h2]
    exact hk ρ v' w h1 (.refl hs)
  | make f xs=>
    obtain ⟨⟨obj,mk⟩,hu,he⟩:=Option.map_eq_some_iff.1 h
    simp at he
    obtain ⟨rfl,rfl⟩:=he
    obtain ⟨c,mk',h1,h2,h3⟩:=bH ρ _ _ _ _ (jg.on _) hu
    rw [h2 w]
    exact hk _ _ _ (h3 _ _ _ (aw.gk _ _ _)) (h1.dj hs)
  | act f xs=>
    obtain ⟨aq,v',nx,w',h1,h2,h3,h4⟩:=bH ρ A B base w _ _ _ hs (jg.on _) h
    rw [h1]
    cases nx with
    | value u=>
      have:u=v':=h2
      subst this
      exact hk aq u w' h3 h4
    | skip=>
      have:v' = undef:=h2
      subst this
      exact hk aq undef w' h3 h4
    | _=>exact h2.elim
  | call f args=>
    obtain ⟨⟨g,vs⟩,Dz,hu⟩:=Option.bind_eq_some_iff.1 h
    exact Z2 bH dC (jg.on _) Dz hu hs hk
  | bad=>simp [kZ] at h
theorem JD {P:Program} {call:ca} {rd:Option Nat} (dC:n4 P call) {N base:Nat} {Q:Exit→Act→World→Prop} {all:List Oper} (hd:all.all (mc N)=true) :
    ∀ (os:List Oper) (k:Nat) (t t' : Tm) (A B:St) (ρ:aw) (a:Act) (w:World),all.drop k=os→opsV P call all os t A=some (t',B)→TR ρ t N a→fU ρ A base w→
      (∀ aq a' w',TR aq t' N a'→a'.defers=a.defers→b7 base ρ A w aq B w'→Q .normal a' w')→wpOpsIn (Fr rd) 0 P ⟨all⟩ Q (List.range' k os.length) a w
  | [],k,t,t',A,B,ρ,a,w,_,h,ht,hs,hq=>by
    simp only [WK,Option.some.injEq,Prod.mk.injEq] at h
    obtain ⟨rfl,rfl⟩:=h
    exact hq ρ a w ht rfl (.refl hs)
  | o :: os,k,t,t',A,B,ρ,a,w,hk,h,ht,hs,hq=>by
    have ho:(⟨all⟩:Array Oper)[k]? = some o:=by
      have:(all.drop k)[0]? = some o:=by rw [hk]; rfl
      rw [List.getElem?_drop] at this
      simpa using this
    have qc:all.drop (k+1)=os:=by
      rw [← List.drop_drop,hk]
      rfl
    have jd:∀ d,o.dst=some d→d < N:=by
      intro d e
      have hm:o ∈ all:=List.mem_of_getElem? (by simpa using ho)
      have:=List.all_eq_true.1 hd o hm
      unfold mc at this
      rw [e] at this
      simp only at this
      rw [Nat.blt_eq] at this
      exact this
    rw [List.length_cons,List.range'_succ]
    simp only [wpOpsIn,ho]
    simp only [Su] at h
    obtain ⟨wd,Eo,h⟩:=Option.bind_eq_some_iff.1 h
    rw [V0 ht Eo]
    cases wd with
    | true=>
      rw [cond_true] at h
      obtain ⟨⟨v,C⟩,h1,h2⟩:=Option.bind_eq_some_iff.1 h
      refine aca dC h1 ht hs fun aq v' w' hv hg=>?_
      refine JD dC hd os (k+1) _ _ C B aq _ w' qc h2 ((ht.mono (hg.le hs)).put jd hv) hg.cW fun iP Fh sX uk um zG=>?_
      exact hq iP Fh sX uk (by rw [um,put_defers]) (hg.trans zG)
    | false=>
      rw [cond_false] at h
      refine ⟨fun _ _=>trivial,JD dC hd os (k+1) _ _ A B ρ _ w qc h (ht.put jd VR.undef) hs fun iP Fh sX uk um zG=>?_⟩
      exact hq iP Fh sX uk (by rw [um,put_defers]) zG
def au.out:au→Exit
  | .normal=>.normal
  | .exit id=>.exit id
  | .goto l=>.goto l
  | .ret=>.ret
theorem Z6 {ρ:aw} {t:Tm} {N:Nat} {a:Act} {c:Operand} {x:Bool} (ht:TR ρ t N a) (h:jj t c = .bool x):a.eval c = .bool x:=by
  have:=ht.ev c
  rw [h] at this
  exact this.cF
def mark (D:Nat):Deferred:={ target:=.collected D,args:=#[] }
def Defs (n0:Nat) (a a' : Act) (ρ:aw) (A:St) (w:World):Prop:=
  ∃ Ds:List Nat,a'.defers=Ds.map mark ++ a.defers∧(∀ D ∈ Ds,n0≤D∧w.heap[D]? = some (.deferred (some []))∧¬ AU ρ A D)∧Ds.Nodup
theorem Defs.same {n0:Nat} {a a' : Act} {ρ:aw} {A:St} {w:World} (h:a'.defers=a.defers):Defs n0 a a' ρ A w:=⟨[],by simpa using h,by simp,by simp⟩
theorem Defs.refl (n0:Nat) (a:Act) (ρ:aw) (A:St) (w:World):Defs n0 a a ρ A w:=.same rfl
theorem Defs.eU {n0 base:Nat} {a a' : Act} {ρ aq:aw} {A B:St} {w w' : World} (h:Defs n0 a a' ρ A w) (hg:b7 base ρ A w aq B w'):Defs n0 a a' aq B w':=by
  obtain ⟨Ds,h1,h2,h3⟩:=h
  refine ⟨Ds,h1,fun D hD=>?_,h3⟩
  obtain ⟨h4,h5,h6⟩:=h2 D hD
  have aY:D < w.heap.size:=(Array.getElem?_eq_some_iff.1 h5).1
  exact ⟨h4,by rw [hg.kept.block D aY h6]; exact h5,fun h=>h6 (hg.SA D aY h)⟩
theorem Defs.trans {n0 base:Nat} {a a1 a2:Act} {iI iU:aw} {A1 A2:St} {w1 w2:World} (h:Defs n0 a a1 iI A1 w1) (hg:b7 base iI A1 w1 iU A2 w2) (hn:n0≤w1.heap.size) (k:Defs w1.heap.size a1 a2 iU A2 w2):Defs n0 a a2 iU A2 w2:=by
  have aY:∀ D ∈ h.choose,D < w1.heap.size:=fun D hD=>(Array.getElem?_eq_some_iff.1 (h.choose_spec.2.1 D hD).2.1).1
  obtain ⟨h1,h2,h3⟩:=h.choose_spec
  generalize h.choose=Ds at aY h1 h2 h3
  obtain ⟨Es,k1,k2,k3⟩:=k
  refine ⟨Es ++ Ds,by rw [k1,h1]; simp,fun D hD=>?_,?_⟩
  · rcases List.mem_append.1 hD with hD | hD
    · obtain ⟨k4,k5,k6⟩:=k2 D hD
      exact ⟨Nat.le_trans hn k4,k5,k6⟩
    · obtain ⟨h4,h5,h6⟩:=h2 D hD
      exact ⟨h4,by rw [hg.kept.block D (aY D hD) h6]; exact h5,fun h=>h6 (hg.SA D (aY D hD) h)⟩
  · rw [List.nodup_append]
    refine ⟨k3,h3,fun D hD E hE e=>?_⟩
    have h7:=(k2 D hD).1
    have h8:=aY E hE
    omega
def Cx (P:Program) (N:Nat) (c:Code) (f:Tm→St→Option (au×Tm×St)):Prop:=
  ∀ (rd:Option Nat) (t t' : Tm) (A B:St) (e:au) (ρ:aw) (base:Nat) (a:Act) (w:World) (Q:Exit→Act→World→Prop),(rd=none∨dp c=true)→f t A=some (e,t',B)→TR ρ t N a→fU ρ A base w→
    (∀ aq a' w',TR aq t' N a'→Defs w.heap.size a a' aq B w'→b7 base ρ A w aq B w'→Q e.out a' w')→c.wpIn (Fr rd) 0 P Q a w
theorem Qk {P:Program} {N:Nat} {c:Code} {f:Tm→St→Option (au×Tm×St)} (hf:Cx P N c f) :
    ∀ (n:Nat) (rd:Option Nat) (t t' : Tm) (A B:St) (e:au) (ρ:aw) (base:Nat) (a:Act) (w:World) (Q:Exit→Act→World→Prop),(rd=none∨dp c=true)→Jr f n t A=some (e,t',B)→TR ρ t N a→fU ρ A base w→
    (∀ aq a' w',TR aq t' N a'→Defs w.heap.size a a' aq B w'→b7 base ρ A w aq B w'→Q e.out a' w')→Code.roundsIn (Fr rd) 0 P c Q n a w
  | 0,rd,t,t',A,B,e,ρ,base,a,w,Q,hr,h,ht,hs,hq=>by simp [ZH] at h
  | n+1,rd,t,t',A,B,e,ρ,base,a,w,Q,hr,h,ht,hs,hq=>by
    rw [roundsIn_succ]
    simp only [ZI,WL] at h
    split at h
    · rename_i t1 C h1
      refine hf rd t t1 A C .normal ρ base a w _ hr h1 ht hs fun aq a' w' uk um hg=>?_
      refine Qk hf n rd t1 t' C B e aq base a' w' Q hr h uk hg.cW fun iP Fh sX afF afG zG=>?_
      exact hq iP Fh sX afF (um.trans zG hg.kept.size afG) (hg.trans zG)
    · rename_i bo
      refine hf rd t t' A B e ρ base a w _ hr h ht hs fun aq a' w' uk um hg=>?_
      have zH:=hq aq a' w' uk um hg
      cases e with
      | normal=>exact absurd h (bo t' B)
      | exit id=>exact zH
      | goto l=>exact zH
      | ret=>exact zH
section
variable {P:Program} {b:Frame} {a:Act} {k:List Item} {cs:List Frame} {w:World}
theorem Yb {c:Code} : step P (lone (b.atR a (.code (.scope c) :: k)) cs w) = .next (lone (b.atR a (.code c :: .inScope c :: k)) cs w):=
  step_lone_go (by simp [stepG,stepG.exec,Frame.atR])
theorem Fi {c:Code} : step P (lone (b.atR a (.inScope c :: k)) cs w) = .next (lone (b.atR a k) cs w):=
  step_lone_go (by simp [stepG,stepG.exec,Frame.atR])
end
def Hj (rd:Option Nat) (P:Program) (c:Code) (Q:Exit→Act→World→Prop):Nat→Exit→Act→World→Prop
  | 0,.goto _,_,_=>False
  | n+1,.goto l,a,w=>match findLabel c l with
    | some rest=>rest.wpIn (Fr rd) 0 P (Hj rd P c Q n) a w
    | none=>Q (.goto l) a w
  | _,e,a,w=>Q e a w
theorem Z7 {rd:Option Nat} {P:Program} {c:Code} {Q:Exit→Act→World→Prop} {a:Act} {w:World} (n:Nat) (h:c.wpIn (Fr rd) 0 P (Hj rd P c Q n) a w):(Code.scope c).wpIn (Fr rd) 0 P Q a w:=by
  intro b k cs hro hb hr
  have key:∀ n e a w,Hj rd P c Q n e a w→∀ m,ArrivesIn (Machine.fenced P (Fr rd)) P m b (.inScope c :: k) cs e a w→∃ e' a' w',Q e' a' w'∧ArrivesIn (Machine.fenced P (Fr rd)) P m b k cs e' a' w':=by
    have hx:∀ id,exitTo id (.inScope c :: k)=exitTo id k:=fun id=>by simp [exitTo]
    intro n
    induction n with
    | zero=>
      intro e a w hq m hM
      cases e with
      | normal=>exact ⟨.normal,a,w,hq,StepsIn.trans hM (.one (fenced_calm hb hr rfl) Fi)⟩
      | exit id=>exact ⟨.exit id,a,w,hq,fun k' hk=>hM.1 k' (by rw [hx]; exact hk),fun rD hk=>hM.2 rD (by rw [hx]; exact hk)⟩
      | goto l=>exact hq.elim
      | ret=>exact ⟨_,a,w,hq,hM⟩
      | panic ch=>exact ⟨_,a,w,hq,hM⟩
      | outgrown=>exact ⟨_,a,w,hq,hM⟩
    | succ n ih=>
      intro e a w hq m hM
      cases e with
      | normal=>exact ⟨.normal,a,w,hq,StepsIn.trans hM (.one (fenced_calm hb hr rfl) Fi)⟩
      | exit id=>exact ⟨.exit id,a,w,hq,fun k' hk=>hM.1 k' (by rw [hx]; exact hk),fun rD hk=>hM.2 rD (by rw [hx]; exact hk)⟩
      | goto l=>
        simp only [Hj] at hq
        cases hf:findLabel c l with
        | none=>
          rw [hf] at hq
          have hg:gotoIn l (.inScope c :: k)=gotoIn l k:=by simp [gotoIn,hf]
          exact ⟨.goto l,a,w,hq,fun k' hk=>hM.1 k' (by rw [hg]; exact hk),fun rD hk=>hM.2 rD (by rw [hg]; exact hk)⟩
        | some rest=>
          rw [hf] at hq
          have hg:gotoIn l (.inScope c :: k)=some (.code rest :: .inScope c :: k):=by simp [gotoIn,hf]
          obtain ⟨ajO,ajP,ajQ,aiW,afH⟩:=hq b (.inScope c :: k) cs hro hb hr
          obtain ⟨ajR,ajS,ajT,aiX,afI⟩:=ih ajO ajP ajQ aiW _ afH
          exact ⟨ajR,ajS,ajT,aiX,.of_steps (hM.1 _ hg) afI⟩
      | ret=>exact ⟨_,a,w,hq,hM⟩
      | panic ch=>exact ⟨_,a,w,hq,hM⟩
      | outgrown=>exact ⟨_,a,w,hq,hM⟩
  obtain ⟨e,ajU,ajV,hq,hM⟩:=h b (.inScope c :: k) cs hro hb hr
  obtain ⟨e',a',w',zH,aiY⟩:=key n e ajU ajV hq _ hM
  exact ⟨e',a',w',zH,.of_steps (.one (fenced_calm hb hr rfl) Yb) aiY⟩
def Yc (P:Program) (N:Nat) (c:Code) (l:Nat):Option (Tm→St→jA)→Prop
  | some f=>∃ rest,findLabel c l=some rest∧(dp c=true→dp rest=true)∧Cx P N rest f
  | none=>findLabel c l=none
theorem Lx {P:Program} {N:Nat} {c:Code} {jump:Nat→Option (Tm→St→jA)} (hj:∀ l,Yc P N c l (jump l)) {base:Nat} {rd:Option Nat} (hJ:rd=none∨dp c=true) {Q:Exit→Act→World→Prop} :
    ∀ (n:Nat) (r:jA) (t' : Tm) (A B:St) (e:au) (ρ:aw) (a0:Act) (w0:World),sT jump n r=some (e,t',B)→fU ρ A base w0→
      (∀ aq a' w',TR aq t' N a'→Defs w0.heap.size a0 a' aq B w'→b7 base ρ A w0 aq B w'→Q e.out a' w')→
      ∀ t1 C e1,r=some (e1,t1,C)→∀ iI a1 w1,TR iI t1 N a1→Defs w0.heap.size a0 a1 iI C w1→b7 base ρ A w0 iI C w1→Hj rd P c Q n e1.out a1 w1
  | 0,r,t',A,B,e,ρ,a0,w0,h,hs,hq=>by simp [sT] at h
  | n+1,r,t',A,B,e,ρ,a0,w0,h,hs,hq=>by
    intro t1 C e1 hr iI a1 w1 ht um hg
    subst hr
    cases e1 with
    | goto l=>
      simp only [sT] at h
      have hjl:=hj l
      simp only [au.out,Hj]
      split at h
      · rename_i f hf
        rw [hf] at hjl
        obtain ⟨rest,h1,h1r,h2⟩:=hjl
        rw [h1]
        simp only
        have Hk:∃ e2 t2 D,f t1 C=some (e2,t2,D):=by
          cases sY:f t1 C with
          | none=>rw [sY] at h; cases n <;> simp [sT] at h
          | some p=>exact ⟨p.1,p.2.1,p.2.2,rfl⟩
        obtain ⟨e2,t2,D,sY⟩:=Hk
        refine h2 rd t1 t2 C D e2 iI base a1 w1 _ (hJ.imp id h1r) sY ht hg.cW fun iU a2 w2 Ba afJ Bb=>?_
        exact Lx hj hJ n (f t1 C) t' A B e ρ a0 w0 h hs hq t2 D e2 sY iU a2 w2 Ba (um.trans Bb hg.kept.size afJ) (hg.trans Bb)
      · rename_i hf
        rw [hf] at hjl
        have hjl:findLabel c l=none:=hjl
        rw [hjl]
        simp only [Option.some.injEq,Prod.mk.injEq] at h
        obtain ⟨rfl,rfl,rfl⟩:=h
        exact hq iI a1 w1 ht um hg
    | normal=>
      simp only [sT,Option.some.injEq,Prod.mk.injEq] at h
      obtain ⟨rfl,rfl,rfl⟩:=h
      exact hq iI a1 w1 ht um hg
    | exit id=>
      simp only [sT,Option.some.injEq,Prod.mk.injEq] at h
      obtain ⟨rfl,rfl,rfl⟩:=h
      exact hq iI a1 w1 ht um hg
    | ret=>
      simp only [sT,Option.some.injEq,Prod.mk.injEq] at h
      obtain ⟨rfl,rfl,rfl⟩:=h
      exact hq iI a1 w1 ht um hg
theorem Te {P:Program} {N:Nat} {x y:Code} {f g:Tm→St→jA} (hx:Cx P N x f) (hy:Cx P N y g):Cx P N (.seq x y) fun t A=>uE (f t A) g:=by
  intro rd t t' A B e ρ base a w Q hr h ht hs hq
  have hrx:rd=none∨dp x=true:=hr.imp id fun h=>(Bool.and_eq_true_iff.1 (by simpa only [dp] using h)).1
  have hry:rd=none∨dp y=true:=hr.imp id fun h=>(Bool.and_eq_true_iff.1 (by simpa only [dp] using h)).2
  refine wpIn_seq ?_
  have h:uE (f t A) g=some (e,t',B):=h
  unfold uE at h
  split at h
  · rename_i t1 C h1
    refine hx rd t t1 A C .normal ρ base a w _ hrx h1 ht hs fun aq a' w' uk um hg=>?_
    refine hy rd t1 t' C B e aq base a' w' Q hry h uk hg.cW fun iP Fh sX afF afG zG=>?_
    exact hq iP Fh sX afF (um.trans zG hg.kept.size afG) (hg.trans zG)
  · rename_i bo
    refine hx rd t t' A B e ρ base a w _ hrx h ht hs fun aq a' w' uk um hg=>?_
    have zH:=hq aq a' w' uk um hg
    cases e with
    | normal=>exact absurd h (bo t' B)
    | exit id=>exact zH
    | goto l=>exact zH
    | ret=>exact zH
theorem World.heap_alloc_old (w:World) (o:Obj) {k:Nat} (h:k < w.heap.size):(w.alloc o).heap[k]? = w.heap[k]?:=RowKit.Below.heap_alloc _ _ _ h
theorem Z8 {ρ:aw} {A:St} {base:Nat} {w:World} (hs:fU ρ A base w) (o:Obj):b7 base ρ A w ρ A (w.alloc o):=
  ⟨⟨.po (fun b o' hg hd=>by obtain ⟨l,h1,h2⟩:=hs.rel.obj hg hd; exact ⟨l,h1,h2.eU (aw.le_refl _) (World.heap_alloc_old _ _ (h2.lt hd)) (by simp)⟩) hs.rel.apart hs.rel.aW,hs.eS,Nat.le_trans hs.size (by simp),hs.jO⟩,
    fun _ _=>rfl,⟨rfl,rfl,rfl,by simp,fun k hk _=>World.heap_alloc_old _ _ hk⟩,Nat.le_refl _,Nat.le_refl _,fun _ _ _=>rfl,fun _ _ h=>h⟩
theorem fU.ahE {ρ:aw} {A:St} {base:Nat} {w:World} (hs:fU ρ A base w) {k:Nat} (h:AU ρ A k):k < w.heap.size:=by
  obtain ⟨b,o,l,hg,hm,hr,rfl⟩:=h
  have hd:o≠.dead:=by intro e; subst e; simp [bf.bO] at hm
  obtain ⟨l2,e,ok⟩:=hs.rel.obj hg hd
  rw [hr] at e; simp at e; subst e
  exact ok.lt hd
theorem acb {ρ aq:aw} {A B:St} {base D:Nat} {w0 w:World} (hg:b7 base ρ A w0 aq B w) (hD:w0.heap.size≤D) (hb:base≤D) (hn : ¬ AU aq B D) (o:Obj):b7 base ρ A w0 aq B (w.putObj D o):=by
  have ET:∀ b o' l,B.get b=some o'→o'≠.dead→aq b=some l→mh aq base w l o'→l.cb≠D:=by
    intro b o' l hgb hd hr ok e
    cases hm:o'.bO with
    | true=>exact hn ⟨b,o',l,hgb,hm,hr,e⟩
    | false=>
      cases o' with
      | row cs a8 own a9=>
        have dZ:uF aq base w l cs a8 own a9:=ok
        have:=dZ.kv hm
        omega
      | map _=>simp [bf.bO] at hm
      | iter _ _=>simp [bf.bO] at hm
      | dead=>exact hd rfl
      | loop _ _ _ _ _ _=>simp [bf.bO] at hm
  refine ⟨⟨.po (fun b o' hgb hd=>?_) hg.cW.rel.apart hg.cW.rel.aW,hg.cW.eS,by simpa using hg.cW.size,hg.cW.jO⟩,hg.ext,⟨hg.kept.os,hg.kept.tape,hg.kept.output,by simpa using hg.kept.size,fun k hk hnk=>?_⟩,hg.next,hg.low,hg.same,hg.SA⟩
  · obtain ⟨l,h1,h2⟩:=hg.cW.rel.obj hgb hd
    exact ⟨l,h1,h2.eU (aw.le_refl _) (World.putObj_heap_other (ET b o' l hgb hd h1 h2)) (by simp)⟩
  · rw [World.putObj_heap_other (by omega)]
    exact hg.kept.block k hk hnk
theorem zI {ρ:aw} {A:St} {base:Nat} {w:World} {r st:Nat} {e:au} {t:Tm} {ps:List Nat} {a b:Code} {l:Loc} (hs:fU ρ A base w) (hg:A.get r=some (.loop st e t ps a b)) (eK:ρ r=some l)
    (o2:bf) (obj:Obj) (SH:o2.fJ=none) (bH:o2≠.dead→mh ρ base (w.putObj l.cb obj) l o2):b7 base ρ A w ρ (A.put r o2) (w.putObj l.cb obj):=by
  obtain ⟨l',gN,ok⟩:=hs.rel.loop _ _ _ _ _ _ _ hg
  rw [eK] at gN; simp at gN; subst gN
  have s5:bf.bO (.loop st e t ps a b)=true:=rfl
  have hold:∀ k,k≠l.cb→(w.putObj l.cb obj).heap[k]? = w.heap[k]?:=fun k hk=>World.putObj_heap_other hk
  have hB:∀ x,(A.put r o2).get x=if x=r then some o2 else A.get x:=fun x=>St.bt _ _ _ _
  have ET:∀ x o l2,x≠r→A.get x=some o→o≠.dead→ρ x=some l2→mh ρ base w l2 o→l2.cb≠l.cb:=by
    intro x o l2 hx dy hd kQ dZ e
    cases E4:o.bO with
    | true=>
      obtain ⟨_,_,_,_,e1,_⟩:=hs.rel.apart x r o _ l2 l hx dy hg E4 s5 kQ eK e
      simp [bf.fJ] at e1
    | false=>
      cases o with
      | row cs a8 own a9=>
        have dZ:uF ρ base w l2 cs a8 own a9:=dZ
        have h1:own=false:=E4
        have:=dZ.kv h1
        have:=ok.bO
        omega
      | map _=>simp [bf.bO] at E4
      | iter _ _=>simp [bf.bO] at E4
      | dead=>exact hd rfl
      | loop _ _ _ _ _ _=>simp [bf.bO] at E4
  refine ⟨⟨.po ?_ ?_ ?_,fun b l2 h=>hs.eS b l2 h,by simpa using hs.size,hs.jO⟩,fun _ _=>rfl,⟨rfl,rfl,rfl,by simp,fun k hk hn=>hold k (fun e=>hn ⟨r,_,l,hg,s5,eK,e.symm⟩)⟩,Nat.le_refl _,Nat.min_le_left _ _,fun x hx hxl=>?_,?_⟩
  · intro x o dy hd
    rw [hB] at dy
    split at dy
    · rename_i e; subst e; simp at dy; subst dy
      exact ⟨l,eK,bH hd⟩
    · rename_i e
      obtain ⟨l2,kQ,dZ⟩:=hs.rel.obj dy hd
      exact ⟨l2,kQ,dZ.eU (aw.le_refl _) (hold _ (ET x o l2 e dy hd kQ dZ)) (by simp)⟩
  · have EU:∀ x o,(A.put r o2).get x=some o→o.bO=true→∃ o',A.get x=some o'∧o'.bO=true∧o'.fJ=o.fJ:=by
      intro x o hx hm
      rw [hB] at hx
      split at hx
      · rename_i e; subst e; simp at hx; subst hx; exact ⟨_,hg,rfl,SH.symm⟩
      · exact ⟨o,hx,hm,rfl⟩
    intro b1 b2 o1 o2 l1 l2 bo g1 g2 m1 m2 r1 r2 vU
    obtain ⟨p1,q1,n1,k1⟩:=EU _ _ g1 m1
    obtain ⟨p2,q2,n2,k2⟩:=EU _ _ g2 m2
    rw [← k1,← k2]
    exact hs.rel.apart b1 b2 p1 p2 l1 l2 bo q1 q2 n1 n2 r1 r2 vU
  · intro x o aJ f dy hk
    rw [hB] at dy
    split at dy
    · rename_i e; subst e; simp at dy; subst dy; rw [SH] at hk; simp at hk
    · exact hs.rel.aW x o aJ f dy hk
  · rw [St.K2] at hxl
    have:Nat.min A.low r≤r:=Nat.min_le_right _ _
    rw [hB,if_neg (by omega)]
  · rintro k hk ⟨x,o,l2,dy,hm,kQ,rfl⟩
    rw [hB] at dy
    split at dy
    · rename_i e; subst e
      rw [eK] at kQ; simp at kQ; subst kQ
      exact ⟨x,_,l,hg,s5,eK,rfl⟩
    · exact ⟨x,o,l2,dy,hm,kQ,rfl⟩
theorem fU.Ly {ρ:aw} {A:St} {base:Nat} {w:World} {r st:Nat} {e:au} {t:Tm} {ps:List Nat} {a b:Code} {l:Loc} (hs:fU ρ A base w) (hg:A.get r=some (.loop st e t ps a b)) (eK:ρ r=some l):yM ρ base w l st e t ps a b:=by
  obtain ⟨l',gN,ok⟩:=hs.rel.loop _ _ _ _ _ _ _ hg
  rw [eK] at gN; simp at gN; subst gN
  exact ok
theorem Yd {P:Program} {call:ca} (dC:n4 P call) {N:Nat} {g:Operand} {ps:Array Tmp} {assign body:Code} (hps:ps.toList.all (fun p=>Nat.blt p N)=true) (hca:codeOk N assign=true) (vU:codeOk N body=true) (zD:dp assign=true) (Tf:dp body=true) :
    Cx P N (.rangeFunc g ps assign body) (R4 call g ps.toList assign body):=by
  intro rd t t' A B e ρ base a w Q hr h ht hs hq
  have hJ:rd=none:=hr.resolve_right (by simp [dp])
  subst hJ
  unfold R4 at h
  split at h
  · rename_i f first cap hg
    cases hb:Nat.blt f yB with
    | false=>rw [hb] at h; simp at h
    | true=>
      rw [hb,cond_true] at h
      obtain ⟨⟨v,C⟩,h1,h2⟩:=Option.bind_eq_some_iff.1 h
      have jg:=ht.ev g
      rw [hg] at jg
      obtain ⟨f',c',qw,jg,hf1,hf2,Jx⟩:=jg.uL
      have Jx:qw = .func f:=Jx
      subst Jx
      refine wpIn_rangeFunc fun fn _=>?_
      obtain ⟨rec,ef⟩:∃ rec:Loop,rec = { state:=.ready,pending:=none,fn,tmps:=a.tmps,params:=ps,assign,body,defers:=w.heap.size }:=⟨_,rfl⟩
      let l:Loc:=⟨w.heap.size+1,0,0,0⟩
      have uj:b7 base ρ A w ρ A (w.alloc (.deferred (some []))):=Z8 hs _
      have ZY:b7 base ρ A (w.alloc (.deferred (some []))) (ρ.set A.next l) (A.new (.loop 0 .normal t ps.toList assign body)) ((w.alloc (.deferred (some []))).alloc (.loop rec)):=by
        refine uJ (o:=.loop 0 .normal t ps.toList assign body) uj.cW (fun x=>by simp) (fun f x h=>by simpa using h) (fun aJ f h=>by simp [bf.fJ] at h) (by simp) (by simp) (fun x hx _=>by simp; omega) (by simp [l]) ?_
        refine ⟨Nat.le_trans hs.size (Nat.le_succ _),fn,a.tmps,w.heap.size,N,?_,⟨ht.size,fun i=>(ht.val i).mono (uj.cW.xh _),ht.none,hps,hca,vU,zD,Tf⟩⟩
        have:=World.alloc_heap_new (w.alloc (.deferred (some []))) (.loop rec)
        rw [World.size_alloc] at this
        rw [ef] at this
        simpa [l,Cj,au.code,ef] using this
      have Tg:Defs w.heap.size a { a with defers:=[mark w.heap.size] ++ a.defers } ρ A (w.alloc (.deferred (some []))):=
        ⟨[w.heap.size],rfl,fun D hD=>by
          rw [List.mem_singleton] at hD; subst hD
          exact ⟨Nat.le_refl _,World.alloc_heap_new w _,fun hi=>absurd (hs.ahE hi) (Nat.lt_irrefl _)⟩,by simp⟩
      have acd:bS (ρ.set A.next l) (first.toList ++ [Value.func (.yield A.next) ⟨[]⟩ ⟨[]⟩] ++ cap.toList) (f'.toList ++ [Value.func (.yield (w.heap.size+1)) #[] #[]] ++ c'.toList):=by
        have hle:=uj.cW.xh l
        refine bS.append (bS.append (hf1.mono hle) (.cons ?_ .nil)) (hf2.mono hle)
        simp only [VR]
        exact ⟨#[],#[],by simp [lI,bS],by simp [lI,bS],.yield (w.heap.size+1),⟨l,aw.gk _ _ _,rfl⟩,rfl⟩
      obtain ⟨Jx,hc⟩:=dC _ _ _ _ _ h1
      obtain ⟨fnf,h4,h5,h6⟩:=Jx hb
      have HL:fnf.body.isNone=false:=by simpa using h5
      have hh : ¬(fnf.name = "runtime.NumGoroutine") := by simpa using h6
      have ahF:=(hc _ _ base _ acd ZY.cW).1 hb
      refine ⟨w.heap.size+1,[mark w.heap.size],(w.alloc (.deferred (some []))).alloc (.loop rec),{ target:=.fn (.func f) c',args:=f' ++ #[.func (.yield (w.heap.size+1)) #[] #[]] },(w.alloc (.deferred (some []))).alloc (.loop rec),f,
        (f'.toList ++ [Value.func (.yield (w.heap.size+1)) #[] #[]] ++ c'.toList).toArray,(w.alloc (.deferred (some []))).alloc (.loop rec),?_,?_,fun _ _=>trivial,?_,fun h=>by simp [Fence.wide] at h,?_⟩
      · rw [ef]; exact run_enterLoop_outer _ _ _ _ _
      · simp only [resolve,Deferred.ofValue,jg,Sem.run_pure]
        simp [Act.eval]
      · simp only [invoke,callFunc,Sem.run_bind,Result.andThen_ok,run_program,h4]
        simp [hh,HL]
      · refine CallsIn.mono (F:=Fr none) (n:=0) (R:=fun e w'=>∃ aq v',e = .returned v'∧VR aq v v'∧b7 base (ρ.set A.next l) (A.new (.loop 0 .normal t ps.toList assign body)) ((w.alloc (.deferred (some []))).alloc (.loop rec)) aq C w') ((callsIn_wide (n:=0)).2 ahF) ?_
        rintro ee w' ⟨aq,v',rfl,Ob,zG⟩
        have gN:aq A.next=some l:=by rw [zG.ext A.next (by simp)]; exact aw.gk _ _ _
        have eZ:=(uj.trans ZY).trans zG
        have uk:TR aq t N { a with defers:=[mark w.heap.size] ++ a.defers }:=⟨ht.size,fun i=>(ht.val i).mono (eZ.le hs),ht.none,ht.jO.mono (eZ.le hs)⟩
        have adg:=(Tg.eU ZY).eU zG
        have fin:∀ {st:Nat} {e0:au} {t0:Tm} {ps0:List Nat} {a0 b0:Code},C.get A.next=some (.loop st e0 t0 ps0 a0 b0)→st≠1→∃ w4,(Instr.endLoop (w.heap.size+1)).run P w' = .ok e0.code w4∧b7 base aq C w' aq (C.put A.next .dead) w4:=by
          intro st e0 t0 ps0 a0 b0 eM hX
          obtain ⟨fn2,tmps2,D2,N2,h7,_⟩:=(zG.cW.Ly eM gN).gL
          refine ⟨_,run_endLoop (l:=w.heap.size+1) h7 (by cases st with | zero=>simp [Cj] | succ n=>cases n with | zero=>exact absurd rfl hX | succ n=>simp [Cj]),?_⟩
          exact zI zG.cW eM gN .dead _ rfl (fun h=>absurd rfl h)
        unfold WN at h2
        split at h2
        · rename_i eM
          simp only [Option.some.injEq,Prod.mk.injEq] at h2
          obtain ⟨rfl,rfl,rfl⟩:=h2
          obtain ⟨w4,h7,h8⟩:=fin eM (by simp)
          exact ⟨_,w4,h7,hq aq _ w4 uk (adg.eU h8) (eZ.trans h8)⟩
        · rename_i e0 _ _ _ _ eM
          simp only [Option.some.injEq,Prod.mk.injEq] at h2
          obtain ⟨rfl,rfl,rfl⟩:=h2
          obtain ⟨w4,h7,h8⟩:=fin eM (by simp)
          have zH:=hq aq _ w4 uk (adg.eU h8) (eZ.trans h8)
          refine ⟨_,w4,h7,?_⟩
          cases e0 with
          | normal=>exact zH
          | exit id=>exact wpIn_exit zH
          | goto l=>exact wpIn_goto zH
          | ret=>exact wpIn_ret zH
        · simp at h2
  · simp at h
mutual
theorem iG {P:Program} {call:ca} (dC:n4 P call) (hm:P.follows .mixedOrders=true) (L N:Nat):∀ (c:Code),codeOk N c=true→Cx P N c (gq P call L c)
  | .skip,_=>by
    intro rd t t' A B e ρ base a w Q hr h ht hs hq
    simp only [ZK,Option.some.injEq,Prod.mk.injEq] at h
    obtain ⟨rfl,rfl,rfl⟩:=h
    exact wpIn_skip (hq ρ a w ht (.refl _ _ _ _ _) (.refl hs))
  | .ret,_=>by
    intro rd t t' A B e ρ base a w Q hr h ht hs hq
    simp only [abU,Option.some.injEq,Prod.mk.injEq] at h
    obtain ⟨rfl,rfl,rfl⟩:=h
    exact wpIn_ret (hq ρ a w ht (.refl _ _ _ _ _) (.refl hs))
  | .exit id,_=>by
    intro rd t t' A B e ρ base a w Q hr h ht hs hq
    simp only [ZL,Option.some.injEq,Prod.mk.injEq] at h
    obtain ⟨rfl,rfl,rfl⟩:=h
    exact wpIn_exit (hq ρ a w ht (.refl _ _ _ _ _) (.refl hs))
  | .region id ops false,hc=>by
    intro rd t t' A B e ρ base a w Q hr h ht hs hq
    simp only [abV] at h
    obtain ⟨⟨t1,C⟩,h1,he⟩:=Option.map_eq_some_iff.1 h
    simp at he
    obtain ⟨rfl,rfl,rfl⟩:=he
    refine wpIn_region ?_
    have:=JD (rd:=rd) (Q:=Q) dC (N:=N) (all:=ops.toList) hc ops.toList 0 t t1 A C ρ a w (by simp) h1 ht hs fun aq a' w' h1 h2 h3=>hq aq a' w' h1 (.same h2) h3
    rw [List.range_eq_range']
    simpa using this
  | .region id ops true,hc=>by
    intro rd t t' A B e ρ base a w Q hr h ht hs hq
    simp only [XI] at h
    obtain ⟨⟨t1,C⟩,h1,he⟩:=Option.map_eq_some_iff.1 h
    simp at he
    obtain ⟨rfl,rfl,rfl⟩:=he
    cases hqv:G9 P ops.toList with
    | true=>rw [hqv,cond_true] at h1; exact X9 (all:=ops.toList) dC hm hc hqv h1 ht hs fun aq a' w' h1 h2 h3=>hq aq a' w' h1 (.same h2) h3
    | false=>
      rw [hqv,cond_false] at h1
      cases hov:si P ops.toList with
      | true=>rw [hov,cond_true] at h1; exact Td (all:=ops.toList) dC hm hc hov h1 ht hs fun aq a' w' h1 h2 h3=>hq aq a' w' h1 (.same h2) h3
      | false=>rw [hov,cond_false] at h1; exact X7 (all:=ops.toList) dC hm hc h1 ht hs fun aq a' w' h1 h2 h3=>hq aq a' w' h1 (.same h2) h3
  | .seq x y,hc=>by
    simp only [codeOk,Bool.and_eq_true] at hc
    have:=Te (iG dC hm L N x hc.1) (iG dC hm L N y hc.2)
    intro rd t t' A B e ρ base a w Q hr h ht hs hq
    simp only [abW] at h
    exact this rd t t' A B e ρ base a w Q hr h ht hs hq
  | .cond c x y,hc=>by
    simp only [codeOk,Bool.and_eq_true] at hc
    intro rd t t' A B e ρ base a w Q hr h ht hs hq
    simp only [ZN] at h
    split at h
    · rename_i b hb
      have hb:=Z6 ht hb
      cases b with
      | true=>exact wpIn_cond_true hb (iG dC hm L N x hc.1 rd t t' A B e ρ base a w Q (hr.imp id fun h=>(Bool.and_eq_true_iff.1 (by simpa only [dp] using h)).1) h ht hs hq)
      | false=>exact wpIn_cond_false hb (iG dC hm L N y hc.2 rd t t' A B e ρ base a w Q (hr.imp id fun h=>(Bool.and_eq_true_iff.1 (by simpa only [dp] using h)).2) h ht hs hq)
    · simp at h
  | .block id x,hc=>by
    have hc:codeOk N x=true:=hc
    intro rd t t' A B e ρ base a w Q hr h ht hs hq
    simp only [XJ] at h
    refine wpIn_block ?_
    split at h
    · rename_i lX t1 C h1
      refine iG dC hm L N x hc rd t t1 A C (.exit lX) ρ base a w _ hr h1 ht hs fun aq a' w' uk um hg=>?_
      cases hb:Nat.beq lX id with
      | true=>
        rw [hb,cond_true] at h
        simp only [Option.some.injEq,Prod.mk.injEq] at h
        obtain ⟨rfl,rfl,rfl⟩:=h
        have:=Nat.eq_of_beq_eq_true hb
        simp only [au.out,Exit.inBlock,if_pos this]
        exact hq aq a' w' uk um hg
      | false=>
        rw [hb,cond_false] at h
        simp only [Option.some.injEq,Prod.mk.injEq] at h
        obtain ⟨rfl,rfl,rfl⟩:=h
        have:=Nat.ne_of_beq_eq_false hb
        simp only [au.out,Exit.inBlock,if_neg this]
        exact hq aq a' w' uk um hg
    · rename_i bo
      refine iG dC hm L N x hc rd t t' A B e ρ base a w _ hr h ht hs fun aq a' w' uk um hg=>?_
      have zH:=hq aq a' w' uk um hg
      cases e with
      | normal=>exact zH
      | exit lX=>exact absurd h (bo lX t' B)
      | goto l=>exact zH
      | ret=>exact zH
  | .loop x,hc=>by
    have hc:codeOk N x=true:=hc
    intro rd t t' A B e ρ base a w Q hr h ht hs hq
    simp only [ZO] at h
    exact wpIn_loop_rounds L (Qk (iG dC hm L N x hc) L rd t t' A B e ρ base a w Q hr h ht hs hq)
  | .label l,_=>by
    intro rd t t' A B e ρ base a w Q hr h ht hs hq
    simp only [XH,Option.some.injEq,Prod.mk.injEq] at h
    obtain ⟨rfl,rfl,rfl⟩:=h
    exact wpIn_label (hq ρ a w ht (.refl _ _ _ _ _) (.refl hs))
  | .goto l,_=>by
    intro rd t t' A B e ρ base a w Q hr h ht hs hq
    simp only [ZM,Option.some.injEq,Prod.mk.injEq] at h
    obtain ⟨rfl,rfl,rfl⟩:=h
    exact wpIn_goto (hq ρ a w ht (.refl _ _ _ _ _) (.refl hs))
  | .scope x,hc=>by
    have hc:codeOk N x=true:=hc
    intro rd t t' A B e ρ base a w Q hr h ht hs hq
    simp only [XK] at h
    refine Z7 L ?_
    have Hk:∃ e2 t2 D,gq P call L x t A=some (e2,t2,D):=by
      cases sY:gq P call L x t A with
      | none=>rw [sY] at h; cases L <;> simp [sT] at h
      | some p=>exact ⟨p.1,p.2.1,p.2.2,rfl⟩
    obtain ⟨e2,t2,D,sY⟩:=Hk
    refine iG dC hm L N x hc rd t t2 A D e2 ρ base a w _ hr sY ht hs fun iU a2 w2 Ba afJ Bb=>?_
    exact Lx (fun l=>Fj dC hm L N x hc l) hr L _ t' A B e ρ a w h hs hq t2 D e2 sY iU a2 w2 Ba afJ Bb
  | .rangeFunc g ps x y,hc=>by
    simp only [codeOk,Bool.and_eq_true] at hc
    intro rd t t' A B e ρ base a w Q hr h ht hs hq
    simp only [N7] at h
    cases hn:(dp x && dp y) with
    | false=>rw [hn,cond_false] at h; simp [abS] at h
    | true=>
      rw [hn,cond_true] at h
      obtain ⟨SM,hn2⟩:=Bool.and_eq_true_iff.1 hn
      exact Yd dC hc.1 hc.2.1 hc.2.2 SM hn2 rd t t' A B e ρ base a w Q hr h ht hs hq
  | .refuse _,_=>by
    intro rd t t' A B e ρ base a w Q hr h ht hs hq
    simp [VL] at h
theorem Fj {P:Program} {call:ca} (dC:n4 P call) (hm:P.follows .mixedOrders=true) (L N:Nat):∀ (c:Code),codeOk N c=true→∀ l,Yc P N c l (Ci P call L c l)
  | .seq x y,hc,l=>by
    simp only [codeOk,Bool.and_eq_true] at hc
    have hx:=Fj dC hm L N x hc.1 l
    have hy:=Fj dC hm L N y hc.2 l
    simp only [abX]
    cases hf:Ci P call L x l with
    | some f=>
      rw [hf] at hx
      obtain ⟨rest,h1,h1r,h2⟩:=hx
      exact ⟨.seq rest y,by simp [findLabel,h1],fun h=>by simp only [dp,Bool.and_eq_true] at h ⊢; exact ⟨h1r h.1,h.2⟩,Te h2 (iG dC hm L N y hc.2)⟩
    | none=>
      rw [hf] at hx
      have hx:findLabel x l=none:=hx
      simp only
      cases hg:Ci P call L y l with
      | some f=>
        rw [hg] at hy
        obtain ⟨rest,h1,h1r,h2⟩:=hy
        exact ⟨rest,by simp [findLabel,hx,h1],fun h=>h1r (Bool.and_eq_true_iff.1 (by simpa only [dp] using h)).2,h2⟩
      | none=>
        rw [hg] at hy
        have hy:findLabel y l=none:=hy
        show findLabel (.seq x y) l=none
        simp [findLabel,hx,hy]
  | .label l',_,l=>by
    simp only [XL]
    cases hb:(l' == l) with
    | true=>
      rw [cond_true]
      refine ⟨.skip,by simp [findLabel,hb],fun _=>rfl,?_⟩
      intro rd t t' A B e ρ base a w Q hr h ht hs hq
      simp only [Option.some.injEq,Prod.mk.injEq] at h
      obtain ⟨rfl,rfl,rfl⟩:=h
      exact wpIn_skip (hq ρ a w ht (.refl _ _ _ _ _) (.refl hs))
    | false=>
      rw [cond_false]
      show findLabel (.label l') l=none
      simp [findLabel,hb]
  | .skip,_,_ | .ret,_,_ | .exit _,_,_ | .goto _,_,_ | .region _ _ _,_,_ | .cond _ _ _,_,_ | .block _ _,_,_ | .loop _,_,_ | .scope _,_,_ | .rangeFunc _ _ _ _,_,_ | .refuse _,_,_=>by
    first | rfl | (rw [ZP]; rfl) | simp [Yc,findLabel]
end
theorem Cy:∀ (l:List Value) (i k:Nat) (t:Tm),(vT l i t).get k=if i≤k∧k < i+l.length then l[k - i]? else t.get k
  | [],i,k,t=>by
    rw [vT,if_neg]
    simp
  | v :: l,i,k,t=>by
    rw [vT,Cy l (i+1) k,Trie.fv]
    by_cases h1:k=i
    · subst h1
      rw [if_neg (by omega),if_pos rfl,if_pos (by simp)]
      simp
    · by_cases h2:i+1≤k∧k < i+1+l.length
      · rw [if_pos h2,if_pos (by simp; omega),show k - i=(k - (i+1))+1 by omega]
        simp
      · rw [if_neg h2,if_neg h1,if_neg (by simp; omega)]
def Cz (a:Act):ResultVar→Sem Value
  | .tmp t=>pure (a.tmps.getD t undef)
  | .cell ad ty=>do loadVar ty (← asAddr (a.tmps.getD ad undef))
theorem Ql (fn:Func) (a:Act):results fn a.tmps=(do let vs ← fn.results.mapM (Cz a); pure (if h:vs.size=1 then vs[0] else .tuple vs)):=by
  unfold results
  congr 1
theorem xT {P:Program} {ρ:aw} {A:St} {base N:Nat} {w:World} {t:Tm} {a:Act} (hs:fU ρ A base w) (ht:TR ρ t N a):∀ (rs:List ResultVar) (vs:List Value),sj P A t rs=some vs→
    ∃ bN,bS ρ vs bN∧(rs.mapM (Cz a)).run P w=Result.ok bN w
  | [],vs,h=>by simp [sj] at h; subst h; exact ⟨[],.nil,by simp⟩
  | .tmp x :: rs,vs,h=>by
    simp only [sj] at h
    obtain ⟨us,hu,rfl⟩:=Option.map_eq_some_iff.1 h
    obtain ⟨Ye,h1,h2⟩:=xT hs ht rs us hu
    refine ⟨_ :: Ye,.cons (ht.ev (.tmp x)) h1,?_⟩
    simp [List.mapM_cons,h2,Act.eval,Cz]
  | .cell x ty :: rs,vs,h=>by
    simp only [sj] at h
    obtain ⟨v,hv,h⟩:=Option.bind_eq_some_iff.1 h
    obtain ⟨us,hu,rfl⟩:=Option.map_eq_some_iff.1 h
    obtain ⟨Ye,h1,h2⟩:=xT hs ht rs us hu
    obtain ⟨ad,h3,v',h4,h5⟩:=zB (P:=P) hs.rel (ht.ev (.tmp x)) hv
    refine ⟨v' :: Ye,.cons h4 h1,?_⟩
    have h3:a.tmps.getD x undef = .pointer (some ad):=h3
    simp only [List.mapM_cons,Sem.run_bind,Cz,h3,asAddr,Sem.run_pure,Result.andThen_ok,h5,h2]
theorem b7.leave {base:Nat} {ρ aq:aw} {A B:St} {w w' : World} {v v' : Value} (hs:fU ρ A base w) (h:b7 base ρ A.enter w aq B w') (hv:VR aq v v') :
    ∃ iP,VR iP v v'∧b7 base ρ A w iP (A.leave B v) w':=by
  have ac9:∀ k,AU ρ A.enter k ↔ AU ρ A k:=fun k=>Iff.rfl
  rw [St.ad9]
  cases hc:(flat v && Nat.ble A.next B.low) with
  | true=>
    rw [cond_true]
    obtain ⟨hf,hl⟩:=Bool.and_eq_true_iff.1 hc
    have hl:A.next≤B.low:=Nat.le_of_ble_eq_true hl
    have eM:∀ b o,A.get b=some o→o≠.dead→b < A.next:=fun b o hg hd=>by
      obtain ⟨l,e,_⟩:=hs.rel.obj hg hd
      exact hs.eS _ _ e
    have wG:∀ b,b < A.next→B.get b=A.get b:=fun b hb=>h.same b hb (by omega)
    have ain:∀ b,b < A.next→aq b=ρ b:=h.ext
    refine ⟨ρ,by rw [hv.ib hf]; exact VR.of_flat hf,?_⟩
    refine ⟨⟨.po ?_ hs.rel.apart hs.rel.aW,hs.eS,Nat.le_trans hs.size h.kept.size,hs.jO⟩,fun _ _=>rfl,⟨h.kept.os,h.kept.tape,h.kept.output,h.kept.size,fun k hk hn=>h.kept.block k hk hn⟩,Nat.le_refl _,Nat.le_refl _,fun _ _ _=>rfl,fun _ _ hk=>hk⟩
    intro b o hg hd
    have hb:=eM b o hg hd
    obtain ⟨l,e,ok⟩:=h.cW.rel.obj (b:=b) (o:=o) (by rw [wG b hb]; exact hg) hd
    refine ⟨l,by rw [← ain b hb]; exact e,?_⟩
    obtain ⟨l0,e0,ok0⟩:=hs.rel.obj hg hd
    have hll:l=l0:=by rw [ain b hb,e0] at e; simpa using e.symm
    subst hll
    exact mh.back (h.le ⟨hs.rel,hs.eS,hs.size,hs.jO⟩) ok0 ok
  | false=>
    rw [cond_false]
    refine ⟨aq,hv,⟨h.cW.rel,h.cW.eS,h.cW.size,h.cW.jO⟩,h.ext,⟨h.kept.os,h.kept.tape,h.kept.output,h.kept.size,h.kept.block⟩,h.next,Nat.min_le_left _ _,fun b hb hl=>?_,h.SA⟩
    exact h.same b hb (Nat.lt_of_lt_of_le hl (Nat.min_le_right _ _))
theorem ij {n m:Nat} (h:n≤m):∀ (c:Code),codeOk n c=true→codeOk m c=true
  | .region id ops d,hc=>by
    simp only [codeOk,List.all_eq_true] at hc ⊢
    intro o ho
    have:=hc o ho
    unfold mc at this ⊢
    split at this
    · rename_i d e
      rw [Nat.blt_eq] at this ⊢
      omega
    · rfl
  | .seq a b,hc=>by simp only [codeOk,Bool.and_eq_true] at hc ⊢; exact ⟨ij h a hc.1,ij h b hc.2⟩
  | .cond _ a b,hc=>by simp only [codeOk,Bool.and_eq_true] at hc ⊢; exact ⟨ij h a hc.1,ij h b hc.2⟩
  | .block _ a,hc=>ij h a hc
  | .loop a,hc=>ij h a hc
  | .rangeFunc _ ps a b,hc=>by
    simp only [codeOk,Bool.and_eq_true,List.all_eq_true,Nat.blt_eq] at hc ⊢
    exact ⟨fun p hp=>Nat.lt_of_lt_of_le (hc.1 p hp) h,ij h a hc.2.1,ij h b hc.2.2⟩
  | .scope a,hc=>ij h a hc
  | .skip,_ | .exit _,_ | .label _,_ | .goto _,_ | .ret,_ | .refuse _,_=>rfl
theorem Iq {P:Program} {fn:Func} {tmps:Array Value} {R:Ending→World→Prop} {ρ aq:aw} {A B:St} {base:Nat} {w0:World} :
    ∀ (Ds:List Nat) {w:World},(∀ D ∈ Ds,w0.heap.size≤D∧base≤D∧w.heap[D]? = some (.deferred (some []))∧¬ AU aq B D)→Ds.Nodup→b7 base ρ A w0 aq B w→
      (∀ w',b7 base ρ A w0 aq B w'→LeavesIn Fence.wide 0 P fn tmps R [] .returning w')→LeavesInM Fence.wide 0 P fn tmps R (Ds.map mark) .returning w
  | [],w,_,_,hg,h=>h w hg
  | D :: Ds,w,hD,hn,hg,h=>by
    obtain ⟨h1,h2,h3,h4⟩:=hD D (by simp)
    rw [List.nodup_cons] at hn
    refine ⟨by simp,.inl ⟨D,w.putObj D (.deferred none),rfl,run_takeDeferred h3,Iq Ds (fun E hE=>?_) hn.2 (acb hg h1 h2 h4 _) h⟩⟩
    obtain ⟨k1,k2,k3,k4⟩:=hD E (by simp [hE])
    exact ⟨k1,k2,by rw [World.putObj_heap_other (fun e=>hn.1 (by rw [← e]; exact hE))]; exact k3,k4⟩
theorem Z9 {P:Program} {call:ca} (dC:n4 P call) (hm:P.follows .mixedOrders=true) (L:Nat) {f:FuncId} {fn:Func} {c:Code} {args:List Value} {A B:St} {v:Value} (hf:P.funcs[f]? = some fn) (hb:fn.body=some c) (bH:codeOk fn.ntmps c=true)
    (h:Sz P call L fn args A c=some (v,B)) {ρ:aw} {cD:List Value} {base:Nat} {w:World} (hv:bS ρ args cD) (hs:fU ρ A base w) :
    Calls P f cD.toArray w fun e w'=>∃ aq v',e = .returned v'∧VR aq v v'∧b7 base ρ A w aq B w':=by
  refine callsIn_wide.1 (callsIn_of_wp_marks (F:=Fence.wide) (n:=0) hf hb trivial ?_)
  have hlen:cD.length=args.length:=hv.length
  have K7:fU ρ A.enter base w:=⟨hs.rel,hs.eS,hs.size,hs.jO⟩
  have ht:TR ρ (vT args 0 .leaf) (max fn.ntmps args.length) { tmps:=cD.toArray ++ Array.replicate (fn.ntmps - cD.toArray.size) undef,defers:=[] }:=by
    have cA:(cD.toArray ++ Array.replicate (fn.ntmps - cD.toArray.size) undef).size=max fn.ntmps args.length:=by
      simp [hlen]
      omega
    refine ⟨cA,fun i=>?_,fun i hi=>?_,hs.jO⟩
    · rw [Cy]
      simp only [Nat.zero_le,true_and,Nat.zero_add,Nat.sub_zero,Trie.GZ]
      by_cases hi:i < args.length
      · rw [if_pos hi]
        obtain ⟨u,hu⟩:∃ u,args[i]? = some u:=⟨_,List.getElem?_eq_getElem hi⟩
        obtain ⟨u',h1,h2⟩:=hv.get hu
        rw [hu]
        have:(cD.toArray ++ Array.replicate (fn.ntmps - cD.toArray.size) undef).getD i undef=u':=by
          rw [Array.getD_eq_getD_getElem?,Array.getElem?_append_left (by simpa [hlen] using hi)]
          simp [h1]
        rw [this]
        exact h2
      · rw [if_neg hi]
        have:(cD.toArray ++ Array.replicate (fn.ntmps - cD.toArray.size) undef).getD i undef=undef:=by
          rw [Array.getD_eq_getD_getElem?,Array.getElem?_append_right (by simpa [hlen] using hi)]
          rw [Array.getElem?_replicate]
          split <;> rfl
        rw [this]
        exact VR.undef
    · rw [Cy,if_neg,Trie.GZ]
      simp only [Nat.zero_le,true_and,Nat.zero_add]
      have:=Nat.le_max_right fn.ntmps args.length
      omega
  have WW:codeOk (max fn.ntmps args.length) c=true:=ij (Nat.le_max_left _ _) c bH
  rw [aea] at h
  split at h
  · simp at h
  · simp at h
  · rename_i e t B' bo ajW hc
    obtain ⟨vs,hr,he⟩:=Option.map_eq_some_iff.1 h
    simp at he
    obtain ⟨rfl,rfl⟩:=he
    refine iG dC hm L _ c WW none _ _ _ _ _ ρ base _ w _ (.inl rfl) hc ht K7 fun aq a' w' uk um hg=>?_
    obtain ⟨Ds,hD1,hD2,hD3⟩:=um
    have hD1:a'.defers=Ds.map mark:=by simpa using hD1
    have adh:LeavesInM Fence.wide 0 P fn a'.tmps (fun e w'=>∃ aq v',e = .returned v'∧VR aq (mQ vs) v'∧b7 base ρ A w aq (A.leave B' (mQ vs)) w') a'.defers .returning w':=by
      rw [hD1]
      refine Iq Ds (fun D hD=>⟨(hD2 D hD).1,Nat.le_trans hs.size (hD2 D hD).1,(hD2 D hD).2⟩) hD3 hg fun w' hg=>?_
      obtain ⟨bN,h1,h2⟩:=xT (P:=P) hg.cW uk _ _ hr
      have aiZ:VR aq (mQ vs) (if h:bN.toArray.size=1 then bN.toArray[0] else .tuple bN.toArray):=by
        cases vs with
        | nil=>rw [h1.bh]; exact VR.mkTuple .nil
        | cons x xs=>
          obtain ⟨y,ys,rfl,h3,h4⟩:=h1.cons_inv
          cases xs with
          | nil=>rw [h4.bh]; exact h3
          | cons x2 xs2=>
            obtain ⟨y2,ys2,rfl,h5,h6⟩:=h4.cons_inv
            rw [dif_neg (by simp)]
            exact VR.mkTuple (.cons h3 (.cons h5 h6))
      obtain ⟨iP,h3,h4⟩:=hg.leave hs aiZ
      have DC:(results fn a'.tmps).run P w' = .ok (if h:bN.toArray.size=1 then bN.toArray[0] else .tuple bN.toArray) w':=by
        rw [Ql,Sem.run_bind,Array.mapM_eq_mapM_toList,Sem.run_map,h2]
        rfl
      exact ⟨_,DC,iP,_,rfl,h3,h4⟩
    cases e with
    | normal=>exact adh
    | ret=>exact adh
    | exit id=>exact (bo id rfl).elim
    | goto l=>exact (ajW l rfl).elim
  · simp at h
theorem WX {ρ:aw} {N:Nat} : ∀ (ps:List Nat) (vs bN:List Value) (t:Tm) (tmps:Array Value),ps.all (fun p=>Nat.blt p N)=true→bS ρ vs bN→TR ρ t N { tmps:=tmps,defers:=[] }→
    TR ρ (Js ps vs t) N { tmps:=(ps.zip bN).foldl (fun t (p,v)=>t.setIfInBounds p v) tmps,defers:=[] }
  | [],vs,bN,t,tmps,_,_,h=>by simpa [Js] using h
  | p :: ps,[],bN,t,tmps,_,hv,h=>by rw [hv.bh]; simpa [Js] using h
  | p :: ps,v :: vs,bN,t,tmps,hp,hv,h=>by
    obtain ⟨v',ws',rfl,h1,h2⟩:=hv.cons_inv
    rw [List.all_cons,Bool.and_eq_true,Nat.blt_eq] at hp
    simp only [Js,List.zip_cons_cons,List.foldl_cons]
    refine WX ps vs ws' (t.set v p) (tmps.setIfInBounds p v') hp.2 h2 ?_
    have:=h.put (dst:=some p) (fun d e=>by have e:p=d:=Option.some.inj e; rw [← e]; exact hp.1) h1
    exact this
theorem Yf {P:Program} {call:ca} (dC:n4 P call) (hm:P.follows .mixedOrders=true) (L:Nat) {l:Nat} {args:List Value} {A B:St} {v:Value} (h:R5 (fun c t A=>gq P call L c t A) l args A=some (v,B))
    {ρ:aw} {cD:List Value} {base:Nat} {w:World} (hv:bS ρ args cD) (hs:fU ρ A base w) {loc:Loc} (hl:ρ l=some loc) :
    Round P loc.cb cD.toArray w fun e w'=>∃ aq v',e = .returned v'∧VR aq v v'∧b7 base ρ A w aq B w':=by
  unfold R5 at h
  split at h
  · rename_i st e0 t ps assign body eM
    cases hb:Nat.beq ps.length args.length with
    | false=>rw [hb] at h; simp at h
    | true=>
      rw [hb,cond_true] at h
      have hlen:=Nat.eq_of_beq_eq_true hb
      obtain ⟨fn,tmps,D,N,jl,htm⟩:=(hs.Ly eM hl).gL
      obtain ⟨hcp,hca,vU,zD,Tf⟩:=htm.abY
      split at h
      · rename_i t1 A1 afK
        obtain ⟨A2,aaa,h⟩:=Option.bind_eq_some_iff.1 h
        obtain ⟨⟨e,t2,A3⟩,ace,yT⟩:=Option.bind_eq_some_iff.1 h
        have hy:=run_yield (P:=P) (args:=cD.toArray) jl (by simp [hlen,hv.length])
        refine ⟨fn,_,assign,body,hy,roundIn_of_wpIn (F:=Fence.wide) (n:=0) trivial ?_⟩
        have X6:TR ρ (Js ps args t) N { tmps:=(ps.toArray.zip cD.toArray).foldl (fun t (p,v)=>t.setIfInBounds p v) tmps,defers:=[] }:=by
          have:=WX ps args cD t tmps hcp hv ⟨htm.size,htm.val,htm.none,hs.jO⟩
          rw [← Array.foldl_toList]
          simpa using this
        refine iG dC hm L N assign hca (some loc.cb) _ t1 A A1 .normal ρ base _ w _ (.inr zD) afK X6 hs fun iI a1 w1 uo _ Lz=>?_
        have Cq:iI l=some loc:=Lz.le hs _ _ hl
        unfold ac6 at aaa
        split at aaa
        · rename_i e1 t0 ps1 as1 bo1 afL
          simp only [Option.some.injEq] at aaa
          subst aaa
          have aio:=Lz.cW.Ly afL Cq
          obtain ⟨fn1,afM,D1,N1,adi,ajX⟩:=aio.gL
          have ajY:loc.cb < w1.heap.size:=(Array.getElem?_eq_some_iff.1 adi).1
          refine ⟨_,run_beginRound adi rfl,?_⟩
          have Bb:b7 base iI A1 w1 iI (A1.put l (.loop 1 e1 t0 ps1 as1 bo1)) (w1.putObj loc.cb (.loop { state:=.busy,pending:=e1.code,fn:=fn1,tmps:=afM,params:=ps1.toArray,assign:=as1,body:=bo1,defers:=D1 })):=
            zI Lz.cW afL Cq (.loop 1 e1 t0 ps1 as1 bo1) _ rfl fun _=>⟨aio.bO,fn1,afM,D1,N1,World.putObj_heap_same ajY,ajX⟩
          refine iG dC hm L N body vU (some loc.cb) t1 t2 _ A3 e iI base a1 _ _ (.inr Tf) ace uo Bb.cW fun Oo a3 w3 _ _ hg3=>?_
          have hl3:Oo l=some loc:=hg3.le Bb.cW _ _ Cq
          have eZ:=(Lz.trans Bb).trans hg3
          unfold Sv at yT
          split at yT
          · rename_i e4 t4 ps4 as4 bo4 afN
            have aip:=hg3.cW.Ly afN hl3
            obtain ⟨fn4,ai0,D4,N4,adj,ajZ⟩:=aip.gL
            have aj0:loc.cb < w3.heap.size:=(Array.getElem?_eq_some_iff.1 adj).1
            have fin:∀ (e:au),∃ w4,(Instr.endRound loc.cb e.code).run P w3 = .ok (.bool e.code.isNone) w4∧b7 base Oo A3 w3 Oo (A3.put l (.loop (if e.code.isNone then 0 else 2) e t4 ps4 as4 bo4)) w4:=by
              intro e
              refine ⟨_,run_endRound e.code adj,?_⟩
              refine zI hg3.cW afN hl3 (.loop (if e.code.isNone then 0 else 2) e t4 ps4 as4 bo4) _ rfl fun _=>⟨aip.bO,fn4,ai0,D4,N4,?_,ajZ⟩
              rw [World.putObj_heap_same aj0]
              cases e <;> rfl
            obtain ⟨w4,h8,h9⟩:=fin e
            cases e with
            | normal=>
              simp only [Option.some.injEq,Prod.mk.injEq] at yT
              obtain ⟨rfl,rfl⟩:=yT
              exact ⟨_,w4,h8,Oo,_,rfl,by simp [VR,au.code],eZ.trans h9⟩
            | exit id=>
              simp only [Option.some.injEq,Prod.mk.injEq] at yT
              obtain ⟨rfl,rfl⟩:=yT
              exact ⟨_,w4,h8,Oo,_,rfl,by simp [VR,au.code],eZ.trans h9⟩
            | goto id=>
              simp only [Option.some.injEq,Prod.mk.injEq] at yT
              obtain ⟨rfl,rfl⟩:=yT
              exact ⟨_,w4,h8,Oo,_,rfl,by simp [VR,au.code],eZ.trans h9⟩
            | ret=>
              simp only [Option.some.injEq,Prod.mk.injEq] at yT
              obtain ⟨rfl,rfl⟩:=yT
              exact ⟨_,w4,h8,Oo,_,rfl,by simp [VR,au.code],eZ.trans h9⟩
          · simp at yT
        · simp at aaa
      · simp at h
  · simp at h
def R6 (P:Program) (S:Told):Prop:=∀ f g,S f=some g→∀ args A v B,g args A=some (v,B)→
  (∃ fn, P.funcs[f]? = some fn ∧ fn.body.isSome = true ∧ (fn.name == "runtime.NumGoroutine") = false) ∧
    ∀ ρ cD base w,bS ρ args cD→fU ρ A base w→Calls P f cD.toArray w fun e w'=>∃ aq v',e = .returned v'∧VR aq v v'∧b7 base ρ A w aq B w'
theorem LA (P:Program):R6 P N9:=fun f g h=>by simp [N9] at h
theorem yU {P:Program} {S:Told} (hS:R6 P S) (hP:P.funcs.toList.all jW=true) (hm:P.follows .mixedOrders=true) (L:Nat):∀ n,n4 P (ES P S L n)
  | 0=>fun f args A v B h=>by simp [ZQ] at h
  | n+1=>fun f args A v B h=>by
    simp only [ZR] at h
    cases hb:Nat.blt f yB with
    | false=>
      rw [hb,cond_false] at h
      exact ⟨fun h=>by simp at h,fun ρ cD base w hv hs=>⟨fun h=>by simp at h,fun _ loc hl=>Yf (yU hS hP hm L n) hm L h hv hs hl⟩⟩
    | true=>
    rw [hb,cond_true] at h
    split at h
    · rename_i g hg
      obtain ⟨h1,h2⟩:=hS f g hg args A v B h
      exact ⟨fun _=>h1,fun ρ cD base w hv hs=>⟨fun _=>h2 ρ cD base w hv hs,fun h=>by simp at h⟩⟩
    · obtain ⟨fn,hf,h⟩:=Option.bind_eq_some_iff.1 h
      obtain ⟨c,hb,h⟩:=Option.bind_eq_some_iff.1 h
      have hf' : P.funcs[f]? = some fn:=by simpa using hf
      have bH:=List.all_eq_true.1 hP fn (List.mem_of_getElem? hf)
      unfold jW at bH
      rw [hb] at bH
      simp only [Bool.and_eq_true,Bool.not_eq_true'] at bH
      exact ⟨fun _=>⟨fn,hf',by simp [hb],bH.2⟩,fun ρ cD base w hv hs=>⟨fun _=>Z9 (yU hS hP hm L n) hm L hf' hb bH.1 h hv hs,fun h=>by simp at h⟩⟩
def xU (gl:List (Nat×List Value×Nat)) (b:Nat):Option Loc:=if b < gB then some (match gl.find? (fun x=>Nat.beq x.1 b) with | some x=>⟨b,0,x.2.1.length,x.2.2⟩ | none=>⟨b,0,0,0⟩) else none
theorem V1 (gl:List (Nat×List Value×Nat)):K1 (xU gl):=fun g hg=>by
  unfold xU
  rw [if_pos hg]
  split <;> exact ⟨_,rfl,rfl,rfl⟩
theorem JE:∀ (gl:List (Nat×List Value×Nat)) (b:Nat),(Ju gl).get b=match gl.find? (fun x=>Nat.beq x.1 b) with | some x=>some (.row x.2.1 x.2.2 false none) | none=>none
  | [],b=>by simp [Ju]
  | (g,cs,e) :: gl,b=>by
    simp only [Ju,Trie.fv,List.find?_cons]
    cases hb:Nat.beq g b with
    | true=>simp [Nat.eq_of_beq_eq_true hb]
    | false=>rw [if_neg (fun e=>by subst e; simp at hb)]; exact JE gl b
def adk (w:World) (gl:List (Nat×List Value×Nat)):Prop:=∀ x ∈ gl,x.1 < gB∧x.1 < w.heap.size∧x.2.1.all (fun v=>flat v && scalar v)=true∧∀ i v,x.2.1[i]? = some v→w.cell? ⟨x.1,i,none⟩=some v
theorem fU.Qm {w:World} {gl:List (Nat×List Value×Nat)} (h:adk w gl):fU (xU gl) (St.jO gl) w.heap.size w:=by
  have hg:∀ b o,(St.jO gl).get b=some o→∃ x ∈ gl,x.1=b∧gl.find? (fun x=>Nat.beq x.1 b)=some x∧o = .row x.2.1 x.2.2 false none:=by
    intro b o e
    have e:(Ju gl).get b=some o:=e
    rw [JE] at e
    split at e
    · rename_i x hx
      simp at e
      have:=List.find?_some hx
      exact ⟨x,List.mem_of_find?_eq_some hx,Nat.eq_of_beq_eq_true this,hx,e.symm⟩
    · simp at e
  refine ⟨⟨fun b cs a8 own a9 e=>?_,fun b es e=>?_,fun b s pos e=>?_,fun b st ex t ps c d e=>?_,fun b1 b2 o1 o2 l1 l2 _ e1 _ m=>?_,fun b o aJ f e k=>?_⟩,fun b l e=>?_,Nat.le_refl _,V1 gl⟩
  · obtain ⟨x,hx,rfl,hf,he⟩:=hg _ _ e
    simp at he
    obtain ⟨rfl,rfl,rfl,rfl⟩:=he
    obtain ⟨h1,h2,h3,h4⟩:=h x hx
    refine ⟨⟨x.1,0,x.2.1.length,x.2.2⟩,by unfold xU; rw [if_pos h1,hf],⟨fun i v hi=>?_,fun _=>h2,fun h=>by simp at h,fun h=>by simp at h,by simp,fun h=>by simp at h,rfl,h2,fun h=>by simp at h⟩⟩
    have:=List.all_eq_true.1 h3 v (List.mem_of_getElem? hi)
    simp only [Bool.and_eq_true] at this
    exact ⟨v,by simpa using h4 i v hi,VR.of_flat this.1,this.2⟩
  · obtain ⟨x,_,_,_,he⟩:=hg _ _ e; simp at he
  · obtain ⟨x,_,_,_,he⟩:=hg _ _ e; simp at he
  · obtain ⟨x,_,_,_,he⟩:=hg _ _ e; simp at he
  · obtain ⟨x,_,_,_,he⟩:=hg _ _ e1; subst he; simp [bf.bO] at m
  · obtain ⟨x,_,_,_,he⟩:=hg _ _ e; subst he; simp [bf.fJ] at k
  · unfold xU at e
    split at e
    · rename_i hb; exact hb
    · simp at e
theorem fU.empty (w:World):fU (xU []) St.empty w.heap.size w:=fU.Qm (gl:=[]) (fun _ h=>by simp at h)
theorem Oq {P:Program} {S:Told} (hS:R6 P S) (hP:P.funcs.toList.all jW=true) (hm:P.follows .mixedOrders=true) {L n:Nat} {f:FuncId} {gl:List (Nat×List Value×Nat)} (h:AQ (ES P S L n f [] (St.jO gl))=true) {w:World} (hw:adk w gl) (hf:Nat.blt f yB=true:=by rfl) :
    Calls P f #[] w fun e w'=>e = .returned (.bool true)∧RowKit.Below w.heap.size w w':=by
  unfold AQ at h
  split at h
  · rename_i b B hc
    subst h
    refine (((yU hS hP hm L n _ _ _ _ _ hc).2 _ [] w.heap.size w .nil (.Qm hw)).1 hf).mono ?_
    rintro e w' ⟨aq,v',rfl,hv,hg⟩
    refine ⟨by rw [hv.cF],hg.kept.os,hg.kept.tape,hg.kept.output,hg.kept.size,fun k hk=>hg.kept.block k hk ?_⟩
    rintro ⟨b,o,l,ho,hm,_⟩
    have ho:(Ju gl).get b=some o:=ho
    rw [JE] at ho
    split at ho
    · simp at ho; subst ho; simp [bf.bO] at hm
    · simp at ho
  · simp at h
theorem aab {P:Program} {S:Told} (hS:R6 P S) (hP:P.funcs.toList.all jW=true) (hm:P.follows .mixedOrders=true) {L n:Nat} {f:FuncId} (h:AQ (ES P S L n f [] St.empty)=true) (w:World) (hf:Nat.blt f yB=true:=by rfl) :
    Calls P f #[] w fun e w'=>e = .returned (.bool true)∧RowKit.Below w.heap.size w w':=
  Oq (gl:=[]) hS hP hm h (fun _ h=>by simp at h) hf
end
end Go.aV
end
section
namespace Go.K
open Go Go.aV
noncomputable section
inductive Mk where
  | any
  | exact
  | aJ (b:Nat)
inductive KV where
  | int (k:IntKind) (n:Int)
  | bool (b:Bool)
  | str (s:ByteArray)
  | agg (cs:List KV)
  | fI (vs:List KV)
  | ts (T:TypeId) (m:Mk) (n:Nat) (es:List KV) (acc:Nat→KV)
  | tp (T Tc:TypeId) (i k:Nat) (es:List KV) (acc:Nat→KV)
  | al (T:TypeId) (b o n:Nat)
  | ap (T Tc:TypeId) (b i k:Nat)
  | ptr (b off:Nat)
  | sl (b off len cap:Nat)
  | w7
  | gw
  | s9
  | map (b:Nat)
  | fn (f:Fn) (first cap:List KV)
  | xV
  | iface (t:TypeId) (v:KV)
  | xW
  | av
inductive gx where
  | row (cs:List KV) (a8:Nat)
  | map (es:List (KV×KV))
  | aJ (top sz:Nat)
  | arr (v:KV)
  | fB (v:KV)
  | dead
structure ak where
  heap:Trie gx
  next:Nat
def ak.empty:ak:=⟨.leaf,0⟩
def ak.get (A:ak) (b:Nat):Option gx:=A.heap.get b
def ak.new (A:ak) (o:gx):ak:=⟨A.heap.set o A.next,Nat.succ A.next⟩
def ak.put (A:ak) (b:Nat) (o:gx):ak:=⟨A.heap.set o b,A.next⟩
abbrev bd:=Trie KV
def ik {α:Type} : List (Nat×α)→Trie α
  | []=>.leaf
  | p :: ps=>(ik ps).set p.2 p.1
def KV.cells:KV→List KV
  | .agg cs=>cs
  | v=>[v]
def one:KV→Bool
  | .agg _ | .fI _ | .av=>false
  | _=>true
def mV:KV:=.fI []
inductive KR (α:Type) where
  | no
  | ok (v:α)
  | il (c:Bool) (v:α)
  | br (c:Bool) (x y:KR α)
def KR.run {α R:Type} (r:KR α) (k:α→Option R):Option R:=
  KR.rec (motive:=fun _=>Option R) none (fun v=>k v) (fun c v=>Bool.rec (motive:=fun _=>Option R) none (k v) c) (fun c _ _ rx ry=>Bool.rec (motive:=fun _=>Option R) ry rx c) r
def KR.map {α β:Type} (f:α→β):KR α→KR β
  | .no=>.no
  | .ok v=>.ok (f v)
  | .il c v=>.il c (f v)
  | .br c x y=>.br c (x.map f) (y.map f)
def KR.of {α:Type} : Option α→KR α
  | some v=>.ok v
  | none=>.no
inductive CK where
  | int (k:IntKind)
  | bool
  | str
  | slice (t:TypeId)
  | other
structure pt where
  agg:Bool
  ks:List CK
def cu {α:Type} (l:List α):Nat→List α
  | 0=>[]
  | n+1=>l ++ cu l n
def Fk (f:TypeId→Option pt):List Field→Nat→Option (List CK)
  | [],_=>some []
  | fd :: fs,off=>cond (Nat.beq fd.offset off) ((f fd.type).bind fun l=>(Fk f fs (off+l.ks.length)).map fun r=>l.ks ++ r) none
def lay (P:Program):Nat→TypeId→Option pt
  | 0,_=>none
  | n+1,t=>match P.underlying t with
    | some (.int k)=>some ⟨false,[.int k]⟩
    | some .bool=>some ⟨false,[.bool]⟩
    | some .string=>some ⟨false,[.str]⟩
    | some (.slice e)=>some ⟨false,[.slice e]⟩
    | some (.struct fs)=>(Fk (lay P n) fs.toList 0).map fun ks=>⟨true,ks⟩
    | some (.array len e)=>(lay P n e).map fun l=>⟨true,cu l.ks len⟩
    | some _=>some ⟨false,[.other]⟩
    | none=>none
def a6 (P:Program) (t:TypeId):pt:=(lay P 12 t).getD ⟨false,[]⟩
def kindOk:CK→KV→Bool
  | .int k,.int k' _=>decide (k=k')
  | .bool,.bool _=>true
  | .str,.str _=>true
  | .slice t,.ts t' .any _ _ _=>Nat.beq t t'
  | _,_=>false
def ax:List CK→List KV→Bool
  | [],[]=>true
  | k :: ks,v :: vs=>kindOk k v && ax ks vs
  | _,_=>false
def bX (l:pt):KV→Bool
  | .agg cs=>l.agg && ax l.ks cs
  | .fI _=>false
  | v=>!l.agg && ax l.ks [v]
def cX (l:pt):List KV→Bool
  | []=>true
  | e :: es=>bX l e && cX l es
def intOf:KV→Int
  | .int _ n=>n
  | _=>0
def lZ:KV→Bool
  | .bool b=>b
  | _=>false
def strOf:KV→ByteArray
  | .str s=>s
  | _=>ByteArray.empty
def aj1:KV→List KV
  | .ts _ _ _ es _=>es
  | _=>[]
def lenOf:KV→Nat
  | .ts _ _ n _ _=>n
  | _=>0
def afO:KV→Nat→KV
  | .ts _ _ _ _ acc=>acc
  | _=>fun _=>.av
def leaf (c:CK) (v:KV):KV:=
  CK.rec (motive:=fun _=>KV) (fun k=>.int k (intOf v)) (.bool (lZ v)) (.str (strOf v)) (fun t=>.ts t .any (lenOf v) (aj1 v) (afO v)) v c
def leaves (e:KV):List CK→Nat→List KV
  | [],_=>[]
  | c :: cs,k=>leaf c (e.cells.getD k .av) :: leaves e cs (Nat.succ k)
def Ep (agg:Bool) (cs:List KV):KV:=Bool.rec (motive:=fun _=>KV) (cs.headD .av) (.agg cs) agg
def CA:List CK→Bool
  | []=>true
  | .other :: _=>false
  | _ :: cs=>CA cs
mutual
def eG:Value→KV
  | .bool b=>.bool b
  | .int k n=>.int k n
  | .string s=>.str s
  | .pointer none=>.w7
  | .slice none 0 0=>.gw
  | .map none=>.s9
  | .nilFunc=>.xV
  | .nilIface=>.xW
  | .agg cs=>.agg (ofA cs)
  | .tuple cs=>.fI (ofA cs)
  | _=>.av
def ofA:Array Value→List KV
  | ⟨l⟩=>ofL l
def ofL:List Value→List KV
  | []=>[]
  | v :: vs=>eG v :: ofL vs
end
abbrev FP:=List KV→KR KV
abbrev FR:=ak→List KV→KR KV
abbrev FA:=ak→List KV→KR (KV×ak)
inductive lT where
  | pure (f:FP) (xs:List Operand)
  | read (f:FR) (xs:List Operand)
  | act (f:FA) (xs:List Operand)
  | look (f:FP) (xs:List Operand)
  | wO (g:FuncId) (f:List KV→KR KV) (xs:List Operand)
  | zJ (g:FuncId) (f:List KV→KR KV) (xs:List Operand)
  | call (f:Operand) (args:List Operand)
  | bad
def Yg:FP
  | [x]=>.ok x
  | _=>.no
def Yh:FP
  | [.bool b]=>.br b (.ok (.bool true)) (.ok (.bool false))
  | [x]=>.ok x
  | _=>.no
def acf:FP
  | [.bool t,.bool a,.bool b]=>.ok (.bool (cond t a b))
  | [.bool t,a,b]=>.ok (cond t a b)
  | _=>.no
def dV:List KV→Bool
  | []=>true
  | v :: vs=>one v && dV vs
def oS {α:Type} : Nat→List α→Option (List α)
  | 0,_=>some []
  | _+1,[]=>none
  | n+1,x :: xs=>(oS n xs).map (x :: ·)
def uQ {α:Type} : Nat→List α→List α
  | 0,l=>l
  | _+1,[]=>[]
  | n+1,_ :: xs=>uQ n xs
def gG {α:Type} : Nat→List α→List α→Option (List α)
  | 0,l,[]=>some l
  | 0,[],_ :: _=>none
  | 0,_ :: l,v :: vs=>(gG 0 l vs).map (v :: ·)
  | _+1,[],[]=>some []
  | _+1,[],_ :: _=>none
  | n+1,x :: l,vs=>(gG n l vs).map (x :: ·)
def Qn (n:Nat) (z:List KV):FA:=fun A _=>.ok (.ptr A.next 0,A.new (.row z n))
def kd (P:Program) (t:TypeId):lT:=
  match kr P t with
  | some z=>cond (flat z && z.cells.toList.all scalar && dV (eG z).cells) (.act (Qn (hH P t) (eG z).cells) []) .bad
  | none=>.bad
def uu (n:Nat):FA:=fun A xs=>
  match xs with
  | [v]=>cond (dV v.cells) (.ok (.ptr A.next 0,A.new (.row v.cells n))) .no
  | _=>.no
def Ot (place:Nat→Option (Nat×Nat)):List KV→List (Nat×KV)→Option (List KV)
  | cells,[]=>some cells
  | cells,(i,v) :: rest=>
    match place i with
    | some (off,size)=>cond (Nat.beq v.cells.length size && Nat.ble 1 size) ((gG off cells v.cells).bind fun cs=>Ot place cs rest) none
    | none=>none
def ta:List Nat→List KV→List (Nat×KV)
  | i :: is,v :: vs=>(i,v) :: ta is vs
  | _,_=>[]
def pw:KV→Bool
  | .av=>false
  | _=>true
def Hl (place:Nat→Option (Nat×Nat)) (z:List KV) (is:List Nat):FP:=fun vs=>
  match Ot place z (ta is vs) with
  | some cs=>cond (vs.all pw) (.ok (.agg cs)) .no
  | none=>.no
def mW (P:Program) (t:TypeId) (is:List Nat) (xs:List Operand):lT:=
  match kr P t,P.underlying t with
  | some z,some (.struct fields)=>
    match placesOf P fields.toList with
    | some l=>cond (flat z && dV (eG z).cells) (.pure (Hl (KL l) (eG z).cells is) xs) .bad
    | none=>.bad
  | some z,some (.array _ e)=>
    match size? P e with
    | some n=>cond (flat z && dV (eG z).cells) (.pure (Hl (sf n) (eG z).cells is) xs) .bad
    | none=>.bad
  | _,_=>.bad
def jP:Nat→KV:=fun _=>.av
def l7 (es:List KV):Nat→KV:=fun i=>es.getD i .av
def iJ (c:CK) (v:KV):KV:=
  match c,v with
  | .slice t,.gw=>.ts t .any 0 [] jP
  | .slice t,.ts t' _ n es acc=>cond (Nat.beq t t') (.ts t .any n es acc) .av
  | c,v=>cond (kindOk c v) v .av
def te:List CK→List KV→List KV
  | c :: cs,v :: vs=>iJ c v :: te cs vs
  | _,_=>[]
def eD (l:pt) (v:KV):KV:=
  match v with
  | .agg cs=>cond (l.agg && Nat.beq cs.length l.ks.length) (.agg (te l.ks cs)) .av
  | v=>cond l.agg .av (match l.ks with
    | [c]=>iJ c v
    | _=>.av)
def setAt (es:List KV) (i:Nat) (v:KV):List KV:=
  match i,es with
  | 0,_ :: es=>v :: es
  | n+1,e :: es=>e :: setAt es n v
  | _,[]=>[]
def CB (es:List KV):List (Nat×KV)→List KV
  | []=>es
  | (i,v) :: rest=>CB (setAt es i v) rest
def Fl (l:pt) (e:TypeId) (z:KV) (len:Nat) (is:List Nat):FP:=fun vs=>
  let es:=CB (cu [z] len) ((ta is vs).map fun p=>(p.1,eD l p.2))
  cond (vs.all pw && cX l (vs.map (eD l)) && cX l es) (.ok (.ts e .exact len es (l7 es))) .no
def xD (n:Nat):List Nat→Bool
  | []=>true
  | i :: is=>Nat.blt i n && xD n is
def JF (n:Nat) (z:List KV) (len:Nat) (is:List Nat):FA:=fun A vs=>
  match Ot (sf n) (cu z len) (ta is vs) with
  | some cs=>cond (vs.all pw && dV cs) (.ok (.sl A.next 0 len len,A.new (.row cs n))) .no
  | none=>.no
def gH (P:Program) (t:TypeId) (len:Nat) (is:List Nat) (xs:List Operand):lT:=
  match P.underlying t with
  | some (.slice e)=>
    match P.info? e,kr P e with
    | some i,some z=>cond (Nat.ble (len * i.size) 16777216 && Nat.beq z.cells.size i.size && Nat.ble 1 i.size && flat z && Nat.beq (a6 P e).ks.length i.size && xD len is)
        (cond (CA (a6 P e).ks) (.look (Fl (a6 P e) e (eD (a6 P e) (eG z)) len is) xs) (cond (dV (eG z).cells) (.act (JF i.size (eG z).cells len is) xs) .bad)) .bad
    | _,_=>.bad
  | _=>.bad
def rowAt (A:ak) (b:Nat):Option (List KV):=
  match A.get b with
  | some (.row cs _)=>some cs
  | _=>none
def zL (A:ak) (b:Nat):Option KV:=
  match A.get b with
  | some (.arr v)=>some v
  | some (.fB v)=>some v
  | _=>none
def R7 (P:Program) (t Tc:TypeId):Bool:=Nat.beq Tc t && CA (a6 P t).ks && decide (EH P t=some (a6 P t).agg) && decide (size? P t=some (a6 P t).ks.length) && ((a6 P t).agg || Nat.beq (a6 P t).ks.length 1)
def Ou (P:Program) (T:TypeId) (k:Nat) (e:KV) (vs:List KV):Option KV:=(gG k (leaves e (a6 P T).ks 0) vs).map fun cs=>Ep (a6 P T).agg cs
def qS (acc:Nat→KV) (i:Nat) (v:KV):Nat→KV:=fun j=>cond (Nat.beq j i) v (acc j)
def adl (T:TypeId) (n i:Nat) (es:List KV) (acc:Nat→KV) (e:KV):KV:=.ts T .any n (setAt es i e) (qS acc i e)
def Ov (P:Program) (t:TypeId):FR:=fun A xs=>
  match xs with
  | [.ptr b off]=>
    match EH P t,size? P t with
    | some ag,some n=>match (rowAt A b).bind fun cs=>oS n (uQ off cs) with
      | some l=>cond ag (.ok (.agg l)) (match l with | [v]=>.ok v | _=>.no)
      | none=>.no
    | _,_=>.no
  | [.tp _ Tc i k _ acc]=>
    cond (R7 P t Tc) (.ok (Ep (a6 P t).agg (leaves (acc i) (a6 P t).ks k))) .no
  | [.ap T Tc b i k]=>match zL A b with
    | some (.ts T' _ _ _ acc)=>cond (Nat.beq T T' && R7 P t Tc) (.ok (Ep (a6 P t).agg (leaves (acc i) (a6 P t).ks k))) .no
    | _=>.no
  | _=>.no
def LB (P:Program) (t:TypeId):FA:=fun A xs=>
  match xs with
  | [.ptr b off,v]=>
    cond (decide (some v.cells.length=size? P t) && dV v.cells)
      (match A.get b with
      | some (.row cs a8)=>match gG off cs v.cells with
        | some bk=>.ok (mV,A.put b (.row bk a8))
        | none=>.no
      | _=>.no) .no
  | [.ap T Tc b i k,v]=>
    match A.get b with
    | some (.arr (.ts T' _ n es acc))=>
      cond (Nat.beq T T' && Nat.beq Tc t && bX (a6 P t) (eD (a6 P t) v) && decide (size? P t=some (a6 P t).ks.length))
        (match Ou P T k (acc i) (eD (a6 P t) v).cells with
        | some e=>.ok (mV,A.put b (.arr (adl T n i es acc e)))
        | none=>.no) .no
    | _=>.no
  | _=>.no
def Th:FP
  | [.ptr b off]=>.ok (.ptr b off)
  | [.tp T Tc i k es acc]=>.ok (.tp T Tc i k es acc)
  | [.ap T Tc b i k]=>.ok (.ap T Tc b i k)
  | [.fn (.func f) first cap]=>.ok (.fn (.func f) first cap)
  | _=>.no
abbrev aj2 (k:IntKind) (a b:Int):Nat:=(BitVec.ofInt k.bits a &&& BitVec.ofInt k.bits b).toNat
abbrev bOr (k:IntKind) (a b:Int):Nat:=(BitVec.ofInt k.bits a ||| BitVec.ofInt k.bits b).toNat
abbrev aj3 (k:IntKind) (a b:Int):Nat:=(BitVec.ofInt k.bits a ^^^ BitVec.ofInt k.bits b).toNat
abbrev afP (k:IntKind) (a b:Int):Nat:=(BitVec.ofInt k.bits a &&& ~~~ BitVec.ofInt k.bits b).toNat
def opI (op:BinOp) (k:IntKind) (a b:Int):KR KV:=
  match op with
  | .add=>.ok (.int k (k.wrap (a+b)))
  | .sub=>.ok (.int k (k.wrap (a - b)))
  | .mul=>.ok (.int k (k.wrap (a * b)))
  | .eql=>.ok (.bool (a == b))
  | .neq=>.ok (.bool (a != b))
  | .lss=>.ok (.bool (decide (a < b)))
  | .leq=>.ok (.bool (decide (a≤b)))
  | .gtr=>.ok (.bool (decide (a > b)))
  | .geq=>.ok (.bool (decide (a ≥ b)))
  | .quo=>.il (!(decide (b=0))) (.int k (k.wrap (a.tdiv b)))
  | .rem=>.il (!(decide (b=0))) (.int k (a.tmod b))
  | .and=>.ok (.int k (k.wrap (aj2 k a b)))
  | .or=>.ok (.int k (k.wrap (bOr k a b)))
  | .xor=>.ok (.int k (k.wrap (aj3 k a b)))
  | .andNot=>.ok (.int k (k.wrap (afP k a b)))
  | _=>.no
def aj4 (op:BinOp) (k:IntKind) (a b:Int):KR KV:=
  match op with
  | .shl=>.il (!(decide (b < 0))) (.int k (k.wrap (a * 2 ^ (min b.toNat k.bits))))
  | .shr=>.il (!(decide (b < 0))) (.int k (a.fdiv (2 ^ (min b.toNat k.bits))))
  | _=>.no
def aac:BinOp→Bool
  | .shl | .shr=>true
  | _=>false
def eqK:KV→KV→Option Bool
  | .int k a,.int k' b=>cond (decide (k=k')) (some (a == b)) none
  | .bool a,.bool b=>some (a == b)
  | .str a,.str b=>some (a == b)
  | _,_=>none
def mO:List KV→List KV→Option Bool
  | [],[]=>some true
  | x :: xs,y :: ys=>match eqK x y,mO xs ys with
    | some a,some b=>some (a && b)
    | _,_=>none
  | _,_=>none
def w8 (P:Program):Nat→TypeId→Bool
  | 0,_=>false
  | n+1,t=>(match P.info? t,lay P (n+1) t with
      | some i,some l=>Nat.beq i.size l.ks.length
      | _,_=>false) && match P.underlying t with
    | some (.int _) | some .bool | some .string=>true
    | some (.struct fs) => !(P.stoodInHeld t) && fs.toList.all fun f => !(f.name == "_") && w8 P n f.type
    | some (.array _ e)=>w8 P n e
    | _=>false
def afQ (P:Program) (t:TypeId) (x y:KV):Option Bool:=
  match x,y with
  | .agg xs,.agg ys=>cond ((a6 P t).agg && w8 P 12 t && !(P.eqGuardType P.depth t) && ax (a6 P t).ks xs && ax (a6 P t).ks ys) (mO xs ys) none
  | .bool a,.bool b=>match P.underlying t with
    | some .bool=>some (a == b)
    | _=>none
  | .gw,.gw=>match P.underlying t with
    | some (.slice _)=>some true
    | _=>none
  | .ts _ _ n _ _,.gw=>match P.underlying t with
    | some (.slice _)=>cond (Nat.beq n 0) none (some false)
    | _=>none
  | .gw,.ts _ _ n _ _=>match P.underlying t with
    | some (.slice _)=>cond (Nat.beq n 0) none (some false)
    | _=>none
  | .w7,.w7=>match P.underlying t with
    | some (.pointer _)=>some true
    | _=>none
  | .ptr _ _,.w7=>match P.underlying t with
    | some (.pointer _)=>some false
    | _=>none
  | .w7,.ptr _ _=>match P.underlying t with
    | some (.pointer _)=>some false
    | _=>none
  | _,_=>none
def afR (P:Program) (op:BinOp) (t:TypeId):FP
  | [.int j a,.int k b]=>cond (aac op) (aj4 op j a b) (cond (decide (j=k)) (opI op j a b) .no)
  | [.str a,.str b]=>match op with
    | .eql=>.ok (.bool (a.toList == b.toList))
    | .neq=>.ok (.bool !(a.toList == b.toList))
    | .lss=>.ok (.bool (Op.bytesLess a.toList b.toList))
    | .add=>.il (Nat.ble (a.size+b.size) 9223372036854775807) (.str (a ++ b))
    | _=>.no
  | [x,y]=>match op,afQ P t x y with
    | .eql,some b=>.ok (.bool b)
    | .neq,some b=>.ok (.bool !b)
    | _,_=>.no
  | _=>.no
def kUn (op:UnOp):FP
  | [.bool b]=>match op with
    | .not=>.ok (.bool !b)
    | _=>.no
  | [.int k n]=>match op with
    | .neg=>.ok (.int k (k.wrap (0 - n)))
    | .xor=>.ok (.int k (k.wrap (BitVec.ofInt k.bits (if k.signed then -1 else k.max) ^^^ BitVec.ofInt k.bits n).toNat))
    | _=>.no
  | _=>.no
def adm (k:IntKind):FP
  | [.int _ n]=>.ok (.int k (k.wrap n))
  | _=>.no
def adn:FP
  | [.str s]=>.ok (.str s)
  | _=>.no
def byteOf:KV→UInt8
  | .int _ n=>UInt8.ofNat n.toNat
  | _=>0
def ado:KV→Bool
  | .int .u8 n=>decide (0≤n) && decide (n < 256)
  | _=>false
def CC:FP
  | [.gw]=>.ok (.str ⟨⟨[]⟩⟩)
  | [.ts _ _ _ es _]=>.il (es.all ado) (.str ⟨⟨es.map byteOf⟩⟩)
  | _=>.no
def JG (e:TypeId):FP
  | [.str s]=>.ok (.ts e .any s.size (s.data.toList.map fun b=>.int .u8 b.toNat) (fun i=>.int .u8 (s.data.toList.getD i 0).toNat))
  | _=>.no
def jX (P:Program) (src dst:TypeId) (x:Operand):lT:=
  match P.underlying src,P.underlying dst with
  | some (.int _),some (.int k)=>.pure (adm k) [x]
  | some .string,some .string=>.pure adn [x]
  | some (.slice e),some .string=>cond (isByte P e) (.read (fun _=>CC) [x]) .bad
  | some .string,some (.slice e)=>cond (isByte P e) (.look (JG e) [x]) .bad
  | _,_=>.bad
def CE (f:Fn) (k:Nat):FP:=fun vs=>
  match oS k vs with
  | some first=>.ok (.fn f first (uQ k vs))
  | none=>.no
def Qo (s:TypeId) (off:Nat) (ft:TypeId) (sn:Bool):FP
  | [.ptr b o]=>.ok (.ptr b (o+off))
  | [.tp T Tc i k es acc]=>cond (Nat.beq Tc s && sn) (.ok (.tp T ft i (k+off) es acc)) .no
  | [.ap T Tc b i k]=>cond (Nat.beq Tc s && sn) (.ok (.ap T ft b i (k+off))) .no
  | _=>.no
def afS:CK→CK→Bool
  | .int a,.int b=>decide (a=b)
  | .bool,.bool=>true
  | .str,.str=>true
  | .slice a,.slice b=>Nat.beq a b
  | .other,.other=>true
  | _,_=>false
def uR:List CK→List CK→Bool
  | [],[]=>true
  | a :: akK,b :: bs=>afS a b && uR akK bs
  | _,_=>false
def R8 (P:Program) (s:TypeId) (off:Nat) (ft:TypeId):Bool:=
  match oS (a6 P ft).ks.length (uQ off (a6 P s).ks) with
  | some l=>uR l (a6 P ft).ks
  | none=>false
def im (P:Program) (s:TypeId) (x:Operand) (f:Nat):lT:=
  match kY P s f with
  | some fd=>match size? P fd.type with
    | some (_+1)=>.pure (Qo s fd.offset fd.type (R8 P s fd.offset fd.type)) [x]
    | _=>.bad
  | none=>.bad
def Ow (P:Program) (t:TypeId) (cs:List KV) (off:Nat):Option KV:=
  match EH P t with
  | some true=>(size? P t).bind fun n=>(oS n (uQ off cs)).map fun l=>.agg l
  | some false=>(uQ off cs).head?
  | none=>none
def adp (P:Program) (fd:Field):FP
  | [.agg cs]=>.of (Ow P fd.type cs fd.offset)
  | _=>.no
def mX (P:Program) (t:TypeId) (x:Operand) (f:Nat):lT:=
  match kY P t f with
  | some fd=>.pure (adp P fd) [x]
  | none=>.bad
def Ti (i:Int) (n:Nat):Bool:=decide (0≤i) && decide (i < (n:Int))
def adq {α:Type} (i:Int) (f:Nat→KR α) (m:Nat):Nat→KR α:=Nat.rec (motive:=fun _=>Nat→KR α) (fun _=>.no) (fun _ ih j=>.br (decide (i=(j:Int))) (f j) (ih (Nat.succ j))) m
def Tj (P:Program) (t:TypeId) (len n:Nat) (e:TypeId):FP
  | [.ptr b o,.int _ i]=>cond (Nat.ble len 8) (adq i (fun j=>.ok (.ptr b (o+j * n))) len 0) (.il (Ti i len) (.ptr b (o+i.toNat * n)))
  | [.tp T Tc j k es acc,.int _ i]=>cond (Nat.beq Tc t && uR (a6 P t).ks (cu (a6 P e).ks len) && Nat.beq (a6 P e).ks.length n) (.il (Ti i len) (.tp T e j (k+i.toNat * n) es acc)) .no
  | [.ap T Tc b j k,.int _ i]=>cond (Nat.beq Tc t && uR (a6 P t).ks (cu (a6 P e).ks len) && Nat.beq (a6 P e).ks.length n) (.il (Ti i len) (.ap T e b j (k+i.toNat * n))) .no
  | _=>.no
def WY (e n:Nat) (sn:Bool):FP
  | [.sl b o len _,.int _ i]=>.il (Ti i len) (.ptr b (o+i.toNat * n))
  | [.ts T _ m es acc,.int _ i]=>cond (Nat.beq T e && sn) (.il (Ti i m) (.tp T T i.toNat 0 es acc)) .no
  | [.al T b o m,.int _ i]=>cond (Nat.beq T e && sn) (.il (Ti i m) (.ap T T b (o+i.toNat) 0)) .no
  | _=>.no
def iq (P:Program) (t:TypeId) (x ix:Operand):lT:=
  match P.underlying t with
  | some (.array len e)=>match size? P e with
    | some n=>.pure (Tj P t len n e) [x,ix]
    | none=>.bad
  | some (.slice e)=>match size? P e with
    | some n=>.pure (WY e n (Nat.beq (a6 P e).ks.length n)) [x,ix]
    | none=>.bad
  | _=>.bad
def JH (P:Program) (len n:Nat) (e:TypeId):FP
  | [.agg cs,.int _ i]=>cond (Nat.ble len 8) (adq i (fun j=>.of (Ow P e cs (j * n))) len 0) (match Ow P e cs (i.toNat * n) with
    | some v=>.il (Ti i len) v
    | none=>.no)
  | _=>.no
def Tk:FP
  | [.str s,.int _ i]=>.il (Ti i s.size) (.int .u8 ((s.data.toList.getD i.toNat 0).toNat))
  | _=>.no
def mZ (P:Program) (t:TypeId) (x ix:Operand):lT:=
  match P.underlying t with
  | some (.array len e)=>match size? P e with
    | some n=>.pure (JH P len n e) [x,ix]
    | none=>.bad
  | some .string=>.pure Tk [x,ix]
  | _=>.bad
def aad {α:Type} : Nat→List α→Option α
  | _,[]=>none
  | 0,x :: _=>some x
  | n+1,_ :: xs=>aad n xs
def WZ (i:Nat):FP
  | [.fI vs]=>.of (aad i vs)
  | _=>.no
def adr:FP
  | [.ts _ _ n _ _]=>.ok (.int .i64 (n:Int))
  | [.sl _ _ n _]=>.ok (.int .i64 (n:Int))
  | [.al _ _ _ n]=>.ok (.int .i64 (n:Int))
  | [.gw]=>.ok (.int .i64 0)
  | _=>.no
def aae:FP
  | [.str s]=>.ok (.int .i64 (s.size:Int))
  | _=>.no
def Tl (P:Program) (argTypes:List TypeId) (args:List Operand):lT:=
  match argTypes with
  | [t]=>match P.underlying t with
    | some (.slice _)=>.pure adr args
    | some .string=>.pure aae args
    | _=>.bad
  | _=>.bad
def Bc (mx:Bool):FP
  | [.int j a,.int k b]=>cond (decide (j=k)) (.ok (.int j (cond mx (max a b) (min a b)))) .no
  | [.int j a,.int k b,.int l c]=>cond (decide (j=k) && decide (j=l)) (.ok (.int j (cond mx (max (max a b) c) (min (min a b) c)))) .no
  | _=>.no
def LC (len:Nat) (lo hi:Bool):List KV→Option (Int×Int)
  | []=>cond (lo || hi) none (some (0,len))
  | [.int _ x]=>cond (lo && !hi) (some (x,len)) (cond (!lo && hi) (some (0,x)) none)
  | [.int _ x,.int _ y]=>cond (lo && hi) (some (x,y)) none
  | _=>none
def Ox (P:Program) (n:Nat) (lo hi:Bool):FR:=fun A xs=>
  match xs with
  | .ts T _ m es acc :: r=>match LC m lo hi r with
    | some (x,y)=>cond (Nat.beq (a6 P T).ks.length n) (.il (decide (0≤x) && decide (x≤y) && decide (y≤(m:Int))) (.ts T .any (y.toNat - x.toNat) ((es.drop x.toNat).take (y.toNat - x.toNat)) (fun i=>acc (x.toNat+i)))) .no
    | none=>.no
  | .sl b o len cap :: r=>match A.get b with
    | some (.row _ a8)=>match LC len lo hi r with
      | some (x,y)=>cond (Nat.beq a8 n) (.il (decide (0≤x) && decide (x≤y) && decide (y≤(len:Int)) && decide (len≤cap)) (.sl b (o+x.toNat * n) (y.toNat - x.toNat) (cap - x.toNat))) .no
      | none=>.no
    | _=>.no
  | .al T b o m :: r=>match zL A b with
    | some (.ts T' _ _ _ _)=>match LC m lo hi r with
      | some (x,y)=>cond (Nat.beq (a6 P T).ks.length n && Nat.beq T T') (.il (decide (0≤x) && decide (x≤y) && decide (y≤(m:Int))) (.al T b (o+x.toNat) (y.toNat - x.toNat))) .no
      | none=>.no
    | _=>.no
  | _=>.no
def JI (len n:Nat) (lo hi:Bool):FR:=fun A xs=>
  match xs with
  | .ptr b o :: r=>match A.get b with
    | some (.row cs a8)=>match LC len lo hi r with
      | some (x,y)=>cond (Nat.beq a8 n && Nat.ble (o+len * n) cs.length) (.il (decide (0≤x) && decide (x≤y) && decide (y≤(len:Int))) (.sl b (o+x.toNat * n) (y.toNat - x.toNat) (len - x.toNat))) .no
      | none=>.no
    | _=>.no
  | _=>.no
def JJ (lo hi:Bool):FP
  | .str s :: r=>match LC s.size lo hi r with
    | some (x,y)=>.il (decide (0≤x) && decide (x≤y) && decide (y≤(s.size:Int))) (.str ⟨⟨(s.data.toList.drop x.toNat).take (y.toNat - x.toNat)⟩⟩)
    | none=>.no
  | _=>.no
def m0 (P:Program) (t:TypeId) (x:Operand) (lo hi mx:Option Operand):lT:=
  match P.underlying t with
  | some (.slice e)=>match size? P e with
    | some n=>cond (Nat.ble 1 n && mx.isNone) (.read (Ox P n lo.isSome hi.isSome) (x :: (da lo ++ da hi))) .bad
    | none=>.bad
  | some (.array len e)=>match size? P e with
    | some n=>cond (Nat.ble 1 n && mx.isNone) (.read (JI len n lo.isSome hi.isSome) (x :: (da lo ++ da hi))) .bad
    | none=>.bad
  | some .string=>cond mx.isNone (.pure (JJ lo.isSome hi.isSome) (x :: (da lo ++ da hi))) .bad
  | _=>.bad
def cL (b n m:Nat):Bool:=Nat.ble ((n+m+512) * b) 17592186044416 && Nat.ble (n+m) 17592186044416 && (Nat.blt 0 m || Nat.beq n 0)
def aB (top n:Nat):Bool:=Nat.beq top n
def cM (n:Nat) (f g:Nat→KV):Nat→KV:=fun i=>cond (Nat.blt i n) (f i) (g (i - n))
def LD (e sz b n:Nat) (base:List KV) (ab:Nat→KV) (A:ak) (f m:Nat) (new:List KV) (an:Nat→KV) (more:Bool):KR (KV×ak):=
  .il (more && cL b n m)
    (.ts e (.aJ f) (n+m) (base ++ new) (cM n ab an),A.put f (.aJ (n+m) sz))
def Fm (e sz b:Nat):FA:=fun A xs=>
  match xs with
  | [.gw,.ts e' _ m new an]=>cond (Nat.beq e e') (LD e sz b 0 [] jP (A.new (.aJ 0 sz)) A.next m new an true) .no
  | [.ts e1 .exact n es ab,.ts e' _ m new an]=>cond (Nat.beq e e' && Nat.beq e e1) (LD e sz b n es ab (A.new (.aJ 0 sz)) A.next m new an (Nat.blt 0 m)) .no
  | [.ts e1 (.aJ f) n es ab,.ts e' _ m new an]=>match A.get f with
    | some (.aJ top sz')=>cond (Nat.beq e e' && Nat.beq e e1 && Nat.beq sz' sz) (LD e sz b n es ab A f m new an (aB top n)) .no
    | _=>.no
  | _=>.no
def Yi (A:ak) (T b o n:Nat):Option KV:=
  match zL A b with
  | some (.ts T' _ _ es acc)=>cond (Nat.beq T T') (some (.ts T .any n ((es.drop o).take n) (fun i=>acc (o+i)))) none
  | _=>none
def Fo (A:ak) (v:KV):Option KV:=
  match v with
  | .al T b o n=>Yi A T b o n
  | .ts T m n es acc=>some (.ts T m n es acc)
  | _=>none
def ads (b n m:Nat):Bool:=Nat.ble ((n+m+512) * b) 17592186044416 && Nat.ble (n+m) 17592186044416
def R9 (e b n:Nat) (base:List KV) (ab:Nat→KV) (A:ak) (m:Nat) (new:List KV) (an:Nat→KV) (more:Bool):KR (KV×ak):=
  .il (more && ads b n m) (.al e A.next 0 (n+m),A.new (.arr (.ts e .any (n+m) (base ++ new) (cM n ab an))))
def xE (e b:Nat):FA:=fun A xs=>
  match xs with
  | [.gw,.ts e' _ m new an]=>cond (Nat.beq e e') (R9 e b 0 [] jP A m new an true) .no
  | [.al e1 f o n,.ts e' _ m new an]=>match A.get f with
    | some (.arr (.ts e2 _ _ es acc))=>cond (Nat.beq e e' && Nat.beq e e1 && Nat.beq e e2) (R9 e b n (es.take n) acc (A.put f .dead) m new an (Nat.beq o 0)) .no
    | _=>.no
  | _=>.no
def afT:KV→Bool
  | .al _ _ _ _=>true
  | _=>false
def Bd (e sz b:Nat) (mt:Bool):FA:=fun A xs=>
  match xs with
  | [x,y]=>match Fo A y with
    | some y'=>cond (afT x) (xE e b A [x,y']) (cond mt (xE e b A [x,y']) (Fm e sz b A [x,y']))
    | none=>.no
  | _=>.no
def yV (P:Program) (mt:TypeId→Bool) (argTypes:List TypeId) (args:List Operand):lT:=
  match argTypes with
  | [t,u]=>
    match P.underlying t,P.underlying u with
    | some (.slice e),some (.slice _)=>
      match P.info? e with
      | some i=>match i.zero with
        | some z=>cond (Nat.ble 1 i.size && Nat.beq z.cells.size i.size && Nat.beq (a6 P e).ks.length i.size) (.act (Bd e i.size i.bytes (mt e)) args) .bad
        | none=>.bad
      | none=>.bad
    | _,_=>.bad
  | _=>.bad
def Fp (n b:Nat) (z:List KV):FA:=fun A xs=>
  match xs with
  | [.int _ l,.int _ c]=>.il (decide (0≤l) && decide (l≤c) && Nat.ble (b * c.toNat) 281474976710656) (.sl A.next 0 l.toNat c.toNat,A.new (.row (cu z c.toNat) n))
  | _=>.no
def Oy (T b:Nat) (z:KV):FA:=fun A xs=>
  match xs with
  | [.int _ l,.int _ c]=>.il (decide (0≤l) && decide (l≤c) && Nat.ble (b * c.toNat) 281474976710656) (.al T A.next 0 l.toNat,A.new (.arr (.ts T .any c.toNat (cu [z] c.toNat) (fun _=>z))))
  | _=>.no
def oT (P:Program) (mt:TypeId→Bool) (t:TypeId) (l c:Operand):lT:=
  match P.underlying t with
  | some (.slice e)=>
    match P.info? e with
    | some i=>match i.zero with
      | some z=>cond (mt e) (cond (Nat.ble 1 i.size && Nat.ble 1 i.bytes && Nat.beq z.cells.size i.size && flat z && z.cells.toList.all scalar && Nat.beq (a6 P e).ks.length i.size && bX (a6 P e) (eD (a6 P e) (eG z))) (.act (Oy e i.bytes (eD (a6 P e) (eG z))) [l,c]) .bad) <| cond (Nat.ble 1 i.size && Nat.ble 1 i.bytes && Nat.beq z.cells.size i.size && flat z && z.cells.toList.all scalar && dV (eG z).cells) (.act (Fp i.size i.bytes (eG z).cells) [l,c]) .bad
      | none=>.bad
    | none=>.bad
  | _=>.bad
def tf (es:List KV) (o:Nat) (new:List KV):List KV:=es.take o ++ new ++ es.drop (o+new.length)
def gm (o k:Nat) (f g:Nat→KV):Nat→KV:=fun i=>cond (Nat.blt i o) (f i) (cond (Nat.blt i (o+k)) (g (i - o)) (f i))
def acg (e:Nat):FA:=fun A xs=>
  match xs with
  | [.al e1 b o n,y]=>match Fo A y,A.get b with
    | some (.ts e' _ m new an),some (.arr (.ts e2 _ N es acc))=>cond (Nat.beq e e' && Nat.beq e e1 && Nat.beq e e2)
        (.ok (.int .i64 (Nat.min m n:Nat),A.put b (.arr (.ts e .any N (tf es o (new.take (Nat.min m n))) (gm o (Nat.min m n) acc an))))) .no
    | _,_=>.no
  | _=>.no
def Hm (P:Program) (argTypes:List TypeId) (args:List Operand):lT:=
  match argTypes with
  | [t,u]=>
    match P.underlying t,P.underlying u with
    | some (.slice e),some (.slice _)=>match size? P e with
      | some n=>cond (Nat.ble 1 n && Nat.beq (a6 P e).ks.length n) (.act (acg e) args) .bad
      | none=>.bad
    | _,_=>.bad
  | _=>.bad
def tg (P:Program) (mt:TypeId→Bool) (b:Builtin) (argTypes:List TypeId) (args:List Operand):lT:=
  match b with
  | .len=>Tl P argTypes args
  | .min=>.pure (Bc false) args
  | .max=>.pure (Bc true) args
  | .append=>yV P mt argTypes args
  | .copy=>Hm P argTypes args
  | _=>.bad
inductive Fq where
  | no
  | out (e:au) (t:bd) (A:ak)
  | br (c:Bool) (x y:Fq)
inductive CF where
  | no
  | out (v:KV) (A:ak)
  | br (c:Bool) (x y:CF)
structure aaf where
  ac:FuncId→Option (List KV→ak→CF)
  mt:TypeId→Bool
  fz:Bool
  eg:Bool
def aaf.none:aaf:=⟨fun _=>.none,fun _=>false,false,false⟩
structure c9 where
  pc:FuncId→Option (List KV→KR KV)
  lp:FuncId→Nat→Option (bd→ak→Fq)
  x:aaf
def c9.none:c9:=⟨fun _=>.none,fun _ _=>.none,.none⟩
def Tn (A:ak) (v:KV):KV×ak:=
  match v with
  | .al T b o n=>match A.get b with
    | some (.arr (.ts T' m N es acc))=>cond (Nat.beq T T') (.ts T .any n ((es.drop o).take n) (fun i=>acc (o+i)),A.put b (.fB (.ts T' m N es acc))) (.av,A)
    | some (.fB (.ts T' _ _ es acc))=>cond (Nat.beq T T') (.ts T .any n ((es.drop o).take n) (fun i=>acc (o+i)),A) (.av,A)
    | _=>(.av,A)
  | v=>(v,A)
def Oz (A:ak):List KV→List KV×ak
  | []=>([],A)
  | v :: vs=>((Tn A v).1 :: (Oz (Tn A v).2 vs).1,(Oz (Tn A v).2 vs).2)
def W3 (A:ak) (v:KV):KV×ak:=
  match v with
  | .agg cs=>(.agg (Oz A cs).1,(Oz A cs).2)
  | v=>Tn A v
def uv (A:ak):List KV→List KV×ak
  | []=>([],A)
  | v :: vs=>((W3 A v).1 :: (uv (W3 A v).2 vs).1,(uv (W3 A v).2 vs).2)
def ao (P:Program) (f:KV→KV) (t:TypeId) (e:KV):KV:=Ep (a6 P t).agg ((leaves e (a6 P t).ks 0).map f)
def ae (P:Program) (d:Nat):KV→KV:=Nat.rec (motive:=fun _=>KV→KV) (fun v=>v) (fun _ ih v=>match v with
  | .ts t _ n _ acc=>.ts t .any n ((List.range n).map fun i=>ao P ih t (acc i)) (fun i=>ao P ih t (acc i))
  | v=>v) d
def ah:Nat:=6
def DD (P:Program) (t:TypeId) (v:KV):KV:=cond (bX (a6 P t) (eD (a6 P t) v)) (ao P (ae P ah) t (eD (a6 P t) v)) .av
def normArgs (P:Program):List TypeId→List KV→List KV
  | t :: ts,v :: vs=>DD P t v :: normArgs P ts vs
  | _,_=>[]
def aC (P:Program) (g:FuncId):List TypeId:=match P.funcs.toList[g]? with
  | some fn=>fn.params.toList
  | none=>[]
def gV (P:Program) (cfg:c9) (c:Call):lT:=
  match c.callee with
  | .value (.func g)=>match cfg.pc g with
    | some F=>cond cfg.x.fz (.zJ g (fun vs=>cond (Nat.beq vs.length (aC P g).length) (F (normArgs P (aC P g) vs)) .no) c.args.toList)
        (.wO g (fun vs=>cond (Nat.beq vs.length (aC P g).length) (F (normArgs P (aC P g) vs)) .no) c.args.toList)
    | none=>.call (.func g) c.args.toList
  | .value f=>.call f c.args.toList
  | .builtin b=>tg P cfg.x.mt b c.argTypes.toList c.args.toList
  | .invoke _ _=>.bad
def qA:Fn→Bool
  | .yield _=>true
  | _=>false
def bG (P:Program) (cfg:c9):Op→lT
  | .move x=>.pure Yg [x]
  | .assign x=>.pure (cond cfg.x.eg Yh Yg) [x]
  | .pick c a b=>.pure acf [c,a,b]
  | .alloc t=>kd P t
  | .box t x=>.act (uu (hH P t)) [x]
  | .build t parts=>mW P t (parts.toList.map (·.1)) (parts.toList.map (·.2))
  | .buildSlice t len parts=>gH P t len (parts.toList.map (·.1)) (parts.toList.map (·.2))
  | .load t a=>.read (Ov P t) [a]
  | .store t a x=>.act (LB P t) [a,x]
  | .nilCheck x=>.pure Th [x]
  | .binOp op t x y _=>.pure (afR P op t) [x,y]
  | .unOp op _ x=>.pure (kUn op) [x]
  | .convert src dst x=>jX P src dst x
  | .makeFunc fn first cap=>cond (qA fn) .bad (.pure (CE fn first.size) (first.toList ++ cap.toList))
  | .fieldAddr s x f=>im P s x f
  | .field t x f=>mX P t x f
  | .indexAddr t x ix=>iq P t x ix
  | .index t x ix=>mZ P t x ix
  | .extract t ix=>.pure (WZ ix) [t]
  | .slice t x lo hi mx=>m0 P t x lo hi mx
  | .makeSlice t l c=>oT P cfg.x.mt t l c
  | .call c=>gV P cfg c
  | _=>.bad
def ir (t:bd):Operand→KV
  | .tmp i=>(t.get i).getD .av
  | .const v=>cond (flat v) (eG v) .av
  | .global _=>.av
  | .func f=>.fn (.func f) [] []
def n6 (t:bd):List Operand→List KV
  | []=>[]
  | x :: xs=>ir t x :: n6 t xs
def mj (t:bd) (dst:Option Tmp) (v:KV):bd:=
  match dst with
  | some d=>t.set v d
  | none=>t
def Fs (args:List KV):KV→Option (FuncId×List KV)
  | .fn (.func g) first cap=>some (g,first ++ args ++ cap)
  | _=>none
inductive BK where
  | bool (b:Bool)
  | fI
  | no
def nY:KV→BK
  | .bool b=>.bool b
  | .fI _=>.fI
  | _=>.no
section
variable {R:Type}
abbrev jG (R:Type):=FuncId→List KV→ak→(KV→ak→Option R)→Option R
def LF (bb:jG R) (t:bd) (A:ak) (k:KV→ak→Option R) (ins:lT):Option R:=
  lT.rec (motive:=fun _=>Option R)
    (fun f xs=>(f (n6 t xs)).run fun v=>k v A)
    (fun f xs=>(f A (n6 t xs)).run fun v=>k v A)
    (fun f xs=>(f A (n6 t xs)).run fun p=>k p.1 p.2)
    (fun f xs=>(f (n6 t xs)).run fun v=>k v A)
    (fun _ f xs=>(f (n6 t xs)).run fun v=>k v A)
    (fun _ f xs=>(f (uv A (n6 t xs)).1).run fun v=>k v (uv A (n6 t xs)).2)
    (fun f args=>Option.rec (motive:=fun _=>Option R) none (fun p=>bb p.1 p.2 A k) (Fs (n6 t args) (ir t f)))
    none ins
def aag (t:bd) (d:Option Tmp) (want:Bool) (yes no:bd→Option R):Option R:=
  Option.rec (motive:=fun _=>Option R) none (fun d=>BK.rec (motive:=fun _=>Option R)
    (fun b=>Bool.rec (motive:=fun _=>Option R)
      (Bool.rec (motive:=fun _=>Option R) (yes (t.set (.bool false) d)) (no (t.set (.bool false) d)) want)
      (Bool.rec (motive:=fun _=>Option R) (no (t.set (.bool true) d)) (yes (t.set (.bool true) d)) want) b)
    (no t) none (nY ((t.get d).getD .av))) d
def rG (P:Program) (cfg:c9) (bb:jG R) (all:List Oper) (o:Oper) (k:bd→ak→Option R) (t:bd) (A:ak):Option R:=
  Option.rec (motive:=fun _=>Option R) (LF bb t A (fun v A=>k (mj t o.dst v) A) (bG P cfg o.op))
    (fun g=>aag t ((all[g.1]?).bind (·.dst)) g.2 (fun t=>LF bb t A (fun v A=>k (mj t o.dst v) A) (bG P cfg o.op)) (fun t=>k (mj t o.dst mV) A)) o.guard
def oU (P:Program) (cfg:c9) (bb:jG R) (all:List Oper) (k:bd→ak→Option R) (os:List Oper):bd→ak→Option R:=
  List.rec (motive:=fun _=>bd→ak→Option R) k (fun o _ ih=>rG P cfg bb all o ih) os
abbrev KE (R:Type):=au→bd→ak→Option R
def Yj (t:bd) (c:Operand) (f g:bd→Option R):Option R:=
  match c with
  | .tmp d=>BK.rec (motive:=fun _=>Option R) (fun b=>Bool.rec (motive:=fun _=>Option R) (g (t.set (.bool false) d)) (f (t.set (.bool true) d)) b) none none (nY ((t.get d).getD .av))
  | c=>BK.rec (motive:=fun _=>Option R) (fun b=>Bool.rec (motive:=fun _=>Option R) (g t) (f t) b) none none (nY (ir t c))
def cY (i:lT):Nat:=lT.rec (motive:=fun _=>Nat) (fun _ _=>0) (fun _ _=>1) (fun _ _=>3) (fun _ _=>0) (fun _ _ _=>0) (fun _ _ _=>3) (fun _ _=>9) 9 i
def Sa:lT→List Operand
  | .pure _ xs=>xs
  | .read _ xs=>xs
  | .act _ xs=>xs
  | .look _ xs=>xs
  | .wO _ _ xs=>xs
  | .zJ _ _ xs=>xs
  | .call f xs=>f :: xs
  | .bad=>[]
def jC (P:Program) (cfg:c9) (all:List Oper) (o:Oper):List Tmp:=sh all o ++ k7 (Sa (bG P cfg o.op))
def m3 (P:Program) (cfg:c9) (all:List Oper) (x y:Oper):Bool:=AK x.dst (jC P cfg all y) || AK y.dst (jC P cfg all x) || sR x.dst y.dst
def zM (P:Program) (cfg:c9) (all:List Oper) (x y:Oper):Bool:=
  m3 P cfg all x y || (Nat.ble 3 (cY (bG P cfg x.op)) && !(Nat.beq (cY (bG P cfg y.op)) 0)) || (Nat.ble 3 (cY (bG P cfg y.op)) && !(Nat.beq (cY (bG P cfg x.op)) 0))
def Hn:Op→Bool
  | .alloc _=>true
  | .box _ _=>true
  | .call c=>match c.callee with
    | .builtin .append=>true
    | _=>false
  | _=>false
def LG:Op→Option Operand
  | .store _ a _=>some a
  | _=>none
def adt:Op→Option Operand
  | .load _ a=>some a
  | _=>none
def oV (i:Nat) (x:Operand):List Oper→Nat→Bool
  | [],_=>true
  | o :: os,j=>(Nat.blt j i || !(AK o.dst (k7 [x]))) && oV i x os (Nat.succ j)
def CG (i:Nat) (x:Option Operand) (all:List Oper):Bool:=
  match x with
  | some x=>oV i x all 0
  | none=>true
def CH (x y:Oper):Option (Option Operand×Operand):=
  match adt y.op with
  | some a=>cond (Hn x.op) (some (none,a)) (match LG x.op with
    | some a2=>some (some a2,a)
    | none=>none)
  | none=>none
def Qp (all:List Oper) (j:Nat) (x:Oper) (i:Nat) (y:Oper):Option (Option Operand×Operand):=
  match CH x y with
  | some p=>cond (oV i p.2 all 0 && CG j p.1 all) (some p) none
  | none=>match CH y x with
    | some p=>cond (oV j p.2 all 0 && CG i p.1 all) (some p) none
    | none=>none
def Bf (t:bd) (nx:Nat) (p:Option Operand×Operand):Bool:=
  match ir t p.2 with
  | .tp _ _ _ _ _ _=>true
  | .ptr b _=>Nat.blt b nx && (match p.1 with
    | some a2=>(match ir t a2 with
      | .ptr b2 _=>!(Nat.beq b b2)
      | .ap _ _ _ _ _=>true
      | _=>false)
    | none=>true)
  | _=>false
def JK (t:bd) (nx:Nat) (l:List (Option Operand×Operand)):Bool:=List.rec (motive:=fun _=>Bool) true (fun p _ ih=>Bool.rec false ih (Bf t nx p)) l
def wa (P:Program) (cfg:c9) (all:List Oper) (b:List Nat) (i:Nat) (y:Oper):List Oper→Nat→List (Option Operand×Operand)
  | [],_=>[]
  | x :: xs,j=>cond (Nat.ble i j || !zM P cfg all x y || cP b i j) (wa P cfg all b i y xs (Nat.succ j)) (match Qp all j x i y with
    | some p=>p :: wa P cfg all b i y xs (Nat.succ j)
    | none=>wa P cfg all b i y xs (Nat.succ j))
def OA (P:Program) (cfg:c9) (all:List Oper) (b:List Nat):List Oper→Nat→List (Option Operand×Operand)
  | [],_=>[]
  | o :: os,i=>wa P cfg all b i o all 0 ++ OA P cfg all b os (Nat.succ i)
def JL (P:Program) (cfg:c9) (all:List Oper):Bool:=all.all fun o=>!(Nat.ble 3 (cY (bG P cfg o.op))) || Hn o.op || (LG o.op).isSome
def zN (P:Program) (cfg:c9) (all:List Oper):List (Option Operand×Operand):=OA P cfg all (az [] all) all 0
def Ho (P:Program) (cfg:c9) (all:List Oper) (b:List Nat) (i:Nat) (y:Oper):List Oper→Nat→Bool
  | [],_=>true
  | x :: xs,j=>(Nat.ble i j || !zM P cfg all x y || cP b i j || (!m3 P cfg all x y && (Qp all j x i y).isSome)) && Ho P cfg all b i y xs (Nat.succ j)
def Bg (P:Program) (cfg:c9) (all:List Oper) (b:List Nat):List Oper→Nat→Bool
  | [],_=>true
  | o :: os,i=>Ho P cfg all b i o all 0 && Bg P cfg all b os (Nat.succ i)
def aah (P:Program) (cfg:c9) (all:List Oper):Bool:=mb P all && all.all (fun o=>Nat.ble (cY (bG P cfg o.op)) 3) && Bg P cfg all (az [] all) all 0 && ((zN P cfg all).isEmpty || JL P cfg all)
def dE (o:Oper):Option (TypeId×Tmp):=
  match o.op,o.guard,o.dst with
  | .alloc T,none,some d=>some (T,d)
  | _,_,_=>none
def px (d:Tmp):List Oper→Bool
  | []=>false
  | o :: os=>(match dE o with
    | some (_,e)=>Nat.beq d e
    | none=>false) || px d os
def ml (all:List Oper) (o:Oper):Option (TypeId×Tmp×Operand):=
  match o.op,o.guard,o.dst with
  | .store T (.tmp d) x,none,none=>cond (px d all) (some (T,d,x)) none
  | _,_,_=>none
def jH (all:List Oper) (o:Oper):Bool:=(dE o).isSome || (ml all o).isSome
def mm (all:List Oper) (d:Tmp):List Oper→Option (TypeId×Operand)
  | []=>none
  | o :: os=>match ml all o with
    | some (T,e,x)=>cond (Nat.beq d e) (some (T,x)) (mm all d os)
    | none=>mm all d os
def Bh (i:Nat) (d:Tmp):List Oper→Nat→Bool
  | [],_=>true
  | o :: os,j=>(Nat.beq j i || !(AK o.dst [d])) && Bh i d os (Nat.succ j)
def uT (all:List Oper) (i:Nat) (d:Tmp):List Oper→Nat→Bool
  | [],_=>true
  | o :: os,j=>(Nat.beq j i || (match ml all o with
    | some (_,e,_)=>!(Nat.beq d e)
    | none=>true)) && uT all i d os (Nat.succ j)
def Ft (all:List Oper):List Oper→Nat→Bool
  | [],_=>true
  | o :: os,i=>(match dE o with
    | some (_,d)=>Bh i d all 0
    | none=>true) && (match ml all o with
    | some (_,d,x)=>oV i x all 0 && uT all i d all 0 && px d (all.take i) && !(AK (some d) (k7 [x]))
    | none=>true) && Ft all os (Nat.succ i)
def xF (P:Program) (cfg:c9) (all:List Oper) (b:List Nat) (i:Nat) (y:Oper):List Oper→Nat→Bool
  | [],_=>true
  | x :: xs,j=>(Nat.ble i j || !m3 P cfg all x y || cP b i j) && xF P cfg all b i y xs (Nat.succ j)
def sq (P:Program) (cfg:c9) (all:List Oper) (b:List Nat):List Oper→Nat→Bool
  | [],_=>true
  | o :: os,i=>xF P cfg all b i o all 0 && sq P cfg all b os (Nat.succ i)
def Bi (o:Oper):Option (Operand×List Operand):=
  match o.op,o.guard with
  | .call c,none=>match c.callee with
    | .value (.tmp d)=>some (.tmp d,c.args.toList)
    | _=>none
  | _,_=>none
def vv (P:Program) (cfg:c9) (t:bd) (p:Operand×List Operand):lT:=
  match ir t p.1 with
  | .fn (.func g) [] []=>match cfg.pc g with
    | some F=>.wO g (fun vs=>cond (Nat.beq vs.length (aC P g).length) (F (normArgs P (aC P g) vs)) .no) p.2
    | none=>.bad
  | _=>.bad
def LH (P:Program) (cfg:c9) (all:List Oper):Bool:=mb P all && all.all (fun o=>jH all o || Nat.ble (cY (bG P cfg o.op)) 1 || (Bi o).isSome) && sq P cfg all (az [] all) all 0 && Ft all all 0
def ach (P:Program) (cfg:c9) (bb:jG R) (all:List Oper) (o:Oper) (k:bd→ak→Option R) (t:bd) (A:ak):Option R:=
  Bool.rec (motive:=fun _=>Option R) (Option.rec (motive:=fun _=>Option R) (rG P cfg bb all o k t A) (fun p=>LF bb t A (fun v A=>k (mj t o.dst v) A) (vv P cfg t p)) (Bi o)) (k (mj t o.dst .av) A) (jH all o)
def Tp (P:Program) (cfg:c9) (bb:jG R) (all:List Oper) (k:bd→ak→Option R) (os:List Oper):bd→ak→Option R:=
  List.rec (motive:=fun _=>bd→ak→Option R) k (fun o _ ih=>ach P cfg bb all o ih) os
def py (P:Program) (all:List Oper) (t:bd) (T:TypeId) (d:Tmp):Option (List KV):=
  match kr P T with
  | some z=>cond (flat z && z.cells.toList.all scalar && dV (eG z).cells && decide (some (eG z).cells.length=size? P T)) (match mm all d all with
    | some (T',x)=>cond (Nat.beq T T' && decide (some (ir t x).cells.length=size? P T) && dV (ir t x).cells) (some (ir t x).cells) none
    | none=>some (eG z).cells) none
  | none=>none
def Qq (P:Program) (all:List Oper) (t0:bd) (k:bd→ak→Option R) (os:List Oper):bd→ak→Option R:=
  List.rec (motive:=fun _=>bd→ak→Option R) k (fun o _ ih t A=>Option.rec (motive:=fun _=>Option R) (ih t A) (fun p=>
    Option.rec (motive:=fun _=>Option R) none (fun cs=>ih (t.set (.ptr A.next 0) p.2) (A.new (.row cs (hH P p.1)))) (py P all t0 p.1 p.2)) (dE o)) os
def aai (P:Program) (cfg:c9) (o:Oper):Bool:=
  match bG P cfg o.op with
  | .call _ _=>true
  | _=>false
def Bj (P:Program) (cfg:c9):List Oper→Nat→Option Nat
  | [],_=>none
  | o :: os,i=>cond (aai P cfg o) (some i) (Bj P cfg os (Nat.succ i))
def Bk (P:Program) (cfg:c9) (b:List Nat) (c:Nat):List Oper→Nat→Bool
  | [],_=>true
  | o :: os,i=>cond (Nat.beq i c) o.guard.isNone (Nat.ble (cY (bG P cfg o.op)) 1 && cond (Nat.blt i c) (cP b c i) (cP b i c)) && Bk P cfg b c os (Nat.succ i)
def CI (P:Program) (cfg:c9) (all:List Oper):Bool:=
  match Bj P cfg all 0 with
  | some c=>mb P all && sq P cfg all (az [] all) all 0 && Bk P cfg (az [] all) c all 0
  | none=>false
def Tq (P:Program) (cfg:c9) (bb:jG R) (ops:List Oper) (draw:Bool) (k:bd→ak→Option R):bd→ak→Option R:=
  Bool.rec (motive:=fun _=>bd→ak→Option R) (oU P cfg bb ops k ops) (Bool.rec (motive:=fun _=>bd→ak→Option R)
    (Bool.rec (motive:=fun _=>bd→ak→Option R)
      (Bool.rec (motive:=fun _=>bd→ak→Option R) (fun _ _=>none) (Tp P cfg bb ops (fun t A=>Qq P ops t k ops t A) ops) (LH P cfg ops))
      (oU P cfg bb ops k ops) (CI P cfg ops))
    (fun t A=>oU P cfg bb ops (fun t' A'=>Bool.rec (motive:=fun _=>Option R) none (k t' A') (JK t' A.next (zN P cfg ops))) ops t A) (aah P cfg ops)) draw
def Yk (k:KE R) (f:bd→ak→Option R):KE R:=fun e t A=>au.rec (motive:=fun _=>Option R) (f t A) (fun i=>k (.exit i) t A) (fun l=>k (.goto l) t A) (k .ret t A) e
def adu (id:Nat) (k:KE R):KE R:=fun e t A=>au.rec (motive:=fun _=>Option R) (k .normal t A) (fun i=>Bool.rec (motive:=fun _=>Option R) (k (.exit i) t A) (k .normal t A) (Nat.beq i id)) (fun l=>k (.goto l) t A) (k .ret t A) e
def Tr (k:KE R):KE R:=fun e t A=>au.rec (motive:=fun _=>Option R) (k .normal t A) (fun i=>k (.exit i) t A) (fun _=>none) (k .ret t A) e
def OB (g:KE R→bd→ak→Option R) (k:KE R) (L:Nat):bd→ak→Option R:=
  Nat.rec (motive:=fun _=>bd→ak→Option R) (fun _ _=>none) (fun _ ih=>g (Yk k ih)) L
def CF.run (k:KV→ak→Option R) (x:CF):Option R:=CF.rec (motive:=fun _=>Option R) none (fun v A=>k v A) (fun c _ _ rx ry=>Bool.rec (motive:=fun _=>Option R) ry rx c) x
def Fq.run (k:KE R) (x:Fq):Option R:=Fq.rec (motive:=fun _=>Option R) none (fun e t A=>k e t A) (fun c _ _ rx ry=>Bool.rec (motive:=fun _=>Option R) ry rx c) x
def aci (F:bd→ak→Fq) (k:KE R) (t:bd) (A:ak):Option R:=(F t A).run k
def mn (P:Program) (cfg:c9) (bb:jG R) (L:Nat) (f:FuncId) (c:Code):Nat→KE R→bd→ak→Option R:=
  Code.rec (motive:=fun _=>Nat→KE R→bd→ak→Option R) (fun _ k t A=>k .normal t A)
    (fun _ ops d _ k=>Tq P cfg bb ops.toList d (fun t A=>k .normal t A))
    (fun _ _ a b p k=>a (2 * p) (Yk k fun t A=>b (2 * p+1) k t A))
    (fun c _ _ a b p k t A=>Yj t c (fun t=>a (2 * p) k t A) (fun t=>b (2 * p+1) k t A))
    (fun id _ g p k=>g (2 * p) (adu id k))
    (fun _ g p k=>Option.rec (motive:=fun _=>bd→ak→Option R) (OB (g (2 * p)) k L) (fun F=>aci F k) (cfg.lp f p))
    (fun _ _ _ _ _ _ _ _ _ _=>none) (fun id _ k t A=>k (.exit id) t A) (fun _ g p k=>g (2 * p) (Tr k)) (fun _ _ k t A=>k .normal t A) (fun l _ k t A=>k (.goto l) t A) (fun _ k t A=>k .ret t A) (fun _ _ _ _ _=>none) c
def Fu:List KV→Nat→bd→bd
  | [],_,t=>t
  | v :: vs,i,t=>Fu vs (Nat.succ i) (t.set v i)
def Bl (P:Program) (A:ak) (t:bd):List ResultVar→Option (List KV)
  | []=>some []
  | .tmp x :: rs=>(Bl P A t rs).map (ir t (.tmp x) :: ·)
  | .cell a ty :: rs=>match Ov P ty A [ir t (.tmp a)] with
    | .ok v=>(Bl P A t rs).map (v :: ·)
    | _=>none
def xX:List KV→KV
  | [v]=>v
  | vs=>.fI vs
def aaj (P:Program) (fn:Func) (k:List KV→ak→Option R):KE R:=fun e t A=>
  au.rec (motive:=fun _=>Option R) (Option.rec (motive:=fun _=>Option R) none (fun vs=>k vs A) (Bl P A t fn.results.toList)) (fun _=>none) (fun _=>none) (Option.rec (motive:=fun _=>Option R) none (fun vs=>k vs A) (Bl P A t fn.results.toList)) e
def OC (P:Program) (cfg:c9) (bb:jG R) (L:Nat) (f:FuncId) (args:List KV) (A:ak) (k:List KV→ak→Option R):Option R:=
  match P.funcs.toList[f]? with
  | some fn=>match fn.body with
    | some c=>mn P cfg bb L f c 1 (aaj P fn k) (Fu args 0 .leaf) A
    | none=>none
  | none=>none
def Hp (P:Program) (cfg:c9) (L:Nat) (n:Nat):jG R:=
  Nat.rec (motive:=fun _=>jG R) (fun _ _ _ _=>none) (fun _ ih f args A k=>
    Bool.rec (motive:=fun _=>Option R) none (Option.rec (motive:=fun _=>Option R) (OC P cfg ih L f args A fun vs B=>k (xX vs) B) (fun F=>CF.run k (F args A)) (cfg.x.ac f)) (Nat.blt f yB)) n
end
def pz (P:Program):List TypeId→List KV→List KV
  | t :: ts,v :: vs=>DD P t v :: pz P ts vs
  | _,_=>[]
def mo (P:Program) (g:FuncId):List TypeId:=match P.funcs.toList[g]? with
  | some fn=>fn.resultTypes.toList
  | none=>[]
def cm (P:Program) (cfg:c9) (L n:Nat) (f:FuncId) (args:List KV):Option KV:=
  OC P cfg (Hp P cfg L n) L f args .empty fun vs A=>Bool.rec (motive:=fun _=>Option KV) none (some (xX (pz P (mo P f) (uv A vs).1))) (Nat.beq vs.length (mo P f).length)
end
end Go.K
end
section
namespace Go.K
open Go Go.aV
structure aak where
  cs:List Value
  a8:Nat
  own:Bool
  a9:Option (Nat×Nat)
structure Env where
  κ:Nat→Option Nat
  z:Nat→Option aak
  φ:Nat→Option Nat
  α:Nat→Option (Nat×Nat×Nat)
structure Env.le (E E' : Env):Prop where
  α:∀ b p,E.α b=some p→E'.α b=some p
  κ:∀ b x,E.κ b=some x→E'.κ b=some x
  z:∀ b r,E.z b=some r→E'.z b=some r
  φ:∀ b g,E.φ b=some g→E'.φ b=some g
theorem Env.le_refl (E:Env):E.le E:=⟨fun _ _ h=>h,fun _ _ h=>h,fun _ _ h=>h,fun _ _ h=>h⟩
theorem Env.le_trans {E F G:Env} (h:E.le F) (k:F.le G):E.le G:=⟨fun b p e=>k.α b p (h.α b p e),fun b x e=>k.κ b x (h.κ b x e),fun b x e=>k.z b x (h.z b x e),fun b x e=>k.φ b x (h.φ b x e)⟩
def jQ (sz off:Nat) (cs es:List Value):Prop:=∀ (i:Nat) (x:Value),es[i]? = some x→x.cells.size=sz∧∀ (k:Nat) (y:Value),x.cells[k]? = some y→cs[off+i * sz+k]? = some y
def Sb (E:Env) (sz:Nat) (a:Option Addr) (n:Nat) (es:List Value):Prop:=
  (a=none∧n=0)∨∃ b off r,a=some ⟨b,off,none⟩∧E.z b=some r∧r.a8=sz∧jQ sz off r.cs es
def Hq (E:Env) (sz:Nat) (a:Option Addr) (n cap:Nat):Mk→Prop
  | .any=>True
  | .exact=>cap=n∧∀ b off,a=some ⟨b,off,none⟩→∃ r,E.z b=some r∧r.own=true∧r.a9=none∧off+cap * sz=r.cs.length
  | .aJ f=>cap=n∧((n=0∧a=none)∨∃ b r g,a=some ⟨b,0,none⟩∧E.z b=some r∧r.own=true∧E.φ f=some g∧r.a9=some (g,0)∧r.cs.length=n * sz)
structure eL (P:Program) (T:TypeId) (n:Nat) (es:List KV) (acc:Nat→KV):Prop where
  len:n=es.length
  acc:∀ i,i < n→acc i=es.getD i .av
  typed:cX (a6 P T) es=true
def aL (P:Program) (T:TypeId):Nat:=(a6 P T).ks.length
def aal (P:Program) (E:Env) (T:TypeId) (m:Mk) (n:Nat) (aU:List Value) (v:Value):Prop:=
  ∃ a cap,v = .slice a n cap∧n≤cap∧Sb E (aL P T) a n aU∧Hq E (aL P T) a n cap m
structure Sc (P:Program) (T Tc:TypeId) (k:Nat):Prop where
  is:∀ m c,(a6 P Tc).ks[m]? = some c→(a6 P T).ks[k+m]? = some c
def aam (P:Program) (E:Env) (T Tc:TypeId) (i k:Nat) (es:List KV) (aU:List Value) (v:Value):Prop:=
  i < es.length∧Sc P T Tc k∧∃ b off r,v = .pointer (some ⟨b,off+i * aL P T+k,none⟩)∧E.z b=some r∧jQ (aL P T) off r.cs aU
def Qr (P:Program) (E:Env) (T:TypeId) (b o n:Nat) (v:Value):Prop:=
  (n=0∧o=0∧v = .slice none 0 0)∨∃ x L N c,E.α b=some (x,L,N)∧v = .slice (some ⟨x,o * aL P T,none⟩) n c∧n≤c∧o+n≤N∧(o+c) * aL P T=L
def W4 (P:Program) (E:Env) (T Tc:TypeId) (b i k:Nat) (v:Value):Prop:=
  ∃ x L N,E.α b=some (x,L,N)∧Sc P T Tc k∧i < N∧v = .pointer (some ⟨x,i * aL P T+k,none⟩)
mutual
def VK (P:Program) (E:Env):KV→Value→Prop
  | .int k n,v=>v = .int k n
  | .bool b,v=>v = .bool b
  | .str s,v=>v = .string s
  | .agg cs,v=>∃ l,v = .agg ⟨l⟩∧aO P E cs l
  | .fI cs,v=>∃ l,v = .tuple ⟨l⟩∧aO P E cs l
  | .ts T m n es acc,v=>eL P T n es acc∧∃ aU,aO P E es aU∧aal P E T m n aU v
  | .tp T Tc i k es acc,v=>eL P T es.length es acc∧∃ aU,aO P E es aU∧aam P E T Tc i k es aU v
  | .al T b o n,v=>Qr P E T b o n v
  | .ap T Tc b i k,v=>W4 P E T Tc b i k v
  | .ptr b off,v=>∃ x,E.κ b=some x∧v = .pointer (some ⟨x,off,none⟩)
  | .sl b off n c,v=>∃ x,E.κ b=some x∧v = .slice (some ⟨x,off,none⟩) n c
  | .w7,v=>v = .pointer none
  | .gw,v=>v = .slice none 0 0
  | .s9,v=>v = .map none
  | .map b,v=>∃ x,E.κ b=some x∧v = .map (some x)
  | .fn f first cap,v=>∃ l m,v = .func f ⟨l⟩ ⟨m⟩∧aO P E first l∧aO P E cap m
  | .xV,v=>v = .nilFunc
  | .iface t x,v=>∃ y,v = .iface t y∧VK P E x y
  | .xW,v=>v = .nilIface
  | .av,_=>True
def aO (P:Program) (E:Env):List KV→List Value→Prop
  | [],l=>l = []
  | x :: xs,l=>∃ y ys,l=y :: ys∧VK P E x y∧aO P E xs ys
end
variable {P:Program} {E E' : Env}
theorem Hq.mono (h:E.le E') {sz:Nat} {a:Option Addr} {n cap:Nat} {m:Mk} (k:Hq E sz a n cap m):Hq E' sz a n cap m:=by
  cases m with
  | any=>trivial
  | exact=>exact ⟨k.1,fun b off e=>by obtain ⟨r,h1,h2⟩:=k.2 b off e; exact ⟨r,h.z _ _ h1,h2⟩⟩
  | aJ f=>
    refine ⟨k.1,k.2.imp id ?_⟩
    rintro ⟨b,r,g,h1,h2,h3,h4,h5⟩
    exact ⟨b,r,g,h1,h.z _ _ h2,h3,h.φ _ _ h4,h5⟩
theorem Sb.mono (h:E.le E') {sz:Nat} {a:Option Addr} {n:Nat} {es:List Value} (k:Sb E sz a n es):Sb E' sz a n es:=by
  refine k.imp id ?_
  rintro ⟨b,off,r,h1,h2,h3⟩
  exact ⟨b,off,r,h1,h.z _ _ h2,h3⟩
theorem aal.mono (h:E.le E') {T:TypeId} {m:Mk} {n:Nat} {es:List Value} {v:Value} (k:aal P E T m n es v):aal P E' T m n es v:=by
  obtain ⟨a,cap,h1,h2,h3,h4⟩:=k
  exact ⟨a,cap,h1,h2,h3.mono h,h4.mono h⟩
theorem aam.mono (h:E.le E') {T Tc:TypeId} {i k:Nat} {es:List KV} {aU:List Value} {v:Value} (q:aam P E T Tc i k es aU v):aam P E' T Tc i k es aU v:=by
  obtain ⟨h1,h2,b,off,r,h3,h4,h5⟩:=q
  exact ⟨h1,h2,b,off,r,h3,h.z _ _ h4,h5⟩
theorem Qr.mono (h:E.le E') {T:TypeId} {b o n:Nat} {v:Value} (q:Qr P E T b o n v):Qr P E' T b o n v:=by
  refine q.imp id ?_
  rintro ⟨x,L,N,c,h1,h2⟩
  exact ⟨x,L,N,c,h.α _ _ h1,h2⟩
theorem W4.mono (h:E.le E') {T Tc:TypeId} {b i k:Nat} {v:Value} (q:W4 P E T Tc b i k v):W4 P E' T Tc b i k v:=by
  obtain ⟨x,L,N,h1,h2⟩:=q
  exact ⟨x,L,N,h.α _ _ h1,h2⟩
mutual
theorem VK.mono (h:E.le E'):∀ {v:KV} {v' : Value},VK P E v v'→VK P E' v v'
  | .int k n,v,q=>q
  | .bool b,v,q=>q
  | .str s,v,q=>q
  | .agg cs,v,q=>by
    simp only [VK] at q ⊢
    obtain ⟨l,e,q⟩:=q
    exact ⟨l,e,aO.mono h q⟩
  | .fI cs,v,q=>by
    simp only [VK] at q ⊢
    obtain ⟨l,e,q⟩:=q
    exact ⟨l,e,aO.mono h q⟩
  | .ts T m n es acc,v,q=>by
    simp only [VK] at q ⊢
    obtain ⟨t,l,q,k⟩:=q
    exact ⟨t,l,aO.mono h q,k.mono h⟩
  | .tp T Tc i k es acc,v,q=>by
    simp only [VK] at q ⊢
    obtain ⟨t,l,q,k⟩:=q
    exact ⟨t,l,aO.mono h q,k.mono h⟩
  | .al T b o n,v,q=>by
    simp only [VK] at q ⊢
    exact q.mono h
  | .ap T Tc b i k,v,q=>by
    simp only [VK] at q ⊢
    exact q.mono h
  | .ptr b off,v,q=>by
    simp only [VK] at q ⊢
    obtain ⟨x,e,q⟩:=q
    exact ⟨x,h.κ _ _ e,q⟩
  | .sl b off n c,v,q=>by
    simp only [VK] at q ⊢
    obtain ⟨x,e,q⟩:=q
    exact ⟨x,h.κ _ _ e,q⟩
  | .w7,v,q=>q
  | .gw,v,q=>q
  | .s9,v,q=>q
  | .map b,v,q=>by
    simp only [VK] at q ⊢
    obtain ⟨x,e,q⟩:=q
    exact ⟨x,h.κ _ _ e,q⟩
  | .fn f first cap,v,q=>by
    simp only [VK] at q ⊢
    obtain ⟨l,m,e,q1,q2⟩:=q
    exact ⟨l,m,e,aO.mono h q1,aO.mono h q2⟩
  | .xV,v,q=>q
  | .iface t x,v,q=>by
    simp only [VK] at q ⊢
    obtain ⟨y,e,q⟩:=q
    exact ⟨y,e,VK.mono h q⟩
  | .xW,v,q=>q
  | .av,v,q=>q
theorem aO.mono (h:E.le E'):∀ {v:List KV} {v' : List Value},aO P E v v'→aO P E' v v'
  | [],_,q=>q
  | x :: xs,_,q=>by
    simp only [aO] at q ⊢
    obtain ⟨y,ys,e,q1,q2⟩:=q
    exact ⟨y,ys,e,VK.mono h q1,aO.mono h q2⟩
end
theorem aO.nil:aO P E [] []:=by simp [aO]
theorem aO.cons {x:KV} {y:Value} {xs:List KV} {ys:List Value} (h:VK P E x y) (k:aO P E xs ys):aO P E (x :: xs) (y :: ys):=by
  simp only [aO]; exact ⟨y,ys,rfl,h,k⟩
theorem aO.bh {l:List Value} (h:aO P E [] l):l = []:=by simpa [aO] using h
theorem aO.cons_inv {x:KV} {xs:List KV} {l:List Value} (h:aO P E (x :: xs) l):∃ y ys,l=y :: ys∧VK P E x y∧aO P E xs ys:=by simpa [aO] using h
theorem aO.cG {x:KV} {l:List Value} (h:aO P E [x] l):∃ y,l = [y]∧VK P E x y:=by
  obtain ⟨y,ys,rfl,h1,h2⟩:=h.cons_inv
  rw [h2.bh]; exact ⟨y,rfl,h1⟩
theorem aO.gW {x y:KV} {l:List Value} (h:aO P E [x,y] l):∃ x' y',l = [x',y']∧VK P E x x'∧VK P E y y':=by
  obtain ⟨a,ys,rfl,h1,h2⟩:=h.cons_inv
  obtain ⟨b,rfl,h3⟩:=h2.cG
  exact ⟨a,b,rfl,h1,h3⟩
theorem aO.JM {x y u:KV} {l:List Value} (h:aO P E [x,y,u] l):∃ x' y' u',l = [x',y',u']∧VK P E x x'∧VK P E y y'∧VK P E u u':=by
  obtain ⟨a,ys,rfl,h1,h2⟩:=h.cons_inv
  obtain ⟨b,c,rfl,h3,h4⟩:=h2.gW
  exact ⟨a,b,c,rfl,h1,h3,h4⟩
theorem aO.length:∀ {l:List KV} {l' : List Value},aO P E l l'→l'.length=l.length
  | [],l',h=>by rw [h.bh]; rfl
  | x :: xs,l',h=>by
    obtain ⟨y,ys,rfl,_,k⟩:=h.cons_inv
    simp [aO.length k]
theorem aO.get:∀ {l:List KV} {l' : List Value} {i:Nat} {v:KV},aO P E l l'→l[i]? = some v→∃ v',l'[i]? = some v'∧VK P E v v'
  | [],_,_,_,_,e=>by simp at e
  | x :: xs,l',i,v,h,e=>by
    obtain ⟨y,ys,rfl,sW,k⟩:=h.cons_inv
    cases i with
    | zero=>simp at e; subst e; exact ⟨y,rfl,sW⟩
    | succ i=>simp at e; simpa using aO.get k e
theorem aO.append:∀ {a:List KV} {a' : List Value} {b:List KV} {b' : List Value},aO P E a a'→aO P E b b'→aO P E (a ++ b) (a' ++ b')
  | [],a',b,b',h,k=>by rw [h.bh]; exact k
  | x :: xs,a',b,b',h,k=>by
    obtain ⟨y,ys,rfl,sW,m⟩:=h.cons_inv
    exact .cons sW (aO.append m k)
theorem aO.take:∀ (n:Nat) {l:List KV} {l' : List Value},aO P E l l'→aO P E (l.take n) (l'.take n)
  | 0,_,_,_=>by simp [aO.nil]
  | n+1,[],l',h=>by rw [h.bh]; simp [aO.nil]
  | n+1,x :: xs,l',h=>by
    obtain ⟨y,ys,rfl,sW,k⟩:=h.cons_inv
    simpa using aO.cons sW (aO.take n k)
theorem aO.drop:∀ (n:Nat) {l:List KV} {l' : List Value},aO P E l l'→aO P E (l.drop n) (l'.drop n)
  | 0,_,_,h=>by simpa using h
  | n+1,[],l',h=>by rw [h.bh]; simp [aO.nil]
  | n+1,x :: xs,l',h=>by
    obtain ⟨y,ys,rfl,_,k⟩:=h.cons_inv
    simpa using aO.drop n k
theorem Hr {α:Type} : ∀ {n:Nat} {l r:List α},oS n l=some r→r=l.take n∧n≤l.length
  | 0,l,r,h=>by simp [oS] at h; subst h; simp
  | n+1,[],r,h=>by simp [oS] at h
  | n+1,x :: xs,r,h=>by
    simp only [oS,Option.map_eq_some_iff] at h
    obtain ⟨q,hq,rfl⟩:=h
    obtain ⟨rfl,hn⟩:=Hr hq
    exact ⟨by simp,by simpa using hn⟩
theorem Bm {α:Type} : ∀ (n:Nat) (l:List α),uQ n l=l.drop n
  | 0,l=>rfl
  | n+1,[]=>rfl
  | n+1,x :: xs=>by simp [uQ,Bm n xs]
theorem Bn:∀ {n:Nat} {l:List Value},n≤l.length→takeN n l=some (l.take n)
  | 0,l,_=>rfl
  | n+1,[],h=>by simp at h
  | n+1,x :: xs,h=>by rw [PY,Bn (n:=n) (l:=xs) (by simpa using h)]; rfl
theorem aO.oS {n k:Nat} {l r:List KV} {l' : List Value} (h:aO P E l l') (e:oS n (uQ k l)=some r):∃ r',takeN n (wC k l')=some r'∧aO P E r r'∧r' = (l'.drop k).take n:=by
  obtain ⟨rfl,hn⟩:=Hr e
  rw [Bm] at hn ⊢
  have hl:=h.length
  rw [mf]
  refine ⟨_,Bn ?_,(h.drop k).take n,rfl⟩
  simp only [List.length_drop] at hn ⊢
  omega
theorem aO.gG:∀ {n:Nat} {l:List KV} {l' : List Value} {vs r:List KV} {bN:List Value},gG n l vs=some r→aO P E l l'→aO P E vs bN→∃ r',dr n l' bN=some r'∧aO P E r r'
  | 0,l,l',[],r,bN,h,hl,hv=>by simp [K.gG] at h; subst h; rw [hv.bh]; exact ⟨l',rv l',hl⟩
  | 0,[],l',_ :: _,r,bN,h,hl,hv=>by simp [K.gG] at h
  | 0,x :: l,l',v :: vs,r,bN,h,hl,hv=>by
    obtain ⟨y,ys,rfl,_,k⟩:=hl.cons_inv
    obtain ⟨u,us,rfl,h1,h2⟩:=hv.cons_inv
    simp only [K.gG,Option.map_eq_some_iff] at h
    obtain ⟨q,hq,rfl⟩:=h
    obtain ⟨r',e,hr⟩:=aO.gG hq k h2
    exact ⟨u :: r',by simp [oI,e],.cons h1 hr⟩
  | n+1,[],l',[],r,bN,h,hl,hv=>by simp [K.gG] at h; subst h; rw [hl.bh,hv.bh]; exact ⟨[],rfl,.nil⟩
  | n+1,[],l',_ :: _,r,bN,h,hl,hv=>by simp [K.gG] at h
  | n+1,x :: l,l',vs,r,bN,h,hl,hv=>by
    obtain ⟨y,ys,rfl,h1,k⟩:=hl.cons_inv
    simp only [K.gG,Option.map_eq_some_iff] at h
    obtain ⟨q,hq,rfl⟩:=h
    obtain ⟨r',e,hr⟩:=aO.gG hq k hv
    exact ⟨y :: r',by simp [kq,e],.cons h1 hr⟩
theorem aO.KZ:∀ {l:List KV} {l' : List Value},l'.length=l.length→(∀ (i:Nat) (v:KV) (v' : Value),l[i]? = some v→l'[i]? = some v'→VK P E v v')→aO P E l l'
  | [],l',h,_=>by cases l' <;> simp_all [aO.nil]
  | x :: xs,l',h,k=>by
    cases l' with
    | nil=>simp at h
    | cons y ys=>exact .cons (k 0 x y rfl rfl) (aO.KZ (by simpa using h) fun i v v' e e'=>k (i+1) v v' (by simpa using e) (by simpa using e'))
theorem VK.bW {k:IntKind} {n:Int} {v:Value} (h:VK P E (.int k n) v):v = .int k n:=by simpa [VK] using h
theorem VK.cF {b:Bool} {v:Value} (h:VK P E (.bool b) v):v = .bool b:=by simpa [VK] using h
theorem VK.mq {s:ByteArray} {v:Value} (h:VK P E (.str s) v):v = .string s:=by simpa [VK] using h
theorem VK.iQ {cs:List KV} {v:Value} (h:VK P E (.agg cs) v):∃ l,v = .agg ⟨l⟩∧aO P E cs l:=by simpa [VK] using h
theorem VK.Fv {cs:List KV} {v:Value} (h:VK P E (.fI cs) v):∃ l,v = .tuple ⟨l⟩∧aO P E cs l:=by simpa [VK] using h
theorem VK.eF {b off:Nat} {v:Value} (h:VK P E (.ptr b off) v):∃ x,E.κ b=some x∧v = .pointer (some ⟨x,off,none⟩):=by simpa [VK] using h
theorem VK.Hs {b off n c:Nat} {v:Value} (h:VK P E (.sl b off n c) v):∃ x,E.κ b=some x∧v = .slice (some ⟨x,off,none⟩) n c:=by simpa [VK] using h
theorem VK.yW {f:Fn} {a b:List KV} {v:Value} (h:VK P E (.fn f a b) v):∃ l m,v = .func f ⟨l⟩ ⟨m⟩∧aO P E a l∧aO P E b m:=by simpa [VK] using h
theorem VK.iu {T:TypeId} {m:Mk} {n:Nat} {es:List KV} {acc:Nat→KV} {v:Value} (h:VK P E (.ts T m n es acc) v):eL P T n es acc∧∃ aU,aO P E es aU∧aal P E T m n aU v:=by simpa [VK] using h
theorem VK.CJ {T Tc:TypeId} {i k:Nat} {es:List KV} {acc:Nat→KV} {v:Value} (h:VK P E (.tp T Tc i k es acc) v):eL P T es.length es acc∧∃ aU,aO P E es aU∧aam P E T Tc i k es aU v:=by simpa [VK] using h
theorem VK.qT {T:TypeId} {b o n:Nat} {v:Value} (h:VK P E (.al T b o n) v):Qr P E T b o n v:=by simpa [VK] using h
theorem VK.yX {T Tc:TypeId} {b i k:Nat} {v:Value} (h:VK P E (.ap T Tc b i k) v):W4 P E T Tc b i k v:=by simpa [VK] using h
theorem VK.LI {T:TypeId} {b o n:Nat} {v:Value} (h:Qr P E T b o n v):VK P E (.al T b o n) v:=by simpa [VK] using h
theorem VK.afU {T Tc:TypeId} {b i k:Nat} {v:Value} (h:W4 P E T Tc b i k v):VK P E (.ap T Tc b i k) v:=by simpa [VK] using h
theorem Qr.slice {T:TypeId} {b o n:Nat} {v:Value} (h:Qr P E T b o n v):∃ a c,v = .slice a n c:=by
  rcases h with ⟨rfl,_,rfl⟩ | ⟨x,L,N,c,_,rfl,_⟩
  · exact ⟨_,_,rfl⟩
  · exact ⟨_,_,rfl⟩
theorem VK.jI {v:Value} (h:VK P E .gw v):v = .slice none 0 0:=by simpa [VK] using h
theorem VK.Ht {v:Value} (h:VK P E .w7 v):v = .pointer none:=by simpa [VK] using h
theorem VK.mkInt {k:IntKind} {n:Int} : VK P E (.int k n) (.int k n):=by simp [VK]
theorem VK.l8 {b:Bool} : VK P E (.bool b) (.bool b):=by simp [VK]
theorem VK.mkStr {s:ByteArray} : VK P E (.str s) (.string s):=by simp [VK]
theorem VK.kP {cs:List KV} {l:List Value} (h:aO P E cs l):VK P E (.agg cs) (.agg ⟨l⟩):=by simp only [VK]; exact ⟨l,rfl,h⟩
theorem VK.Yl {cs:List KV} {l:List Value} (h:aO P E cs l):VK P E (.fI cs) (.tuple ⟨l⟩):=by simp only [VK]; exact ⟨l,rfl,h⟩
theorem VK.rz {b x off:Nat} (h:E.κ b=some x):VK P E (.ptr b off) (.pointer (some ⟨x,off,none⟩)):=by simp only [VK]; exact ⟨x,h,rfl⟩
theorem VK.adv {b x off n c:Nat} (h:E.κ b=some x):VK P E (.sl b off n c) (.slice (some ⟨x,off,none⟩) n c):=by simp only [VK]; exact ⟨x,h,rfl⟩
theorem VK.aan {f:Fn} {a b:List KV} {l m:List Value} (h:aO P E a l) (k:aO P E b m):VK P E (.fn f a b) (.func f ⟨l⟩ ⟨m⟩):=by simp only [VK]; exact ⟨l,m,rfl,h,k⟩
theorem VK.undef:VK P E mV undef:=VK.Yl .nil
theorem VK.lK {v:Value} : VK P E .av v:=by simp [VK]
theorem VK.cells {v:KV} {v' : Value} (h:VK P E v v') (hu:pw v=true):aO P E v.cells v'.cells.toList:=by
  cases v with
  | agg cs=>obtain ⟨l,rfl,q⟩:=h.iQ; exact q
  | int k n=>have:=h.bW; subst this; exact .cons h .nil
  | bool b=>have:=h.cF; subst this; exact .cons h .nil
  | str b=>have:=h.mq; subst this; exact .cons h .nil
  | fI cs=>have q:=h; obtain ⟨l,rfl,_⟩:=h.Fv; exact .cons q .nil
  | ts T m n es acc=>have q:=h; obtain ⟨_,_,_,a,cap,rfl,_⟩:=h.iu; exact .cons q .nil
  | tp T Tc i k es acc=>have q:=h; obtain ⟨_,_,_,_,_,b,off,r,rfl,_⟩:=h.CJ; exact .cons q .nil
  | al T b o n=>have q:=h; obtain ⟨a,c,rfl⟩:=h.qT.slice; exact .cons q .nil
  | ap T Tc b i k=>have q:=h; obtain ⟨x,L,N,_,_,_,rfl⟩:=h.yX; exact .cons q .nil
  | ptr b off=>have q:=h; obtain ⟨x,_,rfl⟩:=h.eF; exact .cons q .nil
  | sl b off n c=>have q:=h; obtain ⟨x,_,rfl⟩:=h.Hs; exact .cons q .nil
  | w7=>have q:=h; simp only [VK] at h; subst h; exact .cons q .nil
  | gw=>have q:=h; simp only [VK] at h; subst h; exact .cons q .nil
  | s9=>have q:=h; simp only [VK] at h; subst h; exact .cons q .nil
  | map b=>have q:=h; simp only [VK] at h; obtain ⟨x,_,rfl⟩:=h; exact .cons q .nil
  | fn f a b=>have q:=h; obtain ⟨l,m,rfl,_⟩:=h.yW; exact .cons q .nil
  | xV=>have q:=h; simp only [VK] at h; subst h; exact .cons q .nil
  | iface t x=>have q:=h; simp only [VK] at h; obtain ⟨y,rfl,_⟩:=h; exact .cons q .nil
  | xW=>have q:=h; simp only [VK] at h; subst h; exact .cons q .nil
  | av=>simp [pw] at hu
theorem VK.scalar {v:KV} {v' : Value} (h:VK P E v v') (ho:one v=true):aV.scalar v' = true:=by
  cases v with
  | agg cs=>simp [one] at ho
  | fI cs=>simp [one] at ho
  | av=>simp [one] at ho
  | int k n=>have:=h.bW; subst this; rfl
  | bool b=>have:=h.cF; subst this; rfl
  | str b=>have:=h.mq; subst this; rfl
  | ts T m n es acc=>obtain ⟨_,_,_,a,cap,rfl,_⟩:=h.iu; rfl
  | tp T Tc i k es acc=>obtain ⟨_,_,_,_,_,b,off,r,rfl,_⟩:=h.CJ; rfl
  | al T b o n=>obtain ⟨a,c,rfl⟩:=h.qT.slice; rfl
  | ap T Tc b i k=>obtain ⟨x,L,N,_,_,_,rfl⟩:=h.yX; rfl
  | ptr b off=>obtain ⟨x,_,rfl⟩:=h.eF; rfl
  | sl b off n c=>obtain ⟨x,_,rfl⟩:=h.Hs; rfl
  | w7=>simp only [VK] at h; subst h; rfl
  | gw=>simp only [VK] at h; subst h; rfl
  | s9=>simp only [VK] at h; subst h; rfl
  | map b=>simp only [VK] at h; obtain ⟨x,_,rfl⟩:=h; rfl
  | fn f a b=>obtain ⟨l,m,rfl,_⟩:=h.yW; rfl
  | xV=>simp only [VK] at h; subst h; rfl
  | iface t x=>simp only [VK] at h; obtain ⟨y,rfl,_⟩:=h; rfl
  | xW=>simp only [VK] at h; subst h; rfl
theorem aO.scalar:∀ {l:List KV} {l' : List Value},aO P E l l'→dV l=true→∀ v ∈ l',aV.scalar v=true
  | [],l',h,_,v,hv=>by rw [h.bh] at hv; simp at hv
  | x :: xs,l',h,ho,v,hv=>by
    obtain ⟨y,ys,rfl,h1,h2⟩:=h.cons_inv
    simp only [dV,Bool.and_eq_true] at ho
    rcases List.mem_cons.1 hv with rfl | hv
    · exact h1.scalar ho.1
    · exact aO.scalar h2 ho.2 v hv
theorem qB {v:KV} (h:dV v.cells=true):pw v=true:=by
  cases v <;> first | rfl | simp [KV.cells,dV,one] at h
mutual
theorem VK.eG:∀ (v:Value),VK P E (eG v) v
  | .bool b=>by simp [K.eG,VK]
  | .int k n=>by simp [K.eG,VK]
  | .string s=>by simp [K.eG,VK]
  | .pointer none=>by simp [K.eG,VK]
  | .pointer (some a)=>by simp [K.eG,VK]
  | .slice none 0 0=>by simp [K.eG,VK]
  | .slice none 0 (n+1)=>by simp [K.eG,VK]
  | .slice none (n+1) c=>by simp [K.eG,VK]
  | .slice (some a) n c=>by simp [K.eG,VK]
  | .map none=>by simp [K.eG,VK]
  | .map (some r)=>by simp [K.eG,VK]
  | .nilFunc=>by simp [K.eG,VK]
  | .nilIface=>by simp [K.eG,VK]
  | .agg cs=>by
    obtain ⟨l⟩:=cs
    simp only [K.eG,ofA]
    exact .kP (aO.ofL l)
  | .tuple cs=>by
    obtain ⟨l⟩:=cs
    simp only [K.eG,ofA]
    exact .Yl (aO.ofL l)
  | .float _ _=>by simp [K.eG,VK]
  | .complex _ _ _=>by simp [K.eG,VK]
  | .chan _=>by simp [K.eG,VK]
  | .func _ _ _=>by simp [K.eG,VK]
  | .iface _ _=>by simp [K.eG,VK]
theorem aO.ofL:∀ (l:List Value),aO P E (ofL l) l
  | []=>.nil
  | v :: vs=>.cons (VK.eG v) (aO.ofL vs)
end
theorem uU {z:Value} (h:dV (eG z).cells=true):aO P E (eG z).cells z.cells.toList:=(VK.eG z).cells (qB h)
def xl (E:Env) (A:ak):Prop:=∀ b c g tb sb tc sc,A.get b=some (.aJ tb sb)→A.get c=some (.aJ tc sc)→E.φ b=some g→E.φ c=some g→b=c
def AR (A:ak) (E:Env) (x:Nat):Prop:=∃ b v L N,A.get b=some (.arr v)∧E.α b=some (x,L,N)
def AF (A:ak) (E:Env) (B:St) (g:Nat):Prop:=∃ b v x L N cs e own k,A.get b=some (.arr v)∧E.α b=some (x,L,N)∧B.get x=some (.row cs e own (some (g,k)))
def AT (A:ak) (E:Env) (B:St) (y:Nat):Prop:=AR A E y∨∃ g,AF A E B g∧y ∈ B.members g
def Ts (P:Program) (E:Env) (B:St) (b:Nat) (v:KV):Prop:=∃ T N es acc,v = .ts T .any N es acc∧eL P T N es acc∧1≤aL P T∧
  ((N=0∧E.α b=none)∨∃ x cs a9 aU,E.α b=some (x,cs.length,N)∧B.get x=some (.row cs (aL P T) true a9)∧aO P E es aU∧jQ (aL P T) 0 cs aU)
def LJ (P:Program) (E:Env) (b:Nat) (v:KV):Prop:=∃ T N es acc,v = .ts T .any N es acc∧eL P T N es acc∧1≤aL P T∧
  ((N=0∧E.α b=none)∨∃ x r aU,E.α b=some (x,r.cs.length,N)∧E.z x=some r∧r.a8=aL P T∧aO P E es aU∧jQ (aL P T) 0 r.cs aU)
theorem Ts.mono (h:E.le E') {B B' : St} {b:Nat} {v:KV} (m4:E'.α b=E.α b) (hB:∀ x L N,E.α b=some (x,L,N)→B'.get x=B.get x) (q:Ts P E B b v):Ts P E' B' b v:=by
  obtain ⟨T,N,es,acc,h1,h2,h3,h4⟩:=q
  refine ⟨T,N,es,acc,h1,h2,h3,?_⟩
  rcases h4 with ⟨h4,h5⟩ | ⟨x,cs,a9,aU,h4,h5,h6,h7⟩
  · exact .inl ⟨h4,by rw [m4]; exact h5⟩
  · exact .inr ⟨x,cs,a9,aU,by rw [m4]; exact h4,by rw [hB _ _ _ h4]; exact h5,h6.mono h,h7⟩
theorem LJ.mono (h:E.le E') {b:Nat} {v:KV} (m4:E'.α b=E.α b) (q:LJ P E b v):LJ P E' b v:=by
  obtain ⟨T,N,es,acc,h1,h2,h3,h4⟩:=q
  refine ⟨T,N,es,acc,h1,h2,h3,?_⟩
  rcases h4 with ⟨h4,h5⟩ | ⟨x,r,aU,h4,h5,h6,h7,h8⟩
  · exact .inl ⟨h4,by rw [m4]; exact h5⟩
  · exact .inr ⟨x,r,aU,by rw [m4]; exact h4,h.z _ _ h5,h6,h7.mono h,h8⟩
structure CL (P:Program) (E:Env) (A:ak) (B:St):Prop where
  arr:∀ b v,A.get b=some (.arr v)→Ts P E B b v
  fB:∀ b v,A.get b=some (.fB v)→LJ P E b v
  z:∀ x,AR A E x→E.z x=none∧∀ c,E.κ c≠some x
  inj:∀ b c v u x L N L' N',A.get b=some (.arr v)→A.get c=some (.arr u)→E.α b=some (x,L,N)→E.α c=some (x,L',N')→b=c
  oH:∀ b c v u x y L N L' N' cs e own g k bk e' k8 k',A.get b=some (.arr v)→A.get c=some (.arr u)→E.α b=some (x,L,N)→E.α c=some (y,L',N')→B.get x=some (.row cs e own (some (g,k)))→B.get y=some (.row bk e' k8 (some (g,k')))→b=c
  V2:∀ b x,E.κ b=some x→E.α b=none
  eS:∀ b p,E.α b=some p→b < A.next
  dT:∀ b x L N,E.α b=some (x,L,N)→x < B.next
  nC:∀ b v x L N cs e own g k,A.get b=some (.arr v)→E.α b=some (x,L,N)→B.get x=some (.row cs e own (some (g,k)))→g < B.next∧(∀ f,E.φ f≠some g)∧∀ y ∈ B.members g,y≠x→E.z y=none∧¬ AR A E y∧∀ c,E.κ c≠some y
structure eh (P:Program) (E:Env) (A:ak) (B:St):Prop where
  row:∀ b cs a8,A.get b=some (.row cs a8)→∃ x bk,E.κ b=some x∧B.get x=some (.row bk a8 true none)∧aO P E cs bk
  aJ:∀ b top sz,A.get b=some (.aJ top sz)→(top=0∧E.φ b=none)∨∃ g,E.φ b=some g∧0 < top∧∀ x ∈ B.members g,∀ cs e own f k,B.get x=some (.row cs e own (some (f,k)))→k=0∧cs.length≤top * sz
  z:∀ b r,E.z b=some r→B.get b=some (.row r.cs r.a8 r.own r.a9)
  apart:∀ b x,E.κ b=some x→E.z x=none
  inj:∀ b c x,E.κ b=some x→E.κ c=some x→b=c
  fO:xl E A
  eS:∀ b x,E.κ b=some x→b < A.next
  jq:∀ b g,E.φ b=some g→b < A.next
  live:∀ b o,A.get b=some o→b < A.next
  dT:∀ b x,E.κ b=some x→x < B.next
  jr:∀ b r,E.z b=some r→b < B.next
  fV:∀ b g,E.φ b=some g→g < B.next
  fresh:∀ g,B.next≤g→B.members g = []
  mem:∀ g x,x ∈ B.members g→x < B.next
  ar:CL P E A B
structure Ev (P:Program) (base:Nat) (E:Env) (A:ak) (B:St) (ρ:aw) (w:World) (E' : Env) (A' : ak) (B' : St) (aq:aw) (w' : World):Prop where
  cW:eh P E' A' B'
  dj:b7 base ρ B w aq B' w'
  le:E.le E'
  next:A.next≤A'.next
  eU:∀ x,x < B.next→(∀ b,E.κ b≠some x)→¬ AT A E B x→B'.get x=B.get x
  new:∀ b x,E'.κ b=some x→E.κ b=some x∨B.next≤x
  oW:∀ b r,E'.z b=some r→E.z b=some r∨AR A E b∨B.next≤b
  oX:∀ b g,E'.φ b=some g→(∃ c,E.φ c=some g)∨B.next≤g
  mr:∀ g,g < B.next→(∀ b,E.φ b≠some g)→¬ AF A E B g→B'.members g=B.members g
  js:∀ x,AR A' E' x→AR A E x∨B.next≤x
  jJ:∀ g,AF A' E' B' g→AF A E B g∨B.next≤g
  qC:∀ g y,y ∈ B'.members g→y ∈ B.members g∨B.next≤y
  ky:∀ y,AT A' E' B' y→AT A E B y∨B.next≤y
  rows:∀ y,y < B.next→∀ cs e own a9,B'.get y=some (.row cs e own a9)→∃ ie,B.get y=some (.row ie e own a9)∧ie.length=cs.length
theorem Ev.refl {base:Nat} {A:ak} {B:St} {ρ:aw} {w:World} (h:eh P E A B) (s:fU ρ B base w):Ev P base E A B ρ w E A B ρ w:=
  ⟨h,.refl s,Env.le_refl _,Nat.le_refl _,fun _ _ _ _=>rfl,fun _ _ h=>.inl h,fun _ _ h=>.inl h,fun _ _ h=>.inl ⟨_,h⟩,fun _ _ _ _=>rfl,fun _ h=>.inl h,fun _ h=>.inl h,fun _ _ h=>.inl h,fun _ h=>.inl h,fun _ _ cs _ _ _ h=>⟨cs,h,rfl⟩⟩
theorem Ev.trans {base:Nat} {E1 E2 E3:Env} {A1 A2 A3:ak} {B1 B2 B3:St} {iI iU Oo:aw} {w1 w2 w3:World} (h:Ev P base E1 A1 B1 iI w1 E2 A2 B2 iU w2) (k:Ev P base E2 A2 B2 iU w2 E3 A3 B3 Oo w3) :
    Ev P base E1 A1 B1 iI w1 E3 A3 B3 Oo w3 where
  cW:=k.cW
  dj:=h.dj.trans k.dj
  le:=Env.le_trans h.le k.le
  next:=Nat.le_trans h.next k.next
  eU x hx hn ha:=by
    refine (k.eU x (Nat.lt_of_lt_of_le hx h.dj.next) (fun b e=>?_) fun q=>?_).trans (h.eU x hx hn ha)
    · rcases h.new b x e with e | e
      · exact hn b e
      · omega
    · rcases h.ky x q with e | e
      · exact ha e
      · omega
  new b x e:=by
    rcases k.new b x e with e | e
    · rcases h.new b x e with e | e
      · exact .inl e
      · exact .inr e
    · have:=h.dj.next; exact .inr (by omega)
  oW b r e:=by
    rcases k.oW b r e with e | e | e
    · exact h.oW b r e
    · exact .inr (h.js b e)
    · have:=h.dj.next; exact .inr (.inr (by omega))
  oX b g e:=by
    rcases k.oX b g e with ⟨c,e⟩ | e
    · exact h.oX c g e
    · have:=h.dj.next; exact .inr (by omega)
  mr g hg hn ha:=by
    refine (k.mr g (Nat.lt_of_lt_of_le hg h.dj.next) (fun b e=>?_) fun q=>?_).trans (h.mr g hg hn ha)
    · rcases h.oX b g e with ⟨c,e⟩ | e
      · exact hn c e
      · omega
    · rcases h.jJ g q with e | e
      · exact ha e
      · omega
  js x e:=by
    rcases k.js x e with e | e
    · exact h.js x e
    · have:=h.dj.next; exact .inr (by omega)
  jJ g e:=by
    rcases k.jJ g e with e | e
    · exact h.jJ g e
    · have:=h.dj.next; exact .inr (by omega)
  qC g y e:=by
    rcases k.qC g y e with e | e
    · exact h.qC g y e
    · have:=h.dj.next; exact .inr (by omega)
  ky y e:=by
    rcases k.ky y e with e | e
    · exact h.ky y e
    · have:=h.dj.next; exact .inr (by omega)
  rows y hy cs e own a9 q:=by
    obtain ⟨c1,h1,h2⟩:=k.rows y (Nat.lt_of_lt_of_le hy h.dj.next) cs e own a9 q
    obtain ⟨c0,h3,h4⟩:=h.rows y hy c1 e own a9 h1
    exact ⟨c0,h3,h4.trans h2⟩
@[simp] theorem ak.bt (A:ak) (b:Nat) (o:gx) (x:Nat):(A.put b o).get x=if x=b then some o else A.get x:=by simp [ak.put,ak.get,Trie.fv]
@[simp] theorem ak.bR (A:ak) (o:gx) (x:Nat):(A.new o).get x=if x=A.next then some o else A.get x:=by simp [ak.new,ak.get,Trie.fv]
@[simp] theorem ak.uG (A:ak) (b:Nat) (o:gx):(A.put b o).next=A.next:=rfl
@[simp] theorem ak.bz (A:ak) (o:gx):(A.new o).next=A.next+1:=rfl
theorem xl.put {A:ak} (h:xl E A) {b:Nat} {o:gx} (ho:(∀ t s,o≠.aJ t s)∨E.φ b=none):xl E (A.put b o):=by
  intro x y g tx sx ty sy hx hy ex ey
  have key:∀ {z t s},(A.put b o).get z=some (.aJ t s)→E.φ z=some g→A.get z=some (.aJ t s):=by
    intro z t s hz ez
    rw [ak.bt] at hz
    split at hz
    · rename_i e
      simp at hz
      rcases ho with ho | ho
      · exact absurd hz (ho t s)
      · rw [e,ho] at ez; simp at ez
    · exact hz
  exact h x y g tx sx ty sy (key hx ex) (key hy ey) ex ey
theorem xl.new {A:ak} (h:xl E A) {o:gx} (ho:(∀ t s,o≠.aJ t s)∨E.φ A.next=none):xl E (A.new o):=by
  intro x y g tx sx ty sy hx hy ex ey
  have key:∀ {z t s},(A.new o).get z=some (.aJ t s)→E.φ z=some g→A.get z=some (.aJ t s):=by
    intro z t s hz ez
    rw [ak.bR] at hz
    split at hz
    · rename_i e
      simp at hz
      rcases ho with ho | ho
      · exact absurd hz (ho t s)
      · rw [e,ho] at ez; simp at ez
    · exact hz
  exact h x y g tx sx ty sy (key hx ex) (key hy ey) ex ey
structure KJ (P:Program) (E:Env) (A:ak) (B:St) (ρ:aw) (base:Nat) (w:World):Prop where
  k:eh P E A B
  s:fU ρ B base w
theorem Ev.kj {base:Nat} {E1 E2:Env} {A1 A2:ak} {B1 B2:St} {iI iU:aw} {w1 w2:World} (h:Ev P base E1 A1 B1 iI w1 E2 A2 B2 iU w2):KJ P E2 A2 B2 iU base w2:=⟨h.cW,h.dj.cW⟩
def VC (P:Program) (E:Env) (ρ:aw) (v:KV) (v' : Value):Prop:=∃ u,VK P E v u∧VR ρ u v'
theorem VC.mono {ρ aq:aw} {v:KV} {v' : Value} (h:VC P E ρ v v') (k:E.le E') (m:ρ.le aq):VC P E' aq v v':=by
  obtain ⟨u,h1,h2⟩:=h
  exact ⟨u,h1.mono k,h2.mono m⟩
theorem VC.av {ρ:aw} {v' : Value} : VC P E ρ .av v':=⟨.chan none,.lK,by simp [VR]⟩
theorem VC.undef {ρ:aw} : VC P E ρ mV undef:=⟨_,.undef,VR.undef⟩
end Go.K
end
