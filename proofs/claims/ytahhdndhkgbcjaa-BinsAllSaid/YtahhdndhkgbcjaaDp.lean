/- Part of the proof of BinsAll: a machine that runs the program's code over open terms, shown to be the model's, and the plain models of its functions. No conditions. -/
import Derived.Test.YtahhdndhkgbcjaaCp
import Derived.LoopNIn
import Derived.RangeFuncRecord
import Derived.Scope
section
namespace Go.av
noncomputable section
open Go
variable {P:Program} {call:db} {all:List Oper} {A0:St}
theorem KZ {b:List Nat} {i:Nat} : ∀ (ys:List Oper) (k:Nat),G0 P b i ys k=true→∀ (j:Nat) (y:Oper),ys[j]? = some y→i≠k+j→yf (compile P y.op)≠0→dV b i (k+j)=true∨dV b (k+j) i=true
  | [],k,_,j,y,hy,_,_=>by simp at hy
  | y0 :: ys,k,h,0,y,hy,bR,hk=>by
    simp at hy
    subst hy
    simp only [G0,Bool.and_eq_true,Bool.or_eq_true] at h
    rcases h.1 with ((h1 | h1) | h1) | h1
    · exact absurd (Nat.eq_of_beq_eq_true h1) bR
    · exact absurd (Nat.eq_of_beq_eq_true h1) hk
    · exact .inl h1
    · exact .inr h1
  | y0 :: ys,k,h,j+1,y,hy,bR,hk=>by
    simp only [G0,Bool.and_eq_true] at h
    have:=KZ ys (Nat.succ k) h.2 j y (by simpa using hy) (by rw [Nat.succ_add]; exact bR) hk
    rwa [Nat.succ_add] at this
theorem Ih {b:List Nat} : ∀ (os:List Oper) (k:Nat),Fh P b all os k=true→∀ (j:Nat) (o:Oper),os[j]? = some o→yf (compile P o.op)=3→G0 P b (k+j) all 0=true
  | [],k,_,j,o,ho,_=>by simp at ho
  | o0 :: os,k,h,0,o,ho,hk=>by
    simp at ho
    subst ho
    simp only [Fh,Bool.and_eq_true,Bool.or_eq_true,Bool.not_eq_true'] at h
    rcases h.1 with h1 | h1
    · rw [hk] at h1; simp at h1
    · exact h1
  | o0 :: os,k,h,j+1,o,ho,hk=>by
    simp only [Fh,Bool.and_eq_true] at h
    have:=Ih os (Nat.succ k) h.2 j o (by simpa using ho) hk
    rwa [Nat.succ_add] at this
structure Hd (P:Program) (all:List Oper):Prop where
  FD:jg P all
  vk:∀ (i:Nat) (o:Oper),all[i]? = some o→yf (compile P o.op)≠2
  order:∀ (i j:Nat) (o y:Oper),all[i]? = some o→all[j]? = some y→yf (compile P o.op)=3→yf (compile P y.op)≠0→i≠j→dV (az [] all) i j=true∨dV (az [] all) j i=true
theorem abU (h:uC P all=true):pj P all=true∧Hd P all:=by
  simp only [uC,Bool.and_eq_true] at h
  obtain ⟨⟨h1,h2⟩,h3⟩:=h
  refine ⟨h1,qv h1,fun i o ho=>?_,fun i j o y ho hy hk qO bR=>?_⟩
  · have:=List.all_eq_true.1 h2 o (List.mem_of_getElem? ho)
    intro e
    rw [e] at this
    simp at this
  · have h4:=Ih all 0 h3 i o ho hk
    rw [Nat.zero_add] at h4
    have:=KZ all 0 h4 j y hy (by rw [Nat.zero_add]; exact bR) qO
    rwa [Nat.zero_add] at this
structure vl (P:Program) (all:List Oper) (A0:St) (i:Nat) (R:List Rec) (A:St):Prop where
  post:pX A0 R (eM R)=A
  nx:fK A0 R=A.next
  below:∀ s ∈ R,s.i < i
  vk:∀ s ∈ R,∀ id o,s.jH≠.make id o
  kind:∀ s ∈ R,∃ o,all[s.i]? = some o∧(jK s→yf (compile P o.op)=3)∧∀ f vs,s.jH = .read f vs→yf (compile P o.op)=1
  last:match eM R with
    | none=>∀ s ∈ R,¬ jK s
    | some y=>(∃ s ∈ R,jK s∧s.i=y)∧∀ s ∈ R,jK s→s.i≤y
  reads:∀ s ∈ R,∀ f vs,s.jH = .read f vs→∃ e,f (pX A0 R e) vs=some s.v∧(pX A0 R e).next=s.nx∧
    match e with
    | none=>∀ x ∈ R,jK x→s.i < x.i
    | some y=>y < s.i∧(∃ x ∈ R,jK x∧x.i=y)∧∀ x ∈ R,jK x→x.i < s.i→x.i≤y
  chain:qp (az [] all) R=true
theorem rF {r:Rec} {R:List Rec} {e:Option Nat} (h:∀ y,e=some y→r.i≠y):pX A0 (r :: R) e=pX A0 R e:=by
  cases e with
  | none=>rfl
  | some y=>
    have bR:=h y rfl
    simp only [pX,De]
    split
    · have:Nat.beq r.i y=false:=by
        cases hb:Nat.beq r.i y with
        | false=>rfl
        | true=>exact absurd (Nat.eq_of_beq_eq_true hb) bR
      rw [this,cond_false]
    · rfl
theorem xl {b:List Nat} {R:List Rec} (h:∀ s ∈ R,∀ id o,s.jH≠.make id o) (e:Option Nat) (kh:Nat→Bool):j9 b A0 R e kh=pX A0 R e:=by
  have key:∀ (R:List Rec),(∀ s ∈ R,∀ id o,s.jH≠.make id o)→∀ kh A,m4 kh A R=A:=by
    intro R
    induction R with
    | nil=>intro _ kh A; rfl
    | cons r R ih=>
      intro h kh A
      have ih:=ih (fun s hs=>h s (by simp [hs])) kh A
      simp only [m4]
      split
      · rename_i id o hd; exact absurd hd (h r (by simp) id o)
      · exact ih
  exact key R h _ _
theorem vl.plain {i:Nat} {R:List Rec} {A:St} (h:vl P all A0 i R A) {r:Rec} {o:Oper} (hi:r.i=i) (hn:r.nx=A.next) (ho:all[i]? = some o) (hd:r.jH = .val∨∃ f vs,r.jH = .read f vs∧f A vs=some r.v∧yf (compile P o.op)=1) :
    vl P all A0 (i+1) (r :: R) A:=by
  have Bi : ¬ jK r:=by rintro ⟨B,hB⟩; rcases hd with h1 | ⟨f,vs,h1,_⟩ <;> rw [h1] at hB <;> simp at hB
  have Xc:∀ id o,r.jH≠.make id o:=by intro id o e; rcases hd with h1 | ⟨f,vs,h1,_⟩ <;> rw [h1] at e <;> simp at e
  have hl:eM (r :: R)=eM R:=by rcases hd with h1 | ⟨f,vs,h1,_⟩ <;> simp [eM,h1]
  have wJ:=h.last
  have bR:∀ y,eM R=some y→r.i≠y:=by
    intro y e
    rw [e] at wJ
    obtain ⟨⟨s,hs,_,h2⟩,_⟩:=wJ
    have:=h.below s hs
    omega
  refine ⟨by rw [hl,rF bR]; exact h.post,hn,fun s hs=>?_,fun s hs=>?_,fun s hs=>?_,?_,fun s hs f vs hf=>?_,?_⟩
  · rcases List.mem_cons.1 hs with rfl | hs
    · omega
    · have:=h.below s hs; omega
  · rcases List.mem_cons.1 hs with rfl | hs
    · exact Xc
    · exact h.vk s hs
  · rcases List.mem_cons.1 hs with rfl | hs
    · refine ⟨o,by rw [hi]; exact ho,fun ha=>absurd ha Bi,fun f vs hf=>?_⟩
      rcases hd with h1 | ⟨f',bP,h1,_,h3⟩
      · rw [h1] at hf; simp at hf
      · exact h3
    · exact h.kind s hs
  · rw [hl]
    cases hle:eM R with
    | none=>
      rw [hle] at wJ
      intro s hs
      rcases List.mem_cons.1 hs with rfl | hs
      · exact Bi
      · exact wJ s hs
    | some y=>
      rw [hle] at wJ
      obtain ⟨⟨s,hs,h1,h2⟩,h3⟩:=wJ
      exact ⟨⟨s,by simp [hs],h1,h2⟩,fun x hx Bj=>by
        rcases List.mem_cons.1 hx with rfl | hx
        · exact absurd Bj Bi
        · exact h3 x hx Bj⟩
  · rcases List.mem_cons.1 hs with rfl | hs
    · rcases hd with h1 | ⟨f',bP,h1,h2,_⟩
      · rw [h1] at hf; simp at hf
      · rw [h1] at hf
        simp at hf
        obtain ⟨rfl,rfl⟩:=hf
        refine ⟨eM R,by rw [rF bR,h.post]; exact h2,by rw [rF bR,h.post,hn],?_⟩
        cases hle:eM R with
        | none=>
          rw [hle] at wJ
          intro x hx Bj
          rcases List.mem_cons.1 hx with rfl | hx
          · exact absurd Bj Bi
          · exact absurd Bj (wJ x hx)
        | some y=>
          rw [hle] at wJ
          obtain ⟨⟨x,hx,h4,h5⟩,h6⟩:=wJ
          refine ⟨by have:=h.below x hx; omega,⟨x,by simp [hx],h4,h5⟩,fun z hz Zu _=>?_⟩
          rcases List.mem_cons.1 hz with rfl | hz
          · exact absurd Zu Bi
          · exact h6 z hz Zu
    · obtain ⟨e,h1,h2,h3⟩:=h.reads s hs f vs hf
      have Kz:=h.below s hs
      have Qx:∀ y,e=some y→r.i≠y:=by
        intro y he
        subst he
        have:=h3.1
        omega
      refine ⟨e,by rw [rF Qx]; exact h1,by rw [rF Qx]; exact h2,?_⟩
      cases e with
      | none=>
        intro x hx Bj
        rcases List.mem_cons.1 hx with rfl | hx
        · exact absurd Bj Bi
        · exact h3 x hx Bj
      | some y=>
        obtain ⟨h4,⟨x,hx,h5,h6⟩,h7⟩:=h3
        refine ⟨h4,⟨x,by simp [hx],h5,h6⟩,fun z hz Zu=>?_⟩
        rcases List.mem_cons.1 hz with rfl | hz
        · exact absurd Zu Bi
        · exact h7 z hz Zu
  · have:=h.chain
    rcases hd with h1 | ⟨f,vs,h1,_⟩ <;> simp [qp,h1,this]
theorem vl.act {i:Nat} {R:List Rec} {A B:St} (hf:Hd P all) (h:vl P all A0 i R A) {r:Rec} {o:Oper} (hi:r.i=i) (hn:r.nx=B.next) (ho:all[i]? = some o) (hd:r.jH = .act B) (hk:yf (compile P o.op)=3) :
    vl P all A0 (i+1) (r :: R) B:=by
  have ha:jK r:=⟨B,hd⟩
  have hl:eM (r :: R)=some r.i:=by simp [eM,hd]
  refine ⟨by rw [hl]; simp only [pX,De,hd]; rw [show Nat.beq r.i r.i=true from by simp,cond_true],hn,fun s hs=>?_,fun s hs=>?_,fun s hs=>?_,?_,fun s hs f vs wC=>?_,?_⟩
  · rcases List.mem_cons.1 hs with rfl | hs
    · omega
    · have:=h.below s hs; omega
  · rcases List.mem_cons.1 hs with rfl | hs
    · intro id o e; rw [hd] at e; simp at e
    · exact h.vk s hs
  · rcases List.mem_cons.1 hs with rfl | hs
    · exact ⟨o,by rw [hi]; exact ho,fun _=>hk,fun f vs e=>by rw [hd] at e; simp at e⟩
    · exact h.kind s hs
  · rw [hl]
    refine ⟨⟨r,by simp,ha,rfl⟩,fun s hs _=>?_⟩
    rcases List.mem_cons.1 hs with rfl | hs
    · exact Nat.le_refl _
    · have:=h.below s hs; omega
  · rcases List.mem_cons.1 hs with rfl | hs
    · rw [hd] at wC; simp at wC
    · obtain ⟨e,h1,h2,h3⟩:=h.reads s hs f vs wC
      have Kz:=h.below s hs
      have Qx:∀ y,e=some y→r.i≠y:=by
        intro y he
        subst he
        have:=h3.1
        omega
      refine ⟨e,by rw [rF Qx]; exact h1,by rw [rF Qx]; exact h2,?_⟩
      cases e with
      | none=>
        intro x hx Bj
        rcases List.mem_cons.1 hx with rfl | hx
        · omega
        · exact h3 x hx Bj
      | some y=>
        obtain ⟨h4,⟨x,hx,h5,h6⟩,h7⟩:=h3
        refine ⟨h4,⟨x,by simp [hx],h5,h6⟩,fun z hz Zu aL=>?_⟩
        rcases List.mem_cons.1 hz with rfl | hz
        · omega
        · exact h7 z hz Zu aL
  · have hc:=h.chain
    have wJ:=h.last
    simp only [qp,hd,Bool.and_eq_true]
    refine ⟨?_,hc⟩
    cases hle:eM R with
    | none=>rfl
    | some y=>
      rw [hle] at wJ
      obtain ⟨⟨s,hs,h1,h2⟩,_⟩:=wJ
      obtain ⟨os,h3,h4,_⟩:=h.kind s hs
      have aL:=h.below s hs
      subst h2
      rw [← hi] at ho
      rcases hf.order r.i s.i o os ho h3 hk (by rw [h4 h1]; simp) (by omega) with h5 | h5
      · exact h5
      · have:=KK hf.FD h5; omega
theorem QD {A B:St} {r:Option (Tm×St)} {q:Tm×St} (h:TE A B r=some q):Nat.ble A.next B.next=true∧r=some q:=by
  unfold TE at h
  cases hb:Nat.ble A.next B.next with
  | false=>rw [hb] at h; exact absurd h (by simp)
  | true=>rw [hb] at h; exact ⟨rfl,h⟩
theorem QE (hf:Hd P all):∀ (os:List Oper) (i:Nat) (R:List Rec) (t t' : Tm) (A B:St),all.drop i=os→vl P all A0 i R A→Fi P call all os t A=some (t',B)→
    ∃ R',tH P call (az [] all) all A0 os i R t=some (R',t')∧vl P all A0 all.length R' B
  | [],i,R,t,t',A,B,hd,hI,h=>by
    simp only [abz,Option.some.injEq,Prod.mk.injEq] at h
    obtain ⟨rfl,rfl⟩:=h
    have hlen:all.length≤i:=List.drop_eq_nil_iff.1 hd
    refine ⟨R,rfl,⟨hI.post,hI.nx,fun s hs=>?_,hI.vk,hI.kind,hI.last,hI.reads,hI.chain⟩⟩
    obtain ⟨o,h1,_⟩:=hI.kind s hs
    exact (List.getElem?_eq_some_iff.1 h1).1
  | o :: os,i,R,t,t',A,B,hd,hI,h=>by
    have ho:all[i]? = some o:=by
      have:(all.drop i)[0]? = some o:=by rw [hd]; rfl
      rw [List.getElem?_drop] at this
      simpa using this
    have zw:all.drop (i+1)=os:=by rw [← List.drop_drop,hd]; rfl
    simp only [Y4] at h
    obtain ⟨wd,EM,h⟩:=Option.bind_eq_some_iff.1 h
    have p9:∀ kh,(j9 (az [] all) A0 R (eM R) kh).at A.next=A:=by
      intro kh
      rw [xl hI.vk,hI.post]
      rfl
    have ae8:∀ kh,j9 (az [] all) A0 R (eM R) kh=A:=by
      intro kh
      rw [xl hI.vk,hI.post]
    have step:∀ (r:Rec) (C:St),u9 P call (az [] all) all A0 R i t o=some r→vl P all A0 (i+1) (r :: R) C→Fi P call all os (u5 t o.dst r.v) C=some (t',B)→
        ∃ R',tH P call (az [] all) all A0 (o :: os) i R t=some (R',t')∧vl P all A0 all.length R' B:=by
      intro r C h1 h2 h3
      obtain ⟨R',h4,h5⟩:=QE hf os (i+1) (r :: R) _ t' C B zw h2 h3
      exact ⟨R',by simp only [tH,h1,Option.bind_some]; exact h4,h5⟩
    cases wd with
    | false=>
      rw [cond_false] at h
      obtain ⟨_,h⟩:=QD h
      exact step ⟨i,undef,fK A0 R,.val⟩ A (by simp [u9,EM]) (hI.plain rfl hI.nx ho (.inl rfl)) h
    | true=>
      rw [cond_true] at h
      obtain ⟨⟨v,C⟩,h1,h2⟩:=Option.bind_eq_some_iff.1 h
      obtain ⟨aaC,h2⟩:=QD h2
      have aaC:Nat.ble A.next C.next=true:=aaC
      cases hc:compile P o.op with
      | pure f xs=>
        rw [hc] at h1
        simp only [ot] at h1
        obtain ⟨u,hu,he⟩:=Option.map_eq_some_iff.1 h1
        simp at he
        obtain ⟨rfl,rfl⟩:=he
        exact step ⟨i,u,fK A0 R,.val⟩ A (by simp [u9,EM,hc,je,hu]) (hI.plain rfl hI.nx ho (.inl rfl)) h2
      | read f xs=>
        rw [hc] at h1
        simp only [ot] at h1
        obtain ⟨u,hu,he⟩:=Option.map_eq_some_iff.1 h1
        simp at he
        obtain ⟨rfl,rfl⟩:=he
        exact step ⟨i,u,fK A0 R,.read f (xs.map (ma t))⟩ A (by simp [u9,EM,hc,je,ae8,hu]) (hI.plain rfl hI.nx ho (.inr ⟨_,_,rfl,hu,by rw [hc]; rfl⟩)) h2
      | make f xs=>exact absurd (by rw [hc]; rfl) (hf.vk i o ho)
      | act f xs=>
        rw [hc] at h1
        simp only [ot] at h1
        exact step ⟨i,v,C.next,.act C⟩ C (by simp [u9,EM,hc,je,p9,h1,hI.nx,aaC]) (hI.act hf rfl rfl ho rfl (by rw [hc]; rfl)) h2
      | call f xs=>
        rw [hc] at h1
        simp only [ot] at h1
        obtain ⟨p,hp,h1⟩:=Option.bind_eq_some_iff.1 h1
        exact step ⟨i,v,C.next,.act C⟩ C (by simp [u9,EM,hc,je,p9,hp,h1,hI.nx,aaC]) (hI.act hf rfl rfl ho rfl (by rw [hc]; rfl)) h2
      | bad=>exact absurd (by rw [hc]; rfl) (hf.vk i o ho)
theorem QF {b:List Nat} {i:Nat} {e:Option Nat} : ∀ {R:List Rec},Fg b i e R=true→∀ r ∈ R,jK r→match e with
    | some e=>(dV b i r.i=true→r.i≤e)∧(dV b r.i i=true→e < r.i)
    | none=>dV b i r.i=false
  | [],_,r,hr,_=>by simp at hr
  | x :: R,h,r,hr,ha=>by
    simp only [Fg,Bool.and_eq_true] at h
    rcases List.mem_cons.1 hr with rfl | hr
    · obtain ⟨B,hB⟩:=ha
      have h1:=h.1
      rw [hB] at h1
      cases e with
      | none=>simpa using h1
      | some e=>
        simp only [Bool.and_eq_true,Bool.or_eq_true,Bool.not_eq_true'] at h1
        obtain ⟨h2,h3⟩:=h1
        refine ⟨fun hb=>?_,fun hb=>?_⟩
        · rcases h2 with h2 | h2
          · rw [hb] at h2; simp at h2
          · exact Nat.le_of_ble_eq_true h2
        · rcases h3 with h3 | h3
          · rw [hb] at h3; simp at h3
          · rw [Nat.blt_eq] at h3; exact h3
    · exact QF h.2 r hr ha
theorem FE:∀ {R:List Rec} {e:Option Nat},e ∈ kN R→e=none∨∃ r ∈ R,jK r∧e=some r.i
  | [],e,h=>by simp [kN] at h; exact .inl h
  | x :: R,e,h=>by
    simp only [kN] at h
    split at h
    · rename_i B hB
      rcases List.mem_cons.1 h with rfl | h
      · exact .inr ⟨x,by simp,⟨B,hB⟩,rfl⟩
      · rcases FE h with h | ⟨r,hr,h1,h2⟩
        · exact .inl h
        · exact .inr ⟨r,by simp [hr],h1,h2⟩
    · rcases FE h with h | ⟨r,hr,h1,h2⟩
      · exact .inl h
      · exact .inr ⟨r,by simp [hr],h1,h2⟩
theorem Xh (hf:Hd P all) {R:List Rec} {B:St} (hI:vl P all A0 all.length R B) {r:Rec} (hr:r ∈ R) {f:St→List Value→Option Value} {vs:List Value} (hd:r.jH = .read f vs) {e:Option Nat} (he:e ∈ kN R) (hm:Fg (az [] all) r.i e R=true) :
    f (pX A0 R e) vs=some r.v∧(pX A0 R e).next=r.nx:=by
  obtain ⟨e',h1,h2,h3⟩:=hI.reads r hr f vs hd
  obtain ⟨o,ho,_,hk⟩:=hI.kind r hr
  have hk:=hk f vs hd
  have qt:=QF hm
  have bR:∀ x ∈ R,jK x→x.i≠r.i:=by
    intro x hx Bj e2
    obtain ⟨ox,hox,Vd,_⟩:=hI.kind x hx
    rw [e2,ho] at hox
    simp at hox; subst hox
    rw [Vd Bj] at hk
    simp at hk
  have xN:∀ x ∈ R,jK x→(x.i < r.i→dV (az [] all) r.i x.i=true)∧(r.i < x.i→dV (az [] all) x.i r.i=true):=by
    intro x hx Bj
    obtain ⟨ox,hox,Vd,_⟩:=hI.kind x hx
    have h4:=hf.order x.i r.i ox o hox ho (Vd Bj) (by rw [hk]; simp) (bR x hx Bj)
    refine ⟨fun aL=>?_,fun aL=>?_⟩
    · rcases h4 with h4 | h4
      · have:=KK hf.FD h4; omega
      · exact h4
    · rcases h4 with h4 | h4
      · exact h4
      · have:=KK hf.FD h4; omega
  have hee:e=e':=by
    rcases FE he with rfl | ⟨x,hx,Bj,rfl⟩
    · cases e' with
      | none=>rfl
      | some y=>
        obtain ⟨h4,⟨x,hx,h5,h6⟩,_⟩:=h3
        have h7:=qt x hx h5
        have h8:=(xN x hx h5).1 (by omega)
        simp only at h7
        rw [h7] at h8
        simp at h8
    · have hxr:x.i < r.i:=by
        have h5:=bR x hx Bj
        rcases Nat.lt_or_ge x.i r.i with h6 | h6
        · exact h6
        · have h7:=(qt x hx Bj).2 ((xN x hx Bj).2 (by omega))
          omega
      cases e' with
      | none=>have:=h3 x hx Bj; omega
      | some y=>
        obtain ⟨h4,⟨z,hz,h5,h6⟩,h7⟩:=h3
        have h8:=h7 x hx Bj hxr
        have h9:=(qt z hz h5).1 ((xN z hz h5).1 (by omega))
        have:x.i=y:=by omega
        rw [this]
  rw [hee]
  exact ⟨h1,h2⟩
theorem QG {rd:Option Nat} (fo:qU P call) (hm:P.follows .mixedOrders=true) {id:Nat} {N base:Nat} (Fz:all.all (pk N)=true) {t t' : Tm} {A B:St} {ρ:Go.av.ao} {a:Act} {w:World} {Q:Exit→Act→World→Prop}
    (hov:uC P all=true) (h:Fi P call all all t A=some (t',B)) (ht:TR ρ t N a) (hs:jC ρ A base w) (hq:∀ ak a' w',TR ak t' N a'→a'.defers=a.defers→da base ρ A w ak B w'→Q .normal a' w'):(Code.region id ⟨all⟩ true).wpIn (Fr rd) 0 P Q a w:=by
  obtain ⟨bc,hf⟩:=abU hov
  obtain ⟨R,U9,hI⟩:=QE (A0:=A) hf all 0 [] t t' A B (by simp) ⟨rfl,rfl,fun s hs=>by simp at hs,fun s hs=>by simp at hs,fun s hs=>by simp at hs,fun s hs=>by simp at hs,fun s hs=>by simp at hs,rfl⟩ h
  refine FB fo hm Fz bc U9 hI.chain (fun r hr f vs hd=>⟨.inr ⟨hI.vk,fun e he hme=>Nat.le_of_eq (Xh hf hI hr hd he hme).2⟩,fun e he hme=>?_⟩) ht hs fun ak a' w' v5 v7 hg=>?_
  · rw [xl hI.vk]
    exact (Xh hf hI hr hd he hme).1
  · rw [xl hI.vk,hI.post,hI.nx] at hg
    exact hq ak a' w' v5 v7 hg
end
end Go.av
end
section
namespace Go.av
noncomputable section
open Go
def EvR (ρ:ao) (ev cr:Operand→Value):Prop:=∀ x,VR ρ (ev x) (cr x)
theorem EvR.on {ρ:ao} {ev cr:Operand→Value} (h:EvR ρ ev cr) (xs:List Operand):qq ρ ev cr xs:=fun x _=>h x
theorem TR.ev {ρ:ao} {t:Tm} {N:Nat} {a:Act} (h:TR ρ t N a):EvR ρ (ma t) a.eval:=by
  intro x
  cases x with
  | tmp i=>exact h.val i
  | const v=>
    simp only [ma,Act.eval]
    cases hf:flat v with
    | true=>exact VR.of_flat hf
    | false=>simp [VR]
  | global g=>exact h.mS.ev g
  | func f=>exact VR.G9 (l:=[]) (m:=[]) (.func f) rfl .nil .nil
theorem TR.mono {ρ ak:ao} {t:Tm} {N:Nat} {a:Act} (h:TR ρ t N a) (hle:ρ.le ak):TR ak t N a:=⟨h.size,fun i=>(h.val i).mono hle,h.none,h.mS.mono hle⟩
theorem TR.put {ρ:ao} {t:Tm} {N:Nat} {a:Act} {dst:Option Tmp} {v v' : Value} (h:TR ρ t N a) (hd:∀ d,dst=some d→d < N) (hv:VR ρ v v'):TR ρ (u5 t dst v) N (a.put dst v'):=by
  cases dst with
  | none=>exact h
  | some d=>
    have hd:=hd d rfl
    refine ⟨by simp [Act.put,h.size],fun i=>?_,fun i hi=>?_,h.mS⟩
    · simp only [u5,Trie.iP,Act.put]
      by_cases e:i=d
      · subst e
        have:i < a.tmps.size:=by rw [h.size]; exact hd
        simp [Array.getD_eq_getD_getElem?,this,hv]
      · have:=h.val i
        simp only [if_neg e]
        simpa [Array.getD_eq_getD_getElem?,Array.getElem?_setIfInBounds_ne (Ne.symm e)] using this
    · simp only [u5,Trie.iP]
      have bR:i≠d:=fun e=>absurd hi (by rw [e]; exact Nat.not_le_of_lt hd)
      rw [if_neg bR]
      exact h.none i hi
theorem put_defers (a:Act) (dst:Option Tmp) (v:Value):(a.put dst v).defers=a.defers:=by cases dst <;> rfl
theorem SY {ρ:ao} {t:Tm} {N:Nat} {a:Act} {all:List Oper} {o:Oper} {wd:Bool} (h:TR ρ t N a) (hw:u6 all t o.guard=some wd) :
    Region.wanted o (yielded ⟨all⟩ a.tmps)=wd:=by
  unfold u6 at hw
  unfold Region.wanted
  split at hw
  · rename_i hg; simp at hw; rw [hg]; exact hw.symm
  · rename_i j want hg
    rw [hg]
    simp only
    unfold yielded
    have e:(⟨all⟩:Array Oper)[j]? = all[j]?:=by simp
    rw [e]
    cases hd:(all[j]?).bind (·.dst) with
    | none=>rw [hd] at hw; simp [jE] at hw; subst hw; simp
    | some d=>
      rw [hd] at hw
      simp only [Option.bind_some] at hw ⊢
      have hv:=h.val d
      cases ht:t.get d with
      | none=>
        rw [ht] at hw hv
        simp [jE] at hw; subst hw
        simp only [Option.getD_none] at hv
        have hu:a.tmps.getD d undef=undef:=hv.kO (by simp [undef,flat,uZ,n6])
        cases hc:a.tmps[d]? with
        | none=>simp
        | some u=>
          have:a.tmps.getD d undef=u:=by simp [Array.getD_eq_getD_getElem?,hc]
          rw [hu] at this
          subst this
          simp [undef]
      | some v=>
        rw [ht] at hw hv
        simp only [Option.getD_some] at hv
        have aL:d < N:=by
          rcases Nat.lt_or_ge d N with h1 | h1
          · exact h1
          · have:=h.none d h1; rw [ht] at this; simp at this
        have hc:a.tmps[d]? = some (a.tmps.getD d undef):=by
          have:d < a.tmps.size:=by rw [h.size]; exact aL
          simp [Array.getD_eq_getD_getElem?,this]
        rw [hc]
        generalize a.tmps.getD d undef=u at hv
        cases v with
        | bool b=>
          simp [jE] at hw
          have:=hv.dC
          subst this
          subst hw
          cases b <;> cases want <;> rfl
        | tuple cs=>
          simp [jE] at hw
          obtain ⟨bI,rfl,_⟩:=hv.zu
          subst hw
          rfl
        | _=>simp [jE] at hw
theorem Zv {P:Program} {call:db} {rd:Option Nat} (fo:qU P call) {o:Oper} {t:Tm} {A B:St} {v:Value} {N base:Nat} {ρ:ao} {a:Act} {w:World} {next:Act→World→Prop} {Q:Exit→Act→World→Prop}
    (h:ot call t A (compile P o.op)=some (v,B)) (ht:TR ρ t N a) (hs:jC ρ A base w)
    (hk:∀ ak v' w',VR ak v v'→da base ρ A w ak B w'→next (a.put o.dst v') w'):o.wpIn (Fr rd) 0 P a w next Q:=by
  have bc:=mf P o
  have jh:=ht.ev
  refine Xd (fun c e=>by rw [e] at h; simp [compile,ot] at h) ?_
  generalize compile P o.op=ins at h bc
  cases ins with
  | pure f xs=>
    obtain ⟨u,hu,he⟩:=Option.map_eq_some_iff.1 h
    simp at he
    obtain ⟨rfl,rfl⟩:=he
    obtain ⟨v',h1,h2⟩:=bc ρ _ _ _ (jh.on _) hu
    rw [h2 w]
    exact hk ρ v' w h1 (.refl hs)
  | read f xs=>
    obtain ⟨u,hu,he⟩:=Option.map_eq_some_iff.1 h
    simp at he
    obtain ⟨rfl,rfl⟩:=he
    obtain ⟨v',h1,h2⟩:=bc ρ A base w _ _ _ hs.rel (jh.on _) hu
    rw [h2]
    exact hk ρ v' w h1 (.refl hs)
  | make f xs=>
    obtain ⟨⟨obj,mk⟩,hu,he⟩:=Option.map_eq_some_iff.1 h
    simp at he
    obtain ⟨rfl,rfl⟩:=he
    obtain ⟨c,mk',h1,h2,h3⟩:=bc ρ _ _ _ _ (jh.on _) hu
    rw [h2 w]
    exact hk _ _ _ (h3 _ _ _ (ao.jF _ _ _)) (h1.ej hs)
  | act f xs=>
    obtain ⟨ak,v',nx,w',h1,h2,h3,h4⟩:=bc ρ A B base w _ _ _ hs (jh.on _) h
    rw [h1]
    cases nx with
    | value u=>
      have:u=v':=h2
      subst this
      exact hk ak u w' h3 h4
    | skip=>
      have:v' = undef:=h2
      subst this
      exact hk ak undef w' h3 h4
    | _=>exact h2.elim
  | call f args=>
    obtain ⟨⟨g,vs⟩,Ep,hu⟩:=Option.bind_eq_some_iff.1 h
    exact Xe bc fo (jh.on _) Ep hu hs hk
  | bad=>simp [ot] at h
theorem Ju {P:Program} {call:db} {rd:Option Nat} (fo:qU P call) {N base:Nat} {Q:Exit→Act→World→Prop} {all:List Oper} (hd:all.all (pk N)=true) :
    ∀ (os:List Oper) (k:Nat) (t t' : Tm) (A B:St) (ρ:ao) (a:Act) (w:World),all.drop k=os→opsV P call all os t A=some (t',B)→TR ρ t N a→jC ρ A base w→
      (∀ ak a' w',TR ak t' N a'→a'.defers=a.defers→da base ρ A w ak B w'→Q .normal a' w')→wpOpsIn (Fr rd) 0 P ⟨all⟩ Q (List.range' k os.length) a w
  | [],k,t,t',A,B,ρ,a,w,_,h,ht,hs,hq=>by
    simp only [TC,Option.some.injEq,Prod.mk.injEq] at h
    obtain ⟨rfl,rfl⟩:=h
    exact hq ρ a w ht rfl (.refl hs)
  | o :: os,k,t,t',A,B,ρ,a,w,hk,h,ht,hs,hq=>by
    have ho:(⟨all⟩:Array Oper)[k]? = some o:=by
      have:(all.drop k)[0]? = some o:=by rw [hk]; rfl
      rw [List.getElem?_drop] at this
      simpa using this
    have qO:all.drop (k+1)=os:=by
      rw [← List.drop_drop,hk]
      rfl
    have lW:∀ d,o.dst=some d→d < N:=by
      intro d e
      have hm:o ∈ all:=List.mem_of_getElem? (by simpa using ho)
      have:=List.all_eq_true.1 hd o hm
      unfold pk at this
      rw [e] at this
      simp only at this
      rw [Nat.blt_eq] at this
      exact this
    rw [List.length_cons,List.range'_succ]
    simp only [wpOpsIn,ho]
    simp only [PQ] at h
    obtain ⟨wd,EM,h⟩:=Option.bind_eq_some_iff.1 h
    rw [SY ht EM]
    cases wd with
    | true=>
      rw [cond_true] at h
      obtain ⟨⟨v,C⟩,h1,h2⟩:=Option.bind_eq_some_iff.1 h
      refine Zv fo h1 ht hs fun ak v' w' hv hg=>?_
      refine Ju fo hd os (k+1) _ _ C B ak _ w' qO h2 ((ht.mono (hg.le hs)).put lW hv) hg.dz fun kP Dv tT v5 v7 Bk=>?_
      exact hq kP Dv tT v5 (by rw [v7,put_defers]) (hg.trans Bk)
    | false=>
      rw [cond_false] at h
      refine ⟨fun _ _=>trivial,Ju fo hd os (k+1) _ _ A B ρ _ w qO h (ht.put lW VR.undef) hs fun kP Dv tT v5 v7 Bk=>?_⟩
      exact hq kP Dv tT v5 (by rw [v7,put_defers]) Bk
def ai.out:ai→Exit
  | .normal=>.normal
  | .exit id=>.exit id
  | .goto l=>.goto l
  | .ret=>.ret
theorem Xi {ρ:ao} {t:Tm} {N:Nat} {a:Act} {c:Operand} {x:Bool} (ht:TR ρ t N a) (h:ma t c = .bool x):a.eval c = .bool x:=by
  have:=ht.ev c
  rw [h] at this
  exact this.dC
def mark (D:Nat):Deferred:={ target:=.collected D,args:=#[] }
def Defs (n0:Nat) (a a' : Act) (ρ:ao) (A:St) (w:World):Prop:=
  ∃ Ds:List Nat,a'.defers=Ds.map mark ++ a.defers∧(∀ D ∈ Ds,n0≤D∧w.heap[D]? = some (.deferred (some []))∧¬ B4 ρ A D)∧Ds.Nodup
theorem Defs.same {n0:Nat} {a a' : Act} {ρ:ao} {A:St} {w:World} (h:a'.defers=a.defers):Defs n0 a a' ρ A w:=⟨[],by simpa using h,by simp,by simp⟩
theorem Defs.refl (n0:Nat) (a:Act) (ρ:ao) (A:St) (w:World):Defs n0 a a ρ A w:=.same rfl
theorem Defs.gY {n0 base:Nat} {a a' : Act} {ρ ak:ao} {A B:St} {w w' : World} (h:Defs n0 a a' ρ A w) (hg:da base ρ A w ak B w'):Defs n0 a a' ak B w':=by
  obtain ⟨Ds,h1,h2,h3⟩:=h
  refine ⟨Ds,h1,fun D hD=>?_,h3⟩
  obtain ⟨h4,h5,h6⟩:=h2 D hD
  have aL:D < w.heap.size:=(Array.getElem?_eq_some_iff.1 h5).1
  exact ⟨h4,by rw [hg.kept.block D aL h6]; exact h5,fun h=>h6 (hg.PW D aL h)⟩
theorem Defs.trans {n0 base:Nat} {a a1 a2:Act} {hX kc:ao} {A1 A2:St} {w1 w2:World} (h:Defs n0 a a1 hX A1 w1) (hg:da base hX A1 w1 kc A2 w2) (hn:n0≤w1.heap.size) (k:Defs w1.heap.size a1 a2 kc A2 w2):Defs n0 a a2 kc A2 w2:=by
  have aL:∀ D ∈ h.choose,D < w1.heap.size:=fun D hD=>(Array.getElem?_eq_some_iff.1 (h.choose_spec.2.1 D hD).2.1).1
  obtain ⟨h1,h2,h3⟩:=h.choose_spec
  generalize h.choose=Ds at aL h1 h2 h3
  obtain ⟨Es,k1,k2,k3⟩:=k
  refine ⟨Es ++ Ds,by rw [k1,h1]; simp,fun D hD=>?_,?_⟩
  · rcases List.mem_append.1 hD with hD | hD
    · obtain ⟨k4,k5,k6⟩:=k2 D hD
      exact ⟨Nat.le_trans hn k4,k5,k6⟩
    · obtain ⟨h4,h5,h6⟩:=h2 D hD
      exact ⟨h4,by rw [hg.kept.block D (aL D hD) h6]; exact h5,fun h=>h6 (hg.PW D (aL D hD) h)⟩
  · rw [List.nodup_append]
    refine ⟨k3,h3,fun D hD E hE e=>?_⟩
    have h7:=(k2 D hD).1
    have h8:=aL E hE
    omega
def Dw (P:Program) (N:Nat) (c:Code) (f:Tm→St→Option (ai×Tm×St)):Prop:=
  ∀ (rd:Option Nat) (t t' : Tm) (A B:St) (e:ai) (ρ:ao) (base:Nat) (a:Act) (w:World) (Q:Exit→Act→World→Prop),(rd=none∨eN c=true)→f t A=some (e,t',B)→TR ρ t N a→jC ρ A base w→
    (∀ ak a' w',TR ak t' N a'→Defs w.heap.size a a' ak B w'→da base ρ A w ak B w'→Q e.out a' w')→c.wpIn (Fr rd) 0 P Q a w
theorem NP {P:Program} {N:Nat} {c:Code} {f:Tm→St→Option (ai×Tm×St)} (hf:Dw P N c f) :
    ∀ (n:Nat) (rd:Option Nat) (t t' : Tm) (A B:St) (e:ai) (ρ:ao) (base:Nat) (a:Act) (w:World) (Q:Exit→Act→World→Prop),(rd=none∨eN c=true)→Jg f n t A=some (e,t',B)→TR ρ t N a→jC ρ A base w→
    (∀ ak a' w',TR ak t' N a'→Defs w.heap.size a a' ak B w'→da base ρ A w ak B w'→Q e.out a' w')→Code.roundsIn (Fr rd) 0 P c Q n a w
  | 0,rd,t,t',A,B,e,ρ,base,a,w,Q,hr,h,ht,hs,hq=>by simp [WQ] at h
  | n+1,rd,t,t',A,B,e,ρ,base,a,w,Q,hr,h,ht,hs,hq=>by
    rw [roundsIn_succ]
    simp only [WR,TD] at h
    split at h
    · rename_i t1 C h1
      refine hf rd t t1 A C .normal ρ base a w _ hr h1 ht hs fun ak a' w' v5 v7 hg=>?_
      refine NP hf n rd t1 t' C B e ak base a' w' Q hr h v5 hg.dz fun kP Dv tT adh adi Bk=>?_
      exact hq kP Dv tT adh (v7.trans Bk hg.kept.size adi) (hg.trans Bk)
    · rename_i bR
      refine hf rd t t' A B e ρ base a w _ hr h ht hs fun ak a' w' v5 v7 hg=>?_
      have Bm:=hq ak a' w' v5 v7 hg
      cases e with
      | normal=>exact absurd h (bR t' B)
      | exit id=>exact Bm
      | goto l=>exact Bm
      | ret=>exact Bm
section
variable {P:Program} {b:Frame} {a:Act} {k:List Item} {cs:List Frame} {w:World}
theorem Ve {c:Code} : step P (lone (b.atR a (.code (.scope c) :: k)) cs w) = .next (lone (b.atR a (.code c :: .inScope c :: k)) cs w):=
  step_lone_go (by simp [stepG,stepG.exec,Frame.atR])
theorem FF {c:Code} : step P (lone (b.atR a (.inScope c :: k)) cs w) = .next (lone (b.atR a k) cs w):=
  step_lone_go (by simp [stepG,stepG.exec,Frame.atR])
end
def Hf (rd:Option Nat) (P:Program) (c:Code) (Q:Exit→Act→World→Prop):Nat→Exit→Act→World→Prop
  | 0,.goto _,_,_=>False
  | n+1,.goto l,a,w=>match findLabel c l with
    | some rest=>rest.wpIn (Fr rd) 0 P (Hf rd P c Q n) a w
    | none=>Q (.goto l) a w
  | _,e,a,w=>Q e a w
theorem Xj {rd:Option Nat} {P:Program} {c:Code} {Q:Exit→Act→World→Prop} {a:Act} {w:World} (n:Nat) (h:c.wpIn (Fr rd) 0 P (Hf rd P c Q n) a w):(Code.scope c).wpIn (Fr rd) 0 P Q a w:=by
  intro b k cs Zt hb hr
  have key:∀ n e a w,Hf rd P c Q n e a w→∀ m,ArrivesIn (Machine.fenced P (Fr rd)) P m b (.inScope c :: k) cs e a w→∃ e' a' w',Q e' a' w'∧ArrivesIn (Machine.fenced P (Fr rd)) P m b k cs e' a' w':=by
    have hx:∀ id,exitTo id (.inScope c :: k)=exitTo id k:=fun id=>by simp [exitTo]
    intro n
    induction n with
    | zero=>
      intro e a w hq m j8
      cases e with
      | normal=>exact ⟨.normal,a,w,hq,StepsIn.trans j8 (.one (fenced_calm hb hr rfl) FF)⟩
      | exit id=>exact ⟨.exit id,a,w,hq,fun k' hk=>j8.1 k' (by rw [hx]; exact hk),fun vZ hk=>j8.2 vZ (by rw [hx]; exact hk)⟩
      | goto l=>exact hq.elim
      | ret=>exact ⟨_,a,w,hq,j8⟩
      | panic ch=>exact ⟨_,a,w,hq,j8⟩
      | outgrown=>exact ⟨_,a,w,hq,j8⟩
    | succ n ih=>
      intro e a w hq m j8
      cases e with
      | normal=>exact ⟨.normal,a,w,hq,StepsIn.trans j8 (.one (fenced_calm hb hr rfl) FF)⟩
      | exit id=>exact ⟨.exit id,a,w,hq,fun k' hk=>j8.1 k' (by rw [hx]; exact hk),fun vZ hk=>j8.2 vZ (by rw [hx]; exact hk)⟩
      | goto l=>
        simp only [Hf] at hq
        cases hf:findLabel c l with
        | none=>
          rw [hf] at hq
          have hg:gotoIn l (.inScope c :: k)=gotoIn l k:=by simp [gotoIn,hf]
          exact ⟨.goto l,a,w,hq,fun k' hk=>j8.1 k' (by rw [hg]; exact hk),fun vZ hk=>j8.2 vZ (by rw [hg]; exact hk)⟩
        | some rest=>
          rw [hf] at hq
          have hg:gotoIn l (.inScope c :: k)=some (.code rest :: .inScope c :: k):=by simp [gotoIn,hf]
          obtain ⟨ahd,ahe,ahf,agr,adj⟩:=hq b (.inScope c :: k) cs Zt hb hr
          obtain ⟨ahg,ahh,ahi,ags,adk⟩:=ih ahd ahe ahf agr _ adj
          exact ⟨ahg,ahh,ahi,ags,.of_steps (j8.1 _ hg) adk⟩
      | ret=>exact ⟨_,a,w,hq,j8⟩
      | panic ch=>exact ⟨_,a,w,hq,j8⟩
      | outgrown=>exact ⟨_,a,w,hq,j8⟩
  obtain ⟨e,ahj,ahk,hq,j8⟩:=h b (.inScope c :: k) cs Zt hb hr
  obtain ⟨e',a',w',Bm,agt⟩:=key n e ahj ahk hq _ j8
  exact ⟨e',a',w',Bm,.of_steps (.one (fenced_calm hb hr rfl) Ve) agt⟩
def Vf (P:Program) (N:Nat) (c:Code) (l:Nat):Option (Tm→St→mr)→Prop
  | some f=>∃ rest,findLabel c l=some rest∧(eN c=true→eN rest=true)∧Dw P N rest f
  | none=>findLabel c l=none
theorem K0 {P:Program} {N:Nat} {c:Code} {jump:Nat→Option (Tm→St→mr)} (hj:∀ l,Vf P N c l (jump l)) {base:Nat} {rd:Option Nat} (jv:rd=none∨eN c=true) {Q:Exit→Act→World→Prop} :
    ∀ (n:Nat) (r:mr) (t' : Tm) (A B:St) (e:ai) (ρ:ao) (a0:Act) (w0:World),va jump n r=some (e,t',B)→jC ρ A base w0→
      (∀ ak a' w',TR ak t' N a'→Defs w0.heap.size a0 a' ak B w'→da base ρ A w0 ak B w'→Q e.out a' w')→
      ∀ t1 C e1,r=some (e1,t1,C)→∀ hX a1 w1,TR hX t1 N a1→Defs w0.heap.size a0 a1 hX C w1→da base ρ A w0 hX C w1→Hf rd P c Q n e1.out a1 w1
  | 0,r,t',A,B,e,ρ,a0,w0,h,hs,hq=>by simp [va] at h
  | n+1,r,t',A,B,e,ρ,a0,w0,h,hs,hq=>by
    intro t1 C e1 hr hX a1 w1 ht v7 hg
    subst hr
    cases e1 with
    | goto l=>
      simp only [va] at h
      have hjl:=hj l
      simp only [ai.out,Hf]
      split at h
      · rename_i f hf
        rw [hf] at hjl
        obtain ⟨rest,h1,h1r,h2⟩:=hjl
        rw [h1]
        simp only
        have Hg:∃ e2 t2 D,f t1 C=some (e2,t2,D):=by
          cases wC:f t1 C with
          | none=>rw [wC] at h; cases n <;> simp [va] at h
          | some p=>exact ⟨p.1,p.2.1,p.2.2,rfl⟩
        obtain ⟨e2,t2,D,wC⟩:=Hg
        refine h2 rd t1 t2 C D e2 hX base a1 w1 _ (jv.imp id h1r) wC ht hg.dz fun kc a2 w2 yO adl Cg=>?_
        exact K0 hj jv n (f t1 C) t' A B e ρ a0 w0 h hs hq t2 D e2 wC kc a2 w2 yO (v7.trans Cg hg.kept.size adl) (hg.trans Cg)
      · rename_i hf
        rw [hf] at hjl
        have hjl:findLabel c l=none:=hjl
        rw [hjl]
        simp only [Option.some.injEq,Prod.mk.injEq] at h
        obtain ⟨rfl,rfl,rfl⟩:=h
        exact hq hX a1 w1 ht v7 hg
    | normal=>
      simp only [va,Option.some.injEq,Prod.mk.injEq] at h
      obtain ⟨rfl,rfl,rfl⟩:=h
      exact hq hX a1 w1 ht v7 hg
    | exit id=>
      simp only [va,Option.some.injEq,Prod.mk.injEq] at h
      obtain ⟨rfl,rfl,rfl⟩:=h
      exact hq hX a1 w1 ht v7 hg
    | ret=>
      simp only [va,Option.some.injEq,Prod.mk.injEq] at h
      obtain ⟨rfl,rfl,rfl⟩:=h
      exact hq hX a1 w1 ht v7 hg
theorem QH {P:Program} {N:Nat} {x y:Code} {f g:Tm→St→mr} (hx:Dw P N x f) (hy:Dw P N y g):Dw P N (.seq x y) fun t A=>wy (f t A) g:=by
  intro rd t t' A B e ρ base a w Q hr h ht hs hq
  have hrx:rd=none∨eN x=true:=hr.imp id fun h=>(Bool.and_eq_true_iff.1 (by simpa only [eN] using h)).1
  have hry:rd=none∨eN y=true:=hr.imp id fun h=>(Bool.and_eq_true_iff.1 (by simpa only [eN] using h)).2
  refine wpIn_seq ?_
  have h:wy (f t A) g=some (e,t',B):=h
  unfold wy at h
  split at h
  · rename_i t1 C h1
    refine hx rd t t1 A C .normal ρ base a w _ hrx h1 ht hs fun ak a' w' v5 v7 hg=>?_
    refine hy rd t1 t' C B e ak base a' w' Q hry h v5 hg.dz fun kP Dv tT adh adi Bk=>?_
    exact hq kP Dv tT adh (v7.trans Bk hg.kept.size adi) (hg.trans Bk)
  · rename_i bR
    refine hx rd t t' A B e ρ base a w _ hrx h ht hs fun ak a' w' v5 v7 hg=>?_
    have Bm:=hq ak a' w' v5 v7 hg
    cases e with
    | normal=>exact absurd h (bR t' B)
    | exit id=>exact Bm
    | goto l=>exact Bm
    | ret=>exact Bm
theorem World.heap_alloc_old (w:World) (o:Obj) {k:Nat} (h:k < w.heap.size):(w.alloc o).heap[k]? = w.heap[k]?:=RowKit.Below.heap_alloc _ _ _ h
theorem Xk {ρ:ao} {A:St} {base:Nat} {w:World} (hs:jC ρ A base w) (o:Obj):da base ρ A w ρ A (w.alloc o):=
  ⟨⟨.rZ (fun b o' hg hd=>by obtain ⟨l,h1,h2⟩:=hs.rel.obj hg hd; exact ⟨l,h1,h2.gY (ao.le_refl _) (World.heap_alloc_old _ _ (h2.lt hd)) (by simp)⟩) hs.rel.apart hs.rel.ba,hs.gk,Nat.le_trans hs.size (by simp),hs.mS⟩,
    fun _ _=>rfl,⟨rfl,rfl,rfl,by simp,fun k hk _=>World.heap_alloc_old _ _ hk⟩,Nat.le_refl _,Nat.le_refl _,fun _ _ _=>rfl,fun _ _ h=>h⟩
theorem jC.ae9 {ρ:ao} {A:St} {base:Nat} {w:World} (hs:jC ρ A base w) {k:Nat} (h:B4 ρ A k):k < w.heap.size:=by
  obtain ⟨b,o,l,hg,hm,hr,rfl⟩:=h
  have hd:o≠.dead:=by intro e; subst e; simp [bD.cG] at hm
  obtain ⟨l2,e,ok⟩:=hs.rel.obj hg hd
  rw [hr] at e; simp at e; subst e
  exact ok.lt hd
theorem Zw {ρ ak:ao} {A B:St} {base D:Nat} {w0 w:World} (hg:da base ρ A w0 ak B w) (hD:w0.heap.size≤D) (hb:base≤D) (hn : ¬ B4 ak B D) (o:Obj):da base ρ A w0 ak B (w.putObj D o):=by
  have Fk:∀ b o' l,B.get b=some o'→o'≠.dead→ak b=some l→pr ak base w l o'→l.cb≠D:=by
    intro b o' l hgb hd hr ok e
    cases hm:o'.cG with
    | true=>exact hn ⟨b,o',l,hgb,hm,hr,e⟩
    | false=>
      cases o' with
      | row cs bm own bo=>
        have fY:wz ak base w l cs bm own bo:=ok
        have:=fY.nA hm
        omega
      | map _=>simp [bD.cG] at hm
      | iter _ _=>simp [bD.cG] at hm
      | dead=>exact hd rfl
      | loop _ _ _ _ _ _=>simp [bD.cG] at hm
  refine ⟨⟨.rZ (fun b o' hgb hd=>?_) hg.dz.rel.apart hg.dz.rel.ba,hg.dz.gk,by simpa using hg.dz.size,hg.dz.mS⟩,hg.ext,⟨hg.kept.os,hg.kept.tape,hg.kept.output,by simpa using hg.kept.size,fun k hk hnk=>?_⟩,hg.next,hg.low,hg.same,hg.PW⟩
  · obtain ⟨l,h1,h2⟩:=hg.dz.rel.obj hgb hd
    exact ⟨l,h1,h2.gY (ao.le_refl _) (World.putObj_heap_other (Fk b o' l hgb hd h1 h2)) (by simp)⟩
  · rw [World.putObj_heap_other (by omega)]
    exact hg.kept.block k hk hnk
theorem Bn {ρ:ao} {A:St} {base:Nat} {w:World} {r st:Nat} {e:ai} {t:Tm} {ps:List Nat} {a b:Code} {l:Loc} (hs:jC ρ A base w) (hg:A.get r=some (.loop st e t ps a b)) (gL:ρ r=some l)
    (o2:bD) (obj:Obj) (Qd:o2.jb=none) (bc:o2≠.dead→pr ρ base (w.putObj l.cb obj) l o2):da base ρ A w ρ (A.put r o2) (w.putObj l.cb obj):=by
  obtain ⟨l',ka,ok⟩:=hs.rel.loop _ _ _ _ _ _ _ hg
  rw [gL] at ka; simp at ka; subst ka
  have vh:bD.cG (.loop st e t ps a b)=true:=rfl
  have hold:∀ k,k≠l.cb→(w.putObj l.cb obj).heap[k]? = w.heap[k]?:=fun k hk=>World.putObj_heap_other hk
  have hB:∀ x,(A.put r o2).get x=if x=r then some o2 else A.get x:=fun x=>St.bO _ _ _ _
  have Fk:∀ x o l2,x≠r→A.get x=some o→o≠.dead→ρ x=some l2→pr ρ base w l2 o→l2.cb≠l.cb:=by
    intro x o l2 hx fa hd n7 fY e
    cases Ft:o.cG with
    | true=>
      obtain ⟨_,_,_,_,e1,_⟩:=hs.rel.apart x r o _ l2 l hx fa hg Ft vh n7 gL e
      simp [bD.jb] at e1
    | false=>
      cases o with
      | row cs bm own bo=>
        have fY:wz ρ base w l2 cs bm own bo:=fY
        have h1:own=false:=Ft
        have:=fY.nA h1
        have:=ok.cG
        omega
      | map _=>simp [bD.cG] at Ft
      | iter _ _=>simp [bD.cG] at Ft
      | dead=>exact hd rfl
      | loop _ _ _ _ _ _=>simp [bD.cG] at Ft
  refine ⟨⟨.rZ ?_ ?_ ?_,fun b l2 h=>hs.gk b l2 h,by simpa using hs.size,hs.mS⟩,fun _ _=>rfl,⟨rfl,rfl,rfl,by simp,fun k hk hn=>hold k (fun e=>hn ⟨r,_,l,hg,vh,gL,e.symm⟩)⟩,Nat.le_refl _,Nat.min_le_left _ _,fun x hx Zc=>?_,?_⟩
  · intro x o fa hd
    rw [hB] at fa
    split at fa
    · rename_i e; subst e; simp at fa; subst fa
      exact ⟨l,gL,bc hd⟩
    · rename_i e
      obtain ⟨l2,n7,fY⟩:=hs.rel.obj fa hd
      exact ⟨l2,n7,fY.gY (ao.le_refl _) (hold _ (Fk x o l2 e fa hd n7 fY)) (by simp)⟩
  · have Fl:∀ x o,(A.put r o2).get x=some o→o.cG=true→∃ o',A.get x=some o'∧o'.cG=true∧o'.jb=o.jb:=by
      intro x o hx hm
      rw [hB] at hx
      split at hx
      · rename_i e; subst e; simp at hx; subst hx; exact ⟨_,hg,rfl,Qd.symm⟩
      · exact ⟨o,hx,hm,rfl⟩
    intro b1 b2 o1 o2 l1 l2 bR g1 g2 m1 m2 r1 r2 xG
    obtain ⟨p1,q1,n1,k1⟩:=Fl _ _ g1 m1
    obtain ⟨p2,q2,n2,k2⟩:=Fl _ _ g2 m2
    rw [← k1,← k2]
    exact hs.rel.apart b1 b2 p1 p2 l1 l2 bR q1 q2 n1 n2 r1 r2 xG
  · intro x o aW f fa hk
    rw [hB] at fa
    split at fa
    · rename_i e; subst e; simp at fa; subst fa; rw [Qd] at hk; simp at hk
    · exact hs.rel.ba x o aW f fa hk
  · rw [St.Ku] at Zc
    have:Nat.min A.low r≤r:=Nat.min_le_right _ _
    rw [hB,if_neg (by omega)]
  · rintro k hk ⟨x,o,l2,fa,hm,n7,rfl⟩
    rw [hB] at fa
    split at fa
    · rename_i e; subst e
      rw [gL] at n7; simp at n7; subst n7
      exact ⟨x,_,l,hg,vh,gL,rfl⟩
    · exact ⟨x,o,l2,fa,hm,n7,rfl⟩
theorem jC.K1 {ρ:ao} {A:St} {base:Nat} {w:World} {r st:Nat} {e:ai} {t:Tm} {ps:List Nat} {a b:Code} {l:Loc} (hs:jC ρ A base w) (hg:A.get r=some (.loop st e t ps a b)) (gL:ρ r=some l):Ar ρ base w l st e t ps a b:=by
  obtain ⟨l',ka,ok⟩:=hs.rel.loop _ _ _ _ _ _ _ hg
  rw [gL] at ka; simp at ka; subst ka
  exact ok
theorem Vg {P:Program} {call:db} (fo:qU P call) {N:Nat} {g:Operand} {ps:Array Tmp} {assign body:Code} (hps:ps.toList.all (fun p=>Nat.blt p N)=true) (hca:codeOk N assign=true) (xG:codeOk N body=true) (Bi:eN assign=true) (QI:eN body=true) :
    Dw P N (.rangeFunc g ps assign body) (Pk call g ps.toList assign body):=by
  intro rd t t' A B e ρ base a w Q hr h ht hs hq
  have jv:rd=none:=hr.resolve_right (by simp [eN])
  subst jv
  unfold Pk at h
  split at h
  · rename_i f first cap hg
    cases hb:Nat.blt f yB with
    | false=>rw [hb] at h; simp at h
    | true=>
      rw [hb,cond_true] at h
      obtain ⟨⟨v,C⟩,h1,h2⟩:=Option.bind_eq_some_iff.1 h
      have jh:=ht.ev g
      rw [hg] at jh
      obtain ⟨f',c',tg,jh,hf1,hf2,Mx⟩:=jh.wG
      have Mx:tg = .func f:=Mx
      subst Mx
      refine wpIn_rangeFunc fun fn _=>?_
      obtain ⟨rec,fZ⟩:∃ rec:Loop,rec = { state:=.ready,pending:=none,fn,tmps:=a.tmps,params:=ps,assign,body,defers:=w.heap.size }:=⟨_,rfl⟩
      let l:Loc:=⟨w.heap.size+1,0,0,0⟩
      have vY:da base ρ A w ρ A (w.alloc (.deferred (some []))):=Xk hs _
      have Zr:da base ρ A (w.alloc (.deferred (some []))) (ρ.set A.next l) (A.new (.loop 0 .normal t ps.toList assign body)) ((w.alloc (.deferred (some []))).alloc (.loop rec)):=by
        refine wD (o:=.loop 0 .normal t ps.toList assign body) vY.dz (fun x=>by simp) (fun f x h=>by simpa using h) (fun aW f h=>by simp [bD.jb] at h) (by simp) (by simp) (fun x hx _=>by simp; omega) (by simp [l]) ?_
        refine ⟨Nat.le_trans hs.size (Nat.le_succ _),fn,a.tmps,w.heap.size,N,?_,⟨ht.size,fun i=>(ht.val i).mono (vY.dz.yK _),ht.none,hps,hca,xG,Bi,QI⟩⟩
        have:=World.alloc_heap_new (w.alloc (.deferred (some []))) (.loop rec)
        rw [World.size_alloc] at this
        rw [fZ] at this
        simpa [l,Dh,ai.code,fZ] using this
      have QJ:Defs w.heap.size a { a with defers:=[mark w.heap.size] ++ a.defers } ρ A (w.alloc (.deferred (some []))):=
        ⟨[w.heap.size],rfl,fun D hD=>by
          rw [List.mem_singleton] at hD; subst hD
          exact ⟨Nat.le_refl _,World.alloc_heap_new w _,fun hi=>absurd (hs.ae9 hi) (Nat.lt_irrefl _)⟩,by simp⟩
      have Zx:cO (ρ.set A.next l) (first.toList ++ [Value.func (.yield A.next) ⟨[]⟩ ⟨[]⟩] ++ cap.toList) (f'.toList ++ [Value.func (.yield (w.heap.size+1)) #[] #[]] ++ c'.toList):=by
        have hle:=vY.dz.yK l
        refine cO.append (cO.append (hf1.mono hle) (.cons ?_ .nil)) (hf2.mono hle)
        simp only [VR]
        exact ⟨#[],#[],by simp [oX,cO],by simp [oX,cO],.yield (w.heap.size+1),⟨l,ao.jF _ _ _,rfl⟩,rfl⟩
      obtain ⟨Mx,hc⟩:=fo _ _ _ _ _ h1
      obtain ⟨fnf,h4,h5,h6⟩:=Mx hb
      have HP:fnf.body.isNone=false:=by simpa using h5
      have hh : ¬(fnf.name = "runtime.NumGoroutine") := by simpa using h6
      have afa:=(hc _ _ base _ Zx Zr.dz).1 hb
      refine ⟨w.heap.size+1,[mark w.heap.size],(w.alloc (.deferred (some []))).alloc (.loop rec),{ target:=.fn (.func f) c',args:=f' ++ #[.func (.yield (w.heap.size+1)) #[] #[]] },(w.alloc (.deferred (some []))).alloc (.loop rec),f,
        (f'.toList ++ [Value.func (.yield (w.heap.size+1)) #[] #[]] ++ c'.toList).toArray,(w.alloc (.deferred (some []))).alloc (.loop rec),?_,?_,fun _ _=>trivial,?_,fun h=>by simp [Fence.wide] at h,?_⟩
      · rw [fZ]; exact run_enterLoop_outer _ _ _ _ _
      · simp only [resolve,Deferred.ofValue,jh,Sem.run_pure]
        simp [Act.eval]
      · simp only [invoke,callFunc,Sem.run_bind,Result.andThen_ok,run_program,h4]
        simp [hh,HP]
      · refine CallsIn.mono (F:=Fr none) (n:=0) (R:=fun e w'=>∃ ak v',e = .returned v'∧VR ak v v'∧da base (ρ.set A.next l) (A.new (.loop 0 .normal t ps.toList assign body)) ((w.alloc (.deferred (some []))).alloc (.loop rec)) ak C w') ((callsIn_wide (n:=0)).2 afa) ?_
        rintro ee w' ⟨ak,v',rfl,Jn,Bk⟩
        have ka:ak A.next=some l:=by rw [Bk.ext A.next (by simp)]; exact ao.jF _ _ _
        have im:=(vY.trans Zr).trans Bk
        have v5:TR ak t N { a with defers:=[mark w.heap.size] ++ a.defers }:=⟨ht.size,fun i=>(ht.val i).mono (im.le hs),ht.none,ht.mS.mono (im.le hs)⟩
        have aaD:=(QJ.gY Zr).gY Bk
        have fin:∀ {st:Nat} {e0:ai} {t0:Tm} {ps0:List Nat} {a0 b0:Code},C.get A.next=some (.loop st e0 t0 ps0 a0 b0)→st≠1→∃ w4,(Instr.endLoop (w.heap.size+1)).run P w' = .ok e0.code w4∧da base ak C w' ak (C.put A.next .dead) w4:=by
          intro st e0 t0 ps0 a0 b0 gp gm
          obtain ⟨fn2,tmps2,D2,N2,h7,_⟩:=(Bk.dz.K1 gp ka).j7
          refine ⟨_,run_endLoop (l:=w.heap.size+1) h7 (by cases st with | zero=>simp [Dh] | succ n=>cases n with | zero=>exact absurd rfl gm | succ n=>simp [Dh]),?_⟩
          exact Bn Bk.dz gp ka .dead _ rfl (fun h=>absurd rfl h)
        unfold TF at h2
        split at h2
        · rename_i gp
          simp only [Option.some.injEq,Prod.mk.injEq] at h2
          obtain ⟨rfl,rfl,rfl⟩:=h2
          obtain ⟨w4,h7,h8⟩:=fin gp (by simp)
          exact ⟨_,w4,h7,hq ak _ w4 v5 (aaD.gY h8) (im.trans h8)⟩
        · rename_i e0 _ _ _ _ gp
          simp only [Option.some.injEq,Prod.mk.injEq] at h2
          obtain ⟨rfl,rfl,rfl⟩:=h2
          obtain ⟨w4,h7,h8⟩:=fin gp (by simp)
          have Bm:=hq ak _ w4 v5 (aaD.gY h8) (im.trans h8)
          refine ⟨_,w4,h7,?_⟩
          cases e0 with
          | normal=>exact Bm
          | exit id=>exact wpIn_exit Bm
          | goto l=>exact wpIn_goto Bm
          | ret=>exact wpIn_ret Bm
        · simp at h2
  · simp at h
mutual
theorem lv {P:Program} {call:db} (fo:qU P call) (hm:P.follows .mixedOrders=true) (L N:Nat):∀ (c:Code),codeOk N c=true→Dw P N c (jI P call L c)
  | .skip,_=>by
    intro rd t t' A B e ρ base a w Q hr h ht hs hq
    simp only [WT,Option.some.injEq,Prod.mk.injEq] at h
    obtain ⟨rfl,rfl,rfl⟩:=h
    exact wpIn_skip (hq ρ a w ht (.refl _ _ _ _ _) (.refl hs))
  | .ret,_=>by
    intro rd t t' A B e ρ base a w Q hr h ht hs hq
    simp only [Y7,Option.some.injEq,Prod.mk.injEq] at h
    obtain ⟨rfl,rfl,rfl⟩:=h
    exact wpIn_ret (hq ρ a w ht (.refl _ _ _ _ _) (.refl hs))
  | .exit id,_=>by
    intro rd t t' A B e ρ base a w Q hr h ht hs hq
    simp only [WU,Option.some.injEq,Prod.mk.injEq] at h
    obtain ⟨rfl,rfl,rfl⟩:=h
    exact wpIn_exit (hq ρ a w ht (.refl _ _ _ _ _) (.refl hs))
  | .region id ops false,hc=>by
    intro rd t t' A B e ρ base a w Q hr h ht hs hq
    simp only [Y8] at h
    obtain ⟨⟨t1,C⟩,h1,he⟩:=Option.map_eq_some_iff.1 h
    simp at he
    obtain ⟨rfl,rfl,rfl⟩:=he
    refine wpIn_region ?_
    have:=Ju (rd:=rd) (Q:=Q) fo (N:=N) (all:=ops.toList) hc ops.toList 0 t t1 A C ρ a w (by simp) h1 ht hs fun ak a' w' h1 h2 h3=>hq ak a' w' h1 (.same h2) h3
    rw [List.range_eq_range']
    simpa using this
  | .region id ops true,hc=>by
    intro rd t t' A B e ρ base a w Q hr h ht hs hq
    simp only [UJ] at h
    obtain ⟨⟨t1,C⟩,h1,he⟩:=Option.map_eq_some_iff.1 h
    simp at he
    obtain ⟨rfl,rfl,rfl⟩:=he
    cases hqv:GZ P ops.toList with
    | true=>rw [hqv,cond_true] at h1; exact Vc (all:=ops.toList) fo hm hc hqv h1 ht hs fun ak a' w' h1 h2 h3=>hq ak a' w' h1 (.same h2) h3
    | false=>
      rw [hqv,cond_false] at h1
      cases hov:uC P ops.toList with
      | true=>rw [hov,cond_true] at h1; exact QG (all:=ops.toList) fo hm hc hov h1 ht hs fun ak a' w' h1 h2 h3=>hq ak a' w' h1 (.same h2) h3
      | false=>rw [hov,cond_false] at h1; exact Va (all:=ops.toList) fo hm hc h1 ht hs fun ak a' w' h1 h2 h3=>hq ak a' w' h1 (.same h2) h3
  | .seq x y,hc=>by
    simp only [codeOk,Bool.and_eq_true] at hc
    have:=QH (lv fo hm L N x hc.1) (lv fo hm L N y hc.2)
    intro rd t t' A B e ρ base a w Q hr h ht hs hq
    simp only [Y9] at h
    exact this rd t t' A B e ρ base a w Q hr h ht hs hq
  | .cond c x y,hc=>by
    simp only [codeOk,Bool.and_eq_true] at hc
    intro rd t t' A B e ρ base a w Q hr h ht hs hq
    simp only [WW] at h
    split at h
    · rename_i b hb
      have hb:=Xi ht hb
      cases b with
      | true=>exact wpIn_cond_true hb (lv fo hm L N x hc.1 rd t t' A B e ρ base a w Q (hr.imp id fun h=>(Bool.and_eq_true_iff.1 (by simpa only [eN] using h)).1) h ht hs hq)
      | false=>exact wpIn_cond_false hb (lv fo hm L N y hc.2 rd t t' A B e ρ base a w Q (hr.imp id fun h=>(Bool.and_eq_true_iff.1 (by simpa only [eN] using h)).2) h ht hs hq)
    · simp at h
  | .block id x,hc=>by
    have hc:codeOk N x=true:=hc
    intro rd t t' A B e ρ base a w Q hr h ht hs hq
    simp only [UK] at h
    refine wpIn_block ?_
    split at h
    · rename_i pd t1 C h1
      refine lv fo hm L N x hc rd t t1 A C (.exit pd) ρ base a w _ hr h1 ht hs fun ak a' w' v5 v7 hg=>?_
      cases hb:Nat.beq pd id with
      | true=>
        rw [hb,cond_true] at h
        simp only [Option.some.injEq,Prod.mk.injEq] at h
        obtain ⟨rfl,rfl,rfl⟩:=h
        have:=Nat.eq_of_beq_eq_true hb
        simp only [ai.out,Exit.inBlock,if_pos this]
        exact hq ak a' w' v5 v7 hg
      | false=>
        rw [hb,cond_false] at h
        simp only [Option.some.injEq,Prod.mk.injEq] at h
        obtain ⟨rfl,rfl,rfl⟩:=h
        have:=Nat.ne_of_beq_eq_false hb
        simp only [ai.out,Exit.inBlock,if_neg this]
        exact hq ak a' w' v5 v7 hg
    · rename_i bR
      refine lv fo hm L N x hc rd t t' A B e ρ base a w _ hr h ht hs fun ak a' w' v5 v7 hg=>?_
      have Bm:=hq ak a' w' v5 v7 hg
      cases e with
      | normal=>exact Bm
      | exit pd=>exact absurd h (bR pd t' B)
      | goto l=>exact Bm
      | ret=>exact Bm
  | .loop x,hc=>by
    have hc:codeOk N x=true:=hc
    intro rd t t' A B e ρ base a w Q hr h ht hs hq
    simp only [WX] at h
    exact wpIn_loop_rounds L (NP (lv fo hm L N x hc) L rd t t' A B e ρ base a w Q hr h ht hs hq)
  | .label l,_=>by
    intro rd t t' A B e ρ base a w Q hr h ht hs hq
    simp only [UI,Option.some.injEq,Prod.mk.injEq] at h
    obtain ⟨rfl,rfl,rfl⟩:=h
    exact wpIn_label (hq ρ a w ht (.refl _ _ _ _ _) (.refl hs))
  | .goto l,_=>by
    intro rd t t' A B e ρ base a w Q hr h ht hs hq
    simp only [WV,Option.some.injEq,Prod.mk.injEq] at h
    obtain ⟨rfl,rfl,rfl⟩:=h
    exact wpIn_goto (hq ρ a w ht (.refl _ _ _ _ _) (.refl hs))
  | .scope x,hc=>by
    have hc:codeOk N x=true:=hc
    intro rd t t' A B e ρ base a w Q hr h ht hs hq
    simp only [UL] at h
    refine Xj L ?_
    have Hg:∃ e2 t2 D,jI P call L x t A=some (e2,t2,D):=by
      cases wC:jI P call L x t A with
      | none=>rw [wC] at h; cases L <;> simp [va] at h
      | some p=>exact ⟨p.1,p.2.1,p.2.2,rfl⟩
    obtain ⟨e2,t2,D,wC⟩:=Hg
    refine lv fo hm L N x hc rd t t2 A D e2 ρ base a w _ hr wC ht hs fun kc a2 w2 yO adl Cg=>?_
    exact K0 (fun l=>FG fo hm L N x hc l) hr L _ t' A B e ρ a w h hs hq t2 D e2 wC kc a2 w2 yO adl Cg
  | .rangeFunc g ps x y,hc=>by
    simp only [codeOk,Bool.and_eq_true] at hc
    intro rd t t' A B e ρ base a w Q hr h ht hs hq
    simp only [Mt] at h
    cases hn:(eN x && eN y) with
    | false=>rw [hn,cond_false] at h; simp [Y5] at h
    | true=>
      rw [hn,cond_true] at h
      obtain ⟨Qi,hn2⟩:=Bool.and_eq_true_iff.1 hn
      exact Vg fo hc.1 hc.2.1 hc.2.2 Qi hn2 rd t t' A B e ρ base a w Q hr h ht hs hq
  | .refuse _,_=>by
    intro rd t t' A B e ρ base a w Q hr h ht hs hq
    simp [SJ] at h
theorem FG {P:Program} {call:db} (fo:qU P call) (hm:P.follows .mixedOrders=true) (L N:Nat):∀ (c:Code),codeOk N c=true→∀ l,Vf P N c l (Dg P call L c l)
  | .seq x y,hc,l=>by
    simp only [codeOk,Bool.and_eq_true] at hc
    have hx:=FG fo hm L N x hc.1 l
    have hy:=FG fo hm L N y hc.2 l
    simp only [Za]
    cases hf:Dg P call L x l with
    | some f=>
      rw [hf] at hx
      obtain ⟨rest,h1,h1r,h2⟩:=hx
      exact ⟨.seq rest y,by simp [findLabel,h1],fun h=>by simp only [eN,Bool.and_eq_true] at h ⊢; exact ⟨h1r h.1,h.2⟩,QH h2 (lv fo hm L N y hc.2)⟩
    | none=>
      rw [hf] at hx
      have hx:findLabel x l=none:=hx
      simp only
      cases hg:Dg P call L y l with
      | some f=>
        rw [hg] at hy
        obtain ⟨rest,h1,h1r,h2⟩:=hy
        exact ⟨rest,by simp [findLabel,hx,h1],fun h=>h1r (Bool.and_eq_true_iff.1 (by simpa only [eN] using h)).2,h2⟩
      | none=>
        rw [hg] at hy
        have hy:findLabel y l=none:=hy
        show findLabel (.seq x y) l=none
        simp [findLabel,hx,hy]
  | .label l',_,l=>by
    simp only [UM]
    cases hb:(l' == l) with
    | true=>
      rw [cond_true]
      refine ⟨.skip,by simp [findLabel,hb],fun _=>rfl,?_⟩
      intro rd t t' A B e ρ base a w Q hr h ht hs hq
      simp only [Option.some.injEq,Prod.mk.injEq] at h
      obtain ⟨rfl,rfl,rfl⟩:=h
      exact wpIn_skip (hq ρ a w ht (.refl _ _ _ _ _) (.refl hs))
    | false=>
      rw [cond_false]
      show findLabel (.label l') l=none
      simp [findLabel,hb]
  | .skip,_,_ | .ret,_,_ | .exit _,_,_ | .goto _,_,_ | .region _ _ _,_,_ | .cond _ _ _,_,_ | .block _ _,_,_ | .loop _,_,_ | .scope _,_,_ | .rangeFunc _ _ _ _,_,_ | .refuse _,_,_=>by
    first | rfl | (rw [WY]; rfl) | simp [Vf,findLabel]
end
theorem Dx:∀ (l:List Value) (i k:Nat) (t:Tm),(xF l i t).get k=if i≤k∧k < i+l.length then l[k - i]? else t.get k
  | [],i,k,t=>by
    rw [xF,if_neg]
    simp
  | v :: l,i,k,t=>by
    rw [xF,Dx l (i+1) k,Trie.iP]
    by_cases h1:k=i
    · subst h1
      rw [if_neg (by omega),if_pos rfl,if_pos (by simp)]
      simp
    · by_cases h2:i+1≤k∧k < i+1+l.length
      · rw [if_pos h2,if_pos (by simp; omega),show k - i=(k - (i+1))+1 by omega]
        simp
      · rw [if_neg h2,if_neg h1,if_neg (by simp; omega)]
def Dy (a:Act):ResultVar→Sem Value
  | .tmp t=>pure (a.tmps.getD t undef)
  | .cell ad ty=>do loadVar ty (← asAddr (a.tmps.getD ad undef))
theorem FH (fn:Func) (a:Act):results fn a.tmps=(do let vs ← fn.results.mapM (Dy a); pure (if h:vs.size=1 then vs[0] else .tuple vs)):=by
  unfold results
  congr 1
theorem zA {P:Program} {ρ:ao} {A:St} {base N:Nat} {w:World} {t:Tm} {a:Act} (hs:jC ρ A base w) (ht:TR ρ t N a):∀ (rs:List ResultVar) (vs:List Value),uD P A t rs=some vs→
    ∃ bP,cO ρ vs bP∧(rs.mapM (Dy a)).run P w=Result.ok bP w
  | [],vs,h=>by simp [uD] at h; subst h; exact ⟨[],.nil,by simp⟩
  | .tmp x :: rs,vs,h=>by
    simp only [uD] at h
    obtain ⟨us,hu,rfl⟩:=Option.map_eq_some_iff.1 h
    obtain ⟨SZ,h1,h2⟩:=zA hs ht rs us hu
    refine ⟨_ :: SZ,.cons (ht.ev (.tmp x)) h1,?_⟩
    simp [List.mapM_cons,h2,Act.eval,Dy]
  | .cell x ty :: rs,vs,h=>by
    simp only [uD] at h
    obtain ⟨v,hv,h⟩:=Option.bind_eq_some_iff.1 h
    obtain ⟨us,hu,rfl⟩:=Option.map_eq_some_iff.1 h
    obtain ⟨SZ,h1,h2⟩:=zA hs ht rs us hu
    obtain ⟨ad,h3,v',h4,h5⟩:=Bg (P:=P) hs.rel (ht.ev (.tmp x)) hv
    refine ⟨v' :: SZ,.cons h4 h1,?_⟩
    have h3:a.tmps.getD x undef = .pointer (some ad):=h3
    simp only [List.mapM_cons,Sem.run_bind,Dy,h3,asAddr,Sem.run_pure,Result.andThen_ok,h5,h2]
theorem da.leave {base:Nat} {ρ ak:ao} {A B:St} {w w' : World} {v v' : Value} (hs:jC ρ A base w) (h:da base ρ A.enter w ak B w') (hv:VR ak v v') :
    ∃ kP,VR kP v v'∧da base ρ A w kP (A.leave B v) w':=by
  have aaz:∀ k,B4 ρ A.enter k ↔ B4 ρ A k:=fun k=>Iff.rfl
  rw [St.abC]
  cases hc:(flat v && Nat.ble A.next B.low) with
  | true=>
    rw [cond_true]
    obtain ⟨hf,hl⟩:=Bool.and_eq_true_iff.1 hc
    have hl:A.next≤B.low:=Nat.le_of_ble_eq_true hl
    have gp:∀ b o,A.get b=some o→o≠.dead→b < A.next:=fun b o hg hd=>by
      obtain ⟨l,e,_⟩:=hs.rel.obj hg hd
      exact hs.gk _ _ e
    have yg:∀ b,b < A.next→B.get b=A.get b:=fun b hb=>h.same b hb (by omega)
    have afP:∀ b,b < A.next→ak b=ρ b:=h.ext
    refine ⟨ρ,by rw [hv.kO hf]; exact VR.of_flat hf,?_⟩
    refine ⟨⟨.rZ ?_ hs.rel.apart hs.rel.ba,hs.gk,Nat.le_trans hs.size h.kept.size,hs.mS⟩,fun _ _=>rfl,⟨h.kept.os,h.kept.tape,h.kept.output,h.kept.size,fun k hk hn=>h.kept.block k hk hn⟩,Nat.le_refl _,Nat.le_refl _,fun _ _ _=>rfl,fun _ _ hk=>hk⟩
    intro b o hg hd
    have hb:=gp b o hg hd
    obtain ⟨l,e,ok⟩:=h.dz.rel.obj (b:=b) (o:=o) (by rw [yg b hb]; exact hg) hd
    refine ⟨l,by rw [← afP b hb]; exact e,?_⟩
    obtain ⟨l0,e0,ok0⟩:=hs.rel.obj hg hd
    have hll:l=l0:=by rw [afP b hb,e0] at e; simpa using e.symm
    subst hll
    exact pr.back (h.le ⟨hs.rel,hs.gk,hs.size,hs.mS⟩) ok0 ok
  | false=>
    rw [cond_false]
    refine ⟨ak,hv,⟨h.dz.rel,h.dz.gk,h.dz.size,h.dz.mS⟩,h.ext,⟨h.kept.os,h.kept.tape,h.kept.output,h.kept.size,h.kept.block⟩,h.next,Nat.min_le_left _ _,fun b hb hl=>?_,h.PW⟩
    exact h.same b hb (Nat.lt_of_lt_of_le hl (Nat.min_le_right _ _))
theorem jU {n m:Nat} (h:n≤m):∀ (c:Code),codeOk n c=true→codeOk m c=true
  | .region id ops d,hc=>by
    simp only [codeOk,List.all_eq_true] at hc ⊢
    intro o ho
    have:=hc o ho
    unfold pk at this ⊢
    split at this
    · rename_i d e
      rw [Nat.blt_eq] at this ⊢
      omega
    · rfl
  | .seq a b,hc=>by simp only [codeOk,Bool.and_eq_true] at hc ⊢; exact ⟨jU h a hc.1,jU h b hc.2⟩
  | .cond _ a b,hc=>by simp only [codeOk,Bool.and_eq_true] at hc ⊢; exact ⟨jU h a hc.1,jU h b hc.2⟩
  | .block _ a,hc=>jU h a hc
  | .loop a,hc=>jU h a hc
  | .rangeFunc _ ps a b,hc=>by
    simp only [codeOk,Bool.and_eq_true,List.all_eq_true,Nat.blt_eq] at hc ⊢
    exact ⟨fun p hp=>Nat.lt_of_lt_of_le (hc.1 p hp) h,jU h a hc.2.1,jU h b hc.2.2⟩
  | .scope a,hc=>jU h a hc
  | .skip,_ | .exit _,_ | .label _,_ | .goto _,_ | .ret,_ | .refuse _,_=>rfl
theorem Ii {P:Program} {fn:Func} {tmps:Array Value} {R:Ending→World→Prop} {ρ ak:ao} {A B:St} {base:Nat} {w0:World} :
    ∀ (Ds:List Nat) {w:World},(∀ D ∈ Ds,w0.heap.size≤D∧base≤D∧w.heap[D]? = some (.deferred (some []))∧¬ B4 ak B D)→Ds.Nodup→da base ρ A w0 ak B w→
      (∀ w',da base ρ A w0 ak B w'→LeavesIn Fence.wide 0 P fn tmps R [] .returning w')→LeavesInM Fence.wide 0 P fn tmps R (Ds.map mark) .returning w
  | [],w,_,_,hg,h=>h w hg
  | D :: Ds,w,hD,hn,hg,h=>by
    obtain ⟨h1,h2,h3,h4⟩:=hD D (by simp)
    rw [List.nodup_cons] at hn
    refine ⟨by simp,.inl ⟨D,w.putObj D (.deferred none),rfl,run_takeDeferred h3,Ii Ds (fun E hE=>?_) hn.2 (Zw hg h1 h2 h4 _) h⟩⟩
    obtain ⟨k1,k2,k3,k4⟩:=hD E (by simp [hE])
    exact ⟨k1,k2,by rw [World.putObj_heap_other (fun e=>hn.1 (by rw [← e]; exact hE))]; exact k3,k4⟩
theorem Xl {P:Program} {call:db} (fo:qU P call) (hm:P.follows .mixedOrders=true) (L:Nat) {f:FuncId} {fn:Func} {c:Code} {args:List Value} {A B:St} {v:Value} (hf:P.funcs[f]? = some fn) (hb:fn.body=some c) (bc:codeOk fn.ntmps c=true)
    (h:PV P call L fn args A c=some (v,B)) {ρ:ao} {cL:List Value} {base:Nat} {w:World} (hv:cO ρ args cL) (hs:jC ρ A base w) :
    Calls P f cL.toArray w fun e w'=>∃ ak v',e = .returned v'∧VR ak v v'∧da base ρ A w ak B w':=by
  refine callsIn_wide.1 (callsIn_of_wp_marks (F:=Fence.wide) (n:=0) hf hb trivial ?_)
  have hlen:cL.length=args.length:=hv.length
  have Kz:jC ρ A.enter base w:=⟨hs.rel,hs.gk,hs.size,hs.mS⟩
  have ht:TR ρ (xF args 0 .leaf) (max fn.ntmps args.length) { tmps:=cL.toArray ++ Array.replicate (fn.ntmps - cL.toArray.size) undef,defers:=[] }:=by
    have du:(cL.toArray ++ Array.replicate (fn.ntmps - cL.toArray.size) undef).size=max fn.ntmps args.length:=by
      simp [hlen]
      omega
    refine ⟨du,fun i=>?_,fun i hi=>?_,hs.mS⟩
    · rw [Dx]
      simp only [Nat.zero_le,true_and,Nat.zero_add,Nat.sub_zero,Trie.zb]
      by_cases hi:i < args.length
      · rw [if_pos hi]
        obtain ⟨u,hu⟩:∃ u,args[i]? = some u:=⟨_,List.getElem?_eq_getElem hi⟩
        obtain ⟨u',h1,h2⟩:=hv.get hu
        rw [hu]
        have:(cL.toArray ++ Array.replicate (fn.ntmps - cL.toArray.size) undef).getD i undef=u':=by
          rw [Array.getD_eq_getD_getElem?,Array.getElem?_append_left (by simpa [hlen] using hi)]
          simp [h1]
        rw [this]
        exact h2
      · rw [if_neg hi]
        have:(cL.toArray ++ Array.replicate (fn.ntmps - cL.toArray.size) undef).getD i undef=undef:=by
          rw [Array.getD_eq_getD_getElem?,Array.getElem?_append_right (by simpa [hlen] using hi)]
          rw [Array.getElem?_replicate]
          split <;> rfl
        rw [this]
        exact VR.undef
    · rw [Dx,if_neg,Trie.zb]
      simp only [Nat.zero_le,true_and,Nat.zero_add]
      have:=Nat.le_max_right fn.ntmps args.length
      omega
  have Ij:codeOk (max fn.ntmps args.length) c=true:=jU (Nat.le_max_left _ _) c bc
  rw [abD] at h
  split at h
  · simp at h
  · simp at h
  · rename_i e t B' bR ahl hc
    obtain ⟨vs,hr,he⟩:=Option.map_eq_some_iff.1 h
    simp at he
    obtain ⟨rfl,rfl⟩:=he
    refine lv fo hm L _ c Ij none _ _ _ _ _ ρ base _ w _ (.inl rfl) hc ht Kz fun ak a' w' v5 v7 hg=>?_
    obtain ⟨Ds,hD1,hD2,hD3⟩:=v7
    have hD1:a'.defers=Ds.map mark:=by simpa using hD1
    have aaE:LeavesInM Fence.wide 0 P fn a'.tmps (fun e w'=>∃ ak v',e = .returned v'∧VR ak (pY vs) v'∧da base ρ A w ak (A.leave B' (pY vs)) w') a'.defers .returning w':=by
      rw [hD1]
      refine Ii Ds (fun D hD=>⟨(hD2 D hD).1,Nat.le_trans hs.size (hD2 D hD).1,(hD2 D hD).2⟩) hD3 hg fun w' hg=>?_
      obtain ⟨bP,h1,h2⟩:=zA (P:=P) hg.dz v5 _ _ hr
      have agu:VR ak (pY vs) (if h:bP.toArray.size=1 then bP.toArray[0] else .tuple bP.toArray):=by
        cases vs with
        | nil=>rw [h1.bJ]; exact VR.mkTuple .nil
        | cons x xs=>
          obtain ⟨y,ys,rfl,h3,h4⟩:=h1.cons_inv
          cases xs with
          | nil=>rw [h4.bJ]; exact h3
          | cons x2 xs2=>
            obtain ⟨y2,ys2,rfl,h5,h6⟩:=h4.cons_inv
            rw [dif_neg (by simp)]
            exact VR.mkTuple (.cons h3 (.cons h5 h6))
      obtain ⟨kP,h3,h4⟩:=hg.leave hs agu
      have AA:(results fn a'.tmps).run P w' = .ok (if h:bP.toArray.size=1 then bP.toArray[0] else .tuple bP.toArray) w':=by
        rw [FH,Sem.run_bind,Array.mapM_eq_mapM_toList,Sem.run_map,h2]
        rfl
      exact ⟨_,AA,kP,_,rfl,h3,h4⟩
    cases e with
    | normal=>exact aaE
    | ret=>exact aaE
    | exit id=>exact (bR id rfl).elim
    | goto l=>exact (ahl l rfl).elim
  · simp at h
theorem TP {ρ:ao} {N:Nat} : ∀ (ps:List Nat) (vs bP:List Value) (t:Tm) (tmps:Array Value),ps.all (fun p=>Nat.blt p N)=true→cO ρ vs bP→TR ρ t N { tmps:=tmps,defers:=[] }→
    TR ρ (Jh ps vs t) N { tmps:=(ps.zip bP).foldl (fun t (p,v)=>t.setIfInBounds p v) tmps,defers:=[] }
  | [],vs,bP,t,tmps,_,_,h=>by simpa [Jh] using h
  | p :: ps,[],bP,t,tmps,_,hv,h=>by rw [hv.bJ]; simpa [Jh] using h
  | p :: ps,v :: vs,bP,t,tmps,hp,hv,h=>by
    obtain ⟨v',ws',rfl,h1,h2⟩:=hv.cons_inv
    rw [List.all_cons,Bool.and_eq_true,Nat.blt_eq] at hp
    simp only [Jh,List.zip_cons_cons,List.foldl_cons]
    refine TP ps vs ws' (t.set v p) (tmps.setIfInBounds p v') hp.2 h2 ?_
    have:=h.put (dst:=some p) (fun d e=>by have e:p=d:=Option.some.inj e; rw [← e]; exact hp.1) h1
    exact this
theorem Vh {P:Program} {call:db} (fo:qU P call) (hm:P.follows .mixedOrders=true) (L:Nat) {l:Nat} {args:List Value} {A B:St} {v:Value} (h:Pl (fun c t A=>jI P call L c t A) l args A=some (v,B))
    {ρ:ao} {cL:List Value} {base:Nat} {w:World} (hv:cO ρ args cL) (hs:jC ρ A base w) {loc:Loc} (hl:ρ l=some loc) :
    Round P loc.cb cL.toArray w fun e w'=>∃ ak v',e = .returned v'∧VR ak v v'∧da base ρ A w ak B w':=by
  unfold Pl at h
  split at h
  · rename_i st e0 t ps assign body gp
    cases hb:Nat.beq ps.length args.length with
    | false=>rw [hb] at h; simp at h
    | true=>
      rw [hb,cond_true] at h
      have hlen:=Nat.eq_of_beq_eq_true hb
      obtain ⟨fn,tmps,D,N,mc,htm⟩:=(hs.K1 gp hl).j7
      obtain ⟨hcp,hca,xG,Bi,QI⟩:=htm.Zb
      split at h
      · rename_i t1 A1 adm
        obtain ⟨A2,Xm,h⟩:=Option.bind_eq_some_iff.1 h
        obtain ⟨⟨e,t2,A3⟩,Zy,AB⟩:=Option.bind_eq_some_iff.1 h
        have hy:=run_yield (P:=P) (args:=cL.toArray) mc (by simp [hlen,hv.length])
        refine ⟨fn,_,assign,body,hy,roundIn_of_wpIn (F:=Fence.wide) (n:=0) trivial ?_⟩
        have U9:TR ρ (Jh ps args t) N { tmps:=(ps.toArray.zip cL.toArray).foldl (fun t (p,v)=>t.setIfInBounds p v) tmps,defers:=[] }:=by
          have:=TP ps args cL t tmps hcp hv ⟨htm.size,htm.val,htm.none,hs.mS⟩
          rw [← Array.foldl_toList]
          simpa using this
        refine lv fo hm L N assign hca (some loc.cb) _ t1 A A1 .normal ρ base _ w _ (.inr Bi) adm U9 hs fun hX a1 w1 rG _ K2=>?_
        have Dn:hX l=some loc:=K2.le hs _ _ hl
        unfold aaw at Xm
        split at Xm
        · rename_i e1 t0 ps1 as1 bo1 adn
          simp only [Option.some.injEq] at Xm
          subst Xm
          have afQ:=K2.dz.K1 adn Dn
          obtain ⟨fn1,ado,D1,N1,aaF,ahm⟩:=afQ.j7
          have ahn:loc.cb < w1.heap.size:=(Array.getElem?_eq_some_iff.1 aaF).1
          refine ⟨_,run_beginRound aaF rfl,?_⟩
          have Cg:da base hX A1 w1 hX (A1.put l (.loop 1 e1 t0 ps1 as1 bo1)) (w1.putObj loc.cb (.loop { state:=.busy,pending:=e1.code,fn:=fn1,tmps:=ado,params:=ps1.toArray,assign:=as1,body:=bo1,defers:=D1 })):=
            Bn K2.dz adn Dn (.loop 1 e1 t0 ps1 as1 bo1) _ rfl fun _=>⟨afQ.cG,fn1,ado,D1,N1,World.putObj_heap_same ahn,ahm⟩
          refine lv fo hm L N body xG (some loc.cb) t1 t2 _ A3 e hX base a1 _ _ (.inr QI) Zy rG Cg.dz fun MK a3 w3 _ _ hg3=>?_
          have hl3:MK l=some loc:=hg3.le Cg.dz _ _ Dn
          have im:=(K2.trans Cg).trans hg3
          unfold PR at AB
          split at AB
          · rename_i e4 t4 ps4 as4 bo4 adp
            have afR:=hg3.dz.K1 adp hl3
            obtain ⟨fn4,agv,D4,N4,aaG,aho⟩:=afR.j7
            have ahp:loc.cb < w3.heap.size:=(Array.getElem?_eq_some_iff.1 aaG).1
            have fin:∀ (e:ai),∃ w4,(Instr.endRound loc.cb e.code).run P w3 = .ok (.bool e.code.isNone) w4∧da base MK A3 w3 MK (A3.put l (.loop (if e.code.isNone then 0 else 2) e t4 ps4 as4 bo4)) w4:=by
              intro e
              refine ⟨_,run_endRound e.code aaG,?_⟩
              refine Bn hg3.dz adp hl3 (.loop (if e.code.isNone then 0 else 2) e t4 ps4 as4 bo4) _ rfl fun _=>⟨afR.cG,fn4,agv,D4,N4,?_,aho⟩
              rw [World.putObj_heap_same ahp]
              cases e <;> rfl
            obtain ⟨w4,h8,h9⟩:=fin e
            cases e with
            | normal=>
              simp only [Option.some.injEq,Prod.mk.injEq] at AB
              obtain ⟨rfl,rfl⟩:=AB
              exact ⟨_,w4,h8,MK,_,rfl,by simp [VR,ai.code],im.trans h9⟩
            | exit id=>
              simp only [Option.some.injEq,Prod.mk.injEq] at AB
              obtain ⟨rfl,rfl⟩:=AB
              exact ⟨_,w4,h8,MK,_,rfl,by simp [VR,ai.code],im.trans h9⟩
            | goto id=>
              simp only [Option.some.injEq,Prod.mk.injEq] at AB
              obtain ⟨rfl,rfl⟩:=AB
              exact ⟨_,w4,h8,MK,_,rfl,by simp [VR,ai.code],im.trans h9⟩
            | ret=>
              simp only [Option.some.injEq,Prod.mk.injEq] at AB
              obtain ⟨rfl,rfl⟩:=AB
              exact ⟨_,w4,h8,MK,_,rfl,by simp [VR,ai.code],im.trans h9⟩
          · simp at AB
        · simp at Xm
      · simp at h
  · simp at h
def Pm (P:Program) (S:Told):Prop:=∀ f g,S f=some g→∀ args A v B,g args A=some (v,B)→
  (∃ fn, P.funcs[f]? = some fn ∧ fn.body.isSome = true ∧ (fn.name == "runtime.NumGoroutine") = false) ∧
    ∀ ρ cL base w,cO ρ args cL→jC ρ A base w→Calls P f cL.toArray w fun e w'=>∃ ak v',e = .returned v'∧VR ak v v'∧da base ρ A w ak B w'
theorem K3 (P:Program):Pm P Mv:=fun f g h=>by simp [Mv] at h
theorem AD {P:Program} {S:Told} (hS:Pm P S) (hP:P.funcs.toList.all jf=true) (hm:P.follows .mixedOrders=true) (L:Nat):∀ n,qU P (Fj P S L n)
  | 0=>fun f args A v B h=>by simp [WZ] at h
  | n+1=>fun f args A v B h=>by
    simp only [W3] at h
    cases hb:Nat.blt f yB with
    | false=>
      rw [hb,cond_false] at h
      exact ⟨fun h=>by simp at h,fun ρ cL base w hv hs=>⟨fun h=>by simp at h,fun _ loc hl=>Vh (AD hS hP hm L n) hm L h hv hs hl⟩⟩
    | true=>
    rw [hb,cond_true] at h
    split at h
    · rename_i g hg
      obtain ⟨h1,h2⟩:=hS f g hg args A v B h
      exact ⟨fun _=>h1,fun ρ cL base w hv hs=>⟨fun _=>h2 ρ cL base w hv hs,fun h=>by simp at h⟩⟩
    · obtain ⟨fn,hf,h⟩:=Option.bind_eq_some_iff.1 h
      obtain ⟨c,hb,h⟩:=Option.bind_eq_some_iff.1 h
      have OM:P.funcs[f]? = some fn:=by simpa using hf
      have bc:=List.all_eq_true.1 hP fn (List.mem_of_getElem? hf)
      unfold jf at bc
      rw [hb] at bc
      simp only [Bool.and_eq_true,Bool.not_eq_true'] at bc
      exact ⟨fun _=>⟨fn,OM,by simp [hb],bc.2⟩,fun ρ cL base w hv hs=>⟨fun _=>Xl (AD hS hP hm L n) hm L OM hb bc.1 h hv hs,fun h=>by simp at h⟩⟩
def zB (gl:List (Nat×List Value×Nat)) (b:Nat):Option Loc:=if b < gB then some (match gl.find? (fun x=>Nat.beq x.1 b) with | some x=>⟨b,0,x.2.1.length,x.2.2⟩ | none=>⟨b,0,0,0⟩) else none
theorem S0 (gl:List (Nat×List Value×Nat)):Kt (zB gl):=fun g hg=>by
  unfold zB
  rw [if_pos hg]
  split <;> exact ⟨_,rfl,rfl,rfl⟩
theorem Jv:∀ (gl:List (Nat×List Value×Nat)) (b:Nat),(Jj gl).get b=match gl.find? (fun x=>Nat.beq x.1 b) with | some x=>some (.row x.2.1 x.2.2 false none) | none=>none
  | [],b=>by simp [Jj]
  | (g,cs,e) :: gl,b=>by
    simp only [Jj,Trie.iP,List.find?_cons]
    cases hb:Nat.beq g b with
    | true=>simp [Nat.eq_of_beq_eq_true hb]
    | false=>rw [if_neg (fun e=>by subst e; simp at hb)]; exact Jv gl b
def aaH (w:World) (gl:List (Nat×List Value×Nat)):Prop:=∀ x ∈ gl,x.1 < gB∧x.1 < w.heap.size∧x.2.1.all (fun v=>flat v && scalar v)=true∧∀ i v,x.2.1[i]? = some v→w.cell? ⟨x.1,i,none⟩=some v
theorem jC.NQ {w:World} {gl:List (Nat×List Value×Nat)} (h:aaH w gl):jC (zB gl) (St.mS gl) w.heap.size w:=by
  have hg:∀ b o,(St.mS gl).get b=some o→∃ x ∈ gl,x.1=b∧gl.find? (fun x=>Nat.beq x.1 b)=some x∧o = .row x.2.1 x.2.2 false none:=by
    intro b o e
    have e:(Jj gl).get b=some o:=e
    rw [Jv] at e
    split at e
    · rename_i x hx
      simp at e
      have:=List.find?_some hx
      exact ⟨x,List.mem_of_find?_eq_some hx,Nat.eq_of_beq_eq_true this,hx,e.symm⟩
    · simp at e
  refine ⟨⟨fun b cs bm own bo e=>?_,fun b es e=>?_,fun b s pos e=>?_,fun b st ex t ps c d e=>?_,fun b1 b2 o1 o2 l1 l2 _ e1 _ m=>?_,fun b o aW f e k=>?_⟩,fun b l e=>?_,Nat.le_refl _,S0 gl⟩
  · obtain ⟨x,hx,rfl,hf,he⟩:=hg _ _ e
    simp at he
    obtain ⟨rfl,rfl,rfl,rfl⟩:=he
    obtain ⟨h1,h2,h3,h4⟩:=h x hx
    refine ⟨⟨x.1,0,x.2.1.length,x.2.2⟩,by unfold zB; rw [if_pos h1,hf],⟨fun i v hi=>?_,fun _=>h2,fun h=>by simp at h,fun h=>by simp at h,by simp,fun h=>by simp at h,rfl,h2,fun h=>by simp at h⟩⟩
    have:=List.all_eq_true.1 h3 v (List.mem_of_getElem? hi)
    simp only [Bool.and_eq_true] at this
    exact ⟨v,by simpa using h4 i v hi,VR.of_flat this.1,this.2⟩
  · obtain ⟨x,_,_,_,he⟩:=hg _ _ e; simp at he
  · obtain ⟨x,_,_,_,he⟩:=hg _ _ e; simp at he
  · obtain ⟨x,_,_,_,he⟩:=hg _ _ e; simp at he
  · obtain ⟨x,_,_,_,he⟩:=hg _ _ e1; subst he; simp [bD.cG] at m
  · obtain ⟨x,_,_,_,he⟩:=hg _ _ e; subst he; simp [bD.jb] at k
  · unfold zB at e
    split at e
    · rename_i hb; exact hb
    · simp at e
theorem jC.empty (w:World):jC (zB []) St.empty w.heap.size w:=jC.NQ (gl:=[]) (fun _ h=>by simp at h)
theorem ML {P:Program} {S:Told} (hS:Pm P S) (hP:P.funcs.toList.all jf=true) (hm:P.follows .mixedOrders=true) {L n:Nat} {f:FuncId} {gl:List (Nat×List Value×Nat)} (h:BZ (Fj P S L n f [] (St.mS gl))=true) {w:World} (hw:aaH w gl) (hf:Nat.blt f yB=true:=by rfl) :
    Calls P f #[] w fun e w'=>e = .returned (.bool true)∧RowKit.Below w.heap.size w w':=by
  unfold BZ at h
  split at h
  · rename_i b B hc
    subst h
    refine (((AD hS hP hm L n _ _ _ _ _ hc).2 _ [] w.heap.size w .nil (.NQ hw)).1 hf).mono ?_
    rintro e w' ⟨ak,v',rfl,hv,hg⟩
    refine ⟨by rw [hv.dC],hg.kept.os,hg.kept.tape,hg.kept.output,hg.kept.size,fun k hk=>hg.kept.block k hk ?_⟩
    rintro ⟨b,o,l,ho,hm,_⟩
    have ho:(Jj gl).get b=some o:=ho
    rw [Jv] at ho
    split at ho
    · simp at ho; subst ho; simp [bD.cG] at hm
    · simp at ho
  · simp at h
theorem Xn {P:Program} {S:Told} (hS:Pm P S) (hP:P.funcs.toList.all jf=true) (hm:P.follows .mixedOrders=true) {L n:Nat} {f:FuncId} (h:BZ (Fj P S L n f [] St.empty)=true) (w:World) (hf:Nat.blt f yB=true:=by rfl) :
    Calls P f #[] w fun e w'=>e = .returned (.bool true)∧RowKit.Below w.heap.size w w':=
  ML (gl:=[]) hS hP hm h (fun _ h=>by simp at h) hf
end
end Go.av
end
section
namespace Go.K
open Go Go.av
noncomputable section
inductive Mk where
  | any
  | exact
  | aW (b:Nat)
inductive KV where
  | int (k:IntKind) (n:Int)
  | bool (b:Bool)
  | str (s:ByteArray)
  | agg (cs:List KV)
  | pQ (vs:List KV)
  | ts (T:TypeId) (m:Mk) (n:Nat) (es:List KV) (acc:Nat→KV)
  | tp (T Tc:TypeId) (i k:Nat) (es:List KV) (acc:Nat→KV)
  | al (T:TypeId) (b o n:Nat)
  | ap (T Tc:TypeId) (b i k:Nat)
  | ptr (b off:Nat)
  | sl (b off len cap:Nat)
  | yz
  | jL
  | vm
  | map (b:Nat)
  | fn (f:Fn) (first cap:List KV)
  | zC
  | iface (t:TypeId) (v:KV)
  | zD
  | aq
instance:Inhabited KV:=⟨.aq⟩
inductive ia where
  | row (cs:List KV) (bm:Nat)
  | map (es:List (KV×KV))
  | aW (top sz:Nat)
  | arr (v:KV)
  | iD (v:KV)
  | dead
structure aj where
  heap:Trie ia
  next:Nat
def aj.empty:aj:=⟨.leaf,0⟩
def aj.get (A:aj) (b:Nat):Option ia:=A.heap.get b
def aj.new (A:aj) (o:ia):aj:=⟨A.heap.set o A.next,Nat.succ A.next⟩
def aj.put (A:aj) (b:Nat) (o:ia):aj:=⟨A.heap.set o b,A.next⟩
abbrev bp:=Trie KV
def kl {α:Type} : List (Nat×α)→Trie α
  | []=>.leaf
  | p :: ps=>(kl ps).set p.2 p.1
def KV.cells:KV→List KV
  | .agg cs=>cs
  | v=>[v]
def one:KV→Bool
  | .agg _ | .pQ _ | .aq=>false
  | _=>true
def pg:KV:=.pQ []
inductive KR (α:Type) where
  | no
  | ok (v:α)
  | kU (c:Bool) (v:α)
  | br (c:Bool) (x y:KR α)
def KR.run {α R:Type} (r:KR α) (k:α→Option R):Option R:=
  KR.rec (motive:=fun _=>Option R) none (fun v=>k v) (fun c v=>Bool.rec (motive:=fun _=>Option R) none (k v) c) (fun c _ _ rx ry=>Bool.rec (motive:=fun _=>Option R) ry rx c) r
def KR.map {α β:Type} (f:α→β):KR α→KR β
  | .no=>.no
  | .ok v=>.ok (f v)
  | .kU c v=>.kU c (f v)
  | .br c x y=>.br c (x.map f) (y.map f)
def KR.of {α:Type} : Option α→KR α
  | some v=>.ok v
  | none=>.no
inductive CK where
  | int (k:IntKind)
  | bool
  | str
  | slice (t:TypeId)
  | other
structure r7 where
  agg:Bool
  ks:List CK
def dv {α:Type} (l:List α):Nat→List α
  | 0=>[]
  | n+1=>l ++ dv l n
def FJ (f:TypeId→Option r7):List Field→Nat→Option (List CK)
  | [],_=>some []
  | fd :: fs,off=>cond (Nat.beq fd.offset off) ((f fd.type).bind fun l=>(FJ f fs (off+l.ks.length)).map fun r=>l.ks ++ r) none
def lay (P:Program):Nat→TypeId→Option r7
  | 0,_=>none
  | n+1,t=>match P.underlying t with
    | some (.int k)=>some ⟨false,[.int k]⟩
    | some .bool=>some ⟨false,[.bool]⟩
    | some .string=>some ⟨false,[.str]⟩
    | some (.slice e)=>some ⟨false,[.slice e]⟩
    | some (.struct fs)=>(FJ (lay P n) fs.toList 0).map fun ks=>⟨true,ks⟩
    | some (.array len e)=>(lay P n e).map fun l=>⟨true,dv l.ks len⟩
    | some _=>some ⟨false,[.other]⟩
    | none=>none
def bj (P:Program) (t:TypeId):r7:=(lay P 12 t).getD ⟨false,[]⟩
def kindOk:CK→KV→Bool
  | .int k,.int k' _=>decide (k=k')
  | .bool,.bool _=>true
  | .str,.str _=>true
  | .slice t,.ts t' .any _ _ _=>Nat.beq t t'
  | _,_=>false
def au:List CK→List KV→Bool
  | [],[]=>true
  | k :: ks,v :: vs=>kindOk k v && au ks vs
  | _,_=>false
def cZ (l:r7):KV→Bool
  | .agg cs=>l.agg && au l.ks cs
  | .pQ _=>false
  | v=>!l.agg && au l.ks [v]
def eo (l:r7):List KV→Bool
  | []=>true
  | e :: es=>cZ l e && eo l es
def intOf:KV→Int
  | .int _ n=>n
  | _=>0
def l7:KV→Bool
  | .bool b=>b
  | _=>false
def strOf:KV→ByteArray
  | .str s=>s
  | _=>ByteArray.empty
def ahq:KV→List KV
  | .ts _ _ _ es _=>es
  | _=>[]
def lenOf:KV→Nat
  | .ts _ _ n _ _=>n
  | _=>0
def adq:KV→Nat→KV
  | .ts _ _ _ _ acc=>acc
  | _=>fun _=>.aq
def leaf (c:CK) (v:KV):KV:=
  CK.rec (motive:=fun _=>KV) (fun k=>.int k (intOf v)) (.bool (l7 v)) (.str (strOf v)) (fun t=>.ts t .any (lenOf v) (ahq v) (adq v)) v c
def leaves (e:KV):List CK→Nat→List KV
  | [],_=>[]
  | c :: cs,k=>leaf c (e.cells.getD k .aq) :: leaves e cs (Nat.succ k)
def EN (agg:Bool) (cs:List KV):KV:=Bool.rec (motive:=fun _=>KV) (cs.headD .aq) (.agg cs) agg
def Dz:List CK→Bool
  | []=>true
  | .other :: _=>false
  | _ :: cs=>Dz cs
mutual
def gH:Value→KV
  | .bool b=>.bool b
  | .int k n=>.int k n
  | .string s=>.str s
  | .pointer none=>.yz
  | .slice none 0 0=>.jL
  | .map none=>.vm
  | .nilFunc=>.zC
  | .nilIface=>.zD
  | .agg cs=>.agg (ofA cs)
  | .tuple cs=>.pQ (ofA cs)
  | _=>.aq
def ofA:Array Value→List KV
  | ⟨l⟩=>Zz l
def Zz:List Value→List KV
  | []=>[]
  | v :: vs=>gH v :: Zz vs
end
abbrev FP:=List KV→KR KV
abbrev FR:=aj→List KV→KR KV
abbrev FA:=aj→List KV→KR (KV×aj)
inductive o6 where
  | pure (f:FP) (xs:List Operand)
  | read (f:FR) (xs:List Operand)
  | act (f:FA) (xs:List Operand)
  | look (f:FP) (xs:List Operand)
  | yk (g:FuncId) (f:List KV→KR KV) (xs:List Operand)
  | Bo (g:FuncId) (f:List KV→KR KV) (xs:List Operand)
  | call (f:Operand) (args:List Operand)
  | bad
def Vi:FP
  | [x]=>.ok x
  | _=>.no
def Vj:FP
  | [.bool b]=>.br b (.ok (.bool true)) (.ok (.bool false))
  | [x]=>.ok x
  | _=>.no
def ZA:FP
  | [.bool t,.bool a,.bool b]=>.ok (.bool (cond t a b))
  | [.bool t,a,b]=>.ok (cond t a b)
  | _=>.no
def fS:List KV→Bool
  | []=>true
  | v :: vs=>one v && fS vs
def rH {α:Type} : Nat→List α→Option (List α)
  | 0,_=>some []
  | _+1,[]=>none
  | n+1,x :: xs=>(rH n xs).map (x :: ·)
def wK {α:Type} : Nat→List α→List α
  | 0,l=>l
  | _+1,[]=>[]
  | n+1,_ :: xs=>wK n xs
def jV {α:Type} : Nat→List α→List α→Option (List α)
  | 0,l,[]=>some l
  | 0,[],_ :: _=>none
  | 0,_ :: l,v :: vs=>(jV 0 l vs).map (v :: ·)
  | _+1,[],[]=>some []
  | _+1,[],_ :: _=>none
  | n+1,x :: l,vs=>(jV n l vs).map (x :: ·)
def NR (n:Nat) (z:List KV):FA:=fun A _=>.ok (.ptr A.next 0,A.new (.row z n))
def nu (P:Program) (t:TypeId):o6:=
  match pW P t with
  | some z=>cond (flat z && z.cells.toList.all scalar && fS (gH z).cells) (.act (NR (kF P t) (gH z).cells) []) .bad
  | none=>.bad
def wg (n:Nat):FA:=fun A xs=>
  match xs with
  | [v]=>cond (fS v.cells) (.ok (.ptr A.next 0,A.new (.row v.cells n))) .no
  | _=>.no
def MM (place:Nat→Option (Nat×Nat)):List KV→List (Nat×KV)→Option (List KV)
  | cells,[]=>some cells
  | cells,(i,v) :: rest=>
    match place i with
    | some (off,size)=>cond (Nat.beq v.cells.length size && Nat.ble 1 size) ((jV off cells v.cells).bind fun cs=>MM place cs rest) none
    | none=>none
def vo:List Nat→List KV→List (Nat×KV)
  | i :: is,v :: vs=>(i,v) :: vo is vs
  | _,_=>[]
def r8:KV→Bool
  | .aq=>false
  | _=>true
def Hh (place:Nat→Option (Nat×Nat)) (z:List KV) (is:List Nat):FP:=fun vs=>
  match MM place z (vo is vs) with
  | some cs=>cond (vs.all r8) (.ok (.agg cs)) .no
  | none=>.no
def qa (P:Program) (t:TypeId) (is:List Nat) (xs:List Operand):o6:=
  match pW P t,P.underlying t with
  | some z,some (.struct fields)=>
    match placesOf P fields.toList with
    | some l=>cond (flat z && fS (gH z).cells) (.pure (Hh (Kg l) (gH z).cells is) xs) .bad
    | none=>.bad
  | some z,some (.array _ e)=>
    match size? P e with
    | some n=>cond (flat z && fS (gH z).cells) (.pure (Hh (uz n) (gH z).cells is) xs) .bad
    | none=>.bad
  | _,_=>.bad
def mT:Nat→KV:=fun _=>.aq
def DA (es:List KV):Nat→KV:=fun i=>es.getD i .aq
def lA (c:CK) (v:KV):KV:=
  match c,v with
  | .slice t,.jL=>.ts t .any 0 [] mT
  | .slice t,.ts t' _ n es acc=>cond (Nat.beq t t') (.ts t .any n es acc) .aq
  | c,v=>cond (kindOk c v) v .aq
def vp:List CK→List KV→List KV
  | c :: cs,v :: vs=>lA c v :: vp cs vs
  | _,_=>[]
def hH (l:r7) (v:KV):KV:=
  match v with
  | .agg cs=>cond (l.agg && Nat.beq cs.length l.ks.length) (.agg (vp l.ks cs)) .aq
  | v=>cond l.agg .aq (match l.ks with
    | [c]=>lA c v
    | _=>.aq)
def setAt (es:List KV) (i:Nat) (v:KV):List KV:=
  match i,es with
  | 0,_ :: es=>v :: es
  | n+1,e :: es=>e :: setAt es n v
  | _,[]=>[]
def DB (es:List KV):List (Nat×KV)→List KV
  | []=>es
  | (i,v) :: rest=>DB (setAt es i v) rest
def FK (l:r7) (e:TypeId) (z:KV) (len:Nat) (is:List Nat):FP:=fun vs=>
  let es:=DB (dv [z] len) ((vo is vs).map fun p=>(p.1,hH l p.2))
  cond (vs.all r8 && eo l (vs.map (hH l)) && eo l es) (.ok (.ts e .exact len es (DA es))) .no
def zf (n:Nat):List Nat→Bool
  | []=>true
  | i :: is=>Nat.blt i n && zf n is
def Jw (n:Nat) (z:List KV) (len:Nat) (is:List Nat):FA:=fun A vs=>
  match MM (uz n) (dv z len) (vo is vs) with
  | some cs=>cond (vs.all r8 && fS cs) (.ok (.sl A.next 0 len len,A.new (.row cs n))) .no
  | none=>.no
def jW (P:Program) (t:TypeId) (len:Nat) (is:List Nat) (xs:List Operand):o6:=
  match P.underlying t with
  | some (.slice e)=>
    match P.info? e,pW P e with
    | some i,some z=>cond (Nat.ble (len * i.size) 16777216 && Nat.beq z.cells.size i.size && Nat.ble 1 i.size && flat z && Nat.beq (bj P e).ks.length i.size && zf len is)
        (cond (Dz (bj P e).ks) (.look (FK (bj P e) e (hH (bj P e) (gH z)) len is) xs) (cond (fS (gH z).cells) (.act (Jw i.size (gH z).cells len is) xs) .bad)) .bad
    | _,_=>.bad
  | _=>.bad
def rowAt (A:aj) (b:Nat):Option (List KV):=
  match A.get b with
  | some (.row cs _)=>some cs
  | _=>none
def Bp (A:aj) (b:Nat):Option KV:=
  match A.get b with
  | some (.arr v)=>some v
  | some (.iD v)=>some v
  | _=>none
def Pn (P:Program) (t Tc:TypeId):Bool:=Nat.beq Tc t && Dz (bj P t).ks && decide (E7 P t=some (bj P t).agg) && decide (size? P t=some (bj P t).ks.length) && ((bj P t).agg || Nat.beq (bj P t).ks.length 1)
def MN (P:Program) (T:TypeId) (k:Nat) (e:KV) (vs:List KV):Option KV:=(jV k (leaves e (bj P T).ks 0) vs).map fun cs=>EN (bj P T).agg cs
def vq (acc:Nat→KV) (i:Nat) (v:KV):Nat→KV:=fun j=>cond (Nat.beq j i) v (acc j)
def aaI (T:TypeId) (n i:Nat) (es:List KV) (acc:Nat→KV) (e:KV):KV:=.ts T .any n (setAt es i e) (vq acc i e)
def MO (P:Program) (t:TypeId):FR:=fun A xs=>
  match xs with
  | [.ptr b off]=>
    match E7 P t,size? P t with
    | some ag,some n=>match (rowAt A b).bind fun cs=>rH n (wK off cs) with
      | some l=>cond ag (.ok (.agg l)) (match l with | [v]=>.ok v | _=>.no)
      | none=>.no
    | _,_=>.no
  | [.tp _ Tc i k _ acc]=>
    cond (Pn P t Tc) (.ok (EN (bj P t).agg (leaves (acc i) (bj P t).ks k))) .no
  | [.ap T Tc b i k]=>match Bp A b with
    | some (.ts T' _ _ _ acc)=>cond (Nat.beq T T' && Pn P t Tc) (.ok (EN (bj P t).agg (leaves (acc i) (bj P t).ks k))) .no
    | _=>.no
  | _=>.no
def K4 (P:Program) (t:TypeId):FA:=fun A xs=>
  match xs with
  | [.ptr b off,v]=>
    cond (decide (some v.cells.length=size? P t) && fS v.cells)
      (match A.get b with
      | some (.row cs bm)=>match jV off cs v.cells with
        | some bI=>.ok (pg,A.put b (.row bI bm))
        | none=>.no
      | _=>.no) .no
  | [.ap T Tc b i k,v]=>
    match A.get b with
    | some (.arr (.ts T' _ n es acc))=>
      cond (Nat.beq T T' && Nat.beq Tc t && cZ (bj P t) (hH (bj P t) v) && decide (size? P t=some (bj P t).ks.length))
        (match MN P T k (acc i) (hH (bj P t) v).cells with
        | some e=>.ok (pg,A.put b (.arr (aaI T n i es acc e)))
        | none=>.no) .no
    | _=>.no
  | _=>.no
def QK:FP
  | [.ptr b off]=>.ok (.ptr b off)
  | [.tp T Tc i k es acc]=>.ok (.tp T Tc i k es acc)
  | [.ap T Tc b i k]=>.ok (.ap T Tc b i k)
  | [.fn (.func f) first cap]=>.ok (.fn (.func f) first cap)
  | _=>.no
abbrev ahr (k:IntKind) (a b:Int):Nat:=(BitVec.ofInt k.bits a &&& BitVec.ofInt k.bits b).toNat
abbrev bOr (k:IntKind) (a b:Int):Nat:=(BitVec.ofInt k.bits a ||| BitVec.ofInt k.bits b).toNat
abbrev ahs (k:IntKind) (a b:Int):Nat:=(BitVec.ofInt k.bits a ^^^ BitVec.ofInt k.bits b).toNat
abbrev adr (k:IntKind) (a b:Int):Nat:=(BitVec.ofInt k.bits a &&& ~~~ BitVec.ofInt k.bits b).toNat
def opI (op:BinOp) (k:IntKind) (a b:Int):KR KV:=
  match op with
  | .add=>.ok (.int k (k.wrap (a+b)))
  | .sub=>.ok (.int k (k.wrap (a - b)))
  | .mul=>.ok (.int k (k.wrap (a * b)))
  | .eql=>.ok (.bool (a == b))
  | .neq=>.ok (.bool (a != b))
  | .lss=>.ok (.bool (decide (a < b)))
  | .leq=>.ok (.bool (decide (a≤b)))
  | .gtr=>.ok (.bool (decide (a > b)))
  | .geq=>.ok (.bool (decide (a ≥ b)))
  | .quo=>.kU (!(decide (b=0))) (.int k (k.wrap (a.tdiv b)))
  | .rem=>.kU (!(decide (b=0))) (.int k (a.tmod b))
  | .and=>.ok (.int k (k.wrap (ahr k a b)))
  | .or=>.ok (.int k (k.wrap (bOr k a b)))
  | .xor=>.ok (.int k (k.wrap (ahs k a b)))
  | .andNot=>.ok (.int k (k.wrap (adr k a b)))
  | _=>.no
def aht (op:BinOp) (k:IntKind) (a b:Int):KR KV:=
  match op with
  | .shl=>.kU (!(decide (b < 0))) (.int k (k.wrap (a * 2 ^ (min b.toNat k.bits))))
  | .shr=>.kU (!(decide (b < 0))) (.int k (a.fdiv (2 ^ (min b.toNat k.bits))))
  | _=>.no
def Xo:BinOp→Bool
  | .shl | .shr=>true
  | _=>false
def eqK:KV→KV→Option Bool
  | .int k a,.int k' b=>cond (decide (k=k')) (some (a == b)) none
  | .bool a,.bool b=>some (a == b)
  | .str a,.str b=>some (a == b)
  | _,_=>none
def pS:List KV→List KV→Option Bool
  | [],[]=>some true
  | x :: xs,y :: ys=>match eqK x y,pS xs ys with
    | some a,some b=>some (a && b)
    | _,_=>none
  | _,_=>none
def yA (P:Program):Nat→TypeId→Bool
  | 0,_=>false
  | n+1,t=>(match P.info? t,lay P (n+1) t with
      | some i,some l=>Nat.beq i.size l.ks.length
      | _,_=>false) && match P.underlying t with
    | some (.int _) | some .bool | some .string=>true
    | some (.struct fs) => !(P.stoodInHeld t) && fs.toList.all fun f => !(f.name == "_") && yA P n f.type
    | some (.array _ e)=>yA P n e
    | _=>false
def ads (P:Program) (t:TypeId) (x y:KV):Option Bool:=
  match x,y with
  | .agg xs,.agg ys=>cond ((bj P t).agg && yA P 12 t && !(P.eqGuardType P.depth t) && au (bj P t).ks xs && au (bj P t).ks ys) (pS xs ys) none
  | .bool a,.bool b=>match P.underlying t with
    | some .bool=>some (a == b)
    | _=>none
  | .jL,.jL=>match P.underlying t with
    | some (.slice _)=>some true
    | _=>none
  | .ts _ _ n _ _,.jL=>match P.underlying t with
    | some (.slice _)=>cond (Nat.beq n 0) none (some false)
    | _=>none
  | .jL,.ts _ _ n _ _=>match P.underlying t with
    | some (.slice _)=>cond (Nat.beq n 0) none (some false)
    | _=>none
  | .yz,.yz=>match P.underlying t with
    | some (.pointer _)=>some true
    | _=>none
  | .ptr _ _,.yz=>match P.underlying t with
    | some (.pointer _)=>some false
    | _=>none
  | .yz,.ptr _ _=>match P.underlying t with
    | some (.pointer _)=>some false
    | _=>none
  | _,_=>none
def adt (P:Program) (op:BinOp) (t:TypeId):FP
  | [.int j a,.int k b]=>cond (Xo op) (aht op j a b) (cond (decide (j=k)) (opI op j a b) .no)
  | [.str a,.str b]=>match op with
    | .eql=>.ok (.bool (a.toList == b.toList))
    | .neq=>.ok (.bool !(a.toList == b.toList))
    | .lss=>.ok (.bool (Op.bytesLess a.toList b.toList))
    | .add=>.kU (Nat.ble (a.size+b.size) 9223372036854775807) (.str (a ++ b))
    | _=>.no
  | [x,y]=>match op,ads P t x y with
    | .eql,some b=>.ok (.bool b)
    | .neq,some b=>.ok (.bool !b)
    | _,_=>.no
  | _=>.no
def kUn (op:UnOp):FP
  | [.bool b]=>match op with
    | .not=>.ok (.bool !b)
    | _=>.no
  | [.int k n]=>match op with
    | .neg=>.ok (.int k (k.wrap (0 - n)))
    | .xor=>.ok (.int k (k.wrap (BitVec.ofInt k.bits (if k.signed then -1 else k.max) ^^^ BitVec.ofInt k.bits n).toNat))
    | _=>.no
  | _=>.no
def aaJ (k:IntKind):FP
  | [.int _ n]=>.ok (.int k (k.wrap n))
  | _=>.no
def aaK:FP
  | [.str s]=>.ok (.str s)
  | _=>.no
def byteOf:KV→UInt8
  | .int _ n=>UInt8.ofNat n.toNat
  | _=>0
def aaL:KV→Bool
  | .int .u8 n=>decide (0≤n) && decide (n < 256)
  | _=>false
def DC:FP
  | [.jL]=>.ok (.str ⟨⟨[]⟩⟩)
  | [.ts _ _ _ es _]=>.kU (es.all aaL) (.str ⟨⟨es.map byteOf⟩⟩)
  | _=>.no
def Jx (e:TypeId):FP
  | [.str s]=>.ok (.ts e .any s.size (s.data.toList.map fun b=>.int .u8 b.toNat) (fun i=>.int .u8 (s.data.toList.getD i 0).toNat))
  | _=>.no
def m6 (P:Program) (src dst:TypeId) (x:Operand):o6:=
  match P.underlying src,P.underlying dst with
  | some (.int _),some (.int k)=>.pure (aaJ k) [x]
  | some .string,some .string=>.pure aaK [x]
  | some (.slice e),some .string=>cond (isByte P e) (.read (fun _=>DC) [x]) .bad
  | some .string,some (.slice e)=>cond (isByte P e) (.look (Jx e) [x]) .bad
  | _,_=>.bad
def DD (f:Fn) (k:Nat):FP:=fun vs=>
  match rH k vs with
  | some first=>.ok (.fn f first (wK k vs))
  | none=>.no
def NS (s:TypeId) (off:Nat) (ft:TypeId) (sQ:Bool):FP
  | [.ptr b o]=>.ok (.ptr b (o+off))
  | [.tp T Tc i k es acc]=>cond (Nat.beq Tc s && sQ) (.ok (.tp T ft i (k+off) es acc)) .no
  | [.ap T Tc b i k]=>cond (Nat.beq Tc s && sQ) (.ok (.ap T ft b i (k+off))) .no
  | _=>.no
def adu:CK→CK→Bool
  | .int a,.int b=>decide (a=b)
  | .bool,.bool=>true
  | .str,.str=>true
  | .slice a,.slice b=>Nat.beq a b
  | .other,.other=>true
  | _,_=>false
def wL:List CK→List CK→Bool
  | [],[]=>true
  | a :: ah7,b :: bs=>adu a b && wL ah7 bs
  | _,_=>false
def Po (P:Program) (s:TypeId) (off:Nat) (ft:TypeId):Bool:=
  match rH (bj P ft).ks.length (wK off (bj P s).ks) with
  | some l=>wL l (bj P ft).ks
  | none=>false
def kV (P:Program) (s:TypeId) (x:Operand) (f:Nat):o6:=
  match oq P s f with
  | some fd=>match size? P fd.type with
    | some (_+1)=>.pure (NS s fd.offset fd.type (Po P s fd.offset fd.type)) [x]
    | _=>.bad
  | none=>.bad
def MP (P:Program) (t:TypeId) (cs:List KV) (off:Nat):Option KV:=
  match E7 P t with
  | some true=>(size? P t).bind fun n=>(rH n (wK off cs)).map fun l=>.agg l
  | some false=>(wK off cs).head?
  | none=>none
def aaM (P:Program) (fd:Field):FP
  | [.agg cs]=>.of (MP P fd.type cs fd.offset)
  | _=>.no
def qb (P:Program) (t:TypeId) (x:Operand) (f:Nat):o6:=
  match oq P t f with
  | some fd=>.pure (aaM P fd) [x]
  | none=>.bad
def QL (i:Int) (n:Nat):Bool:=decide (0≤i) && decide (i < (n:Int))
def aaN {α:Type} (i:Int) (f:Nat→KR α) (m:Nat):Nat→KR α:=Nat.rec (motive:=fun _=>Nat→KR α) (fun _=>.no) (fun _ ih j=>.br (decide (i=(j:Int))) (f j) (ih (Nat.succ j))) m
def QM (P:Program) (t:TypeId) (len n:Nat) (e:TypeId):FP
  | [.ptr b o,.int _ i]=>cond (Nat.ble len 8) (aaN i (fun j=>.ok (.ptr b (o+j * n))) len 0) (.kU (QL i len) (.ptr b (o+i.toNat * n)))
  | [.tp T Tc j k es acc,.int _ i]=>cond (Nat.beq Tc t && wL (bj P t).ks (dv (bj P e).ks len) && Nat.beq (bj P e).ks.length n) (.kU (QL i len) (.tp T e j (k+i.toNat * n) es acc)) .no
  | [.ap T Tc b j k,.int _ i]=>cond (Nat.beq Tc t && wL (bj P t).ks (dv (bj P e).ks len) && Nat.beq (bj P e).ks.length n) (.kU (QL i len) (.ap T e b j (k+i.toNat * n))) .no
  | _=>.no
def TQ (e n:Nat) (sQ:Bool):FP
  | [.sl b o len _,.int _ i]=>.kU (QL i len) (.ptr b (o+i.toNat * n))
  | [.ts T _ m es acc,.int _ i]=>cond (Nat.beq T e && sQ) (.kU (QL i m) (.tp T T i.toNat 0 es acc)) .no
  | [.al T b o m,.int _ i]=>cond (Nat.beq T e && sQ) (.kU (QL i m) (.ap T T b (o+i.toNat) 0)) .no
  | _=>.no
def kW (P:Program) (t:TypeId) (x ix:Operand):o6:=
  match P.underlying t with
  | some (.array len e)=>match size? P e with
    | some n=>.pure (QM P t len n e) [x,ix]
    | none=>.bad
  | some (.slice e)=>match size? P e with
    | some n=>.pure (TQ e n (Nat.beq (bj P e).ks.length n)) [x,ix]
    | none=>.bad
  | _=>.bad
def Jy (P:Program) (len n:Nat) (e:TypeId):FP
  | [.agg cs,.int _ i]=>cond (Nat.ble len 8) (aaN i (fun j=>.of (MP P e cs (j * n))) len 0) (match MP P e cs (i.toNat * n) with
    | some v=>.kU (QL i len) v
    | none=>.no)
  | _=>.no
def QN:FP
  | [.str s,.int _ i]=>.kU (QL i s.size) (.int .u8 ((s.data.toList.getD i.toNat 0).toNat))
  | _=>.no
def qc (P:Program) (t:TypeId) (x ix:Operand):o6:=
  match P.underlying t with
  | some (.array len e)=>match size? P e with
    | some n=>.pure (Jy P len n e) [x,ix]
    | none=>.bad
  | some .string=>.pure QN [x,ix]
  | _=>.bad
def TS {α:Type} : Nat→List α→Option α
  | _,[]=>none
  | 0,x :: _=>some x
  | n+1,_ :: xs=>TS n xs
def TT (i:Nat):FP
  | [.pQ vs]=>.of (TS i vs)
  | _=>.no
def aaO:FP
  | [.ts _ _ n _ _]=>.ok (.int .i64 (n:Int))
  | [.sl _ _ n _]=>.ok (.int .i64 (n:Int))
  | [.al _ _ _ n]=>.ok (.int .i64 (n:Int))
  | [.jL]=>.ok (.int .i64 0)
  | _=>.no
def Xp:FP
  | [.str s]=>.ok (.int .i64 (s.size:Int))
  | _=>.no
def QO (P:Program) (argTypes:List TypeId) (args:List Operand):o6:=
  match argTypes with
  | [t]=>match P.underlying t with
    | some (.slice _)=>.pure aaO args
    | some .string=>.pure Xp args
    | _=>.bad
  | _=>.bad
def Ch (mx:Bool):FP
  | [.int j a,.int k b]=>cond (decide (j=k)) (.ok (.int j (cond mx (max a b) (min a b)))) .no
  | [.int j a,.int k b,.int l c]=>cond (decide (j=k) && decide (j=l)) (.ok (.int j (cond mx (max (max a b) c) (min (min a b) c)))) .no
  | _=>.no
def K5 (len:Nat) (lo hi:Bool):List KV→Option (Int×Int)
  | []=>cond (lo || hi) none (some (0,len))
  | [.int _ x]=>cond (lo && !hi) (some (x,len)) (cond (!lo && hi) (some (0,x)) none)
  | [.int _ x,.int _ y]=>cond (lo && hi) (some (x,y)) none
  | _=>none
def MQ (P:Program) (n:Nat) (lo hi:Bool):FR:=fun A xs=>
  match xs with
  | .ts T _ m es acc :: r=>match K5 m lo hi r with
    | some (x,y)=>cond (Nat.beq (bj P T).ks.length n) (.kU (decide (0≤x) && decide (x≤y) && decide (y≤(m:Int))) (.ts T .any (y.toNat - x.toNat) ((es.drop x.toNat).take (y.toNat - x.toNat)) (fun i=>acc (x.toNat+i)))) .no
    | none=>.no
  | .sl b o len cap :: r=>match A.get b with
    | some (.row _ bm)=>match K5 len lo hi r with
      | some (x,y)=>cond (Nat.beq bm n) (.kU (decide (0≤x) && decide (x≤y) && decide (y≤(len:Int)) && decide (len≤cap)) (.sl b (o+x.toNat * n) (y.toNat - x.toNat) (cap - x.toNat))) .no
      | none=>.no
    | _=>.no
  | .al T b o m :: r=>match Bp A b with
    | some (.ts T' _ _ _ _)=>match K5 m lo hi r with
      | some (x,y)=>cond (Nat.beq (bj P T).ks.length n && Nat.beq T T') (.kU (decide (0≤x) && decide (x≤y) && decide (y≤(m:Int))) (.al T b (o+x.toNat) (y.toNat - x.toNat))) .no
      | none=>.no
    | _=>.no
  | _=>.no
def Jz (len n:Nat) (lo hi:Bool):FR:=fun A xs=>
  match xs with
  | .ptr b o :: r=>match A.get b with
    | some (.row cs bm)=>match K5 len lo hi r with
      | some (x,y)=>cond (Nat.beq bm n && Nat.ble (o+len * n) cs.length) (.kU (decide (0≤x) && decide (x≤y) && decide (y≤(len:Int))) (.sl b (o+x.toNat * n) (y.toNat - x.toNat) (len - x.toNat))) .no
      | none=>.no
    | _=>.no
  | _=>.no
def JA (lo hi:Bool):FP
  | .str s :: r=>match K5 s.size lo hi r with
    | some (x,y)=>.kU (decide (0≤x) && decide (x≤y) && decide (y≤(s.size:Int))) (.str ⟨⟨(s.data.toList.drop x.toNat).take (y.toNat - x.toNat)⟩⟩)
    | none=>.no
  | _=>.no
def qd (P:Program) (t:TypeId) (x:Operand) (lo hi mx:Option Operand):o6:=
  match P.underlying t with
  | some (.slice e)=>match size? P e with
    | some n=>cond (Nat.ble 1 n && mx.isNone) (.read (MQ P n lo.isSome hi.isSome) (x :: (eC lo ++ eC hi))) .bad
    | none=>.bad
  | some (.array len e)=>match size? P e with
    | some n=>cond (Nat.ble 1 n && mx.isNone) (.read (Jz len n lo.isSome hi.isSome) (x :: (eC lo ++ eC hi))) .bad
    | none=>.bad
  | some .string=>cond mx.isNone (.pure (JA lo.isSome hi.isSome) (x :: (eC lo ++ eC hi))) .bad
  | _=>.bad
def MR (b n m:Nat):Bool:=Nat.ble ((n+m+512) * b) 17592186044416 && Nat.ble (n+m) 17592186044416 && (Nat.blt 0 m || Nat.beq n 0)
def ay (top n:Nat):Bool:=Nat.beq top n
def qx (n:Nat) (f g:Nat→KV):Nat→KV:=fun i=>cond (Nat.blt i n) (f i) (g (i - n))
def K6 (e sz b n:Nat) (base:List KV) (ab:Nat→KV) (A:aj) (f m:Nat) (new:List KV) (an:Nat→KV) (more:Bool):KR (KV×aj):=
  .kU (more && MR b n m)
    (.ts e (.aW f) (n+m) (base ++ new) (qx n ab an),A.put f (.aW (n+m) sz))
def FL (e sz b:Nat):FA:=fun A xs=>
  match xs with
  | [.jL,.ts e' _ m new an]=>cond (Nat.beq e e') (K6 e sz b 0 [] mT (A.new (.aW 0 sz)) A.next m new an true) .no
  | [.ts e1 .exact n es ab,.ts e' _ m new an]=>cond (Nat.beq e e' && Nat.beq e e1) (K6 e sz b n es ab (A.new (.aW 0 sz)) A.next m new an (Nat.blt 0 m)) .no
  | [.ts e1 (.aW f) n es ab,.ts e' _ m new an]=>match A.get f with
    | some (.aW top sz')=>cond (Nat.beq e e' && Nat.beq e e1 && Nat.beq sz' sz) (K6 e sz b n es ab A f m new an (ay top n)) .no
    | _=>.no
  | _=>.no
def Vk (A:aj) (T b o n:Nat):Option KV:=
  match Bp A b with
  | some (.ts T' _ _ es acc)=>cond (Nat.beq T T') (some (.ts T .any n ((es.drop o).take n) (fun i=>acc (o+i)))) none
  | _=>none
def FM (A:aj) (v:KV):Option KV:=
  match v with
  | .al T b o n=>Vk A T b o n
  | .ts T m n es acc=>some (.ts T m n es acc)
  | _=>none
def aaP (b n m:Nat):Bool:=Nat.ble ((n+m+512) * b) 17592186044416 && Nat.ble (n+m) 17592186044416
def Pp (e b n:Nat) (base:List KV) (ab:Nat→KV) (A:aj) (m:Nat) (new:List KV) (an:Nat→KV) (more:Bool):KR (KV×aj):=
  .kU (more && aaP b n m) (.al e A.next 0 (n+m),A.new (.arr (.ts e .any (n+m) (base ++ new) (qx n ab an))))
def zg (e b:Nat):FA:=fun A xs=>
  match xs with
  | [.jL,.ts e' _ m new an]=>cond (Nat.beq e e') (Pp e b 0 [] mT A m new an true) .no
  | [.al e1 f o n,.ts e' _ m new an]=>match A.get f with
    | some (.arr (.ts e2 _ _ es acc))=>cond (Nat.beq e e' && Nat.beq e e1 && Nat.beq e e2) (Pp e b n (es.take n) acc (A.put f .dead) m new an (Nat.beq o 0)) .no
    | _=>.no
  | _=>.no
def adv:KV→Bool
  | .al _ _ _ _=>true
  | _=>false
def Ci (e sz b:Nat) (mt:Bool):FA:=fun A xs=>
  match xs with
  | [x,y]=>match FM A y with
    | some y'=>cond (adv x) (zg e b A [x,y']) (cond mt (zg e b A [x,y']) (FL e sz b A [x,y']))
    | none=>.no
  | _=>.no
def AE (P:Program) (mt:TypeId→Bool) (argTypes:List TypeId) (args:List Operand):o6:=
  match argTypes with
  | [t,u]=>
    match P.underlying t,P.underlying u with
    | some (.slice e),some (.slice _)=>
      match P.info? e with
      | some i=>match i.zero with
        | some z=>cond (Nat.ble 1 i.size && Nat.beq z.cells.size i.size && Nat.beq (bj P e).ks.length i.size) (.act (Ci e i.size i.bytes (mt e)) args) .bad
        | none=>.bad
      | none=>.bad
    | _,_=>.bad
  | _=>.bad
def FN (n b:Nat) (z:List KV):FA:=fun A xs=>
  match xs with
  | [.int _ l,.int _ c]=>.kU (decide (0≤l) && decide (l≤c) && Nat.ble (b * c.toNat) 281474976710656) (.sl A.next 0 l.toNat c.toNat,A.new (.row (dv z c.toNat) n))
  | _=>.no
def MS (T b:Nat) (z:KV):FA:=fun A xs=>
  match xs with
  | [.int _ l,.int _ c]=>.kU (decide (0≤l) && decide (l≤c) && Nat.ble (b * c.toNat) 281474976710656) (.al T A.next 0 l.toNat,A.new (.arr (.ts T .any c.toNat (dv [z] c.toNat) (fun _=>z))))
  | _=>.no
def rI (P:Program) (mt:TypeId→Bool) (t:TypeId) (l c:Operand):o6:=
  match P.underlying t with
  | some (.slice e)=>
    match P.info? e with
    | some i=>match i.zero with
      | some z=>cond (mt e) (cond (Nat.ble 1 i.size && Nat.ble 1 i.bytes && Nat.beq z.cells.size i.size && flat z && z.cells.toList.all scalar && Nat.beq (bj P e).ks.length i.size && cZ (bj P e) (hH (bj P e) (gH z))) (.act (MS e i.bytes (hH (bj P e) (gH z))) [l,c]) .bad) <| cond (Nat.ble 1 i.size && Nat.ble 1 i.bytes && Nat.beq z.cells.size i.size && flat z && z.cells.toList.all scalar && fS (gH z).cells) (.act (FN i.size i.bytes (gH z).cells) [l,c]) .bad
      | none=>.bad
    | none=>.bad
  | _=>.bad
def vr (es:List KV) (o:Nat) (new:List KV):List KV:=es.take o ++ new ++ es.drop (o+new.length)
def Hi (o k:Nat) (f g:Nat→KV):Nat→KV:=fun i=>cond (Nat.blt i o) (f i) (cond (Nat.blt i (o+k)) (g (i - o)) (f i))
def ZB (e:Nat):FA:=fun A xs=>
  match xs with
  | [.al e1 b o n,y]=>match FM A y,A.get b with
    | some (.ts e' _ m new an),some (.arr (.ts e2 _ N es acc))=>cond (Nat.beq e e' && Nat.beq e e1 && Nat.beq e e2)
        (.ok (.int .i64 (Nat.min m n:Nat),A.put b (.arr (.ts e .any N (vr es o (new.take (Nat.min m n))) (Hi o (Nat.min m n) acc an))))) .no
    | _,_=>.no
  | _=>.no
def Hj (P:Program) (argTypes:List TypeId) (args:List Operand):o6:=
  match argTypes with
  | [t,u]=>
    match P.underlying t,P.underlying u with
    | some (.slice e),some (.slice _)=>match size? P e with
      | some n=>cond (Nat.ble 1 n && Nat.beq (bj P e).ks.length n) (.act (ZB e) args) .bad
      | none=>.bad
    | _,_=>.bad
  | _=>.bad
def vt (P:Program) (mt:TypeId→Bool) (b:Builtin) (argTypes:List TypeId) (args:List Operand):o6:=
  match b with
  | .len=>QO P argTypes args
  | .min=>.pure (Ch false) args
  | .max=>.pure (Ch true) args
  | .append=>AE P mt argTypes args
  | .copy=>Hj P argTypes args
  | _=>.bad
inductive AG where
  | no
  | out (e:ai) (t:bp) (A:aj)
  | br (c:Bool) (x y:AG)
inductive qP where
  | no
  | out (v:KV) (A:aj)
  | br (c:Bool) (x y:qP)
structure Xq where
  ac:FuncId→Option (List KV→aj→qP)
  mt:TypeId→Bool
  fz:Bool
  eg:Bool
def Xq.none:Xq:=⟨fun _=>.none,fun _=>false,false,false⟩
structure dQ where
  pc:FuncId→Option (List KV→KR KV)
  lp:FuncId→Nat→Option (bp→aj→AG)
  x:Xq
def dQ.none:dQ:=⟨fun _=>.none,fun _ _=>.none,.none⟩
def QP (A:aj) (v:KV):KV×aj:=
  match v with
  | .al T b o n=>match A.get b with
    | some (.arr (.ts T' m N es acc))=>cond (Nat.beq T T') (.ts T .any n ((es.drop o).take n) (fun i=>acc (o+i)),A.put b (.iD (.ts T' m N es acc))) (.aq,A)
    | some (.iD (.ts T' _ _ es acc))=>cond (Nat.beq T T') (.ts T .any n ((es.drop o).take n) (fun i=>acc (o+i)),A) (.aq,A)
    | _=>(.aq,A)
  | v=>(v,A)
def MT (A:aj):List KV→List KV×aj
  | []=>([],A)
  | v :: vs=>((QP A v).1 :: (MT (QP A v).2 vs).1,(MT (QP A v).2 vs).2)
def TU (A:aj) (v:KV):KV×aj:=
  match v with
  | .agg cs=>(.agg (MT A cs).1,(MT A cs).2)
  | v=>QP A v
def wh (A:aj):List KV→List KV×aj
  | []=>([],A)
  | v :: vs=>((TU A v).1 :: (wh (TU A v).2 vs).1,(wh (TU A v).2 vs).2)
def cf (P:Program) (f:KV→KV) (t:TypeId) (e:KV):KV:=EN (bj P t).agg ((leaves e (bj P t).ks 0).map f)
def aK (P:Program) (d:Nat):KV→KV:=Nat.rec (motive:=fun _=>KV→KV) (fun v=>v) (fun _ ih v=>match v with
  | .ts t _ n _ acc=>.ts t .any n ((List.range n).map fun i=>cf P ih t (acc i)) (fun i=>cf P ih t (acc i))
  | v=>v) d
def a6:Nat:=6
def K7 (P:Program) (t:TypeId) (v:KV):KV:=cond (cZ (bj P t) (hH (bj P t) v)) (cf P (aK P a6) t (hH (bj P t) v)) .aq
def normArgs (P:Program):List TypeId→List KV→List KV
  | t :: ts,v :: vs=>K7 P t v :: normArgs P ts vs
  | _,_=>[]
def bM (P:Program) (g:FuncId):List TypeId:=match P.funcs.toList[g]? with
  | some fn=>fn.params.toList
  | none=>[]
def ko (P:Program) (cfg:dQ) (c:Call):o6:=
  match c.callee with
  | .value (.func g)=>match cfg.pc g with
    | some F=>cond cfg.x.fz (.Bo g (fun vs=>cond (Nat.beq vs.length (bM P g).length) (F (normArgs P (bM P g) vs)) .no) c.args.toList)
        (.yk g (fun vs=>cond (Nat.beq vs.length (bM P g).length) (F (normArgs P (bM P g) vs)) .no) c.args.toList)
    | none=>.call (.func g) c.args.toList
  | .value f=>.call f c.args.toList
  | .builtin b=>vt P cfg.x.mt b c.argTypes.toList c.args.toList
  | .invoke _ _=>.bad
def tl:Fn→Bool
  | .yield _=>true
  | _=>false
def ct (P:Program) (cfg:dQ):Op→o6
  | .move x=>.pure Vi [x]
  | .assign x=>.pure (cond cfg.x.eg Vj Vi) [x]
  | .pick c a b=>.pure ZA [c,a,b]
  | .alloc t=>nu P t
  | .box t x=>.act (wg (kF P t)) [x]
  | .build t parts=>qa P t (parts.toList.map (·.1)) (parts.toList.map (·.2))
  | .buildSlice t len parts=>jW P t len (parts.toList.map (·.1)) (parts.toList.map (·.2))
  | .load t a=>.read (MO P t) [a]
  | .store t a x=>.act (K4 P t) [a,x]
  | .nilCheck x=>.pure QK [x]
  | .binOp op t x y _=>.pure (adt P op t) [x,y]
  | .unOp op _ x=>.pure (kUn op) [x]
  | .convert src dst x=>m6 P src dst x
  | .makeFunc fn first cap=>cond (tl fn) .bad (.pure (DD fn first.size) (first.toList ++ cap.toList))
  | .fieldAddr s x f=>kV P s x f
  | .field t x f=>qb P t x f
  | .indexAddr t x ix=>kW P t x ix
  | .index t x ix=>qc P t x ix
  | .extract t ix=>.pure (TT ix) [t]
  | .slice t x lo hi mx=>qd P t x lo hi mx
  | .makeSlice t l c=>rI P cfg.x.mt t l c
  | .call c=>ko P cfg c
  | _=>.bad
def kX (t:bp):Operand→KV
  | .tmp i=>(t.get i).getD .aq
  | .const v=>cond (flat v) (gH v) .aq
  | .global _=>.aq
  | .func f=>.fn (.func f) [] []
def qW (t:bp):List Operand→List KV
  | []=>[]
  | x :: xs=>kX t x :: qW t xs
def ow (t:bp) (dst:Option Tmp) (v:KV):bp:=
  match dst with
  | some d=>t.set v d
  | none=>t
def FO (args:List KV):KV→Option (FuncId×List KV)
  | .fn (.func g) first cap=>some (g,first ++ args ++ cap)
  | _=>none
inductive BK where
  | bool (b:Bool)
  | pQ
  | no
def qQ:KV→BK
  | .bool b=>.bool b
  | .pQ _=>.pQ
  | _=>.no
section
variable {R:Type}
abbrev mH (R:Type):=FuncId→List KV→aj→(KV→aj→Option R)→Option R
def K8 (bq:mH R) (t:bp) (A:aj) (k:KV→aj→Option R) (ins:o6):Option R:=
  o6.rec (motive:=fun _=>Option R)
    (fun f xs=>(f (qW t xs)).run fun v=>k v A)
    (fun f xs=>(f A (qW t xs)).run fun v=>k v A)
    (fun f xs=>(f A (qW t xs)).run fun p=>k p.1 p.2)
    (fun f xs=>(f (qW t xs)).run fun v=>k v A)
    (fun _ f xs=>(f (qW t xs)).run fun v=>k v A)
    (fun _ f xs=>(f (wh A (qW t xs)).1).run fun v=>k v (wh A (qW t xs)).2)
    (fun f args=>Option.rec (motive:=fun _=>Option R) none (fun p=>bq p.1 p.2 A k) (FO (qW t args) (kX t f)))
    none ins
def Xr (t:bp) (d:Option Tmp) (want:Bool) (yes no:bp→Option R):Option R:=
  Option.rec (motive:=fun _=>Option R) none (fun d=>BK.rec (motive:=fun _=>Option R)
    (fun b=>Bool.rec (motive:=fun _=>Option R)
      (Bool.rec (motive:=fun _=>Option R) (yes (t.set (.bool false) d)) (no (t.set (.bool false) d)) want)
      (Bool.rec (motive:=fun _=>Option R) (no (t.set (.bool true) d)) (yes (t.set (.bool true) d)) want) b)
    (no t) none (qQ ((t.get d).getD .aq))) d
def ub (P:Program) (cfg:dQ) (bq:mH R) (all:List Oper) (o:Oper) (k:bp→aj→Option R) (t:bp) (A:aj):Option R:=
  Option.rec (motive:=fun _=>Option R) (K8 bq t A (fun v A=>k (ow t o.dst v) A) (ct P cfg o.op))
    (fun g=>Xr t ((all[g.1]?).bind (·.dst)) g.2 (fun t=>K8 bq t A (fun v A=>k (ow t o.dst v) A) (ct P cfg o.op)) (fun t=>k (ow t o.dst pg) A)) o.guard
def qy (P:Program) (cfg:dQ) (bq:mH R) (all:List Oper) (k:bp→aj→Option R) (os:List Oper):bp→aj→Option R:=
  List.rec (motive:=fun _=>bp→aj→Option R) k (fun o _ ih=>ub P cfg bq all o ih) os
abbrev KE (R:Type):=ai→bp→aj→Option R
def Vl (t:bp) (c:Operand) (f g:bp→Option R):Option R:=
  match c with
  | .tmp d=>BK.rec (motive:=fun _=>Option R) (fun b=>Bool.rec (motive:=fun _=>Option R) (g (t.set (.bool false) d)) (f (t.set (.bool true) d)) b) none none (qQ ((t.get d).getD .aq))
  | c=>BK.rec (motive:=fun _=>Option R) (fun b=>Bool.rec (motive:=fun _=>Option R) (g t) (f t) b) none none (qQ (kX t c))
def ep (i:o6):Nat:=o6.rec (motive:=fun _=>Nat) (fun _ _=>0) (fun _ _=>1) (fun _ _=>3) (fun _ _=>0) (fun _ _ _=>0) (fun _ _ _=>3) (fun _ _=>9) 9 i
def Pq:o6→List Operand
  | .pure _ xs=>xs
  | .read _ xs=>xs
  | .act _ xs=>xs
  | .look _ xs=>xs
  | .yk _ _ xs=>xs
  | .Bo _ _ xs=>xs
  | .call f xs=>f :: xs
  | .bad=>[]
def mv (P:Program) (cfg:dQ) (all:List Oper) (o:Oper):List Tmp:=uB all o ++ ou (Pq (ct P cfg o.op))
def qe (P:Program) (cfg:dQ) (all:List Oper) (x y:Oper):Bool:=BU x.dst (mv P cfg all y) || BU y.dst (mv P cfg all x) || u7 x.dst y.dst
def Bq (P:Program) (cfg:dQ) (all:List Oper) (x y:Oper):Bool:=
  qe P cfg all x y || (Nat.ble 3 (ep (ct P cfg x.op)) && !(Nat.beq (ep (ct P cfg y.op)) 0)) || (Nat.ble 3 (ep (ct P cfg y.op)) && !(Nat.beq (ep (ct P cfg x.op)) 0))
def Hk:Op→Bool
  | .alloc _=>true
  | .box _ _=>true
  | .call c=>match c.callee with
    | .builtin .append=>true
    | _=>false
  | _=>false
def K9:Op→Option Operand
  | .store _ a _=>some a
  | _=>none
def aaQ:Op→Option Operand
  | .load _ a=>some a
  | _=>none
def rJ (i:Nat) (x:Operand):List Oper→Nat→Bool
  | [],_=>true
  | o :: os,j=>(Nat.blt j i || !(BU o.dst (ou [x]))) && rJ i x os (Nat.succ j)
def DE (i:Nat) (x:Option Operand) (all:List Oper):Bool:=
  match x with
  | some x=>rJ i x all 0
  | none=>true
def DF (x y:Oper):Option (Option Operand×Operand):=
  match aaQ y.op with
  | some a=>cond (Hk x.op) (some (none,a)) (match K9 x.op with
    | some a2=>some (some a2,a)
    | none=>none)
  | none=>none
def NT (all:List Oper) (j:Nat) (x:Oper) (i:Nat) (y:Oper):Option (Option Operand×Operand):=
  match DF x y with
  | some p=>cond (rJ i p.2 all 0 && DE j p.1 all) (some p) none
  | none=>match DF y x with
    | some p=>cond (rJ j p.2 all 0 && DE i p.1 all) (some p) none
    | none=>none
def Cj (t:bp) (nx:Nat) (p:Option Operand×Operand):Bool:=
  match kX t p.2 with
  | .tp _ _ _ _ _ _=>true
  | .ptr b _=>Nat.blt b nx && (match p.1 with
    | some a2=>(match kX t a2 with
      | .ptr b2 _=>!(Nat.beq b b2)
      | .ap _ _ _ _ _=>true
      | _=>false)
    | none=>true)
  | _=>false
def JB (t:bp) (nx:Nat) (l:List (Option Operand×Operand)):Bool:=List.rec (motive:=fun _=>Bool) true (fun p _ ih=>Bool.rec false ih (Cj t nx p)) l
def xO (P:Program) (cfg:dQ) (all:List Oper) (b:List Nat) (i:Nat) (y:Oper):List Oper→Nat→List (Option Operand×Operand)
  | [],_=>[]
  | x :: xs,j=>cond (Nat.ble i j || !Bq P cfg all x y || dV b i j) (xO P cfg all b i y xs (Nat.succ j)) (match NT all j x i y with
    | some p=>p :: xO P cfg all b i y xs (Nat.succ j)
    | none=>xO P cfg all b i y xs (Nat.succ j))
def MU (P:Program) (cfg:dQ) (all:List Oper) (b:List Nat):List Oper→Nat→List (Option Operand×Operand)
  | [],_=>[]
  | o :: os,i=>xO P cfg all b i o all 0 ++ MU P cfg all b os (Nat.succ i)
def JC (P:Program) (cfg:dQ) (all:List Oper):Bool:=all.all fun o=>!(Nat.ble 3 (ep (ct P cfg o.op))) || Hk o.op || (K9 o.op).isSome
def Br (P:Program) (cfg:dQ) (all:List Oper):List (Option Operand×Operand):=MU P cfg all (az [] all) all 0
def Hl (P:Program) (cfg:dQ) (all:List Oper) (b:List Nat) (i:Nat) (y:Oper):List Oper→Nat→Bool
  | [],_=>true
  | x :: xs,j=>(Nat.ble i j || !Bq P cfg all x y || dV b i j || (!qe P cfg all x y && (NT all j x i y).isSome)) && Hl P cfg all b i y xs (Nat.succ j)
def Ck (P:Program) (cfg:dQ) (all:List Oper) (b:List Nat):List Oper→Nat→Bool
  | [],_=>true
  | o :: os,i=>Hl P cfg all b i o all 0 && Ck P cfg all b os (Nat.succ i)
def Xs (P:Program) (cfg:dQ) (all:List Oper):Bool:=pj P all && all.all (fun o=>Nat.ble (ep (ct P cfg o.op)) 3) && Ck P cfg all (az [] all) all 0 && ((Br P cfg all).isEmpty || JC P cfg all)
def fq (o:Oper):Option (TypeId×Tmp):=
  match o.op,o.guard,o.dst with
  | .alloc T,none,some d=>some (T,d)
  | _,_,_=>none
def r9 (d:Tmp):List Oper→Bool
  | []=>false
  | o :: os=>(match fq o with
    | some (_,e)=>Nat.beq d e
    | none=>false) || r9 d os
def pw (all:List Oper) (o:Oper):Option (TypeId×Tmp×Operand):=
  match o.op,o.guard,o.dst with
  | .store T (.tmp d) x,none,none=>cond (r9 d all) (some (T,d,x)) none
  | _,_,_=>none
def mI (all:List Oper) (o:Oper):Bool:=(fq o).isSome || (pw all o).isSome
def px (all:List Oper) (d:Tmp):List Oper→Option (TypeId×Operand)
  | []=>none
  | o :: os=>match pw all o with
    | some (T,e,x)=>cond (Nat.beq d e) (some (T,x)) (px all d os)
    | none=>px all d os
def Cm (i:Nat) (d:Tmp):List Oper→Nat→Bool
  | [],_=>true
  | o :: os,j=>(Nat.beq j i || !(BU o.dst [d])) && Cm i d os (Nat.succ j)
def wM (all:List Oper) (i:Nat) (d:Tmp):List Oper→Nat→Bool
  | [],_=>true
  | o :: os,j=>(Nat.beq j i || (match pw all o with
    | some (_,e,_)=>!(Nat.beq d e)
    | none=>true)) && wM all i d os (Nat.succ j)
def FQ (all:List Oper):List Oper→Nat→Bool
  | [],_=>true
  | o :: os,i=>(match fq o with
    | some (_,d)=>Cm i d all 0
    | none=>true) && (match pw all o with
    | some (_,d,x)=>rJ i x all 0 && wM all i d all 0 && r9 d (all.take i) && !(BU (some d) (ou [x]))
    | none=>true) && FQ all os (Nat.succ i)
def zh (P:Program) (cfg:dQ) (all:List Oper) (b:List Nat) (i:Nat) (y:Oper):List Oper→Nat→Bool
  | [],_=>true
  | x :: xs,j=>(Nat.ble i j || !qe P cfg all x y || dV b i j) && zh P cfg all b i y xs (Nat.succ j)
def uG (P:Program) (cfg:dQ) (all:List Oper) (b:List Nat):List Oper→Nat→Bool
  | [],_=>true
  | o :: os,i=>zh P cfg all b i o all 0 && uG P cfg all b os (Nat.succ i)
def Cn (o:Oper):Option (Operand×List Operand):=
  match o.op,o.guard with
  | .call c,none=>match c.callee with
    | .value (.tmp d)=>some (.tmp d,c.args.toList)
    | _=>none
  | _,_=>none
def xm (P:Program) (cfg:dQ) (t:bp) (p:Operand×List Operand):o6:=
  match kX t p.1 with
  | .fn (.func g) [] []=>match cfg.pc g with
    | some F=>.yk g (fun vs=>cond (Nat.beq vs.length (bM P g).length) (F (normArgs P (bM P g) vs)) .no) p.2
    | none=>.bad
  | _=>.bad
def Lb (P:Program) (cfg:dQ) (all:List Oper):Bool:=pj P all && all.all (fun o=>mI all o || Nat.ble (ep (ct P cfg o.op)) 1 || (Cn o).isSome) && uG P cfg all (az [] all) all 0 && FQ all all 0
def ZC (P:Program) (cfg:dQ) (bq:mH R) (all:List Oper) (o:Oper) (k:bp→aj→Option R) (t:bp) (A:aj):Option R:=
  Bool.rec (motive:=fun _=>Option R) (Option.rec (motive:=fun _=>Option R) (ub P cfg bq all o k t A) (fun p=>K8 bq t A (fun v A=>k (ow t o.dst v) A) (xm P cfg t p)) (Cn o)) (k (ow t o.dst .aq) A) (mI all o)
def QQ (P:Program) (cfg:dQ) (bq:mH R) (all:List Oper) (k:bp→aj→Option R) (os:List Oper):bp→aj→Option R:=
  List.rec (motive:=fun _=>bp→aj→Option R) k (fun o _ ih=>ZC P cfg bq all o ih) os
def sa (P:Program) (all:List Oper) (t:bp) (T:TypeId) (d:Tmp):Option (List KV):=
  match pW P T with
  | some z=>cond (flat z && z.cells.toList.all scalar && fS (gH z).cells && decide (some (gH z).cells.length=size? P T)) (match px all d all with
    | some (T',x)=>cond (Nat.beq T T' && decide (some (kX t x).cells.length=size? P T) && fS (kX t x).cells) (some (kX t x).cells) none
    | none=>some (gH z).cells) none
  | none=>none
def NU (P:Program) (all:List Oper) (t0:bp) (k:bp→aj→Option R) (os:List Oper):bp→aj→Option R:=
  List.rec (motive:=fun _=>bp→aj→Option R) k (fun o _ ih t A=>Option.rec (motive:=fun _=>Option R) (ih t A) (fun p=>
    Option.rec (motive:=fun _=>Option R) none (fun cs=>ih (t.set (.ptr A.next 0) p.2) (A.new (.row cs (kF P p.1)))) (sa P all t0 p.1 p.2)) (fq o)) os
def Xt (P:Program) (cfg:dQ) (o:Oper):Bool:=
  match ct P cfg o.op with
  | .call _ _=>true
  | _=>false
def Cp (P:Program) (cfg:dQ):List Oper→Nat→Option Nat
  | [],_=>none
  | o :: os,i=>cond (Xt P cfg o) (some i) (Cp P cfg os (Nat.succ i))
def Cq (P:Program) (cfg:dQ) (b:List Nat) (c:Nat):List Oper→Nat→Bool
  | [],_=>true
  | o :: os,i=>cond (Nat.beq i c) true (Nat.ble (ep (ct P cfg o.op)) 1 && cond (Nat.blt i c) (dV b c i) (dV b i c)) && Cq P cfg b c os (Nat.succ i)
def DG (P:Program) (cfg:dQ) (all:List Oper):Bool:=
  match Cp P cfg all 0 with
  | some c=>pj P all && uG P cfg all (az [] all) all 0 && Cq P cfg (az [] all) c all 0
  | none=>false
def QR (P:Program) (cfg:dQ) (bq:mH R) (ops:List Oper) (draw:Bool) (k:bp→aj→Option R):bp→aj→Option R:=
  Bool.rec (motive:=fun _=>bp→aj→Option R) (qy P cfg bq ops k ops) (Bool.rec (motive:=fun _=>bp→aj→Option R)
    (Bool.rec (motive:=fun _=>bp→aj→Option R)
      (Bool.rec (motive:=fun _=>bp→aj→Option R) (fun _ _=>none) (QQ P cfg bq ops (fun t A=>NU P ops t k ops t A) ops) (Lb P cfg ops))
      (qy P cfg bq ops k ops) (DG P cfg ops))
    (fun t A=>qy P cfg bq ops (fun t' A'=>Bool.rec (motive:=fun _=>Option R) none (k t' A') (JB t' A.next (Br P cfg ops))) ops t A) (Xs P cfg ops)) draw
def Vm (k:KE R) (f:bp→aj→Option R):KE R:=fun e t A=>ai.rec (motive:=fun _=>Option R) (f t A) (fun i=>k (.exit i) t A) (fun l=>k (.goto l) t A) (k .ret t A) e
def aaR (id:Nat) (k:KE R):KE R:=fun e t A=>ai.rec (motive:=fun _=>Option R) (k .normal t A) (fun i=>Bool.rec (motive:=fun _=>Option R) (k (.exit i) t A) (k .normal t A) (Nat.beq i id)) (fun l=>k (.goto l) t A) (k .ret t A) e
def QS (k:KE R):KE R:=fun e t A=>ai.rec (motive:=fun _=>Option R) (k .normal t A) (fun i=>k (.exit i) t A) (fun _=>none) (k .ret t A) e
def MV (g:KE R→bp→aj→Option R) (k:KE R) (L:Nat):bp→aj→Option R:=
  Nat.rec (motive:=fun _=>bp→aj→Option R) (fun _ _=>none) (fun _ ih=>g (Vm k ih)) L
def qP.run (k:KV→aj→Option R) (x:qP):Option R:=qP.rec (motive:=fun _=>Option R) none (fun v A=>k v A) (fun c _ _ rx ry=>Bool.rec (motive:=fun _=>Option R) ry rx c) x
def AG.run (k:KE R) (x:AG):Option R:=AG.rec (motive:=fun _=>Option R) none (fun e t A=>k e t A) (fun c _ _ rx ry=>Bool.rec (motive:=fun _=>Option R) ry rx c) x
def ZD (F:bp→aj→AG) (k:KE R) (t:bp) (A:aj):Option R:=(F t A).run k
def n8 (P:Program) (cfg:dQ) (bq:mH R) (L:Nat) (f:FuncId) (c:Code):Nat→KE R→bp→aj→Option R:=
  Code.rec (motive:=fun _=>Nat→KE R→bp→aj→Option R) (fun _ k t A=>k .normal t A)
    (fun _ ops d _ k=>QR P cfg bq ops.toList d (fun t A=>k .normal t A))
    (fun _ _ a b p k=>a (2 * p) (Vm k fun t A=>b (2 * p+1) k t A))
    (fun c _ _ a b p k t A=>Vl t c (fun t=>a (2 * p) k t A) (fun t=>b (2 * p+1) k t A))
    (fun id _ g p k=>g (2 * p) (aaR id k))
    (fun _ g p k=>Option.rec (motive:=fun _=>bp→aj→Option R) (MV (g (2 * p)) k L) (fun F=>ZD F k) (cfg.lp f p))
    (fun _ _ _ _ _ _ _ _ _ _=>none) (fun id _ k t A=>k (.exit id) t A) (fun _ g p k=>g (2 * p) (QS k)) (fun _ _ k t A=>k .normal t A) (fun l _ k t A=>k (.goto l) t A) (fun _ k t A=>k .ret t A) (fun _ _ _ _ _=>none) c
def mh:List KV→Nat→bp→bp
  | [],_,t=>t
  | v :: vs,i,t=>mh vs (Nat.succ i) (t.set v i)
def Cr (P:Program) (A:aj) (t:bp):List ResultVar→Option (List KV)
  | []=>some []
  | .tmp x :: rs=>(Cr P A t rs).map (kX t (.tmp x) :: ·)
  | .cell a ty :: rs=>match MO P ty A [kX t (.tmp a)] with
    | .ok v=>(Cr P A t rs).map (v :: ·)
    | _=>none
def zF:List KV→KV
  | [v]=>v
  | vs=>.pQ vs
def Xu (P:Program) (fn:Func) (k:List KV→aj→Option R):KE R:=fun e t A=>
  ai.rec (motive:=fun _=>Option R) (Option.rec (motive:=fun _=>Option R) none (fun vs=>k vs A) (Cr P A t fn.results.toList)) (fun _=>none) (fun _=>none) (Option.rec (motive:=fun _=>Option R) none (fun vs=>k vs A) (Cr P A t fn.results.toList)) e
def MW (P:Program) (cfg:dQ) (bq:mH R) (L:Nat) (f:FuncId) (args:List KV) (A:aj) (k:List KV→aj→Option R):Option R:=
  match P.funcs.toList[f]? with
  | some fn=>match fn.body with
    | some c=>n8 P cfg bq L f c 1 (Xu P fn k) (mh args 0 .leaf) A
    | none=>none
  | none=>none
def AH (P:Program) (cfg:dQ) (L:Nat) (n:Nat):mH R:=
  Nat.rec (motive:=fun _=>mH R) (fun _ _ _ _=>none) (fun _ ih f args A k=>
    Bool.rec (motive:=fun _=>Option R) none (Option.rec (motive:=fun _=>Option R) (MW P cfg ih L f args A fun vs B=>k (zF vs) B) (fun F=>qP.run k (F args A)) (cfg.x.ac f)) (Nat.blt f yB)) n
end
def se (P:Program):List TypeId→List KV→List KV
  | t :: ts,v :: vs=>K7 P t v :: se P ts vs
  | _,_=>[]
def py (P:Program) (g:FuncId):List TypeId:=match P.funcs.toList[g]? with
  | some fn=>fn.resultTypes.toList
  | none=>[]
def lL (P:Program) (cfg:dQ) (L n:Nat) (f:FuncId) (args:List KV):Option KV:=
  MW P cfg (AH P cfg L n) L f args .empty fun vs A=>Bool.rec (motive:=fun _=>Option KV) none (some (zF (se P (py P f) (wh A vs).1))) (Nat.beq vs.length (py P f).length)
end
end Go.K
end
section
namespace Go.K
open Go Go.av
structure Xv where
  cs:List Value
  bm:Nat
  own:Bool
  bo:Option (Nat×Nat)
structure Env where
  κ:Nat→Option Nat
  z:Nat→Option Xv
  φ:Nat→Option Nat
  α:Nat→Option (Nat×Nat×Nat)
structure Env.le (E E' : Env):Prop where
  α:∀ b p,E.α b=some p→E'.α b=some p
  κ:∀ b x,E.κ b=some x→E'.κ b=some x
  z:∀ b r,E.z b=some r→E'.z b=some r
  φ:∀ b g,E.φ b=some g→E'.φ b=some g
theorem Env.le_refl (E:Env):E.le E:=⟨fun _ _ h=>h,fun _ _ h=>h,fun _ _ h=>h,fun _ _ h=>h⟩
theorem Env.le_trans {E F G:Env} (h:E.le F) (k:F.le G):E.le G:=⟨fun b p e=>k.α b p (h.α b p e),fun b x e=>k.κ b x (h.κ b x e),fun b x e=>k.z b x (h.z b x e),fun b x e=>k.φ b x (h.φ b x e)⟩
def mU (sz off:Nat) (cs es:List Value):Prop:=∀ (i:Nat) (x:Value),es[i]? = some x→x.cells.size=sz∧∀ (k:Nat) (y:Value),x.cells[k]? = some y→cs[off+i * sz+k]? = some y
def Pr (E:Env) (sz:Nat) (a:Option Addr) (n:Nat) (es:List Value):Prop:=
  (a=none∧n=0)∨∃ b off r,a=some ⟨b,off,none⟩∧E.z b=some r∧r.bm=sz∧mU sz off r.cs es
def Hm (E:Env) (sz:Nat) (a:Option Addr) (n cap:Nat):Mk→Prop
  | .any=>True
  | .exact=>cap=n∧∀ b off,a=some ⟨b,off,none⟩→∃ r,E.z b=some r∧r.own=true∧r.bo=none∧off+cap * sz=r.cs.length
  | .aW f=>cap=n∧((n=0∧a=none)∨∃ b r g,a=some ⟨b,0,none⟩∧E.z b=some r∧r.own=true∧E.φ f=some g∧r.bo=some (g,0)∧r.cs.length=n * sz)
structure gM (P:Program) (T:TypeId) (n:Nat) (es:List KV) (acc:Nat→KV):Prop where
  len:n=es.length
  acc:∀ i,i < n→acc i=es.getD i .aq
  typed:eo (bj P T) es=true
def aQ (P:Program) (T:TypeId):Nat:=(bj P T).ks.length
def Xw (P:Program) (E:Env) (T:TypeId) (m:Mk) (n:Nat) (a7:List Value) (v:Value):Prop:=
  ∃ a cap,v = .slice a n cap∧n≤cap∧Pr E (aQ P T) a n a7∧Hm E (aQ P T) a n cap m
structure Ps (P:Program) (T Tc:TypeId) (k:Nat):Prop where
  is:∀ m c,(bj P Tc).ks[m]? = some c→(bj P T).ks[k+m]? = some c
def Xx (P:Program) (E:Env) (T Tc:TypeId) (i k:Nat) (es:List KV) (a7:List Value) (v:Value):Prop:=
  i < es.length∧Ps P T Tc k∧∃ b off r,v = .pointer (some ⟨b,off+i * aQ P T+k,none⟩)∧E.z b=some r∧mU (aQ P T) off r.cs a7
def NV (P:Program) (E:Env) (T:TypeId) (b o n:Nat) (v:Value):Prop:=
  (n=0∧o=0∧v = .slice none 0 0)∨∃ x L N c,E.α b=some (x,L,N)∧v = .slice (some ⟨x,o * aQ P T,none⟩) n c∧n≤c∧o+n≤N∧(o+c) * aQ P T=L
def TV (P:Program) (E:Env) (T Tc:TypeId) (b i k:Nat) (v:Value):Prop:=
  ∃ x L N,E.α b=some (x,L,N)∧Ps P T Tc k∧i < N∧v = .pointer (some ⟨x,i * aQ P T+k,none⟩)
mutual
def VK (P:Program) (E:Env):KV→Value→Prop
  | .int k n,v=>v = .int k n
  | .bool b,v=>v = .bool b
  | .str s,v=>v = .string s
  | .agg cs,v=>∃ l,v = .agg ⟨l⟩∧aP P E cs l
  | .pQ cs,v=>∃ l,v = .tuple ⟨l⟩∧aP P E cs l
  | .ts T m n es acc,v=>gM P T n es acc∧∃ a7,aP P E es a7∧Xw P E T m n a7 v
  | .tp T Tc i k es acc,v=>gM P T es.length es acc∧∃ a7,aP P E es a7∧Xx P E T Tc i k es a7 v
  | .al T b o n,v=>NV P E T b o n v
  | .ap T Tc b i k,v=>TV P E T Tc b i k v
  | .ptr b off,v=>∃ x,E.κ b=some x∧v = .pointer (some ⟨x,off,none⟩)
  | .sl b off n c,v=>∃ x,E.κ b=some x∧v = .slice (some ⟨x,off,none⟩) n c
  | .yz,v=>v = .pointer none
  | .jL,v=>v = .slice none 0 0
  | .vm,v=>v = .map none
  | .map b,v=>∃ x,E.κ b=some x∧v = .map (some x)
  | .fn f first cap,v=>∃ l m,v = .func f ⟨l⟩ ⟨m⟩∧aP P E first l∧aP P E cap m
  | .zC,v=>v = .nilFunc
  | .iface t x,v=>∃ y,v = .iface t y∧VK P E x y
  | .zD,v=>v = .nilIface
  | .aq,_=>True
def aP (P:Program) (E:Env):List KV→List Value→Prop
  | [],l=>l = []
  | x :: xs,l=>∃ y ys,l=y :: ys∧VK P E x y∧aP P E xs ys
end
variable {P:Program} {E E' : Env}
theorem Hm.mono (h:E.le E') {sz:Nat} {a:Option Addr} {n cap:Nat} {m:Mk} (k:Hm E sz a n cap m):Hm E' sz a n cap m:=by
  cases m with
  | any=>trivial
  | exact=>exact ⟨k.1,fun b off e=>by obtain ⟨r,h1,h2⟩:=k.2 b off e; exact ⟨r,h.z _ _ h1,h2⟩⟩
  | aW f=>
    refine ⟨k.1,k.2.imp id ?_⟩
    rintro ⟨b,r,g,h1,h2,h3,h4,h5⟩
    exact ⟨b,r,g,h1,h.z _ _ h2,h3,h.φ _ _ h4,h5⟩
theorem Pr.mono (h:E.le E') {sz:Nat} {a:Option Addr} {n:Nat} {es:List Value} (k:Pr E sz a n es):Pr E' sz a n es:=by
  refine k.imp id ?_
  rintro ⟨b,off,r,h1,h2,h3⟩
  exact ⟨b,off,r,h1,h.z _ _ h2,h3⟩
theorem Xw.mono (h:E.le E') {T:TypeId} {m:Mk} {n:Nat} {es:List Value} {v:Value} (k:Xw P E T m n es v):Xw P E' T m n es v:=by
  obtain ⟨a,cap,h1,h2,h3,h4⟩:=k
  exact ⟨a,cap,h1,h2,h3.mono h,h4.mono h⟩
theorem Xx.mono (h:E.le E') {T Tc:TypeId} {i k:Nat} {es:List KV} {a7:List Value} {v:Value} (q:Xx P E T Tc i k es a7 v):Xx P E' T Tc i k es a7 v:=by
  obtain ⟨h1,h2,b,off,r,h3,h4,h5⟩:=q
  exact ⟨h1,h2,b,off,r,h3,h.z _ _ h4,h5⟩
theorem NV.mono (h:E.le E') {T:TypeId} {b o n:Nat} {v:Value} (q:NV P E T b o n v):NV P E' T b o n v:=by
  refine q.imp id ?_
  rintro ⟨x,L,N,c,h1,h2⟩
  exact ⟨x,L,N,c,h.α _ _ h1,h2⟩
theorem TV.mono (h:E.le E') {T Tc:TypeId} {b i k:Nat} {v:Value} (q:TV P E T Tc b i k v):TV P E' T Tc b i k v:=by
  obtain ⟨x,L,N,h1,h2⟩:=q
  exact ⟨x,L,N,h.α _ _ h1,h2⟩
mutual
theorem VK.mono (h:E.le E'):∀ {v:KV} {v' : Value},VK P E v v'→VK P E' v v'
  | .int k n,v,q=>q
  | .bool b,v,q=>q
  | .str s,v,q=>q
  | .agg cs,v,q=>by
    simp only [VK] at q ⊢
    obtain ⟨l,e,q⟩:=q
    exact ⟨l,e,aP.mono h q⟩
  | .pQ cs,v,q=>by
    simp only [VK] at q ⊢
    obtain ⟨l,e,q⟩:=q
    exact ⟨l,e,aP.mono h q⟩
  | .ts T m n es acc,v,q=>by
    simp only [VK] at q ⊢
    obtain ⟨t,l,q,k⟩:=q
    exact ⟨t,l,aP.mono h q,k.mono h⟩
  | .tp T Tc i k es acc,v,q=>by
    simp only [VK] at q ⊢
    obtain ⟨t,l,q,k⟩:=q
    exact ⟨t,l,aP.mono h q,k.mono h⟩
  | .al T b o n,v,q=>by
    simp only [VK] at q ⊢
    exact q.mono h
  | .ap T Tc b i k,v,q=>by
    simp only [VK] at q ⊢
    exact q.mono h
  | .ptr b off,v,q=>by
    simp only [VK] at q ⊢
    obtain ⟨x,e,q⟩:=q
    exact ⟨x,h.κ _ _ e,q⟩
  | .sl b off n c,v,q=>by
    simp only [VK] at q ⊢
    obtain ⟨x,e,q⟩:=q
    exact ⟨x,h.κ _ _ e,q⟩
  | .yz,v,q=>q
  | .jL,v,q=>q
  | .vm,v,q=>q
  | .map b,v,q=>by
    simp only [VK] at q ⊢
    obtain ⟨x,e,q⟩:=q
    exact ⟨x,h.κ _ _ e,q⟩
  | .fn f first cap,v,q=>by
    simp only [VK] at q ⊢
    obtain ⟨l,m,e,q1,q2⟩:=q
    exact ⟨l,m,e,aP.mono h q1,aP.mono h q2⟩
  | .zC,v,q=>q
  | .iface t x,v,q=>by
    simp only [VK] at q ⊢
    obtain ⟨y,e,q⟩:=q
    exact ⟨y,e,VK.mono h q⟩
  | .zD,v,q=>q
  | .aq,v,q=>q
theorem aP.mono (h:E.le E'):∀ {v:List KV} {v' : List Value},aP P E v v'→aP P E' v v'
  | [],_,q=>q
  | x :: xs,_,q=>by
    simp only [aP] at q ⊢
    obtain ⟨y,ys,e,q1,q2⟩:=q
    exact ⟨y,ys,e,VK.mono h q1,aP.mono h q2⟩
end
theorem aP.nil:aP P E [] []:=by simp [aP]
theorem aP.cons {x:KV} {y:Value} {xs:List KV} {ys:List Value} (h:VK P E x y) (k:aP P E xs ys):aP P E (x :: xs) (y :: ys):=by
  simp only [aP]; exact ⟨y,ys,rfl,h,k⟩
theorem aP.bJ {l:List Value} (h:aP P E [] l):l = []:=by simpa [aP] using h
theorem aP.cons_inv {x:KV} {xs:List KV} {l:List Value} (h:aP P E (x :: xs) l):∃ y ys,l=y :: ys∧VK P E x y∧aP P E xs ys:=by simpa [aP] using h
theorem aP.dH {x:KV} {l:List Value} (h:aP P E [x] l):∃ y,l = [y]∧VK P E x y:=by
  obtain ⟨y,ys,rfl,h1,h2⟩:=h.cons_inv
  rw [h2.bJ]; exact ⟨y,rfl,h1⟩
theorem aP.kp {x y:KV} {l:List Value} (h:aP P E [x,y] l):∃ x' y',l = [x',y']∧VK P E x x'∧VK P E y y':=by
  obtain ⟨a,ys,rfl,h1,h2⟩:=h.cons_inv
  obtain ⟨b,rfl,h3⟩:=h2.dH
  exact ⟨a,b,rfl,h1,h3⟩
theorem aP.JD {x y u:KV} {l:List Value} (h:aP P E [x,y,u] l):∃ x' y' u',l = [x',y',u']∧VK P E x x'∧VK P E y y'∧VK P E u u':=by
  obtain ⟨a,ys,rfl,h1,h2⟩:=h.cons_inv
  obtain ⟨b,c,rfl,h3,h4⟩:=h2.kp
  exact ⟨a,b,c,rfl,h1,h3,h4⟩
theorem aP.length:∀ {l:List KV} {l' : List Value},aP P E l l'→l'.length=l.length
  | [],l',h=>by rw [h.bJ]; rfl
  | x :: xs,l',h=>by
    obtain ⟨y,ys,rfl,_,k⟩:=h.cons_inv
    simp [aP.length k]
theorem aP.get:∀ {l:List KV} {l' : List Value} {i:Nat} {v:KV},aP P E l l'→l[i]? = some v→∃ v',l'[i]? = some v'∧VK P E v v'
  | [],_,_,_,_,e=>by simp at e
  | x :: xs,l',i,v,h,e=>by
    obtain ⟨y,ys,rfl,vd,k⟩:=h.cons_inv
    cases i with
    | zero=>simp at e; subst e; exact ⟨y,rfl,vd⟩
    | succ i=>simp at e; simpa using aP.get k e
theorem aP.append:∀ {a:List KV} {a' : List Value} {b:List KV} {b' : List Value},aP P E a a'→aP P E b b'→aP P E (a ++ b) (a' ++ b')
  | [],a',b,b',h,k=>by rw [h.bJ]; exact k
  | x :: xs,a',b,b',h,k=>by
    obtain ⟨y,ys,rfl,vd,m⟩:=h.cons_inv
    exact .cons vd (aP.append m k)
theorem aP.take:∀ (n:Nat) {l:List KV} {l' : List Value},aP P E l l'→aP P E (l.take n) (l'.take n)
  | 0,_,_,_=>by simp [aP.nil]
  | n+1,[],l',h=>by rw [h.bJ]; simp [aP.nil]
  | n+1,x :: xs,l',h=>by
    obtain ⟨y,ys,rfl,vd,k⟩:=h.cons_inv
    simpa using aP.cons vd (aP.take n k)
theorem aP.drop:∀ (n:Nat) {l:List KV} {l' : List Value},aP P E l l'→aP P E (l.drop n) (l'.drop n)
  | 0,_,_,h=>by simpa using h
  | n+1,[],l',h=>by rw [h.bJ]; simp [aP.nil]
  | n+1,x :: xs,l',h=>by
    obtain ⟨y,ys,rfl,_,k⟩:=h.cons_inv
    simpa using aP.drop n k
theorem Hn {α:Type} : ∀ {n:Nat} {l r:List α},rH n l=some r→r=l.take n∧n≤l.length
  | 0,l,r,h=>by simp [rH] at h; subst h; simp
  | n+1,[],r,h=>by simp [rH] at h
  | n+1,x :: xs,r,h=>by
    simp only [rH,Option.map_eq_some_iff] at h
    obtain ⟨q,hq,rfl⟩:=h
    obtain ⟨rfl,hn⟩:=Hn hq
    exact ⟨by simp,by simpa using hn⟩
theorem Cs {α:Type} : ∀ (n:Nat) (l:List α),wK n l=l.drop n
  | 0,l=>rfl
  | n+1,[]=>rfl
  | n+1,x :: xs=>by simp [wK,Cs n xs]
theorem Ct:∀ {n:Nat} {l:List Value},n≤l.length→takeN n l=some (l.take n)
  | 0,l,_=>rfl
  | n+1,[],h=>by simp at h
  | n+1,x :: xs,h=>by rw [NA,Ct (n:=n) (l:=xs) (by simpa using h)]; rfl
theorem aP.rH {n k:Nat} {l r:List KV} {l' : List Value} (h:aP P E l l') (e:rH n (wK k l)=some r):∃ r',takeN n (yd k l')=some r'∧aP P E r r'∧r' = (l'.drop k).take n:=by
  obtain ⟨rfl,hn⟩:=Hn e
  rw [Cs] at hn ⊢
  have hl:=h.length
  rw [pn]
  refine ⟨_,Ct ?_,(h.drop k).take n,rfl⟩
  simp only [List.length_drop] at hn ⊢
  omega
theorem aP.jV:∀ {n:Nat} {l:List KV} {l' : List Value} {vs r:List KV} {bP:List Value},jV n l vs=some r→aP P E l l'→aP P E vs bP→∃ r',eS n l' bP=some r'∧aP P E r r'
  | 0,l,l',[],r,bP,h,hl,hv=>by simp [K.jV] at h; subst h; rw [hv.bJ]; exact ⟨l',tS l',hl⟩
  | 0,[],l',_ :: _,r,bP,h,hl,hv=>by simp [K.jV] at h
  | 0,x :: l,l',v :: vs,r,bP,h,hl,hv=>by
    obtain ⟨y,ys,rfl,_,k⟩:=hl.cons_inv
    obtain ⟨u,us,rfl,h1,h2⟩:=hv.cons_inv
    simp only [K.jV,Option.map_eq_some_iff] at h
    obtain ⟨q,hq,rfl⟩:=h
    obtain ⟨r',e,hr⟩:=aP.jV hq k h2
    exact ⟨u :: r',by simp [rv,e],.cons h1 hr⟩
  | n+1,[],l',[],r,bP,h,hl,hv=>by simp [K.jV] at h; subst h; rw [hl.bJ,hv.bJ]; exact ⟨[],rfl,.nil⟩
  | n+1,[],l',_ :: _,r,bP,h,hl,hv=>by simp [K.jV] at h
  | n+1,x :: l,l',vs,r,bP,h,hl,hv=>by
    obtain ⟨y,ys,rfl,h1,k⟩:=hl.cons_inv
    simp only [K.jV,Option.map_eq_some_iff] at h
    obtain ⟨q,hq,rfl⟩:=h
    obtain ⟨r',e,hr⟩:=aP.jV hq k hv
    exact ⟨y :: r',by simp [nw,e],.cons h1 hr⟩
theorem aP.Kr:∀ {l:List KV} {l' : List Value},l'.length=l.length→(∀ (i:Nat) (v:KV) (v' : Value),l[i]? = some v→l'[i]? = some v'→VK P E v v')→aP P E l l'
  | [],l',h,_=>by cases l' <;> simp_all [aP.nil]
  | x :: xs,l',h,k=>by
    cases l' with
    | nil=>simp at h
    | cons y ys=>exact .cons (k 0 x y rfl rfl) (aP.Kr (by simpa using h) fun i v v' e e'=>k (i+1) v v' (by simpa using e) (by simpa using e'))
theorem VK.cS {k:IntKind} {n:Int} {v:Value} (h:VK P E (.int k n) v):v = .int k n:=by simpa [VK] using h
theorem VK.dC {b:Bool} {v:Value} (h:VK P E (.bool b) v):v = .bool b:=by simpa [VK] using h
theorem VK.pz {s:ByteArray} {v:Value} (h:VK P E (.str s) v):v = .string s:=by simpa [VK] using h
theorem VK.kT {cs:List KV} {v:Value} (h:VK P E (.agg cs) v):∃ l,v = .agg ⟨l⟩∧aP P E cs l:=by simpa [VK] using h
theorem VK.FT {cs:List KV} {v:Value} (h:VK P E (.pQ cs) v):∃ l,v = .tuple ⟨l⟩∧aP P E cs l:=by simpa [VK] using h
theorem VK.gG {b off:Nat} {v:Value} (h:VK P E (.ptr b off) v):∃ x,E.κ b=some x∧v = .pointer (some ⟨x,off,none⟩):=by simpa [VK] using h
theorem VK.Ho {b off n c:Nat} {v:Value} (h:VK P E (.sl b off n c) v):∃ x,E.κ b=some x∧v = .slice (some ⟨x,off,none⟩) n c:=by simpa [VK] using h
theorem VK.AI {f:Fn} {a b:List KV} {v:Value} (h:VK P E (.fn f a b) v):∃ l m,v = .func f ⟨l⟩ ⟨m⟩∧aP P E a l∧aP P E b m:=by simpa [VK] using h
theorem VK.kY {T:TypeId} {m:Mk} {n:Nat} {es:List KV} {acc:Nat→KV} {v:Value} (h:VK P E (.ts T m n es acc) v):gM P T n es acc∧∃ a7,aP P E es a7∧Xw P E T m n a7 v:=by simpa [VK] using h
theorem VK.DH {T Tc:TypeId} {i k:Nat} {es:List KV} {acc:Nat→KV} {v:Value} (h:VK P E (.tp T Tc i k es acc) v):gM P T es.length es acc∧∃ a7,aP P E es a7∧Xx P E T Tc i k es a7 v:=by simpa [VK] using h
theorem VK.sf {T:TypeId} {b o n:Nat} {v:Value} (h:VK P E (.al T b o n) v):NV P E T b o n v:=by simpa [VK] using h
theorem VK.AJ {T Tc:TypeId} {b i k:Nat} {v:Value} (h:VK P E (.ap T Tc b i k) v):TV P E T Tc b i k v:=by simpa [VK] using h
theorem VK.Ik {T:TypeId} {b o n:Nat} {v:Value} (h:NV P E T b o n v):VK P E (.al T b o n) v:=by simpa [VK] using h
theorem VK.adw {T Tc:TypeId} {b i k:Nat} {v:Value} (h:TV P E T Tc b i k v):VK P E (.ap T Tc b i k) v:=by simpa [VK] using h
theorem NV.slice {T:TypeId} {b o n:Nat} {v:Value} (h:NV P E T b o n v):∃ a c,v = .slice a n c:=by
  rcases h with ⟨rfl,_,rfl⟩ | ⟨x,L,N,c,_,rfl,_⟩
  · exact ⟨_,_,rfl⟩
  · exact ⟨_,_,rfl⟩
theorem VK.mJ {v:Value} (h:VK P E .jL v):v = .slice none 0 0:=by simpa [VK] using h
theorem VK.Hp {v:Value} (h:VK P E .yz v):v = .pointer none:=by simpa [VK] using h
theorem VK.mkInt {k:IntKind} {n:Int} : VK P E (.int k n) (.int k n):=by simp [VK]
theorem VK.ph {b:Bool} : VK P E (.bool b) (.bool b):=by simp [VK]
theorem VK.mkStr {s:ByteArray} : VK P E (.str s) (.string s):=by simp [VK]
theorem VK.ny {cs:List KV} {l:List Value} (h:aP P E cs l):VK P E (.agg cs) (.agg ⟨l⟩):=by simp only [VK]; exact ⟨l,rfl,h⟩
theorem VK.QT {cs:List KV} {l:List Value} (h:aP P E cs l):VK P E (.pQ cs) (.tuple ⟨l⟩):=by simp only [VK]; exact ⟨l,rfl,h⟩
theorem VK.tU {b x off:Nat} (h:E.κ b=some x):VK P E (.ptr b off) (.pointer (some ⟨x,off,none⟩)):=by simp only [VK]; exact ⟨x,h,rfl⟩
theorem VK.aaS {b x off n c:Nat} (h:E.κ b=some x):VK P E (.sl b off n c) (.slice (some ⟨x,off,none⟩) n c):=by simp only [VK]; exact ⟨x,h,rfl⟩
theorem VK.Xy {f:Fn} {a b:List KV} {l m:List Value} (h:aP P E a l) (k:aP P E b m):VK P E (.fn f a b) (.func f ⟨l⟩ ⟨m⟩):=by simp only [VK]; exact ⟨l,m,rfl,h,k⟩
theorem VK.undef:VK P E pg undef:=VK.QT .nil
theorem VK.pA {v:Value} : VK P E .aq v:=by simp [VK]
theorem VK.cells {v:KV} {v' : Value} (h:VK P E v v') (hu:r8 v=true):aP P E v.cells v'.cells.toList:=by
  cases v with
  | agg cs=>obtain ⟨l,rfl,q⟩:=h.kT; exact q
  | int k n=>have:=h.cS; subst this; exact .cons h .nil
  | bool b=>have:=h.dC; subst this; exact .cons h .nil
  | str b=>have:=h.pz; subst this; exact .cons h .nil
  | pQ cs=>have q:=h; obtain ⟨l,rfl,_⟩:=h.FT; exact .cons q .nil
  | ts T m n es acc=>have q:=h; obtain ⟨_,_,_,a,cap,rfl,_⟩:=h.kY; exact .cons q .nil
  | tp T Tc i k es acc=>have q:=h; obtain ⟨_,_,_,_,_,b,off,r,rfl,_⟩:=h.DH; exact .cons q .nil
  | al T b o n=>have q:=h; obtain ⟨a,c,rfl⟩:=h.sf.slice; exact .cons q .nil
  | ap T Tc b i k=>have q:=h; obtain ⟨x,L,N,_,_,_,rfl⟩:=h.AJ; exact .cons q .nil
  | ptr b off=>have q:=h; obtain ⟨x,_,rfl⟩:=h.gG; exact .cons q .nil
  | sl b off n c=>have q:=h; obtain ⟨x,_,rfl⟩:=h.Ho; exact .cons q .nil
  | yz=>have q:=h; simp only [VK] at h; subst h; exact .cons q .nil
  | jL=>have q:=h; simp only [VK] at h; subst h; exact .cons q .nil
  | vm=>have q:=h; simp only [VK] at h; subst h; exact .cons q .nil
  | map b=>have q:=h; simp only [VK] at h; obtain ⟨x,_,rfl⟩:=h; exact .cons q .nil
  | fn f a b=>have q:=h; obtain ⟨l,m,rfl,_⟩:=h.AI; exact .cons q .nil
  | zC=>have q:=h; simp only [VK] at h; subst h; exact .cons q .nil
  | iface t x=>have q:=h; simp only [VK] at h; obtain ⟨y,rfl,_⟩:=h; exact .cons q .nil
  | zD=>have q:=h; simp only [VK] at h; subst h; exact .cons q .nil
  | aq=>simp [r8] at hu
theorem VK.scalar {v:KV} {v' : Value} (h:VK P E v v') (ho:one v=true):av.scalar v' = true:=by
  cases v with
  | agg cs=>simp [one] at ho
  | pQ cs=>simp [one] at ho
  | aq=>simp [one] at ho
  | int k n=>have:=h.cS; subst this; rfl
  | bool b=>have:=h.dC; subst this; rfl
  | str b=>have:=h.pz; subst this; rfl
  | ts T m n es acc=>obtain ⟨_,_,_,a,cap,rfl,_⟩:=h.kY; rfl
  | tp T Tc i k es acc=>obtain ⟨_,_,_,_,_,b,off,r,rfl,_⟩:=h.DH; rfl
  | al T b o n=>obtain ⟨a,c,rfl⟩:=h.sf.slice; rfl
  | ap T Tc b i k=>obtain ⟨x,L,N,_,_,_,rfl⟩:=h.AJ; rfl
  | ptr b off=>obtain ⟨x,_,rfl⟩:=h.gG; rfl
  | sl b off n c=>obtain ⟨x,_,rfl⟩:=h.Ho; rfl
  | yz=>simp only [VK] at h; subst h; rfl
  | jL=>simp only [VK] at h; subst h; rfl
  | vm=>simp only [VK] at h; subst h; rfl
  | map b=>simp only [VK] at h; obtain ⟨x,_,rfl⟩:=h; rfl
  | fn f a b=>obtain ⟨l,m,rfl,_⟩:=h.AI; rfl
  | zC=>simp only [VK] at h; subst h; rfl
  | iface t x=>simp only [VK] at h; obtain ⟨y,rfl,_⟩:=h; rfl
  | zD=>simp only [VK] at h; subst h; rfl
theorem aP.scalar:∀ {l:List KV} {l' : List Value},aP P E l l'→fS l=true→∀ v ∈ l',av.scalar v=true
  | [],l',h,_,v,hv=>by rw [h.bJ] at hv; simp at hv
  | x :: xs,l',h,ho,v,hv=>by
    obtain ⟨y,ys,rfl,h1,h2⟩:=h.cons_inv
    simp only [fS,Bool.and_eq_true] at ho
    rcases List.mem_cons.1 hv with rfl | hv
    · exact h1.scalar ho.1
    · exact aP.scalar h2 ho.2 v hv
theorem tq {v:KV} (h:fS v.cells=true):r8 v=true:=by
  cases v <;> first | rfl | simp [KV.cells,fS,one] at h
mutual
theorem VK.gH:∀ (v:Value),VK P E (gH v) v
  | .bool b=>by simp [K.gH,VK]
  | .int k n=>by simp [K.gH,VK]
  | .string s=>by simp [K.gH,VK]
  | .pointer none=>by simp [K.gH,VK]
  | .pointer (some a)=>by simp [K.gH,VK]
  | .slice none 0 0=>by simp [K.gH,VK]
  | .slice none 0 (n+1)=>by simp [K.gH,VK]
  | .slice none (n+1) c=>by simp [K.gH,VK]
  | .slice (some a) n c=>by simp [K.gH,VK]
  | .map none=>by simp [K.gH,VK]
  | .map (some r)=>by simp [K.gH,VK]
  | .nilFunc=>by simp [K.gH,VK]
  | .nilIface=>by simp [K.gH,VK]
  | .agg cs=>by
    obtain ⟨l⟩:=cs
    simp only [K.gH,ofA]
    exact .ny (aP.Zz l)
  | .tuple cs=>by
    obtain ⟨l⟩:=cs
    simp only [K.gH,ofA]
    exact .QT (aP.Zz l)
  | .float _ _=>by simp [K.gH,VK]
  | .complex _ _ _=>by simp [K.gH,VK]
  | .chan _=>by simp [K.gH,VK]
  | .func _ _ _=>by simp [K.gH,VK]
  | .iface _ _=>by simp [K.gH,VK]
theorem aP.Zz:∀ (l:List Value),aP P E (Zz l) l
  | []=>.nil
  | v :: vs=>.cons (VK.gH v) (aP.Zz vs)
end
theorem wN {z:Value} (h:fS (gH z).cells=true):aP P E (gH z).cells z.cells.toList:=(VK.gH z).cells (tq h)
def yP (E:Env) (A:aj):Prop:=∀ b c g tb sb tc sc,A.get b=some (.aW tb sb)→A.get c=some (.aW tc sc)→E.φ b=some g→E.φ c=some g→b=c
def AR (A:aj) (E:Env) (x:Nat):Prop:=∃ b v L N,A.get b=some (.arr v)∧E.α b=some (x,L,N)
def AF (A:aj) (E:Env) (B:St) (g:Nat):Prop:=∃ b v x L N cs e own k,A.get b=some (.arr v)∧E.α b=some (x,L,N)∧B.get x=some (.row cs e own (some (g,k)))
def AT (A:aj) (E:Env) (B:St) (y:Nat):Prop:=AR A E y∨∃ g,AF A E B g∧y ∈ B.members g
def QU (P:Program) (E:Env) (B:St) (b:Nat) (v:KV):Prop:=∃ T N es acc,v = .ts T .any N es acc∧gM P T N es acc∧1≤aQ P T∧
  ((N=0∧E.α b=none)∨∃ x cs bo a7,E.α b=some (x,cs.length,N)∧B.get x=some (.row cs (aQ P T) true bo)∧aP P E es a7∧mU (aQ P T) 0 cs a7)
def Lc (P:Program) (E:Env) (b:Nat) (v:KV):Prop:=∃ T N es acc,v = .ts T .any N es acc∧gM P T N es acc∧1≤aQ P T∧
  ((N=0∧E.α b=none)∨∃ x r a7,E.α b=some (x,r.cs.length,N)∧E.z x=some r∧r.bm=aQ P T∧aP P E es a7∧mU (aQ P T) 0 r.cs a7)
theorem QU.mono (h:E.le E') {B B' : St} {b:Nat} {v:KV} (oy:E'.α b=E.α b) (hB:∀ x L N,E.α b=some (x,L,N)→B'.get x=B.get x) (q:QU P E B b v):QU P E' B' b v:=by
  obtain ⟨T,N,es,acc,h1,h2,h3,h4⟩:=q
  refine ⟨T,N,es,acc,h1,h2,h3,?_⟩
  rcases h4 with ⟨h4,h5⟩ | ⟨x,cs,bo,a7,h4,h5,h6,h7⟩
  · exact .inl ⟨h4,by rw [oy]; exact h5⟩
  · exact .inr ⟨x,cs,bo,a7,by rw [oy]; exact h4,by rw [hB _ _ _ h4]; exact h5,h6.mono h,h7⟩
theorem Lc.mono (h:E.le E') {b:Nat} {v:KV} (oy:E'.α b=E.α b) (q:Lc P E b v):Lc P E' b v:=by
  obtain ⟨T,N,es,acc,h1,h2,h3,h4⟩:=q
  refine ⟨T,N,es,acc,h1,h2,h3,?_⟩
  rcases h4 with ⟨h4,h5⟩ | ⟨x,r,a7,h4,h5,h6,h7,h8⟩
  · exact .inl ⟨h4,by rw [oy]; exact h5⟩
  · exact .inr ⟨x,r,a7,by rw [oy]; exact h4,h.z _ _ h5,h6,h7.mono h,h8⟩
structure DI (P:Program) (E:Env) (A:aj) (B:St):Prop where
  arr:∀ b v,A.get b=some (.arr v)→QU P E B b v
  iD:∀ b v,A.get b=some (.iD v)→Lc P E b v
  z:∀ x,AR A E x→E.z x=none∧∀ c,E.κ c≠some x
  inj:∀ b c v u x L N L' N',A.get b=some (.arr v)→A.get c=some (.arr u)→E.α b=some (x,L,N)→E.α c=some (x,L',N')→b=c
  qT:∀ b c v u x y L N L' N' cs e own g k bI e' nC k',A.get b=some (.arr v)→A.get c=some (.arr u)→E.α b=some (x,L,N)→E.α c=some (y,L',N')→B.get x=some (.row cs e own (some (g,k)))→B.get y=some (.row bI e' nC (some (g,k')))→b=c
  QV:∀ b x,E.κ b=some x→E.α b=none
  gk:∀ b p,E.α b=some p→b < A.next
  fB:∀ b x L N,E.α b=some (x,L,N)→x < B.next
  pT:∀ b v x L N cs e own g k,A.get b=some (.arr v)→E.α b=some (x,L,N)→B.get x=some (.row cs e own (some (g,k)))→g < B.next∧(∀ f,E.φ f≠some g)∧∀ y ∈ B.members g,y≠x→E.z y=none∧¬ AR A E y∧∀ c,E.κ c≠some y
  nk:∀ b v,A.get b=some (.arr v)→b < A.next∧E.κ b=none
structure ek (P:Program) (E:Env) (A:aj) (B:St):Prop where
  row:∀ b cs bm,A.get b=some (.row cs bm)→∃ x bI,E.κ b=some x∧B.get x=some (.row bI bm true none)∧aP P E cs bI
  aW:∀ b top sz,A.get b=some (.aW top sz)→(top=0∧E.φ b=none)∨∃ g,E.φ b=some g∧0 < top∧∀ x ∈ B.members g,∀ cs e own f k,B.get x=some (.row cs e own (some (f,k)))→k=0∧cs.length≤top * sz
  z:∀ b r,E.z b=some r→B.get b=some (.row r.cs r.bm r.own r.bo)
  apart:∀ b x,E.κ b=some x→E.z x=none
  inj:∀ b c x,E.κ b=some x→E.κ c=some x→b=c
  iH:yP E A
  gk:∀ b x,E.κ b=some x→b < A.next
  lM:∀ b g,E.φ b=some g→b < A.next
  live:∀ b o,A.get b=some o→b < A.next
  fB:∀ b x,E.κ b=some x→x < B.next
  lX:∀ b r,E.z b=some r→b < B.next
  ji:∀ b g,E.φ b=some g→g < B.next
  fresh:∀ g,B.next≤g→B.members g = []
  mem:∀ g x,x ∈ B.members g→x < B.next
  ar:DI P E A B
structure Ev (P:Program) (base:Nat) (E:Env) (A:aj) (B:St) (ρ:ao) (w:World) (E' : Env) (A' : aj) (B' : St) (ak:ao) (w' : World):Prop where
  dz:ek P E' A' B'
  ej:da base ρ B w ak B' w'
  le:E.le E'
  next:A.next≤A'.next
  gY:∀ x,x < B.next→(∀ b,E.κ b≠some x)→¬ AT A E B x→B'.get x=B.get x
  new:∀ b x,E'.κ b=some x→E.κ b=some x∨B.next≤x
  qz:∀ b r,E'.z b=some r→E.z b=some r∨AR A E b∨B.next≤b
  qA:∀ b g,E'.φ b=some g→(∃ c,E.φ c=some g)∨B.next≤g
  n9:∀ g,g < B.next→(∀ b,E.φ b≠some g)→¬ AF A E B g→B'.members g=B.members g
  lB:∀ x,AR A' E' x→AR A E x∨B.next≤x
  lN:∀ g,AF A' E' B' g→AF A E B g∨B.next≤g
  rK:∀ g y,y ∈ B'.members g→y ∈ B.members g∨B.next≤y
  mK:∀ y,AT A' E' B' y→AT A E B y∨B.next≤y
  rows:∀ y,y < B.next→∀ cs e own bo,B'.get y=some (.row cs e own bo)→∃ kR,B.get y=some (.row kR e own bo)∧kR.length=cs.length
theorem Ev.refl {base:Nat} {A:aj} {B:St} {ρ:ao} {w:World} (h:ek P E A B) (s:jC ρ B base w):Ev P base E A B ρ w E A B ρ w:=
  ⟨h,.refl s,Env.le_refl _,Nat.le_refl _,fun _ _ _ _=>rfl,fun _ _ h=>.inl h,fun _ _ h=>.inl h,fun _ _ h=>.inl ⟨_,h⟩,fun _ _ _ _=>rfl,fun _ h=>.inl h,fun _ h=>.inl h,fun _ _ h=>.inl h,fun _ h=>.inl h,fun _ _ cs _ _ _ h=>⟨cs,h,rfl⟩⟩
theorem Ev.trans {base:Nat} {E1 E2 E3:Env} {A1 A2 A3:aj} {B1 B2 B3:St} {hX kc MK:ao} {w1 w2 w3:World} (h:Ev P base E1 A1 B1 hX w1 E2 A2 B2 kc w2) (k:Ev P base E2 A2 B2 kc w2 E3 A3 B3 MK w3) :
    Ev P base E1 A1 B1 hX w1 E3 A3 B3 MK w3 where
  dz:=k.dz
  ej:=h.ej.trans k.ej
  le:=Env.le_trans h.le k.le
  next:=Nat.le_trans h.next k.next
  gY x hx hn ha:=by
    refine (k.gY x (Nat.lt_of_lt_of_le hx h.ej.next) (fun b e=>?_) fun q=>?_).trans (h.gY x hx hn ha)
    · rcases h.new b x e with e | e
      · exact hn b e
      · omega
    · rcases h.mK x q with e | e
      · exact ha e
      · omega
  new b x e:=by
    rcases k.new b x e with e | e
    · rcases h.new b x e with e | e
      · exact .inl e
      · exact .inr e
    · have:=h.ej.next; exact .inr (by omega)
  qz b r e:=by
    rcases k.qz b r e with e | e | e
    · exact h.qz b r e
    · exact .inr (h.lB b e)
    · have:=h.ej.next; exact .inr (.inr (by omega))
  qA b g e:=by
    rcases k.qA b g e with ⟨c,e⟩ | e
    · exact h.qA c g e
    · have:=h.ej.next; exact .inr (by omega)
  n9 g hg hn ha:=by
    refine (k.n9 g (Nat.lt_of_lt_of_le hg h.ej.next) (fun b e=>?_) fun q=>?_).trans (h.n9 g hg hn ha)
    · rcases h.qA b g e with ⟨c,e⟩ | e
      · exact hn c e
      · omega
    · rcases h.lN g q with e | e
      · exact ha e
      · omega
  lB x e:=by
    rcases k.lB x e with e | e
    · exact h.lB x e
    · have:=h.ej.next; exact .inr (by omega)
  lN g e:=by
    rcases k.lN g e with e | e
    · exact h.lN g e
    · have:=h.ej.next; exact .inr (by omega)
  rK g y e:=by
    rcases k.rK g y e with e | e
    · exact h.rK g y e
    · have:=h.ej.next; exact .inr (by omega)
  mK y e:=by
    rcases k.mK y e with e | e
    · exact h.mK y e
    · have:=h.ej.next; exact .inr (by omega)
  rows y hy cs e own bo q:=by
    obtain ⟨c1,h1,h2⟩:=k.rows y (Nat.lt_of_lt_of_le hy h.ej.next) cs e own bo q
    obtain ⟨c0,h3,h4⟩:=h.rows y hy c1 e own bo h1
    exact ⟨c0,h3,h4.trans h2⟩
@[simp] theorem aj.bO (A:aj) (b:Nat) (o:ia) (x:Nat):(A.put b o).get x=if x=b then some o else A.get x:=by simp [aj.put,aj.get,Trie.iP]
@[simp] theorem aj.cK (A:aj) (o:ia) (x:Nat):(A.new o).get x=if x=A.next then some o else A.get x:=by simp [aj.new,aj.get,Trie.iP]
@[simp] theorem aj.po (A:aj) (b:Nat) (o:ia):(A.put b o).next=A.next:=rfl
@[simp] theorem aj.bV (A:aj) (o:ia):(A.new o).next=A.next+1:=rfl
theorem yP.put {A:aj} (h:yP E A) {b:Nat} {o:ia} (ho:(∀ t s,o≠.aW t s)∨E.φ b=none):yP E (A.put b o):=by
  intro x y g tx sx ty sy hx hy ex ey
  have key:∀ {z t s},(A.put b o).get z=some (.aW t s)→E.φ z=some g→A.get z=some (.aW t s):=by
    intro z t s hz ez
    rw [aj.bO] at hz
    split at hz
    · rename_i e
      simp at hz
      rcases ho with ho | ho
      · exact absurd hz (ho t s)
      · rw [e,ho] at ez; simp at ez
    · exact hz
  exact h x y g tx sx ty sy (key hx ex) (key hy ey) ex ey
theorem yP.new {A:aj} (h:yP E A) {o:ia} (ho:(∀ t s,o≠.aW t s)∨E.φ A.next=none):yP E (A.new o):=by
  intro x y g tx sx ty sy hx hy ex ey
  have key:∀ {z t s},(A.new o).get z=some (.aW t s)→E.φ z=some g→A.get z=some (.aW t s):=by
    intro z t s hz ez
    rw [aj.cK] at hz
    split at hz
    · rename_i e
      simp at hz
      rcases ho with ho | ho
      · exact absurd hz (ho t s)
      · rw [e,ho] at ez; simp at ez
    · exact hz
  exact h x y g tx sx ty sy (key hx ex) (key hy ey) ex ey
structure KJ (P:Program) (E:Env) (A:aj) (B:St) (ρ:ao) (base:Nat) (w:World):Prop where
  k:ek P E A B
  s:jC ρ B base w
theorem Ev.kj {base:Nat} {E1 E2:Env} {A1 A2:aj} {B1 B2:St} {hX kc:ao} {w1 w2:World} (h:Ev P base E1 A1 B1 hX w1 E2 A2 B2 kc w2):KJ P E2 A2 B2 kc base w2:=⟨h.dz,h.ej.dz⟩
def VC (P:Program) (E:Env) (ρ:ao) (v:KV) (v' : Value):Prop:=∃ u,VK P E v u∧VR ρ u v'
theorem VC.mono {ρ ak:ao} {v:KV} {v' : Value} (h:VC P E ρ v v') (k:E.le E') (m:ρ.le ak):VC P E' ak v v':=by
  obtain ⟨u,h1,h2⟩:=h
  exact ⟨u,h1.mono k,h2.mono m⟩
theorem VC.aq {ρ:ao} {v' : Value} : VC P E ρ .aq v':=⟨.chan none,.pA,by simp [VR]⟩
theorem VC.undef {ρ:ao} : VC P E ρ pg undef:=⟨_,.undef,VR.undef⟩
end Go.K
end
