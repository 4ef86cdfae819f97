/- Part of the proof of ImageWins: a machine that runs the program's code over open terms, shown to be the model's, and the plain models of its functions. No conditions. -/
import Derived.Test.YtahhdndhkgbcjaaFp
section
namespace Go.K
open Go Go.aG
variable {P:Program} {E:Env}
theorem Za:∀ {bs:List Nat},u5 bs=true→∀ (i j b:Nat),bs[i]? = some b→bs[j]? = some b→i=j
 | [],_,i,j,b,hi,_=>by simp at hi
 | a::bs,h,i,j,b,hi,hj=>by
  simp only [u5,Bool.and_eq_true,List.all_eq_true,Bool.not_eq_true'] at h
  cases i with
  | zero=>
   cases j with
   | zero=>rfl
   | succ j=>
    simp at hi hj; subst hi
    have:=h.1 a (List.mem_of_getElem? hj)
    exact absurd (Nat.beq_refl a) (by rw [this]; simp)
  | succ i=>
   cases j with
   | zero=>
    simp at hi hj; subst hj
    have:=h.1 a (List.mem_of_getElem? hi)
    exact absurd (Nat.beq_refl a) (by rw [this]; simp)
   | succ j=>
    simp at hi hj
    rw [Za h.2 i j b hi hj]
theorem ux:∀ {l:List (Option Nat)} {f:Nat},f∈jJ l↔some f∈l
 | [],f=>by simp [jJ]
 | some g::l,f=>by simp [jJ,ux (l:=l)]
 | none::l,f=>by simp [jJ,ux (l:=l)]
theorem u6:∀ {l:List (Option Nat)},u5 (jJ l)=true→∀ (i j f:Nat),l[i]? = some (some f)→l[j]? = some (some f)→i=j
 | [],_,i,j,b,hi,_=>by simp at hi
 | none::l,h,i,j,f,hi,hj=>by
  cases i with
  | zero=>simp at hi
  | succ i=>
   cases j with
   | zero=>simp at hj
   | succ j=>
    simp at hi hj
    rw [u6 (l:=l) h i j f hi hj]
 | some g::l,h,i,j,f,hi,hj=>by
  simp only [jJ,u5,Bool.and_eq_true,List.all_eq_true,Bool.not_eq_true'] at h
  have key:∀ {k:Nat},l[k]? = some (some g)→False:=by
   intro k hk
   have:=h.1 g (ux.2 (List.mem_of_getElem? hk))
   exact absurd (Nat.beq_refl g) (by rw [this]; simp)
  cases i with
  | zero=>
   cases j with
   | zero=>rfl
   | succ j=>
    simp at hi hj; subst hi
    exact (key hj).elim
  | succ i=>
   cases j with
   | zero=>
    simp at hi hj; subst hj
    exact (key hi).elim
   | succ j=>
    simp at hi hj
    rw [u6 (l:=l) h.2 i j f hi hj]
theorem H8:∀ {l:List FI} {i:Nat} {x:FI},l[i]? = some x→(H6 l)[i]? = some x.f
 | [],_,_,h=>by simp at h
 | y::l,0,x,h=>by simp at h; subst h; rfl
 | y::l,i+1,x,h=>by simp at h; simpa [H6] using H8 h
theorem qH:∀ {l:List FI},(H6 l).length=l.length
 | []=>rfl
 | y::l=>by simp [H6,qH]
theorem OK:∀ {l:List FI},TB l=true→∀ x∈l,x.ok=true
 | [],_,x,h=>by simp at h
 | y::l,h,x,hx=>by
  simp only [TB] at h
  cases hl:TB l with
  | false=>rw [hl] at h; simp at h
  | true=>
   rw [hl,cond_true] at h
   rcases List.mem_cons.1 hx with rfl | hx
   ·exact h
   ·exact OK hl x hx
theorem gJ:∀ (l:List jx) (A:az),(rD A l).next=A.next+l.length
 | [],_=>rfl
 | p::l,A=>by rw [rD,gJ l]; simp; omega
theorem Cn:∀ {l:List jx} {A:az} {x:Nat},x < A.next→(rD A l).get x=A.get x
 | [],_,_,_=>rfl
 | p::l,A,x,h=>by rw [rD,Cn (by simp; omega),az.dt,if_neg (by omega)]
theorem KD:∀ {l:List jx} {A:az} {i:Nat} {p:jx},l[i]? = some p→(rD A l).get (A.next+i)=some p
 | [],_,_,_,h=>by simp at h
 | q::l,A,0,p,h=>by
  simp at h; subst h
  rw [rD,Nat.add_zero,Cn (by simp),az.dt,if_pos rfl]
 | q::l,A,i+1,p,h=>by
  simp at h
  have:=KD (A:=A.new q) h
  rw [az.cq] at this
  rw [rD,show A.next+(i+1)=A.next+1+i by omega]
  exact this
theorem QD:∀ {l:List jx} {A:az} {x:Nat} {o:jx},(rD A l).get x=some o→(A.get x=some o∧x < A.next+l.length)∨(x < A.next∧A.get x=some o)∨(∃ i p,x=A.next+i∧l[i]? = some p∧o=p)∨A.get x=some o
 | [],_,_,_,h=>.inr (.inr (.inr h))
 | p::l,A,x,o,h=>by
  rw [rD] at h
  have key:(A.new p).get x=some o→(∃ i q,x=A.next+i∧(p::l)[i]? = some q∧o=q)∨A.get x=some o:=by
   intro h
   rw [az.dt] at h
   split at h
   ·rename_i e; simp at h; exact .inl ⟨0,p,by omega,rfl,h.symm⟩
   ·exact .inr h
  rcases QD h with ⟨h,_⟩ | ⟨_,h⟩ | ⟨i,q,e,h1,h2⟩ | h
  ·exact .inr (.inr (key h))
  ·exact .inr (.inr (key h))
  ·exact .inr (.inr (.inl ⟨i+1,q,by rw [e]; simp; omega,by simpa using h1,h2⟩))
  ·exact .inr (.inr (key h))
theorem QE {l:List jx} {A:az} {x:Nat} {o:jx} (h:(rD A l).get x=some o):A.get x=some o∨∃ i p,x=A.next+i∧l[i]? = some p∧o=p:=by
 rcases QD h with ⟨h,_⟩ | ⟨_,h⟩ | h | h
 ·exact .inl h
 ·exact .inl h
 ·exact .inr h
 ·exact .inl h
theorem D9:∀ (l:List (Option Nat)) (A:az),(xt A l).next=A.next
 | [],_=>rfl
 | some f::l,A=>by rw [xt,D9 l]; rfl
 | none::l,A=>by rw [xt,D9 l]
theorem Dd:∀ {l:List (Option Nat)} {A:az} {x:Nat},(xt A l).get x=if x∈jJ l then some .dead else A.get x
 | [],A,x=>by simp [xt,jJ]
 | none::l,A,x=>by rw [xt,Dd,jJ]
 | some f::l,A,x=>by
  rw [xt,Dd,jJ,az.ca]
  by_cases h1:x∈jJ l
  ·rw [if_pos h1,if_pos (List.mem_cons_of_mem _ h1)]
  ·rw [if_neg h1]
   by_cases h2:x=f
   ·rw [if_pos h2,if_pos (by simp [h2])]
   ·rw [if_neg h2,if_neg (by simp [h1,h2])]
theorem OL:∀ (bs:List Nat) (ps:List (Tmp×List CD×Nat)) (rs:List (List KV)) (A:az),(nJ A bs ps rs).next=A.next
 | [],_,_,_=>rfl
 | _::_,[],_,_=>rfl
 | _::_,_::_,[],_=>rfl
 | b::bs,p::ps,r::rs,A=>by rw [nJ,OL bs ps rs]; rfl
theorem KF:∀ {bs:List Nat} {ps:List (Tmp×List CD×Nat)} {rs:List (List KV)} {A:az} {x:Nat},x ∉ bs→(nJ A bs ps rs).get x=A.get x
 | [],_,_,_,_,_=>rfl
 | _::_,[],_,_,_,_=>rfl
 | _::_,_::_,[],_,_,_=>rfl
 | b::bs,p::ps,r::rs,A,x,h=>by
  simp only [List.mem_cons,not_or] at h
  rw [nJ,KF h.2,az.ca,if_neg h.1]
theorem ae0:∀ {bs:List Nat} {ps:List (Tmp×List CD×Nat)} {rs:List (List KV)} {A:az} {k b:Nat} {p:Tmp×List CD×Nat} {r:List KV},u5 bs=true→bs[k]? = some b→ps[k]? = some p→rs[k]? = some r→(nJ A bs ps rs).get b=some (.row r p.2.2)
 | [],_,_,_,_,_,_,_,_,h,_,_=>by simp at h
 | _::_,[],_,_,_,_,_,_,_,_,h,_=>by simp at h
 | _::_,_::_,[],_,_,_,_,_,_,_,_,h=>by simp at h
 | b::bs,p::ps,r::rs,A,k,x,p',r',hn,hb,hp,hr=>by
  have Hv:=hn
  simp only [u5,Bool.and_eq_true] at hn
  cases k with
  | zero=>
   simp at hb hp hr
   subst hb hp hr
   rw [nJ,KF,az.ca,if_pos rfl]
   intro hm
   have:=List.all_eq_true.1 hn.1 b hm
   simp at this
  | succ k=>
   simp only [List.getElem?_cons_succ] at hb hp hr
   rw [nJ]
   exact ae0 hn.2 hb hp hr
theorem abW:∀ {ps:List (Tmp×List CD×Nat)} {rs:List (List KV)} {A:az},rs.length=ps.length→(qj A ps rs).next=A.next+ps.length
 | [],[],_,_=>rfl
 | [],_::_,_,h=>by simp at h
 | _::_,[],_,h=>by simp at h
 | p::ps,r::rs,A,h=>by rw [qj,abW (by simpa using h)]; simp; omega
theorem ae1:∀ {ps:List (Tmp×List CD×Nat)} {rs:List (List KV)} {A:az} {x:Nat},x < A.next→(qj A ps rs).get x=A.get x
 | [],_,_,_,_=>rfl
 | _::_,[],_,_,_=>rfl
 | p::ps,r::rs,A,x,h=>by rw [qj,ae1 (by simp; omega),az.dt,if_neg (by omega)]
theorem ahz:∀ {ps:List (Tmp×List CD×Nat)} {rs:List (List KV)} {A:az} {k:Nat} {p:Tmp×List CD×Nat} {r:List KV},ps[k]? = some p→rs[k]? = some r→(qj A ps rs).get (A.next+k)=some (.row r p.2.2)
 | [],_,_,_,_,_,h,_=>by simp at h
 | _::_,[],_,_,_,_,_,h=>by simp at h
 | p::ps,r::rs,A,k,p',r',hp,hr=>by
  cases k with
  | zero=>
   simp at hp hr; subst hp hr
   rw [qj,Nat.add_zero,ae1 (by simp),az.dt,if_pos rfl]
  | succ k=>
   simp only [List.getElem?_cons_succ] at hp hr
   have:=ahz (A:=A.new (.row r p.2.2)) hp hr
   rw [qj]
   simpa [Nat.add_comm,Nat.add_left_comm] using this
theorem ae2:∀ {ps:List (Tmp×List CD×Nat)} {rs:List (List KV)} {A:az} {x:Nat} {o:jx},(qj A ps rs).get x=some o→A.get x=some o∨∃ k p r,x=A.next+k∧ps[k]? = some p∧rs[k]? = some r∧o = .row r p.2.2
 | [],_,_,_,_,h=>.inl h
 | _::_,[],_,_,_,h=>.inl h
 | p::ps,r::rs,A,x,o,h=>by
  rw [qj] at h
  rcases ae2 h with h | ⟨k,p',r',rfl,h1,h2,h3⟩
  ·rw [az.dt] at h
   by_cases e:x=A.next
   ·rw [if_pos e] at h; simp at h
    exact .inr ⟨0,p,r,by omega,rfl,rfl,h.symm⟩
   ·rw [if_neg e] at h; exact .inl h
  ·exact .inr ⟨k+1,p',r',by simp; omega,by simpa using h1,by simpa using h2,h3⟩
theorem abX:∀ (n:Nat) (l:List Nat) (k:Nat),(upto n l)[k]? = if k < n then some k else l[k - n]?
 | 0,l,k=>by simp [upto]
 | n+1,l,k=>by
  rw [upto,abX n]
  by_cases h:k < n
  ·rw [if_pos h,if_pos (by omega)]
  ·rw [if_neg h]
   by_cases h2:k=n
   ·subst h2
    rw [if_pos (by omega)]
    simp
   ·rw [if_neg (by omega),show k - n=(k - (n+1))+1 by omega]
    simp
theorem Gc (S:aQ) (k:Nat) (h:k < S.rows.length):S.ids[k]? = some k:=by rw [aQ.ids,abX,if_pos h]
theorem KG:∀ {a b:List Nat},uw a b=true→a=b
 | [],[],_=>rfl
 | [],_::_,h=>by simp [uw] at h
 | _::_,[],h=>by simp [uw] at h
 | x::a,y::b,h=>by
  simp only [uw,Bool.and_eq_true] at h
  rw [Nat.eq_of_beq_eq_true h.1,KG h.2]
theorem Ea {t:bA} {A:az} {p:Tmp×List CD×Nat} (h:(rowOf t A p).isSome=true):∃ b cs,A.get b=some (.row cs p.2.2)∧cs.length=p.2.1.length∧ahx t A p=b∧D7 t A p=cs:=by
 unfold rowOf at h
 split at h
 ·rename_i b hb
  split at h
  ·rename_i cs e hr
   cases hc:(Nat.beq e p.2.2&&Nat.beq cs.length p.2.1.length) with
   | false=>rw [hc] at h; simp at h
   | true=>
    have hro:rowOf t A p=some (b,cs):=by simp only [rowOf,hb,hr,hc,cond_true]
    simp only [Bool.and_eq_true] at hc
    have he:=Nat.eq_of_beq_eq_true hc.1
    subst he
    exact ⟨b,cs,hr,Nat.eq_of_beq_eq_true hc.2,by simp [ahx,hro],by simp [D7,hro]⟩
  ·simp at h
 ·simp at h
structure dM (P:Program) (S:aQ) (t:bA) (A:az) (g:GR):Prop where
 rows:wW P t A S.rows=true
 nodup:u5 g.bs=true
 VA:LZ t g.bs S.VA=true
 dW:iv S.dW g.vs=true
 Xw:u5 (jJ g.fs)=true
 alv:KC S.rows.length g.bs t S.dW=true
 alw:TC S.rows.length g.bs t A S.rows=true
 tq:TB (S.Mu P t A)=true
 bs:g.bs=xp t A S.rows
 fs:g.fs=H6 (S.Mu P t A)
 vs:g.vs=o9 P t A S.dW
 rs:g.rs=ET P t A S.rows
theorem Gd {S:aQ} {t:bA} {A:az} (h:(S.fJ P t A).ok=true):dM P S t A (S.fJ P t A):=by
 unfold aQ.fJ at h ⊢
 simp only at h ⊢
 cases hc:(wW P t A S.rows&&u5 (xp t A S.rows)&&LZ t (xp t A S.rows) S.VA&&iv S.dW (o9 P t A S.dW)&&u5 (jJ (H6 (S.Mu P t A)))&&KC S.rows.length (xp t A S.rows) t S.dW&&TC S.rows.length (xp t A S.rows) t A S.rows) with
 | false=>rw [hc] at h; simp at h
 | true=>
  rw [hc,cond_true] at h
  simp only [Bool.and_eq_true] at hc
  exact ⟨hc.1.1.1.1.1.1,hc.1.1.1.1.1.2,hc.1.1.1.1.2,hc.1.1.1.2,hc.1.1.2,hc.1.2,hc.2,h,rfl,rfl,rfl,rfl⟩
theorem Zb {t:bA} {A:az} : ∀ {ps:List (Tmp×List CD×Nat)} {k:Nat} {p:Tmp×List CD×Nat},ps[k]? = some p→(xp t A ps)[k]? = some (ahx t A p)
 | [],_,_,h=>by simp at h
 | p::ps,0,q,h=>by simp at h; subst h; rfl
 | p::ps,k+1,q,h=>by simp at h; simpa [xp] using Zb h
theorem AJ {t:bA} {A:az} : ∀ {ps:List (Tmp×List CD×Nat)},(xp t A ps).length=ps.length
 | []=>rfl
 | p::ps=>by simp [xp,AJ]
theorem Nk {t:bA} {A:az} : ∀ {ps:List (Tmp×List CD×Nat)},(ET P t A ps).length=ps.length
 | []=>rfl
 | p::ps=>by simp [ET,Nk]
theorem VG {t:bA} {A:az} : ∀ {ps:List (Tmp×List CD×Nat)},wW P t A ps=true→∀ {k:Nat} {p:Tmp×List CD×Nat},ps[k]? = some p→(rowOf t A p).isSome=true∧dL p.2.1 (fv P A p.2.1 (D7 t A p))=true
 | [],_,k,p,h=>by simp at h
 | q::ps,h,k,p,hp=>by
  simp only [wW,Bool.and_eq_true] at h
  cases k with
  | zero=>simp at hp; subst hp; exact ⟨h.1,h.2.1⟩
  | succ k=>simp at hp; exact VG h.2.2 hp
theorem QF:∀ {ps:List (Tmp×List CD×Nat)} {rs:List (List KV)},rs.length=ps.length→∀ (j:Nat) (bs:List Nat),(VF j bs ps rs).length=ps.length
 | [],[],_,_,_=>rfl
 | [],_::_,h,_,_=>by simp at h
 | _::_,[],h,_,_=>by simp at h
 | p::ps,r::rs,h,j,bs=>by simp [VF,QF (by simpa using h)]
def x3 (j:Nat):List (Tmp×List CD×Nat)→Nat→Nat
 | [],_=>j
 | _::_,0=>j
 | p::ps,k+1=>x3 (j+qi p.2.1) ps k
theorem L4 {bs:List Nat} : ∀ {ps:List (Tmp×List CD×Nat)} {rs:List (List KV)} {j k:Nat} {p:Tmp×List CD×Nat} {r:List KV},ps[k]? = some p→rs[k]? = some r→(VF j bs ps rs)[k]? = some (pU (x3 j ps k) bs p.2.1 r)
 | [],_,_,_,_,_,h,_=>by simp at h
 | _::_,[],_,_,_,_,_,h=>by simp at h
 | p::ps,r::rs,j,0,p',r',h1,h2=>by simp at h1 h2; subst h1 h2; rfl
 | p::ps,r::rs,j,k+1,p',r',h1,h2=>by
  simp at h1 h2
  simp only [VF,List.getElem?_cons_succ]
  exact L4 h1 h2
theorem Zc {E0:Env} {t:bA} {A:az} : ∀ {ps:List (Tmp×List CD×Nat)} {j:Nat},wW P t A ps=true→oq E E0 (Db P t A ps) j→∀ {k:Nat} {p:Tmp×List CD×Nat},ps[k]? = some p→oq E E0 (lF P A p.2.1 (D7 t A p)) (x3 j ps k)
 | [],_,_,_,_,_,h=>by simp at h
 | q::ps,j,hr,hf,k,p,hp=>by
  simp only [wW,Bool.and_eq_true] at hr
  obtain ⟨b,cs,_,hl,_,hC⟩:=Ea hr.1
  cases k with
  | zero=>simp at hp; subst hp; exact hf.left
  | succ k=>
   simp at hp
   have:=hf.right
   rw [kT (by rw [hC]; exact hl)] at this
   exact Zc hr.2.2 this hp
theorem AK {t:bA} {A:az} : ∀ {ps:List (Tmp×VD)},iv ps (o9 P t A ps)=true→(BL P t A ps).length=m0 ps
 | [],_=>rfl
 | p::ps,h=>by
  simp only [o9,iv,Bool.and_eq_true] at h
  simp only [BL,m0,List.length_append]
  rw [kT (D8 h.1),AK h.2]
def Ge (P:Program) (A:az) (x:FI) (q:jx):Prop:=
 (∃ n sz,q = .bb n sz∧((x.f=none∧n=0)∨∃ f,x.f=some f∧A.get f=some (.bb n sz)))∨
 ∃ t v,q = .arr v∧((x.f=none∧1≤bg P t∧v=K.ao P av (.ts t .any 0 [] n5))∨∃ f m N es acc,x.f=some f∧A.get f=some (.arr (.ts t m N es acc))∧v=K.ao P av (.ts t .any N es acc))
theorem ajE {A:az} {t:TypeId} {v:KV} (ch:(EU P A t v).ok=true) (hg:jF (.arr t) (fq P A (.arr t) v)=true):Ge P A (EU P A t v) (.arr (fq P A (.arr t) v)):=by
 rcases TD hg with rfl | ⟨b,n,m,N,es,acc,rfl,hb,he⟩
 ·exact .inr ⟨t,_,rfl,.inl ⟨rfl,Nat.le_of_ble_eq_true ch,rfl⟩⟩
 ·refine .inr ⟨t,_,rfl,.inr ⟨b,m,N,es,acc,?_,hb,he⟩⟩
  simp only [EU,hb]
theorem ajF {A:az} {t:TypeId} {v:KV} (ch:(ss P A t v).ok=true) (hg:jF (.bb t) (fq P A (.bb t) v)=true):Ge P A (ss P A t v) (.bb (lenOf (fq P A (.bb t) v)) (szL P t)):=by
 refine .inl ⟨_,_,rfl,?_⟩
 cases v with
 | kQ=>exact .inl ⟨rfl,rfl⟩
 | ts t' m n es acc=>
  cases m with
  | bb f=>
   have e1:fq P A (.bb t) (.ts t' (.bb f) n es acc)=cond (Nat.beq t t') (K.ao P av (.ts t .any n es acc)) .ax:=rfl
   rw [e1] at hg ⊢
   cases hb:Nat.beq t t' with
   | false=>rw [hb] at hg; simp [jF,kindOk] at hg
   | true=>
    rw [cond_true]
    refine .inr ⟨f,?_,?_⟩
    ·revert ch
     unfold ss
     simp only
     split
     ·intro _; rfl
     ·intro ch; simp at ch
    ·revert ch
     unfold ss
     simp only
     split
     ·rename_i top sz he
      intro ch
      simp only at ch
      cases hs:Nat.beq sz (szL P t) with
      | false=>rw [hs] at ch; simp at ch
      | true=>
       rw [hs,cond_true] at ch
       have h1:=Nat.eq_of_beq_eq_true hs
       have h2:=Nat.eq_of_beq_eq_true (show Nat.beq top n=true from ch)
       subst h1 h2
       exact he
     ·intro ch; simp at ch
  | any=>simp [ss] at ch
  | exact=>simp [ss] at ch
 | _=>simp [ss] at ch
theorem uy {A:az} : ∀ {ds:List CD} {vs:List KV} {i:Nat} {x:FI},vs.length=ds.length→dL ds (fv P A ds vs)=true→(lF P A ds vs)[i]? = some x→x.ok=true→∃ q,(oo P ds (fv P A ds vs))[i]? = some q∧Ge P A x q
 | [],[],_,_,_,_,h,_=>by simp [lF] at h
 | [],_::_,_,_,e,_,_,_=>by simp at e
 | _::_,[],_,_,e,_,_,_=>by simp at e
 | .k c::ds,v::vs,i,x,e,hg,h,ch=>by
  simp only [fv,dL,Bool.and_eq_true] at hg
  have h' : (lF P A ds vs)[i]? = some x:=h
  exact uy (ds:=ds) (vs:=vs) (by simpa using e) hg.2 h' ch
 | .lit c::ds,v::vs,i,x,e,hg,h,ch=>by
  simp only [fv,dL,Bool.and_eq_true] at hg
  have h' : (lF P A ds vs)[i]? = some x:=h
  exact uy (ds:=ds) (vs:=vs) (by simpa using e) hg.2 h' ch
 | .ref c::ds,v::vs,i,x,e,hg,h,ch=>by
  simp only [fv,dL,Bool.and_eq_true] at hg
  have h' : (lF P A ds vs)[i]? = some x:=h
  exact uy (ds:=ds) (vs:=vs) (by simpa using e) hg.2 h' ch
 | .bb t::ds,v::vs,i,x,e,hg,h,ch=>by
  simp only [fv,dL,Bool.and_eq_true] at hg
  cases i with
  | zero=>
   simp [lF] at h
   subst h
   exact ⟨_,rfl,ajF ch hg.1⟩
  | succ i=>
   simp [lF] at h
   obtain ⟨q,h1,h2⟩:=uy (by simpa using e) hg.2 h ch
   exact ⟨q,by simpa [oo,fv] using h1,h2⟩
 | .arr t::ds,v::vs,i,x,e,hg,h,ch=>by
  simp only [fv,dL,Bool.and_eq_true] at hg
  cases i with
  | zero=>
   simp [lF] at h
   subst h
   exact ⟨_,rfl,ajE ch hg.1⟩
  | succ i=>
   simp [lF] at h
   obtain ⟨q,h1,h2⟩:=uy (by simpa using e) hg.2 h ch
   exact ⟨q,by simpa [oo,fv] using h1,h2⟩
theorem nh:∀ {ds:List CD} {vs:List KV},vs.length=ds.length→(oo P ds vs).length=qi ds
 | [],[],_=>rfl
 | [],_::_,e=>by simp at e
 | _::_,[],e=>by simp at e
 | .k c::ds,v::vs,e=>by simp only [oo,qi]; exact nh (by simpa using e)
 | .lit w::ds,v::vs,e=>by simp only [oo,qi]; exact nh (by simpa using e)
 | .ref w::ds,v::vs,e=>by simp only [oo,qi]; exact nh (by simpa using e)
 | .bb t::ds,v::vs,e=>by simp only [oo,qi,List.length_cons]; rw [nh (by simpa using e)]
 | .arr t::ds,v::vs,e=>by simp only [oo,qi,List.length_cons]; rw [nh (by simpa using e)]
theorem Cp:∀ {ds:List CD} {vs:List KV},dL ds vs=true→vs.length=ds.length
 | [],[],_=>rfl
 | [],_::_,h=>by simp [dL] at h
 | _::_,[],h=>by simp [dL] at h
 | d::ds,v::vs,h=>by
  simp only [dL,Bool.and_eq_true] at h
  simp [Cp h.2]
theorem VH {d:VD} {v:KV} (h:u4 d v=true):v.cells.length=d.ks.length:=by
 rcases wF h with ⟨cs,rfl,_,h1⟩ | ⟨h0,_,c,h1,_⟩
 ·exact Cp h1
 ·have:v.cells = [v]:=by cases v <;> first | rfl | exact absurd rfl (h0 _)
  rw [this,h1]; rfl
theorem AL:∀ {ps:List (Tmp×VD)} {vs:List KV},iv ps vs=true→(vS P ps vs).length=m0 ps
 | [],[],_=>rfl
 | [],_::_,h=>by simp [iv] at h
 | _::_,[],h=>by simp [iv] at h
 | p::ps,v::vs,h=>by
  simp only [iv,Bool.and_eq_true] at h
  simp only [vS,m0,List.length_append]
  rw [nh (VH h.1),AL h.2]
theorem VI {t:bA} {A:az} : ∀ {ps:List (Tmp×VD)} {i:Nat} {x:FI},iv ps (o9 P t A ps)=true→(BL P t A ps)[i]? = some x→x.ok=true→∃ p,(vS P ps (o9 P t A ps))[i]? = some p∧Ge P A x p
 | [],_,_,_,h,_=>by simp [BL] at h
 | p::ps,i,x,hg,h,ch=>by
  simp only [o9,iv,Bool.and_eq_true] at hg
  simp only [BL] at h
  have hl:=D8 hg.1
  by_cases hi:i < (lF P A p.2.ks (valOf t p.1).cells).length
  ·rw [List.getElem?_append_left hi] at h
   have hg' : dL p.2.ks (fv P A p.2.ks (valOf t p.1).cells)=true∧(tu P A p.2 (valOf t p.1)).cells=fv P A p.2.ks (valOf t p.1).cells:=by
    rcases wG hg.1 with ⟨cs,e,_,h2,h3⟩ | ⟨_,c,h1,h2,h3,h4,h5⟩
    ·rw [e] at h2 ⊢; exact ⟨h3,by rw [h2]; rfl⟩
    ·rw [h4,h1]
     refine ⟨by simp [fv,dL,h3],?_⟩
     rw [h2]
     show (fq P A c (valOf t p.1)).cells = [fq P A c (valOf t p.1)]
     generalize fq P A c (valOf t p.1)=w at h5 ⊢
     cases w <;> first | rfl | exact absurd rfl (h5 _)
   obtain ⟨q,h2,h3⟩:=uy hl hg'.1 h ch
   refine ⟨q,?_,h3⟩
   simp only [o9,vS]
   rw [hg'.2,List.getElem?_append_left (List.getElem?_eq_some_iff.1 h2).1]
   exact h2
  ·rw [List.getElem?_append_right (by omega)] at h
   obtain ⟨q,h1,h2⟩:=VI hg.2 h ch
   refine ⟨q,?_,h2⟩
   simp only [o9,vS]
   have e1:(oo P p.2.ks (tu P A p.2 (valOf t p.1)).cells).length=(lF P A p.2.ks (valOf t p.1).cells).length:=by rw [nh (VH hg.1),kT hl]
   rw [List.getElem?_append_right (by omega),e1]
   exact h1
theorem VJ {t:bA} {A:az} : ∀ {ps:List (Tmp×List CD×Nat)} {i:Nat} {x:FI},wW P t A ps=true→(Db P t A ps)[i]? = some x→x.ok=true→∃ p,(xr P ps (ET P t A ps))[i]? = some p∧Ge P A x p
 | [],_,_,_,h,_=>by simp [Db] at h
 | p::ps,i,x,hg,h,ch=>by
  simp only [wW,Bool.and_eq_true] at hg
  simp only [Db] at h
  obtain ⟨b,cs,_,hl,_,hC⟩:=Ea hg.1
  rw [← hC] at hl
  by_cases hi:i < (lF P A p.2.1 (D7 t A p)).length
  ·rw [List.getElem?_append_left hi] at h
   obtain ⟨q,h2,h3⟩:=uy hl hg.2.1 h ch
   refine ⟨q,?_,h3⟩
   simp only [ET,xr]
   rw [List.getElem?_append_left (List.getElem?_eq_some_iff.1 h2).1]
   exact h2
  ·rw [List.getElem?_append_right (by omega)] at h
   obtain ⟨q,h1,h2⟩:=VJ hg.2.2 h ch
   refine ⟨q,?_,h2⟩
   simp only [ET,xr]
   have e1:(oo P p.2.1 (fv P A p.2.1 (D7 t A p))).length=(lF P A p.2.1 (D7 t A p)).length:=by rw [nh (Cp hg.2.1),kT hl]
   rw [List.getElem?_append_right (by omega),e1]
   exact h1
theorem EW:∀ {ps:List (Tmp×List CD×Nat)} {rs:List (List KV)},rs.length=ps.length→(∀ (k:Nat) p r,ps[k]? = some p→rs[k]? = some r→dL p.2.1 r=true)→∀ {l:Nat},l=(ps.map fun p=>qi p.2.1).sum→(xr P ps rs).length=l
 | [],[],_,_,l,hl=>by subst hl; rfl
 | [],_::_,h,_,_,_=>by simp at h
 | _::_,[],h,_,_,_=>by simp at h
 | p::ps,r::rs,h,hk,l,hl=>by
  simp only [xr,List.length_append]
  rw [nh (Cp (hk 0 p r rfl rfl)),EW (by simpa using h) (fun k p r h1 h2=>hk (k+1) p r (by simpa using h1) (by simpa using h2)) rfl,hl]
  simp
theorem Nl {t:bA} {A:az} : ∀ {ps:List (Tmp×List CD×Nat)},wW P t A ps=true→(Db P t A ps).length=(ps.map fun p=>qi p.2.1).sum
 | [],_=>rfl
 | p::ps,h=>by
  simp only [wW,Bool.and_eq_true] at h
  obtain ⟨b,cs,_,hl,_,hC⟩:=Ea h.1
  simp only [Db,List.length_append,List.map_cons,List.sum_cons]
  rw [kT (by rw [hC]; exact hl),Nl h.2.2]
end Go.K
end
section
namespace Go.K
open Go Go.aG
variable {P:Program} {E:Env}
noncomputable def Env.sub (E:Env) (A:az) (bs:List Nat) (fs:List (Option Nat)) (nr:Nat):Env:=
 { κ:=fun i=>(bs[i]?).bind E.κ,z:=E.z,φ:=fun i=>if nr≤i then (fs[i - nr]?).bind (fun f=>f.bind fun x=>cond (xq (A.get x)) (E.φ x) none) else none,α:=fun i=>if nr≤i then (fs[i - nr]?).bind (fun f=>f.bind E.α) else none }
theorem L5 {E:Env} {A:az} {x q:Nat} (e:cond (xq (A.get x)) (E.φ x) none=some q):E.φ x=some q∧xq (A.get x)=true:=by
 cases h:xq (A.get x) with
 | true=>rw [h] at e; exact ⟨e,rfl⟩
 | false=>rw [h] at e; simp at e
theorem ae3 {A:az} {x:Nat} (h:xq (A.get x)=true):∃ n sz,A.get x=some (.bb n sz):=by
 unfold xq at h
 split at h
 ·rename_i n sz e; exact ⟨n,sz,e⟩
 ·simp at h
theorem Env.Zd {A:az} {bs:List Nat} {fs:List (Option Nat)} {nr i:Nat} : (E.sub A bs fs nr).φ (nr+i)=(fs[i]?).bind (fun f=>f.bind fun x=>cond (xq (A.get x)) (E.φ x) none):=by
 simp only [Env.sub]
 rw [if_pos (by omega),show nr+i - nr=i by omega]
theorem Env.De {A:az} {bs:List Nat} {fs:List (Option Nat)} {nr i:Nat} : (E.sub A bs fs nr).α (nr+i)=(fs[i]?).bind (fun f=>f.bind E.α):=by
 simp only [Env.sub]
 rw [if_pos (by omega),show nr+i - nr=i by omega]
theorem H9:∀ {l:List (Nat×KV)} {i:Nat} {v:KV},(lK l).get i=some v→(i,v)∈l
 | [],i,v,h=>by simp [lK] at h
 | p::ps,i,v,h=>by
  rw [lK,Trie.nX] at h
  split at h
  ·rename_i e
   simp at h; subst h e
   simp
  ·exact List.mem_cons_of_mem _ (H9 h)
theorem kS.lK {ρ:aW} {l:List (Nat×KV)} {N:Nat} {a:Act} (hs:a.tmps.size=N) (h:∀ q∈l,q.1 < N∧VC P E ρ q.2 (a.tmps.getD q.1 undef)):kS P E ρ (K.lK l) N a:=by
 refine ⟨hs,fun i=>?_,fun i hi=>?_⟩
 ·cases hg:(K.lK l).get i with
  | none=>exact .ax
  | some v=>exact (h _ (H9 hg)).2
 ·cases hg:(K.lK l).get i with
  | none=>rfl
  | some v=>have:=(h _ (H9 hg)).1; exact absurd hi (Nat.not_le_of_lt this)
theorem Ae {A:az} {x:Nat} : ∀ {ds:List CD} {vs:List KV} {fi:FI},fi∈lF P A ds vs→fi.fm=true→fi.f=some x→xq (A.get x)=true
 | [],_,_,h,_,_=>by simp [lF] at h
 | d::ds,[],_,h,_,_=>by cases d <;> simp [lF] at h
 | d::ds,v::vs,fi,h,hm,hx=>by
  cases d <;> simp only [lF,List.mem_cons] at h
  ·exact Ae h hm hx
  ·exact Ae h hm hx
  ·rcases h with rfl | h
   ·exact aif hx
   ·exact Ae h hm hx
  ·rcases h with rfl | h
   ·rw [aie] at hm; simp at hm
   ·exact Ae h hm hx
  ·exact Ae h hm hx
theorem aQ.akY (S:aQ) {t:bA} {A:az} {x:Nat} {fi:FI} (h:fi∈S.Mu P t A) (hm:fi.fm=true) (hx:fi.f=some x):xq (A.get x)=true:=by
 have one:∀ {ps:List (Tmp×VD)},fi∈BL P t A ps→xq (A.get x)=true:=by
  intro ps
  induction ps with
  | nil=>intro h; simp [BL] at h
  | cons p ps ih=>
   intro h
   simp only [BL,List.mem_append] at h
   exact h.elim (fun h=>Ae h hm hx) ih
 have two:∀ {ps:List (Tmp×List CD×Nat)},fi∈Db P t A ps→xq (A.get x)=true:=by
  intro ps
  induction ps with
  | nil=>intro h; simp [Db] at h
  | cons p ps ih=>
   intro h
   simp only [Db,List.mem_append] at h
   exact h.elim (fun h=>Ae h hm hx) ih
 simp only [aQ.Mu,List.mem_append] at h
 exact h.elim one two
theorem dM.hyp {S:aQ} {t:bA} {A:az} {g:GR} (h:dM P S t A g):oq E (E.sub A g.bs g.fs S.nr) (S.Mu P t A) S.nr:=fun i fi hi=>by
 refine ⟨OK h.tq fi (List.mem_of_getElem? hi),fun hm x q hx hq=>?_,fun x q hx hq=>?_⟩
 ·rw [Env.Zd,h.fs,H8 hi,Option.bind_some,hx,Option.bind_some,S.akY (List.mem_of_getElem? hi) hm hx]
  exact hq
 ·rw [Env.De,h.fs,H8 hi,Option.bind_some,hx,Option.bind_some]
  exact hq
theorem ae4 {E0:Env} {t:bA} {A:az} {ρ:aW} {N nr:Nat} {bs EV:List Nat} {a:Act} (hz:E0.z=E.z) (hk:Rk E E0 nr bs EV) (ht:kS P E ρ t N a):∀ {ps:List (Tmp×VD)} {j:Nat},iv ps (o9 P t A ps)=true→oq E E0 (BL P t A ps) j→KC nr bs t ps=true→∀ q∈VE j EV ps (o9 P t A ps),q.1 < N∧VC P E0 ρ q.2 (a.tmps.getD q.1 undef)
 | [],_,_,_,_,q,hq=>by simp [VE] at hq
 | p::ps,j,hg,hf,hr,q,hq=>by
  simp only [KC,Bool.and_eq_true] at hr
  simp only [o9,iv,Bool.and_eq_true] at hg
  simp only [o9,VE,List.mem_cons] at hq
  rcases hq with rfl | hq
  ·refine ⟨?_,?_⟩
   ·obtain ⟨v,hv⟩:=VK.Tl hg.1 hr.1
    by_cases hN:N≤p.1
    ·rw [ht.none _ hN] at hv; simp at hv
    ·exact Nat.lt_of_not_le hN
   ·obtain ⟨u,h1,h2⟩:=ht.val p.1
    exact ⟨u,h1.amN hz hk hg.1 hf.left hr.1,h2⟩
  ·have h2:=hf.right
   rw [kT (D8 hg.1)] at h2
   exact ae4 hz hk ht hg.2 h2 hr.2 q hq
theorem Nm {bs:List Nat} : ∀ {ps:List (Tmp×Nat×Nat)} {q:Nat×KV},q∈xZ bs ps→∃ p∈ps,q=(p.1,.ptr (bs.getD p.2.1 0) p.2.2)
 | [],_,h=>by simp [xZ] at h
 | p::ps,q,h=>by
  simp only [xZ,List.mem_cons] at h
  rcases h with rfl | h
  ·exact ⟨p,by simp,rfl⟩
  ·obtain ⟨p',h1,h2⟩:=Nm h
   exact ⟨p',List.mem_cons_of_mem _ h1,h2⟩
theorem KH {t:bA} {bs:List Nat} : ∀ {ps:List (Tmp×Nat×Nat)},LZ t bs ps=true→∀ q∈ps,∃ b,t.get q.1=some (.ptr b q.2.2)∧bs[q.2.1]? = some b
 | [],_,q,hq=>by simp at hq
 | p::ps,h,q,hq=>by
  simp only [LZ,Bool.and_eq_true] at h
  rcases List.mem_cons.1 hq with rfl | hq
  ·have h1:=h.1
   unfold ajB at h1
   split at h1
   ·rename_i b o b' e1 e2
    simp only [Bool.and_eq_true] at h1
    have:=Nat.eq_of_beq_eq_true h1.1
    have:=Nat.eq_of_beq_eq_true h1.2
    subst_vars
    exact ⟨_,e1,e2⟩
   ·simp at h1
  ·exact KH h.2 q hq
theorem dM.rk {S:aQ} {t:bA} {A:az} {g:GR} (h:dM P S t A g):Rk E (E.sub A g.bs g.fs S.nr) S.rows.length g.bs S.ids:=fun j x hj e=>by
 have bX:j < g.bs.length:=by rw [h.bs,AJ]; exact hj
 rw [List.getD_eq_getElem?_getD,List.getElem?_eq_getElem bX] at e
 rw [List.getD_eq_getElem?_getD,Gc S j hj]
 simp only [Env.sub,Option.getD_some,List.getElem?_eq_getElem bX,Option.bind_some]
 exact e
theorem dM.tkr {S:aQ} {t:bA} {A:az} {g:GR} {ρ:aW} {N:Nat} {a:Act} (h:dM P S t A g) (ht:kS P E ρ t N a):kS P (E.sub A g.bs g.fs S.nr) ρ (S.tm S.nr S.ids g.vs) N a:=by
 refine kS.lK ht.size fun q hq=>?_
 have hh:oq E (E.sub A g.bs g.fs S.nr) (S.Mu P t A) S.nr:=h.hyp
 rcases List.mem_append.1 hq with hq | hq
 ·rw [h.vs] at hq
  exact ae4 (E:=E) (E0:=E.sub A g.bs g.fs S.nr) (A:=A) rfl h.rk ht (h.vs ▸ h.dW) hh.left h.alv q hq
 ·obtain ⟨p,hp,rfl⟩:=Nm hq
  obtain ⟨b,h1,h2⟩:=KH h.VA p hp
  refine ⟨?_,?_⟩
  ·by_cases hN:N≤p.1
   ·rw [ht.none _ hN] at h1; simp at h1
   ·exact Nat.lt_of_not_le hN
  ·have hk:p.2.1 < S.rows.length:=by
    have:=(List.getElem?_eq_some_iff.1 h2).1
    rw [h.bs,AJ] at this; exact this
   have hv:=ht.val p.1
   rw [h1] at hv
   obtain ⟨u,h3,h4⟩:=hv
   refine ⟨u,?_,h4⟩
   obtain ⟨x,h5,rfl⟩:=(show VK P E (.ptr b p.2.2) u from h3).iW
   have:S.ids.getD p.2.1 0=p.2.1:=by rw [List.getD_eq_getElem?_getD,Gc S _ hk]; rfl
   rw [this]
   exact .xi (by simp [Env.sub,h2,h5])
theorem dM.row {S:aQ} {t:bA} {A:az} {g:GR} (h:dM P S t A g) {k:Nat} {p:Tmp×List CD×Nat} (hp:S.rows[k]? = some p):∃ b cs,g.bs[k]? = some b∧A.get b=some (.row cs p.2.2)∧cs.length=p.2.1.length∧D7 t A p=cs∧g.rs[k]? = some (fv P A p.2.1 cs)∧dL p.2.1 (fv P A p.2.1 cs)=true:=by
 obtain ⟨h1,h2⟩:=VG h.rows hp
 obtain ⟨b,cs,h4,h5,h6,h7⟩:=Ea h1
 refine ⟨b,cs,by rw [h.bs,Zb hp,h6],h4,h5,h7,?_,by rw [← h7]; exact h2⟩
 have:∀ {ps:List (Tmp×List CD×Nat)} {k:Nat},ps[k]? = some p→(ET P t A ps)[k]? = some (fv P A p.2.1 (D7 t A p)):=by
  intro ps
  induction ps with
  | nil=>intro k h; simp at h
  | cons q ps ih=>
   intro k h
   cases k with
   | zero=>simp at h; subst h; rfl
   | succ k=>simp at h; simpa [ET] using ih h
 rw [h.rs,this hp,h7]
theorem dM.rF {S:aQ} {t:bA} {A:az} {g:GR} (h:dM P S t A g):g.rs.length=S.rows.length:=by rw [h.rs,Nk]
theorem dM.Ze {S:aQ} {t:bA} {A:az} {g:GR} (h:dM P S t A g):g.bs.length=S.rows.length:=by rw [h.bs,AJ]
theorem dM.vK {S:aQ} {t:bA} {A:az} {g:GR} (h:dM P S t A g):∀ (k:Nat) p r,S.rows[k]? = some p→g.rs[k]? = some r→dL p.2.1 r=true:=fun k p r hp hr=>by
 obtain ⟨b,cs,_,_,_,_,h1,h2⟩:=h.row hp
 rw [hr] at h1; simp at h1; subst h1; exact h2
theorem dM.lens {S:aQ} {t:bA} {A:az} {g:GR} (h:dM P S t A g):(S.lens P g.vs g.rs).length=(S.Mu P t A).length:=by
 simp only [aQ.lens,aQ.Mu,List.length_append]
 rw [AL h.dW,EW h.rF h.vK rfl,Nl h.rows,AK (h.vs ▸ h.dW)]
theorem dM.fact {S:aQ} {t:bA} {A:az} {g:GR} (h:dM P S t A g) {i:Nat} {q:jx} (hq:(S.lens P g.vs g.rs)[i]? = some q):∃ fi,(S.Mu P t A)[i]? = some fi∧g.fs[i]? = some fi.f∧Ge P A fi q:=by
 have bX:i < (S.Mu P t A).length:=by rw [← h.lens]; exact (List.getElem?_eq_some_iff.1 hq).1
 have hfi:=List.getElem?_eq_getElem bX
 have ch:=OK h.tq _ (List.getElem_mem bX)
 refine ⟨_,hfi,by rw [h.fs]; exact H8 hfi,?_⟩
 have hv:(BL P t A S.dW).length=m0 S.dW:=AK (h.vs ▸ h.dW)
 have hlv:(vS P S.dW g.vs).length=m0 S.dW:=AL h.dW
 simp only [aQ.lens] at hq
 have ae5:=hfi
 simp only [aQ.Mu] at ae5
 by_cases hi:i < m0 S.dW
 ·rw [List.getElem?_append_left (by omega)] at hq ae5
  obtain ⟨p,h1,h2⟩:=VI (h.vs ▸ h.dW) ae5 ch
  rw [h.vs,h1] at hq
  simp at hq; subst hq; exact h2
 ·rw [List.getElem?_append_right (by omega)] at hq ae5
  obtain ⟨p,h1,h2⟩:=VJ h.rows ae5 ch
  rw [h.rs,hlv,← hv,h1] at hq
  simp at hq; subst hq; exact h2
theorem OM {t:bA} {A:az} {nr:Nat} {bs:List Nat} : ∀ {ps:List (Tmp×List CD×Nat)},TC nr bs t A ps=true→∀ {k:Nat} {p:Tmp×List CD×Nat},ps[k]? = some p→BM nr bs p.2.1 (D7 t A p)=true
 | [],_,k,p,h=>by simp at h
 | q::ps,h,k,p,hp=>by
  simp only [TC,Bool.and_eq_true] at h
  cases k with
  | zero=>simp at hp; subst hp; exact h.1
  | succ k=>simp at hp; exact OM h.2 hp
theorem nS {S:aQ} {rs:List (List KV)} (h:rs.length=S.rows.length):(qj .empty S.rows (S.Dc S.nr S.ids rs)).next=S.nr:=by
 show (qj .empty S.rows (VF (S.nr+m0 S.dW) S.ids S.rows rs)).next=S.nr
 rw [abW (QF h _ _)]
 simp [az.empty,aQ.nr]
theorem Df {S:aQ} {vs:List KV} {rs:List (List KV)} (h:rs.length=S.rows.length) {b:Nat} {o:jx} (hb:(S.mem P vs rs).get b=some o) :
  (∃ p r,S.rows[b]? = some p∧rs[b]? = some r∧o = .row (pU (x3 (S.nr+m0 S.dW) S.rows b) S.ids p.2.1 r) p.2.2)∨∃ i q,b=S.nr+i∧(S.lens P vs rs)[i]? = some q∧o=q:=by
 rcases QE hb with hb | ⟨i,q,h1,h2,h3⟩
 ·rcases ae2 hb with e | ⟨k,p,r,rfl,h1,h2,h3⟩
  ·simp [az.empty,az.get] at e
  ·have hk:(az.empty.next+k)=k:=by simp [az.empty]
   rw [hk]
   have bX:k < rs.length:=by rw [h]; exact (List.getElem?_eq_some_iff.1 h1).1
   have e1:=List.getElem?_eq_getElem bX
   have e2:=L4 (bs:=S.ids) (j:=S.nr+m0 S.dW) h1 e1
   have h2:(VF (S.nr+m0 S.dW) S.ids S.rows rs)[k]? = some r:=h2
   rw [e2] at h2
   simp at h2
   exact .inl ⟨p,_,h1,e1,by rw [h3,← h2]⟩
 ·rw [nS h] at h1
  exact .inr ⟨i,q,h1,h2,h3⟩
theorem KI {t:TypeId} {n:Nat} {es:List KV} {acc:Nat→KV} {bq:List Value} (ht:je P t n es acc) (h:bf P E es bq):∃ o5 fT,K.ao P av (.ts t .any n es acc) = .ts t .any n o5 fT∧je P t n o5 fT∧bf P E o5 bq:=by
 refine ⟨(List.range n).map fun i=>ay P (K.ao P 5) t (acc i),fun i=>ay P (K.ao P 5) t (acc i),rfl,?_⟩
 have Ba:∀ i,i < n→∃ e e',es[i]? = some e∧bq[i]? = some e'∧acc i=e∧dw (bu P t) e=true∧VK P E e e':=by
  intro i hi
  have hl:i < es.length:=by rw [← ht.len]; exact hi
  have e1:=List.getElem?_eq_getElem hl
  obtain ⟨e',e2,e3⟩:=h.get e1
  exact ⟨_,e',e1,e2,by rw [ht.acc i hi,List.getD_eq_getElem?_getD,e1]; rfl,kd ht.typed e1,e3⟩
 have hlen:bq.length=n:=by rw [h.length,ht.len]
 refine ⟨⟨by simp,fun i hi=>?_,?_⟩,?_⟩
 ·rw [List.getD_eq_getElem?_getD,List.getElem?_map,List.getElem?_range hi]; rfl
 ·refine oC fun i e he=>?_
  rw [List.getElem?_map] at he
  by_cases hi:i < n
  ·rw [List.getElem?_range hi] at he
   simp only [Option.map_some,Option.some.injEq] at he
   obtain ⟨x,x',_,_,q3,q4,_⟩:=Ba i hi
   rw [← he,q3,ay]
   obtain ⟨r1,r2,_⟩:=HM q4
   rw [r1]
   exact YD q4 (C2 5 r2) (by simp)
  ·rw [List.getElem?_eq_none (by simp; omega)] at he; simp at he
 ·refine bf.PM (by simp [hlen]) fun i e e' he CS=>?_
  rw [List.getElem?_map] at he
  by_cases hi:i < n
  ·rw [List.getElem?_range hi] at he
   simp only [Option.map_some,Option.some.injEq] at he
   obtain ⟨x,x',_,q2,q3,q4,q5⟩:=Ba i hi
   rw [CS] at q2
   simp only [Option.some.injEq] at q2
   subst q2
   rw [← he,q3]
   exact VK.ay 5 q4 q5
  ·rw [List.getElem?_eq_none (by simp; omega)] at he; simp at he
theorem dM.ahA {S:aQ} {t:bA} {A:az} {g:GR} (h:dM P S t A g) {b:Nat} {v:KV} (hb:(S.mem P g.vs g.rs).get b=some (.arr v)) :
  ∃ i T,b=S.nr+i∧((g.fs[i]? = some none∧1≤bg P T∧v=K.ao P av (.ts T .any 0 [] n5))∨∃ f m N es acc,g.fs[i]? = some (some f)∧A.get f=some (.arr (.ts T m N es acc))∧v=K.ao P av (.ts T .any N es acc)):=by
 rcases Df h.rF hb with ⟨p,r,_,_,h3⟩ | ⟨i,q,rfl,h2,h3⟩
 ·simp at h3
 ·subst h3
  obtain ⟨fi,h4,h5,h6⟩:=h.fact h2
  rcases h6 with ⟨_,_,e,_⟩ | ⟨T,v',e,h6⟩
  ·simp at e
  ·simp only [jx.arr.injEq] at e
   subst e
   rcases h6 with ⟨h6,h7⟩ | ⟨f,m,N,es,acc,h6,h7⟩
   ·exact ⟨i,T,rfl,.inl ⟨by rw [h5,h6],h7⟩⟩
   ·exact ⟨i,T,rfl,.inr ⟨f,m,N,es,acc,by rw [h5,h6],h7⟩⟩
theorem dM.Dg {S:aQ} {t:bA} {A:az} {g:GR} (h:dM P S t A g) {b:Nat} {v:KV} (hb:(S.mem P g.vs g.rs).get b=some (.arr v)) {p:Nat×Nat×Nat} (hp:(E.sub A g.bs g.fs S.nr).α b=some p) :
  ∃ i f u,b=S.nr+i∧g.fs[i]? = some (some f)∧A.get f=some (.arr u)∧E.α f=some p:=by
 obtain ⟨i,T,rfl,h1⟩:=h.ahA hb
 rw [Env.De] at hp
 rcases h1 with ⟨h1,_⟩ | ⟨f,m,N,es,acc,h1,h2,_⟩
 ·rw [h1] at hp; simp at hp
 ·rw [h1] at hp; exact ⟨i,f,_,rfl,h1,h2,hp⟩
theorem dM.AR {S:aQ} {t:bA} {A:az} {g:GR} (h:dM P S t A g) {x:Nat} (q:K.AR (S.mem P g.vs g.rs) (E.sub A g.bs g.fs S.nr) x):∃ f u L N,f∈jJ g.fs∧A.get f=some (.arr u)∧E.α f=some (x,L,N):=by
 obtain ⟨b,v,L,N,h1,h2⟩:=q
 obtain ⟨i,f,u,_,h3,h4,h5⟩:=h.Dg h1 h2
 exact ⟨f,u,L,N,ux.2 (List.mem_of_getElem? h3),h4,h5⟩
theorem dM.ar {S:aQ} {t:bA} {A:az} {g:GR} (h:dM P S t A g) {x:Nat} (q:K.AR (S.mem P g.vs g.rs) (E.sub A g.bs g.fs S.nr) x):K.AR A E x:=by
 obtain ⟨f,u,L,N,_,h2,h3⟩:=h.AR q
 exact ⟨f,u,L,N,h2,h3⟩
theorem dM.AF {S:aQ} {t:bA} {A:az} {B:St} {g:GR} (h:dM P S t A g) {q:Nat} (k:K.AF (S.mem P g.vs g.rs) (E.sub A g.bs g.fs S.nr) B q):∃ f u x L N cs e own m,f∈jJ g.fs∧A.get f=some (.arr u)∧E.α f=some (x,L,N)∧B.get x=some (.row cs e own (some (q,m))):=by
 obtain ⟨b,v,x,L,N,cs,e,own,m,h1,h2,h3⟩:=k
 obtain ⟨i,f,u,_,h4,h5,h6⟩:=h.Dg h1 h2
 exact ⟨f,u,x,L,N,cs,e,own,m,ux.2 (List.mem_of_getElem? h4),h5,h6,h3⟩
theorem dM.af {S:aQ} {t:bA} {A:az} {B:St} {g:GR} (h:dM P S t A g) {q:Nat} (k:K.AF (S.mem P g.vs g.rs) (E.sub A g.bs g.fs S.nr) B q):K.AF A E B q:=by
 obtain ⟨f,u,x,L,N,cs,e,own,m,_,h1,h2,h3⟩:=h.AF k
 exact ⟨f,u,x,L,N,cs,e,own,m,h1,h2,h3⟩
theorem dM.at {S:aQ} {t:bA} {A:az} {B:St} {g:GR} (h:dM P S t A g) {y:Nat} (k:K.AT (S.mem P g.vs g.rs) (E.sub A g.bs g.fs S.nr) B y):K.AT A E B y:=k.imp h.ar fun ⟨q,h1,h2⟩=>⟨q,h.af h1,h2⟩
theorem dM.jv {S:aQ} {t:bA} {A:az} {B:St} {g:GR} (h:dM P S t A g) (hk:fI P E A B):fI P (E.sub A g.bs g.fs S.nr) (S.mem P g.vs g.rs) B where
 row b cs bU hb:=by
  rcases Df h.rF hb with ⟨p,r,h1,h2,h3⟩ | ⟨i,q,_,h2,h3⟩
  ·simp only [jx.row.injEq] at h3
   obtain ⟨rfl,rfl⟩:=h3
   obtain ⟨b',cs,h4,h5,h6,h7,h8,h9⟩:=h.row h1
   rw [h2] at h8; simp at h8; subst h8
   obtain ⟨x,b8,sn,DJ,h12⟩:=hk.row _ _ _ h5
   refine ⟨x,b8,by simp [Env.sub,h4,sn],DJ,?_⟩
   have hh:oq E (E.sub A g.bs g.fs S.nr) (S.Mu P t A) S.nr:=h.hyp
   have hr:=hh.right
   rw [AK (h.vs ▸ h.dW)] at hr
   have:=Zc h.rows hr h1
   rw [h7] at this
   have hrr:=OM h.alw h1
   rw [h7] at hrr
   exact bf.cellsIn (E:=E) (E0:=E.sub A g.bs g.fs S.nr) rfl h.rk h12 h6 h9 this hrr
  ·subst h3
   obtain ⟨fi,_,_,h6⟩:=h.fact h2
   rcases h6 with ⟨_,_,e,_⟩ | ⟨_,_,e,_⟩ <;> simp at e
 bb b top sz hb:=by
  rcases Df h.rF hb with ⟨p,r,_,_,h3⟩ | ⟨i,q,rfl,h2,h3⟩
  ·simp at h3
  ·subst h3
   obtain ⟨fi,h4,h5,h6⟩:=h.fact h2
   rcases h6 with ⟨_,_,e,h6⟩ | ⟨_,_,e,_⟩
   ·simp only [jx.bb.injEq] at e
    obtain ⟨rfl,rfl⟩:=e
    rw [Env.Zd,h5,Option.bind_some]
    rcases h6 with ⟨h6,h7⟩ | ⟨f,h6,h7⟩
    ·rw [h6]; exact .inl ⟨h7,rfl⟩
    ·rw [h6,Option.bind_some,show xq (A.get f)=true by rw [h7]; rfl,cond_true]; exact hk.bb f _ _ h7
   ·simp at e
 z:=hk.z
 apart b x e:=by
  simp only [Env.sub,Option.bind_eq_some_iff] at e
  obtain ⟨b',_,e⟩:=e
  exact hk.apart b' x e
 inj b c x e1 e2:=by
  simp only [Env.sub,Option.bind_eq_some_iff] at e1 e2
  obtain ⟨b',h1,e1⟩:=e1
  obtain ⟨c',h2,e2⟩:=e2
  have:=hk.inj _ _ _ e1 e2
  subst this
  exact Za h.nodup _ _ _ h1 h2
 jM b c q tb sb tc sc hb hc e1 e2:=by
  have key:∀ {b t s},(S.mem P g.vs g.rs).get b=some (.bb t s)→∃ i,b=S.nr+i∧((g.fs[i]? = some none)∨∃ f,g.fs[i]? = some (some f)∧A.get f=some (.bb t s)):=by
   intro b t s hb
   rcases Df h.rF hb with ⟨p,r,_,_,h3⟩ | ⟨i,q1,rfl,h2,h3⟩
   ·simp at h3
   subst h3
   obtain ⟨fi,h4,h5,h6⟩:=h.fact h2
   rcases h6 with ⟨_,_,e,h6⟩ | ⟨_,_,e,_⟩
   ·simp only [jx.bb.injEq] at e
    obtain ⟨rfl,rfl⟩:=e
    rcases h6 with ⟨h6,_⟩ | ⟨f,h6,h7⟩
    ·exact ⟨i,rfl,.inl (by rw [h5,h6])⟩
    ·exact ⟨i,rfl,.inr ⟨f,by rw [h5,h6],h7⟩⟩
   ·simp at e
  obtain ⟨i,rfl,h1⟩:=key hb
  obtain ⟨j,rfl,h2⟩:=key hc
  rw [Env.Zd] at e1 e2
  rcases h1 with h1 | ⟨f,h1,h3⟩
  ·rw [h1] at e1; simp at e1
  rcases h2 with h2 | ⟨f',h2,h4⟩
  ·rw [h2] at e2; simp at e2
  rw [h1,Option.bind_some,Option.bind_some] at e1
  rw [h2,Option.bind_some,Option.bind_some] at e2
  rw [show xq (A.get f)=true by rw [h3]; rfl,cond_true] at e1
  rw [show xq (A.get f')=true by rw [h4]; rfl,cond_true] at e2
  have:=hk.jM f f' q _ _ _ _ h3 h4 e1 e2
  subst this
  have:=u6 h.Xw i j f h1 h2
  omega
 lD b x e:=by
  simp only [Env.sub,Option.bind_eq_some_iff] at e
  obtain ⟨b',h1,_⟩:=e
  have:b < g.bs.length:=(List.getElem?_eq_some_iff.1 h1).1
  rw [aQ.mem,gJ,nS h.rF]
  rw [h.Ze] at this
  simp only [aQ.nr]; omega
 mW b q e:=by
  simp only [Env.sub] at e
  split at e
  ·rename_i hle
   obtain ⟨f,h1,_⟩:=Option.bind_eq_some_iff.1 e
   have h2:b - S.nr < g.fs.length:=(List.getElem?_eq_some_iff.1 h1).1
   rw [h.fs,qH,← h.lens] at h2
   rw [aQ.mem,gJ,nS h.rF]
   omega
  ·simp at e
 live b o hb:=by
  rw [aQ.mem,gJ,nS h.rF]
  rcases Df h.rF hb with ⟨p,r,h1,_,_⟩ | ⟨i,q,rfl,h2,h3⟩
  ·have:=(List.getElem?_eq_some_iff.1 h1).1
   simp only [aQ.nr]; omega
  ·have:=(List.getElem?_eq_some_iff.1 h2).1
   omega
 gY b x e:=by
  simp only [Env.sub,Option.bind_eq_some_iff] at e
  obtain ⟨b',_,e⟩:=e
  exact hk.gY b' x e
 m9:=hk.m9
 kc b q e:=by
  simp only [Env.sub] at e
  split at e
  ·obtain ⟨f,_,e⟩:=Option.bind_eq_some_iff.1 e
   obtain ⟨f',_,e⟩:=Option.bind_eq_some_iff.1 e
   exact hk.kc _ _ (L5 e).1
  ·simp at e
 fresh:=hk.fresh
 mem:=hk.mem
 ar:=by
  have ade:∀ b p,(E.sub A g.bs g.fs S.nr).α b=some p→S.nr≤b∧b - S.nr < g.fs.length∧∃ f,E.α f=some p:=by
   intro b p e
   simp only [Env.sub] at e
   split at e
   ·rename_i hle
    obtain ⟨f,h1,e⟩:=Option.bind_eq_some_iff.1 e
    obtain ⟨f',_,e⟩:=Option.bind_eq_some_iff.1 e
    exact ⟨hle,(List.getElem?_eq_some_iff.1 h1).1,f',e⟩
   ·simp at e
  refine ⟨fun b v hb=>?_,fun b v hb=>?_,fun x q=>?_,fun b c v u x L N L' N' h1 h2 h3 h4=>?_,fun b c v u x y L N L' N' cs e own q k b8 e' o7 k' h1 h2 h3 h4 h5 h6=>?_,fun b x e=>?_,fun b p e=>?_,fun b x L N e=>?_,fun b v x L N cs e own q k h1 h2 h3=>?_,fun b v hb=>?_⟩
  ·obtain ⟨i,T,rfl,h1⟩:=h.ahA hb
   rcases h1 with ⟨h1,h2,h3⟩ | ⟨f,m,N,es,acc,h1,h2,h3⟩
   ·obtain ⟨o5,fT,e1,e2,_⟩:=KI (P:=P) (E:=E) (t:=T) (n:=0) (es:=[]) (acc:=n5) (bq:=[]) ⟨rfl,fun i hi=>by omega,rfl⟩ .nil
    rw [e1] at h3
    refine ⟨T,0,o5,fT,h3,e2,h2,.inl ⟨rfl,?_⟩⟩
    rw [Env.De,h1]; rfl
   ·obtain ⟨T2,N2,o5,fT,e,ht,fo,vQ⟩:=hk.ar.arr f _ h2
    simp only [KV.ts.injEq] at e
    obtain ⟨rfl,rfl,rfl,rfl,rfl⟩:=e
    rcases vQ with ⟨h4,h5⟩ | ⟨x,cs,bQ,bq,h4,h5,h6,h7⟩
    ·subst h4
     have Kl:es = []:=List.length_eq_zero_iff.1 ht.len.symm
     subst Kl
     obtain ⟨o5,fT,e1,e2,_⟩:=KI (P:=P) (E:=E) (bq:=[]) ht .nil
     rw [e1] at h3
     refine ⟨T,0,o5,fT,h3,e2,fo,.inl ⟨rfl,?_⟩⟩
     rw [Env.De,h1]; exact h5
    ·obtain ⟨o5,fT,e1,e2,e3⟩:=KI ht h6
     rw [e1] at h3
     refine ⟨T,N,o5,fT,h3,e2,fo,.inr ⟨x,cs,bQ,bq,?_,h5,bf.zEs (E:=E) (E0:=E.sub A g.bs g.fs S.nr) rfl e3 e2.typed,h7⟩⟩
     rw [Env.De,h1]; exact h4
  ·rcases Df h.rF hb with ⟨p,r,_,_,h3⟩ | ⟨i,q,rfl,h2,h3⟩
   ·simp at h3
   ·subst h3
    obtain ⟨fi,_,_,h6⟩:=h.fact h2
    rcases h6 with ⟨_,_,e,_⟩ | ⟨_,_,e,_⟩ <;> simp at e
  ·obtain ⟨h1,h2⟩:=hk.ar.z x (h.ar q)
   refine ⟨h1,fun c e=>?_⟩
   simp only [Env.sub,Option.bind_eq_some_iff] at e
   obtain ⟨b',_,e⟩:=e
   exact h2 b' e
  ·obtain ⟨i,f,u1,rfl,k1,k2,k3⟩:=h.Dg h1 h3
   obtain ⟨j,f',u2,rfl,k1',k2',k3'⟩:=h.Dg h2 h4
   have:=hk.ar.inj f f' u1 u2 x L N L' N' k2 k2' k3 k3'
   subst this
   have:=u6 h.Xw i j f k1 k1'
   omega
  ·obtain ⟨i,f,u1,rfl,k1,k2,k3⟩:=h.Dg h1 h3
   obtain ⟨j,f',u2,rfl,k1',k2',k3'⟩:=h.Dg h2 h4
   have:=hk.ar.tq f f' u1 u2 x y L N L' N' cs e own q k b8 e' o7 k' k2 k2' k3 k3' h5 h6
   subst this
   have:=u6 h.Xw i j f k1 k1'
   omega
  ·cases qf:(E.sub A g.bs g.fs S.nr).α b with
   | none=>rfl
   | some p=>
    obtain ⟨h1,_,_⟩:=ade b p qf
    simp only [Env.sub,Option.bind_eq_some_iff] at e
    obtain ⟨b',h2,_⟩:=e
    have:b < g.bs.length:=(List.getElem?_eq_some_iff.1 h2).1
    rw [h.Ze] at this
    simp only [aQ.nr] at h1; omega
  ·obtain ⟨h1,h2,_⟩:=ade b p e
   rw [h.fs,qH,← h.lens] at h2
   rw [aQ.mem,gJ,nS h.rF]
   omega
  ·obtain ⟨_,_,f,e⟩:=ade b _ e
   exact hk.ar.gY f x L N e
  ·obtain ⟨i,f,u,rfl,k1,k2,k3⟩:=h.Dg h1 h2
   obtain ⟨h4,h5,h6⟩:=hk.ar.rZ f u x L N cs e own q k k2 k3 h3
   refine ⟨h4,fun c e=>?_,fun y hy dT=>?_⟩
   ·simp only [Env.sub] at e
    split at e
    ·obtain ⟨f1,_,e⟩:=Option.bind_eq_some_iff.1 e
     obtain ⟨f',_,e⟩:=Option.bind_eq_some_iff.1 e
     exact h5 f' (L5 e).1
    ·simp at e
   ·obtain ⟨h7,h8,h9⟩:=h6 y hy dT
    refine ⟨h7,fun q=>h8 (h.ar q),fun c e=>?_⟩
    simp only [Env.sub,Option.bind_eq_some_iff] at e
    obtain ⟨b',_,e⟩:=e
    exact h9 b' e
  ·rcases Df h.rF hb with ⟨p,r,_,_,h3⟩ | ⟨i,q,rfl,h2,_⟩
   ·simp at h3
   ·refine ⟨?_,?_⟩
    ·rw [aQ.mem,gJ,nS h.rF]
     have:=(List.getElem?_eq_some_iff.1 h2).1
     omega
    ·simp only [Env.sub]
     rw [List.getElem?_eq_none (by rw [h.Ze]; simp only [aQ.nr]; omega)]
     rfl
structure Co (base:Nat) (E:Env) (A:az) (B:St) (ρ:aW) (w:World) (E' : Env) (A' : az) (B' : St) (aY:aW) (w' : World):Prop where
 fL:lW base ρ B w aY B' w'
 z:∀ b r,E.z b=some r→E'.z b=some r
 mb:∀ x,x < B.next→(∀ b,E.κ b≠some x)→¬ AT A E B x→B'.get x=B.get x
 new:∀ b x,E'.κ b=some x→(∃ c,E.κ c=some x)∨B.next≤x
 sS:∀ b r,E'.z b=some r→E.z b=some r∨AR A E b∨B.next≤b
 sT:∀ b g,E'.φ b=some g→(∃ c,E.φ c=some g)∨B.next≤g
 pT:∀ g,g < B.next→(∀ b,E.φ b≠some g)→¬ AF A E B g→B'.members g=B.members g
 mK:∀ x,AR A' E' x→AR A E x∨B.next≤x
 mX:∀ g,AF A' E' B' g→AF A E B g∨B.next≤g
 uk:∀ g y,y∈B'.members g→y∈B.members g∨B.next≤y
 nR:∀ y,AT A' E' B' y→AT A E B y∨B.next≤y
 rows:∀ y,y < B.next→∀ cs e own bQ,B'.get y=some (.row cs e own bQ)→∃ ma,B.get y=some (.row ma e own bQ)∧ma.length=cs.length
theorem Co.trans {base:Nat} {E1 E2 E3:Env} {A1 A2 A3:az} {B1 B2 B3:St} {mC um ρ3:aW} {w1 w2 w3:World} (h:Co base E1 A1 B1 mC w1 E2 A2 B2 um w2) (k:Co base E2 A2 B2 um w2 E3 A3 B3 ρ3 w3):Co base E1 A1 B1 mC w1 E3 A3 B3 ρ3 w3 where
 fL:=h.fL.trans k.fL
 z b r e:=k.z b r (h.z b r e)
 mb x hx hn ha:=by
  refine (k.mb x (Nat.lt_of_lt_of_le hx h.fL.next) (fun b e=>?_) fun q=>?_).trans (h.mb x hx hn ha)
  ·rcases h.new b x e with ⟨c,e⟩ | e
   ·exact hn c e
   ·omega
  ·rcases h.nR x q with e | e
   ·exact ha e
   ·omega
 new b x e:=by
  rcases k.new b x e with ⟨c,e⟩ | e
  ·exact h.new c x e
  ·have:=h.fL.next; exact .inr (by omega)
 sS b r e:=by
  rcases k.sS b r e with e | e | e
  ·exact h.sS b r e
  ·exact .inr (h.mK b e)
  ·have:=h.fL.next; exact .inr (.inr (by omega))
 sT b g e:=by
  rcases k.sT b g e with ⟨c,e⟩ | e
  ·exact h.sT c g e
  ·have:=h.fL.next; exact .inr (by omega)
 pT g hg hn ha:=by
  refine (k.pT g (Nat.lt_of_lt_of_le hg h.fL.next) (fun b e=>?_) fun q=>?_).trans (h.pT g hg hn ha)
  ·rcases h.sT b g e with ⟨c,e⟩ | e
   ·exact hn c e
   ·omega
  ·rcases h.mX g q with e | e
   ·exact ha e
   ·omega
 mK x e:=by
  rcases k.mK x e with e | e
  ·exact h.mK x e
  ·have:=h.fL.next; exact .inr (by omega)
 mX g e:=by
  rcases k.mX g e with e | e
  ·exact h.mX g e
  ·have:=h.fL.next; exact .inr (by omega)
 uk g y e:=by
  rcases k.uk g y e with e | e
  ·exact h.uk g y e
  ·have:=h.fL.next; exact .inr (by omega)
 nR y e:=by
  rcases k.nR y e with e | e
  ·exact h.nR y e
  ·have:=h.fL.next; exact .inr (by omega)
 rows y hy cs e own bQ q:=by
  obtain ⟨c1,h1,h2⟩:=k.rows y (Nat.lt_of_lt_of_le hy h.fL.next) cs e own bQ q
  obtain ⟨c0,h3,h4⟩:=h.rows y hy c1 e own bQ h1
  exact ⟨c0,h3,h4.trans h2⟩
theorem Ev.co {base:Nat} {A A1:az} {B B1:St} {ρ mC:aW} {w w1:World} {E1:Env} {S:aQ} {t:bA} {g:GR} (h:Ev P base E A B ρ w E1 A1 B1 mC w1) (hG:dM P S t A1 g):Co base E A B ρ w (E1.sub A1 g.bs g.fs S.nr) (S.mem P g.vs g.rs) B1 mC w1 where
 fL:=h.fL
 z:=h.le.z
 mb:=h.mb
 new b x e:=by
  simp only [Env.sub,Option.bind_eq_some_iff] at e
  obtain ⟨b',_,e⟩:=e
  exact (h.new b' x e).imp (fun e=>⟨_,e⟩) id
 sS:=h.sS
 sT b g e:=by
  simp only [Env.sub] at e
  split at e
  ·obtain ⟨f,_,e⟩:=Option.bind_eq_some_iff.1 e
   obtain ⟨f',_,e⟩:=Option.bind_eq_some_iff.1 e
   exact h.sT _ _ (L5 e).1
  ·simp at e
 pT:=h.pT
 mK x q:=h.mK x (hG.ar q)
 mX g q:=h.mX g (hG.af q)
 uk:=h.uk
 nR y q:=h.nR y (hG.at q)
 rows:=h.rows
def QG (nr:Nat):List CD→Bool
 | []=>true
 | .ref w::ds=>Vz nr w&&QG nr ds
 | _::ds=>QG nr ds
theorem Dh {nr:Nat} {bs:List Nat} : ∀ {ds:List CD} {vs:List KV},BM nr bs ds vs=true→vs.length=ds.length→QG nr ds=true
 | [],_,_,_=>rfl
 | _::_,[],_,e=>by simp at e
 | .k c::ds,v::vs,h,e=>Dh (ds:=ds) (vs:=vs) h (by simpa using e)
 | .lit c::ds,v::vs,h,e=>Dh (ds:=ds) (vs:=vs) h (by simpa using e)
 | .bb c::ds,v::vs,h,e=>Dh (ds:=ds) (vs:=vs) h (by simpa using e)
 | .arr c::ds,v::vs,h,e=>Dh (ds:=ds) (vs:=vs) h (by simpa using e)
 | .ref w::ds,v::vs,h,e=>by
  simp only [BM,Bool.and_eq_true] at h
  simp only [QG,Bool.and_eq_true]
  exact ⟨h.1,Dh h.2.2 (by simpa using e)⟩
def OO (E1 E2:Env) (i j n:Nat):Prop:=∀ m,m < n→(∀ g,E1.φ (i+m)=some g→E2.φ (j+m)=some g)∧∀ p,E1.α (i+m)=some p→E2.α (j+m)=some p
theorem OO.tail {E1 E2:Env} {i j n:Nat} (h:OO E1 E2 i j (n+1)):OO E1 E2 (i+1) (j+1) n:=fun m hm=>by
 have:=h (m+1) (by omega)
 rw [show i+(m+1)=i+1+m by omega,show j+(m+1)=j+1+m by omega] at this
 exact this
theorem OO.left {E1 E2:Env} {i j n n' : Nat} (h:OO E1 E2 i j n') (hn:n≤n'):OO E1 E2 i j n:=fun m hm=>h m (by omega)
theorem OO.right {E1 E2:Env} {i j n n' : Nat} (h:OO E1 E2 i j (n+n')):OO E1 E2 (i+n) (j+n) n':=fun m hm=>by
 have:=h (n+m) (by omega)
 rw [← Nat.add_assoc,← Nat.add_assoc] at this
 exact this
theorem bf.x4 {E1 E2:Env} (hz:E2.z=E1.z) {nr:Nat} {OP bs2:List Nat} (hk:Rk E1 E2 nr OP bs2):∀ {ds:List CD} {vs:List KV} {us:List Value} {i j:Nat},bf P E1 (pU i OP ds vs) us→dL ds vs=true→QG nr ds=true→OO E1 E2 i j (qi ds)→bf P E2 (pU j bs2 ds vs) us
 | [],[],us,_,_,h,_,_,_=>by rw [h.ck]; exact .nil
 | [],_::_,_,_,_,_,hg,_,_=>by simp [dL] at hg
 | _::_,[],_,_,_,_,hg,_,_=>by simp [dL] at hg
 | d::ds,v::vs,us,i,j,h,hg,hw,hf=>by
  simp only [dL,Bool.and_eq_true] at hg
  cases d with
  | k c=>
   obtain ⟨y,ys,rfl,h1,h2⟩:=bf.cons_inv (show bf P E1 (v::pU i OP ds vs) us from h)
   exact .cons (h1.gCD (d:=.k c) hz hg.1 (by simp)) (bf.x4 hz hk h2 hg.2 hw hf)
  | lit w=>
   obtain ⟨y,ys,rfl,h1,h2⟩:=bf.cons_inv (show bf P E1 (v::pU i OP ds vs) us from h)
   exact .cons (h1.gCD (d:=.lit w) hz hg.1 (by simp)) (bf.x4 hz hk h2 hg.2 hw hf)
  | ref w=>
   simp only [QG,Bool.and_eq_true] at hw
   obtain ⟨y,ys,rfl,h1,h2⟩:=bf.cons_inv (show bf P E1 (inst OP w::pU i OP ds vs) us from h)
   exact .cons (VK.inst hk hw.1 h1) (bf.x4 hz hk h2 hg.2 hw.2 hf)
  | bb t=>
   obtain ⟨y,ys,rfl,h1,h2⟩:=bf.cons_inv (show bf P E1 (H7 i v::pU (i+1) OP ds vs) us from h)
   refine .cons ?_ (bf.x4 (i:=i+1) (j:=j+1) hz hk h2 hg.2 hw (OO.tail hf))
   have hv:∃ n es acc,v = .ts t .any n es acc:=by
    have hg1:kindOk (.slice t) v=true:=hg.1
    cases v <;> simp [kindOk] at hg1
    rename_i t' m n es acc
    cases m <;> simp at hg1
    subst hg1; exact ⟨_,_,_,rfl⟩
   obtain ⟨n,es,acc,rfl⟩:=hv
   exact VK.swap hz (show VK P E1 (.ts t (.bb i) n es acc) y from h1) fun sz a cap _ hm=>by
    refine ⟨hm.1,hm.2.imp id ?_⟩
    rintro ⟨b,r,g,q1,q2,q3,q4,q5⟩
    exact ⟨b,r,g,q1,by rw [hz]; exact q2,q3,(hf 0 (by simp [qi])).1 g q4,q5⟩
  | arr t=>
   obtain ⟨y,ys,rfl,h1,h2⟩:=bf.cons_inv (show bf P E1 (L1 i v::pU (i+1) OP ds vs) us from h)
   refine .cons ?_ (bf.x4 (i:=i+1) (j:=j+1) hz hk h2 hg.2 hw (OO.tail hf))
   have hv:∃ n es acc,v = .ts t .any n es acc:=by
    have hg1:kindOk (.slice t) v=true:=hg.1
    cases v <;> simp [kindOk] at hg1
    rename_i t' m n es acc
    cases m <;> simp at hg1
    subst hg1; exact ⟨_,_,_,rfl⟩
   obtain ⟨n,es,acc,rfl⟩:=hv
   show VK P E2 (.al t j 0 n) y
   rcases (show VK P E1 (.al t i 0 n) y from h1).u3 with ⟨q1,q2,q3⟩ | ⟨x,L,N,c,q1,q2⟩
   ·exact .M5 (.inl ⟨q1,q2,q3⟩)
   ·exact .M5 (.inr ⟨x,L,N,c,(hf 0 (by simp [qi])).2 _ q1,q2⟩)
theorem aih (j:Nat) (bs:List Nat) (d:VD) (cs:List KV):VB j bs d (.agg cs) = .agg (pU j bs d.ks cs):=rfl
theorem abY {j:Nat} {bs:List Nat} {d:VD} {v:KV} (h:∀ cs,v≠.agg cs) {c:CD} (hc:d.ks = [c]) : [VB j bs d v] = pU j bs d.ks [v]:=by
 have e:VB j bs d v=(match d.ks with | [.bb _]=>H7 j v | [.arr _]=>L1 j v | [.ref w]=>inst bs w | _=>v):=by
  cases v <;> first | rfl | exact absurd rfl (h _)
 rw [e,hc]
 cases c <;> rfl
theorem VK.alX {E1 E2:Env} (hz:E2.z=E1.z) {nr:Nat} {OP bs2:List Nat} (hk:Rk E1 E2 nr OP bs2) {d:VD} {v:KV} {u:Value} {i j:Nat} (h:VK P E1 (VB i OP d v) u) (hg:u4 d v=true) (hw:QG nr d.ks=true) (hf:OO E1 E2 i j (qi d.ks)):VK P E2 (VB j bs2 d v) u:=by
 rcases wF hg with ⟨cs,rfl,_,h2⟩ | ⟨h0,_,c,h1,h2⟩
 ·rw [aih] at h ⊢
  obtain ⟨l,rfl,k⟩:=h.mc
  exact .oY (bf.x4 hz hk k h2 hw hf)
 ·have k:bf P E1 (pU i OP d.ks [v]) [u]:=by rw [← abY h0 h1]; exact .cons h .nil
  have k2:=bf.x4 hz hk k (by rw [h1]; simp [dL,h2]) hw hf
  rw [← abY h0 h1] at k2
  obtain ⟨y,e,k3⟩:=k2.eU
  simp at e; subst e; exact k3
def tv (P:Program) (E1 E2:Env):List (Nat×KV)→List (Nat×KV)→Prop
 | [],[]=>True
 | x::xs,y::ys=>x.1=y.1∧(∀ u,VK P E1 x.2 u→VK P E2 y.2 u)∧tv P E1 E2 xs ys
 | _,_=>False
theorem tv.append {E1 E2:Env} : ∀ {a b c d:List (Nat×KV)},tv P E1 E2 a b→tv P E1 E2 c d→tv P E1 E2 (a++c) (b++d)
 | [],[],_,_,_,h=>h
 | [],_::_,_,_,h,_=>h.elim
 | _::_,[],_,_,h,_=>h.elim
 | _::_,_::_,_,_,h,k=>⟨h.1,h.2.1,tv.append h.2.2 k⟩
theorem tv.get {E1 E2:Env} : ∀ {a b:List (Nat×KV)},tv P E1 E2 a b→∀ i,((lK a).get i=none∧(lK b).get i=none)∨∃ x y,(lK a).get i=some x∧(lK b).get i=some y∧∀ u,VK P E1 x u→VK P E2 y u
 | [],[],_,i=>.inl (by simp [lK])
 | [],_::_,h,_=>h.elim
 | _::_,[],h,_=>h.elim
 | x::a,y::b,h,i=>by
  rw [lK,lK,Trie.nX,Trie.nX]
  by_cases e:i=x.1
  ·rw [if_pos e,if_pos (by rw [e,h.1])]
   exact .inr ⟨_,_,rfl,rfl,h.2.1⟩
  ·rw [if_neg e,if_neg (by rw [← h.1]; exact e)]
   exact tv.get h.2.2 i
theorem kS.ajG {E1 E2:Env} {ρ:aW} {l m:List (Nat×KV)} {N:Nat} {a:Act} (h:kS P E1 ρ (K.lK l) N a) (hp:tv P E1 E2 l m):kS P E2 ρ (K.lK m) N a:=by
 refine ⟨h.size,fun i=>?_,fun i hi=>?_⟩
 ·rcases hp.get i with ⟨_,h2⟩ | ⟨x,y,h1,h2,h3⟩
  ·rw [h2]; exact .ax
  ·have:=h.val i
   rw [h1] at this
   rw [h2]
   obtain ⟨u,k1,k2⟩:=this
   exact ⟨u,h3 u k1,k2⟩
 ·rcases hp.get i with ⟨_,h2⟩ | ⟨x,y,h1,h2,h3⟩
  ·exact h2
  ·have:=h.none i hi
   rw [h1] at this; simp at this
def wsV (nr:Nat):List (Tmp×VD)→Bool
 | []=>true
 | p::ps=>QG nr p.2.ks&&wsV nr ps
theorem ahB {A:az} {t:bA} {nr:Nat} {bs:List Nat} : ∀ {ps:List (Tmp×VD)},KC nr bs t ps=true→iv ps (o9 P t A ps)=true→wsV nr ps=true
 | [],_,_=>rfl
 | p::ps,h,hg=>by
  simp only [KC,Bool.and_eq_true] at h
  simp only [o9,iv,Bool.and_eq_true] at hg
  simp only [wsV,Bool.and_eq_true]
  exact ⟨Dh h.1 (D8 hg.1),ahB h.2 hg.2⟩
theorem abZ {E1 E2:Env} (hz:E2.z=E1.z) {nr:Nat} {OP bs2:List Nat} (hk:Rk E1 E2 nr OP bs2):∀ {ps:List (Tmp×VD)} {vs:List KV} {i j:Nat},iv ps vs=true→wsV nr ps=true→OO E1 E2 i j (m0 ps)→tv P E1 E2 (VE i OP ps vs) (VE j bs2 ps vs)
 | [],[],_,_,_,_,_=>trivial
 | [],_::_,_,_,hg,_,_=>by simp [iv] at hg
 | _::_,[],_,_,hg,_,_=>by simp [iv] at hg
 | p::ps,v::vs,i,j,hg,hw,hf=>by
  simp only [wsV,Bool.and_eq_true] at hw
  simp only [iv,Bool.and_eq_true] at hg
  have hf:OO E1 E2 i j (qi p.2.ks+m0 ps):=hf
  exact ⟨rfl,fun u h=>h.alX hz hk hg.1 hw.1 (hf.left (Nat.le_add_right _ _)),abZ hz hk hg.2 hw.2 hf.right⟩
theorem ae6 {E1 E2:Env} {ids bs:List Nat} : ∀ {ps:List (Tmp×Nat×Nat)},(∀ p∈ps,∀ x,E1.κ (ids.getD p.2.1 0)=some x→E2.κ (bs.getD p.2.1 0)=some x)→tv P E1 E2 (xZ ids ps) (xZ bs ps)
 | [],_=>trivial
 | p::ps,h=>⟨rfl,fun u k=>by
   obtain ⟨x,h1,rfl⟩:=(show VK P E1 (.ptr (ids.getD p.2.1 0) p.2.2) u from k).iW
   exact .xi (h p (by simp) x h1),ae6 fun q hq=>h q (by simp [hq])⟩
end Go.K
end
section
namespace Go.K
open Go Go.aG
variable {P:Program} {E:Env}
theorem CF:∀ (ps:List (Tmp×List CD×Nat)) (j k:Nat),x3 j ps k=j+x3 0 ps k
 | [],j,k=>by simp [x3]
 | _::_,j,0=>by simp [x3]
 | p::ps,j,k+1=>by
  simp only [x3]
  rw [CF ps (j+qi p.2.1) k,CF ps (0+qi p.2.1) k]
  omega
theorem mem_row {S:aQ} {vs:List KV} {rs:List (List KV)} (h:rs.length=S.rows.length) {k:Nat} {p:Tmp×List CD×Nat} {r:List KV} (hp:S.rows[k]? = some p) (hr:rs[k]? = some r):(S.mem P vs rs).get k=some (.row (pU (x3 (S.nr+m0 S.dW) S.rows k) S.ids p.2.1 r) p.2.2):=by
 have hk:k < S.nr:=(List.getElem?_eq_some_iff.1 hp).1
 rw [aQ.mem,Cn (by rw [nS h]; exact hk)]
 have:=ahz (A:=.empty) hp (show (S.Dc S.nr S.ids rs)[k]? = some _ from L4 hp hr)
 simpa [az.empty] using this
theorem QH {S:aQ} {vs:List KV} {rs:List (List KV)} (h:rs.length=S.rows.length) {i:Nat} {q:jx} (hq:(S.lens P vs rs)[i]? = some q):(S.mem P vs rs).get (S.nr+i)=some q:=by
 have:=KD (A:=qj .empty S.rows (S.Dc S.nr S.ids rs)) hq
 rw [nS h] at this
 exact this
def Env.up (E E1:Env) (nr nx:Nat):Env:={ κ:=E.κ,z:=E1.z,φ:=fun b=>if nx≤b then E1.φ (nr+(b - nx)) else E.φ b,α:=fun b=>if nx≤b then E1.α (nr+(b - nx)) else E.α b }
theorem Env.yH {E1:Env} {nr nx j:Nat} : (E.up E1 nr nx).φ (nx+j)=E1.φ (nr+j):=by
 simp only [Env.up]
 rw [if_pos (by omega),show nx+j - nx=j by omega]
theorem Env.yI {E1:Env} {nr nx b:Nat} (h:b < nx):(E.up E1 nr nx).φ b=E.φ b:=by
 simp only [Env.up]
 rw [if_neg (by omega)]
theorem Env.Gf {E1:Env} {nr nx j:Nat} : (E.up E1 nr nx).α (nx+j)=E1.α (nr+j):=by
 simp only [Env.up]
 rw [if_pos (by omega),show nx+j - nx=j by omega]
theorem Env.Gg {E1:Env} {nr nx b:Nat} (h:b < nx):(E.up E1 nr nx).α b=E.α b:=by
 simp only [Env.up]
 rw [if_neg (by omega)]
theorem fI.amO {A:az} {B:St} (h:fI P E A B) {b x:Nat} (hx:E.κ b=some x) : ¬ AT A E B x:=by
 rintro (q | ⟨g,⟨c,v,y,L,N,cs,e,own,k,h1,h2,h3⟩,hm⟩)
 ·exact (h.ar.z x q).2 b hx
 ·by_cases wx:x=y
  ·subst wx
   exact (h.ar.z x ⟨c,v,L,N,h1,h2⟩).2 b hx
  ·exact ((h.ar.rZ c v y L N cs e own g k h1 h2 h3).2.2 x hm wx).2.2 b hx
theorem ab0 {S:aQ} {t:bA} {A:az} {B B1:St} {g:GR} {ρ mC:aW} {base N:Nat} {w w1:World} {a1:Act} {vs:List KV} {rs:List (List KV)} {E1:Env} (hG:dM P S t A g) (hk:fI P E A B)
  (ht:kS P E1 mC (S.tm S.nr S.ids vs) N a1) (hs:fI P E1 (S.mem P vs rs) B1) (vT:Co base (E.sub A g.bs g.fs S.nr) (S.mem P g.vs g.rs) B ρ w E1 (S.mem P vs rs) B1 mC w1) (DI:∀ k,k < S.rows.length→E1.κ k=(E.sub A g.bs g.fs S.nr).κ k)
  (hv:iv S.dW vs=true) (Mr:rs.length=S.rows.length) (hrg:∀ (k:Nat) p r,S.rows[k]? = some p→rs[k]? = some r→dL p.2.1 r=true) :
  kS P (E.up E1 S.nr A.next) mC (S.tm A.next g.bs vs) N a1∧Ev P base E A B ρ w (E.up E1 S.nr A.next) (S.back P g.bs g.fs vs rs A) B1 mC w1:=by
 have hle:E.le (E.up E1 S.nr A.next):=⟨fun b p e=>by rw [Env.Gg (hk.ar.lD b p e)]; exact e,fun _ _ e=>e,fun b r e=>vT.z b r e,fun b q e=>by rw [Env.yI (hk.mW b q e)]; exact e⟩
 have ajH:∀ (k b:Nat),g.bs[k]? = some b→E1.κ k=E.κ b:=fun k b hb=>by
  rw [DI k (by rw [← hG.Ze]; exact (List.getElem?_eq_some_iff.1 hb).1)]
  simp [Env.sub,hb]
 have jd:(xt (nJ A g.bs S.rows (S.Dc A.next g.bs rs)) g.fs).next=A.next:=by rw [D9,OL]
 have H5:∀ x,x < B.next→(∀ (k b:Nat),g.bs[k]? = some b→E.κ b≠some x)→¬ AT (S.mem P g.vs g.rs) (E.sub A g.bs g.fs S.nr) B x→B1.get x=B.get x:=fun x hx dT ha=>vT.mb x hx (fun k e=>by
  simp only [Env.sub,Option.bind_eq_some_iff] at e
  obtain ⟨b,h1,e⟩:=e
  exact dT k b h1 e) ha
 have BN:∀ f,f∈jJ g.fs→∃ i:Nat,g.fs[i]? = some (some f)∧((∃ n sz,A.get f=some (.bb n sz))∨∃ v,A.get f=some (.arr v)):=by
  intro f hf
  obtain ⟨i,hi⟩:=List.getElem?_of_mem (ux.1 hf)
  have bX:i < (S.lens P g.vs g.rs).length:=by rw [hG.lens,← qH,← hG.fs]; exact (List.getElem?_eq_some_iff.1 hi).1
  obtain ⟨fi,_,h2,h3⟩:=hG.fact (List.getElem?_eq_getElem bX)
  rw [hi] at h2; simp at h2
  rcases h3 with ⟨n,sz,_,⟨h3,_⟩ | ⟨f',h3,h4⟩⟩ | ⟨T,v,_,⟨h3,_⟩ | ⟨f',m,N,es,acc,h3,h4,_⟩⟩
  ·rw [h3] at h2; simp at h2
  ·rw [h3] at h2; simp at h2; subst h2; exact ⟨i,hi,.inl ⟨_,_,h4⟩⟩
  ·rw [h3] at h2; simp at h2
  ·rw [h3] at h2; simp at h2; subst h2; exact ⟨i,hi,.inr ⟨_,h4⟩⟩
 have amP:∀ f v,f∈jJ g.fs→A.get f=some v→(∃ n sz,v = .bb n sz)∨∃ u,v = .arr u:=by
  intro f v hf hv
  obtain ⟨_,_,⟨n,sz,h1⟩ | ⟨u,h1⟩⟩:=BN f hf
  ·rw [hv] at h1; simp at h1; exact .inl ⟨n,sz,h1⟩
  ·rw [hv] at h1; simp at h1; exact .inr ⟨u,h1⟩
 have hrk:Rk E1 (E.up E1 S.nr A.next) S.rows.length S.ids g.bs:=fun j x hj e=>by
  have bX:j < g.bs.length:=by rw [hG.Ze]; exact hj
  rw [List.getD_eq_getElem?_getD,Gc S j hj,Option.getD_some] at e
  rw [List.getD_eq_getElem?_getD,List.getElem?_eq_getElem bX,Option.getD_some]
  show E.κ _=some x
  rw [← ajH j _ (List.getElem?_eq_getElem bX)]; exact e
 have S9:∀ (k b:Nat),g.bs[k]? = some b→∃ (p:Tmp×List CD×Nat) (r:List KV) (x:Nat) (b8:List Value),S.rows[k]? = some p∧rs[k]? = some r∧E.κ b=some x∧B1.get x=some (.row b8 p.2.2 true none)∧bf P (E.up E1 S.nr A.next) (pU (x3 (A.next+m0 S.dW) S.rows k) g.bs p.2.1 r) b8∧
   (xt (nJ A g.bs S.rows (S.Dc A.next g.bs rs)) g.fs).get b=some (.row (pU (x3 (A.next+m0 S.dW) S.rows k) g.bs p.2.1 r) p.2.2)∧b ∉ jJ g.fs:=by
  intro k b hb
  have bX:k < S.rows.length:=by rw [← hG.Ze]; exact (List.getElem?_eq_some_iff.1 hb).1
  have hp:=List.getElem?_eq_getElem bX
  have hr:=List.getElem?_eq_getElem (show k < rs.length by rw [Mr]; exact bX)
  obtain ⟨b',cs,q1,q2,_⟩:=hG.row hp
  rw [hb] at q1; simp at q1; subst q1
  obtain ⟨x,b8,h1,h2,h3⟩:=hs.row k _ _ (mem_row Mr hp hr)
  have hnf:b ∉ jJ g.fs:=fun hf=>by
   rcases amP b _ hf q2 with ⟨_,_,e⟩ | ⟨_,e⟩ <;> simp at e
  refine ⟨_,_,x,b8,hp,hr,by rw [← ajH k b hb]; exact h1,h2,?_,?_,hnf⟩
  ·have hws:QG S.rows.length S.rows[k].2.1=true:=by
    obtain ⟨_,ma,_,_,J2,hc0,_,_⟩:=hG.row hp
    have:=OM hG.alw hp
    rw [hc0] at this
    exact Dh this J2
   refine bf.x4 (E1:=E1) (E2:=E.up E1 S.nr A.next) rfl hrk h3 (hrg _ _ _ hp hr) hws fun m _=>⟨fun q e=>?_,fun q e=>?_⟩
   ·rw [CF,show A.next+m0 S.dW+x3 0 S.rows k+m=A.next+(m0 S.dW+x3 0 S.rows k+m) by omega,Env.yH]
    rw [CF,show S.nr+m0 S.dW+x3 0 S.rows k+m=S.nr+(m0 S.dW+x3 0 S.rows k+m) by omega] at e
    exact e
   ·rw [CF,show A.next+m0 S.dW+x3 0 S.rows k+m=A.next+(m0 S.dW+x3 0 S.rows k+m) by omega,Env.Gf]
    rw [CF,show S.nr+m0 S.dW+x3 0 S.rows k+m=S.nr+(m0 S.dW+x3 0 S.rows k+m) by omega] at e
    exact e
  ·rw [Dd,if_neg hnf]
   exact ae0 hG.nodup hb hp (show (S.Dc A.next g.bs rs)[k]? = some _ from L4 hp hr)
 have zu:∀ b,b∈g.bs→∃ k:Nat,g.bs[k]? = some b:=fun b hb=>List.getElem?_of_mem hb
 have L6:∀ c q,(E.sub A g.bs g.fs S.nr).φ c=some q→∃ f n sz,f∈jJ g.fs∧E.φ f=some q∧A.get f=some (.bb n sz):=by
  intro c q e
  simp only [Env.sub] at e
  split at e
  ·obtain ⟨f,h1,e⟩:=Option.bind_eq_some_iff.1 e
   obtain ⟨f',h2,e⟩:=Option.bind_eq_some_iff.1 e
   subst h2
   obtain ⟨e1,e2⟩:=L5 e
   obtain ⟨n,sz,e3⟩:=ae3 e2
   exact ⟨f',n,sz,ux.2 (List.mem_of_getElem? h1),e1,e3⟩
  ·simp at e
 have hinv:∀ b o,(S.back P g.bs g.fs vs rs A).get b=some o→(b∈g.bs∧∃ cs e,o = .row cs e∧(xt (nJ A g.bs S.rows (S.Dc A.next g.bs rs)) g.fs).get b=some (.row cs e))∨(b ∉ g.bs∧b ∉ jJ g.fs∧A.get b=some o)∨(b∈jJ g.fs∧o = .dead)∨∃ i q,b=A.next+i∧(S.lens P vs rs)[i]? = some q∧o=q:=by
  intro b o hb
  rcases QE hb with hb | ⟨i,q,h1,h2,h3⟩
  ·by_cases Zf:b∈g.bs
   ·obtain ⟨k,vO⟩:=zu b Zf
    obtain ⟨p,r,x,b8,h1,h2,h3,h4,h5,h6,h7⟩:=S9 k b vO
    rw [h6] at hb; simp at hb
    exact .inl ⟨Zf,_,_,hb.symm,h6⟩
   ·rw [Dd] at hb
    split at hb
    ·rename_i hf; simp at hb; exact .inr (.inr (.inl ⟨hf,hb.symm⟩))
    ·rename_i hf
     rw [KF Zf] at hb
     exact .inr (.inl ⟨Zf,hf,hb⟩)
  ·rw [jd] at h1
   exact .inr (.inr (.inr ⟨i,q,h1,h2,h3⟩))
 have hnewobj:∀ i q,(S.lens P vs rs)[i]? = some q→(S.mem P vs rs).get (S.nr+i)=some q:=fun i q hq=>QH Mr hq
 have ahC:∀ (i:Nat) (q:jx),(S.lens P vs rs)[i]? = some q→(∃ n sz,q=jx.bb n sz)∨∃ v,q=jx.arr v:=by
  have one:∀ (ds:List CD) (vs:List KV),∀ q∈oo P ds vs,(∃ n sz,q = .bb n sz)∨∃ v,q = .arr v:=by
   intro ds
   induction ds with
   | nil=>intro vs q hq; simp [oo] at hq
   | cons d ds ih=>
    intro vs q hq
    cases vs with
    | nil=>cases d <;> simp [oo] at hq
    | cons v vs=>
     cases d <;> simp only [oo,List.mem_cons] at hq
     ·exact ih vs q hq
     ·exact ih vs q hq
     ·rcases hq with rfl | hq
      ·exact .inl ⟨_,_,rfl⟩
      ·exact ih vs q hq
     ·rcases hq with rfl | hq
      ·exact .inr ⟨_,rfl⟩
      ·exact ih vs q hq
     ·exact ih vs q hq
  have two:∀ (ps:List (Tmp×VD)) (vs:List KV),∀ q∈vS P ps vs,(∃ n sz,q = .bb n sz)∨∃ v,q = .arr v:=by
   intro ps
   induction ps with
   | nil=>intro vs q hq; simp [vS] at hq
   | cons p ps ih=>
    intro vs q hq
    cases vs with
    | nil=>simp [vS] at hq
    | cons v vs=>
     simp only [vS,List.mem_append] at hq
     exact hq.elim (one _ _ q) (ih vs q)
  have three:∀ (ps:List (Tmp×List CD×Nat)) (rs:List (List KV)),∀ q∈xr P ps rs,(∃ n sz,q = .bb n sz)∨∃ v,q = .arr v:=by
   intro ps
   induction ps with
   | nil=>intro vs q hq; simp [xr] at hq
   | cons p ps ih=>
    intro vs q hq
    cases vs with
    | nil=>simp [xr] at hq
    | cons v vs=>
     simp only [xr,List.mem_append] at hq
     exact hq.elim (one _ _ q) (ih vs q)
  intro i q hq
  have:=List.mem_of_getElem? hq
  simp only [aQ.lens,List.mem_append] at this
  exact this.elim (two _ _ q) (three _ _ q)
 have uq:∀ b v,(S.back P g.bs g.fs vs rs A).get b=some (.arr v)→(b < A.next∧b ∉ jJ g.fs∧A.get b=some (.arr v)∧(E.up E1 S.nr A.next).α b=E.α b)∨∃ i,b=A.next+i∧(S.mem P vs rs).get (S.nr+i)=some (.arr v)∧(E.up E1 S.nr A.next).α b=E1.α (S.nr+i):=by
  intro b v hb
  rcases hinv b _ hb with ⟨_,_,_,e,_⟩ | ⟨_,JK,h1⟩ | ⟨_,e⟩ | ⟨i,q,rfl,h2,e⟩
  ·simp at e
  ·exact .inl ⟨hk.live b _ h1,JK,h1,Env.Gg (hk.live b _ h1)⟩
  ·simp at e
  ·subst e; exact .inr ⟨i,rfl,QH Mr h2,Env.Gf⟩
 have alx:∀ {b v x L N},b ∉ jJ g.fs→A.get b=some (.arr v)→E.α b=some (x,L,N)→¬ AR (S.mem P g.vs g.rs) (E.sub A g.bs g.fs S.nr) x:=by
  intro b v x L N JK hb hx q
  obtain ⟨f,u,L',N',h1,h2,h3⟩:=hG.AR q
  have:=hk.ar.inj b f v u x L N L' N' hb h2 hx h3
  subst this
  exact JK h1
 have amQ:∀ {b v x L N},b ∉ jJ g.fs→A.get b=some (.arr v)→E.α b=some (x,L,N)→¬ AT (S.mem P g.vs g.rs) (E.sub A g.bs g.fs S.nr) B x:=by
  intro b v x L N JK hb hx q
  rcases q with q | ⟨bb,q,hm⟩
  ·exact alx JK hb hx q
  ·obtain ⟨f,u,y,L',N',cs,e,own,m,h1,h2,h3,h4⟩:=hG.AF q
   by_cases wx:x=y
   ·subst wx
    have:=hk.ar.inj b f v u x L N L' N' hb h2 hx h3
    subst this
    exact JK h1
   ·exact ((hk.ar.rZ f u y L' N' cs e own bb m h2 h3 h4).2.2 x hm wx).2.1 ⟨b,v,L,N,hb,hx⟩
 have Gh:∀ {b v x L N},b ∉ jJ g.fs→A.get b=some (.arr v)→E.α b=some (x,L,N)→B1.get x=B.get x:=by
  intro b v x L N JK hb hx
  exact H5 x (hk.ar.gY b x L N hx) (fun k c _ e=>(hk.ar.z x ⟨b,v,L,N,hb,hx⟩).2 c e) (amQ JK hb hx)
 have ajI:∀ {i v x L N},(S.mem P vs rs).get (S.nr+i)=some (.arr v)→E1.α (S.nr+i)=some (x,L,N)→(∃ f u L' N',f∈jJ g.fs∧A.get f=some (.arr u)∧E.α f=some (x,L',N'))∨B.next≤x:=by
  intro i v x L N h1 h2
  rcases vT.mK x ⟨_,v,L,N,h1,h2⟩ with q | q
  ·obtain ⟨f,u,L',N',q1,q2,q3⟩:=hG.AR q
   exact .inl ⟨f,u,L',N',q1,q2,q3⟩
  ·exact .inr q
 have ajJ:∀ x,AR (S.back P g.bs g.fs vs rs A) (E.up E1 S.nr A.next) x→AR A E x∨AR (S.mem P vs rs) E1 x:=by
  rintro x ⟨b,v,L,N,h1,h2⟩
  rcases uq b v h1 with ⟨q1,q2,q3,q4⟩ | ⟨i,rfl,q2,q3⟩
  ·rw [q4] at h2; exact .inl ⟨b,v,L,N,q3,h2⟩
  ·rw [q3] at h2; exact .inr ⟨_,v,L,N,q2,h2⟩
 have ajK:∀ q,AF (S.back P g.bs g.fs vs rs A) (E.up E1 S.nr A.next) B1 q→AF A E B q∨AF (S.mem P vs rs) E1 B1 q:=by
  rintro q ⟨b,v,x,L,N,cs,e,own,k,h1,h2,h3⟩
  rcases uq b v h1 with ⟨q1,q2,q3,q4⟩ | ⟨i,rfl,q2,q3⟩
  ·rw [q4] at h2
   rw [Gh q2 q3 h2] at h3
   exact .inl ⟨b,v,x,L,N,cs,e,own,k,q3,h2,h3⟩
  ·rw [q3] at h2; exact .inr ⟨_,v,x,L,N,cs,e,own,k,q2,h2,h3⟩
 have adf:∀ x,AR (S.back P g.bs g.fs vs rs A) (E.up E1 S.nr A.next) x→AR A E x∨B.next≤x:=fun x q=>by
  rcases ajJ x q with q | q
  ·exact .inl q
  ·exact (vT.mK x q).imp hG.ar id
 have ahD:∀ q,AF (S.back P g.bs g.fs vs rs A) (E.up E1 S.nr A.next) B1 q→AF A E B q∨B.next≤q:=fun x q=>by
  rcases ajK x q with q | q
  ·exact .inl q
  ·exact (vT.mX x q).imp hG.af id
 have ajL:∀ x,x < B.next→E.z x=none→¬ AR (S.mem P g.vs g.rs) (E.sub A g.bs g.fs S.nr) x→E1.z x=none:=fun x hx h1 h2=>by
  cases hz:E1.z x with
  | none=>rfl
  | some r=>
   rcases vT.sS x r hz with e | e | e
   ·have e:E.z x=some r:=e
    rw [h1] at e; simp at e
   ·exact (h2 e).elim
   ·omega
 have aly:∀ {b v x L N cs e own q k},b ∉ jJ g.fs→A.get b=some (.arr v)→E.α b=some (x,L,N)→B.get x=some (.row cs e own (some (q,k)))→¬ AF (S.mem P g.vs g.rs) (E.sub A g.bs g.fs S.nr) B q:=by
  intro b v x L N cs e own q k JK hb hx jD r
  obtain ⟨f,u,y,L',N',b8,e',o7,m,h1,h2,h3,h4⟩:=hG.AF r
  have:=hk.ar.tq b f v u x y L N L' N' cs e own q k b8 e' o7 m hb h2 hx h3 jD h4
  subst this
  exact JK h1
 have qG:HH P (E.up E1 S.nr A.next) (S.back P g.bs g.fs vs rs A) B1:=by
  refine ⟨?_,?_,?_,?_,?_,?_,?_,?_,?_,?_⟩
  ·intro b v hb
   rcases uq b v hb with ⟨q1,q2,q3,q4⟩ | ⟨i,rfl,q2,q3⟩
   ·obtain ⟨T,N,es,acc,h1,h2,h3,h4⟩:=hk.ar.arr b v q3
    refine ⟨T,N,es,acc,h1,h2,h3,?_⟩
    rcases h4 with ⟨h4,h5⟩ | ⟨x,cs,bQ,bq,h4,h5,h6,h7⟩
    ·exact .inl ⟨h4,by rw [q4]; exact h5⟩
    ·exact .inr ⟨x,cs,bQ,bq,by rw [q4]; exact h4,by rw [Gh q2 q3 h4]; exact h5,h6.mono hle,h7⟩
   ·obtain ⟨T,N,es,acc,h1,h2,h3,h4⟩:=hs.ar.arr _ v q2
    refine ⟨T,N,es,acc,h1,h2,h3,?_⟩
    rcases h4 with ⟨h4,h5⟩ | ⟨x,cs,bQ,bq,h4,h5,h6,h7⟩
    ·exact .inl ⟨h4,by rw [q3]; exact h5⟩
    ·exact .inr ⟨x,cs,bQ,bq,by rw [q3]; exact h4,h5,bf.zEs (E:=E1) (E0:=E.up E1 S.nr A.next) rfl h6 h2.typed,h7⟩
  ·intro b v hb
   rcases hinv b _ hb with ⟨_,_,_,e,_⟩ | ⟨_,_,h1⟩ | ⟨_,e⟩ | ⟨i,q,_,h2,e⟩
   ·simp at e
   ·obtain ⟨T,N,es,acc,h2,h3,h4,h5⟩:=hk.ar.jK b v h1
    have qf:(E.up E1 S.nr A.next).α b=E.α b:=Env.Gg (hk.live b _ h1)
    refine ⟨T,N,es,acc,h2,h3,h4,?_⟩
    rcases h5 with ⟨h5,h6⟩ | ⟨x,r,bq,h5,h6,h7,h8,h9⟩
    ·exact .inl ⟨h5,by rw [qf]; exact h6⟩
    ·exact .inr ⟨x,r,bq,by rw [qf]; exact h5,vT.z x r h6,h7,h8.mono hle,h9⟩
   ·simp at e
   ·rcases ahC i q h2 with ⟨_,_,e2⟩ | ⟨_,e2⟩ <;> rw [← e] at e2 <;> simp at e2
  ·rintro x ⟨b,v,L,N,h1,h2⟩
   rcases uq b v h1 with ⟨q1,q2,q3,q4⟩ | ⟨i,rfl,q2,q3⟩
   ·rw [q4] at h2
    obtain ⟨h3,h4⟩:=hk.ar.z x ⟨b,v,L,N,q3,h2⟩
    exact ⟨ajL x (hk.ar.gY b x L N h2) h3 (alx q2 q3 h2),h4⟩
   ·rw [q3] at h2
    refine ⟨(hs.ar.z x ⟨_,v,L,N,q2,h2⟩).1,fun c e=>?_⟩
    rcases vT.mK x ⟨_,v,L,N,q2,h2⟩ with q | q
    ·exact (hk.ar.z x (hG.ar q)).2 c e
    ·have:=hk.gY c x e; omega
  ·intro b c v u x L N L' N' hb hc e1 e2
   have C3:∀ {b v c u L N L' N'},b ∉ jJ g.fs→A.get b=some (.arr v)→E.α b=some (x,L,N)→(S.mem P vs rs).get (S.nr+c)=some (.arr u)→E1.α (S.nr+c)=some (x,L',N')→False:=by
    intro b v c u L N L' N' h1 h2 h3 h4 h5
    rcases ajI h4 h5 with ⟨f,u',L2,N2,k1,k2,k3⟩ | k
    ·have:=hk.ar.inj b f v u' x L N L2 N2 h2 k2 h3 k3
     subst this
     exact h1 k1
    ·have:=hk.ar.gY b x L N h3; omega
   rcases uq b v hb with ⟨q1,q2,q3,q4⟩ | ⟨i,rfl,q2,q3⟩ <;> rcases uq c u hc with ⟨r1,r2,r3,r4⟩ | ⟨j,rfl,r2,r3⟩
   ·rw [q4] at e1; rw [r4] at e2
    exact hk.ar.inj b c v u x L N L' N' q3 r3 e1 e2
   ·rw [q4] at e1; rw [r3] at e2
    exact (C3 q2 q3 e1 r2 e2).elim
   ·rw [q3] at e1; rw [r4] at e2
    exact (C3 r2 r3 e2 q2 e1).elim
   ·rw [q3] at e1; rw [r3] at e2
    have:=hs.ar.inj _ _ v u x L N L' N' q2 r2 e1 e2
    omega
  ·intro b c v u x y L N L' N' cs e own q k b8 e' o7 k' hb hc e1 e2 w1 w2
   have C3:∀ {b v c u x y L N L' N' cs e own k b8 e' o7 k'},b ∉ jJ g.fs→A.get b=some (.arr v)→E.α b=some (x,L,N)→(S.mem P vs rs).get (S.nr+c)=some (.arr u)→E1.α (S.nr+c)=some (y,L',N')→B1.get x=some (.row cs e own (some (q,k)))→B1.get y=some (.row b8 e' o7 (some (q,k')))→False:=by
    intro b v c u x y L N L' N' cs e own k b8 e' o7 k' h1 h2 h3 h4 h5 w1 w2
    rw [Gh h1 h2 h3] at w1
    rcases vT.mX q ⟨_,u,y,L',N',b8,e',o7,k',h4,h5,w2⟩ with r | r
    ·exact aly h1 h2 h3 w1 r
    ·have:=(hk.ar.rZ b v x L N cs e own q k h2 h3 w1).1; omega
   rcases uq b v hb with ⟨q1,q2,q3,q4⟩ | ⟨i,rfl,q2,q3⟩ <;> rcases uq c u hc with ⟨r1,r2,r3,r4⟩ | ⟨j,rfl,r2,r3⟩
   ·rw [q4] at e1; rw [r4] at e2
    rw [Gh q2 q3 e1] at w1; rw [Gh r2 r3 e2] at w2
    exact hk.ar.tq b c v u x y L N L' N' cs e own q k b8 e' o7 k' q3 r3 e1 e2 w1 w2
   ·rw [q4] at e1; rw [r3] at e2
    exact (C3 q2 q3 e1 r2 e2 w1 w2).elim
   ·rw [q3] at e1; rw [r4] at e2
    exact (C3 r2 r3 e2 q2 e1 w2 w1).elim
   ·rw [q3] at e1; rw [r3] at e2
    have:=hs.ar.tq _ _ v u x y L N L' N' cs e own q k b8 e' o7 k' q2 r2 e1 e2 w1 w2
    omega
  ·intro b x hb
   have hb:E.κ b=some x:=hb
   rw [Env.Gg (hk.lD b x hb)]
   exact hk.ar.Yp b x hb
  ·intro b p hb
   rw [aQ.back,gJ,jd]
   by_cases h1:b < A.next
   ·omega
   ·obtain ⟨i,rfl⟩:=Nat.exists_eq_add_of_le (Nat.le_of_not_lt h1)
    rw [Env.Gf] at hb
    have:=hs.ar.lD _ _ hb
    rw [aQ.mem,gJ,nS Mr] at this
    omega
  ·intro b x L N hb
   by_cases h1:b < A.next
   ·rw [Env.Gg h1] at hb
    have:=hk.ar.gY b x L N hb; have:=vT.fL.next; omega
   ·obtain ⟨i,rfl⟩:=Nat.exists_eq_add_of_le (Nat.le_of_not_lt h1)
    rw [Env.Gf] at hb
    exact hs.ar.gY _ _ _ _ hb
  ·intro b v x L N cs e own q k hb hx jD
   rcases uq b v hb with ⟨q1,q2,q3,q4⟩ | ⟨i,rfl,q2,q3⟩
   ·rw [q4] at hx
    have agz:=jD
    rw [Gh q2 q3 hx] at agz
    obtain ⟨h1,h2,h3⟩:=hk.ar.rZ b v x L N cs e own q k q3 hx agz
    have hm:B1.members q=B.members q:=vT.pT q h1 (fun c e=>by
     obtain ⟨f',_,_,_,k2,_⟩:=L6 c q e
     exact h2 f' k2) (aly q2 q3 hx agz)
    refine ⟨by have:=vT.fL.next; omega,fun f e=>?_,fun y hy dT=>?_⟩
    ·by_cases hf:f < A.next
     ·rw [Env.yI hf] at e; exact h2 f e
     ·obtain ⟨j,rfl⟩:=Nat.exists_eq_add_of_le (Nat.le_of_not_lt hf)
      rw [Env.yH] at e
      rcases vT.sT _ _ e with ⟨c,e⟩ | e
      ·obtain ⟨f',_,_,_,k2,_⟩:=L6 c q e
       exact h2 f' k2
      ·omega
    ·rw [hm] at hy
     obtain ⟨h4,h5,h6⟩:=h3 y hy dT
     have bX:=hk.mem q y hy
     refine ⟨ajL y bX h4 fun r=>h5 (hG.ar r),fun r=>?_,h6⟩
     rcases adf y r with r | r
     ·exact h5 r
     ·omega
   ·rw [q3] at hx
    obtain ⟨h1,h2,h3⟩:=hs.ar.rZ _ v x L N cs e own q k q2 hx jD
    have yr:=vT.mX q ⟨_,v,x,L,N,cs,e,own,k,q2,hx,jD⟩
    refine ⟨h1,fun f e=>?_,fun y hy dT=>?_⟩
    ·by_cases hf:f < A.next
     ·rw [Env.yI hf] at e
      rcases yr with r | r
      ·obtain ⟨f0,u,x0,L0,N0,ma,e0,ajM,m,k1,k2,k3,k4⟩:=hG.AF r
       exact (hk.ar.rZ f0 u x0 L0 N0 ma e0 ajM q m k2 k3 k4).2.1 f e
      ·have:=hk.kc f q e; omega
     ·obtain ⟨j,rfl⟩:=Nat.exists_eq_add_of_le (Nat.le_of_not_lt hf)
      rw [Env.yH] at e
      exact h2 _ e
    ·obtain ⟨h4,h5,h6⟩:=h3 y hy dT
     have Ba:y∈B.members q→(∀ c,c ∉ jJ g.fs→∀ v' L' N',A.get c=some (.arr v')→E.α c≠some (y,L',N'))∧∀ c,E.κ c≠some y:=by
      intro hm
      rcases yr with r | r
      ·obtain ⟨f0,u,x0,L0,N0,ma,e0,ajM,m,k1,k2,k3,k4⟩:=hG.AF r
       by_cases hy0:y=x0
       ·subst hy0
        refine ⟨fun c hc v' L' N' p1 p2=>?_,(hk.ar.z y ⟨f0,u,L0,N0,k2,k3⟩).2⟩
        have:=hk.ar.inj c f0 v' u y L' N' L0 N0 p1 k2 p2 k3
        subst this
        exact hc k1
       ·obtain ⟨_,p5,p6⟩:=(hk.ar.rZ f0 u x0 L0 N0 ma e0 ajM q m k2 k3 k4).2.2 y hm hy0
        exact ⟨fun c _ v' L' N' p1 p2=>p5 ⟨c,v',L',N',p1,p2⟩,p6⟩
      ·rw [hk.fresh q r] at hm; simp at hm
     refine ⟨h4,?_,fun c e=>?_⟩
     ·rintro ⟨c,v',L',N',r1,r2⟩
      rcases uq c v' r1 with ⟨p1,p2,p3,p4⟩ | ⟨j,rfl,p2,p3⟩
      ·rw [p4] at r2
       rcases vT.uk q y hy with hm | hm
       ·exact (Ba hm).1 c p2 v' L' N' p3 r2
       ·have:=hk.ar.gY c y L' N' r2; omega
      ·rw [p3] at r2
       exact h5 ⟨_,v',L',N',p2,r2⟩
     ·have e:E.κ c=some y:=e
      rcases vT.uk q y hy with hm | hm
      ·exact (Ba hm).2 c e
      ·have:=hk.gY c y e; omega
  ·intro b v hb
   rw [aQ.back,gJ,jd]
   rcases uq b v hb with ⟨q1,q2,q3,q4⟩ | ⟨i,rfl,q2,q3⟩
   ·obtain ⟨k1,k2⟩:=hk.ar.nk b v q3
    exact ⟨by omega,k2⟩
   ·refine ⟨?_,?_⟩
    ·have:=hs.live _ _ q2
     rw [aQ.mem,gJ,nS Mr] at this
     omega
    ·show E.κ (A.next+i)=none
     cases hq:E.κ (A.next+i) with
     | none=>rfl
     | some x=>have:=hk.lD _ x hq; omega
 refine ⟨?_,⟨⟨?_,?_,hs.z,?_,hk.inj,?_,?_,?_,?_,?_,hs.m9,?_,hs.fresh,hs.mem,?_⟩,vT.fL,hle,?_,?_,fun _ _ e=>.inl e,?_,?_,?_,?_,?_,vT.uk,?_,vT.rows⟩⟩
 ·refine kS.ajG ht (tv.append (abZ (E1:=E1) (E2:=E.up E1 S.nr A.next) rfl hrk hv (ahB hG.alv (hG.vs ▸ hG.dW)) fun m _=>⟨fun q e=>by rw [Env.yH]; exact e,fun q e=>by rw [Env.Gf]; exact e⟩) (ae6 fun p hp x e=>?_))
  obtain ⟨b,_,h2⟩:=KH hG.VA p hp
  have bX:p.2.1 < S.rows.length:=by rw [← hG.Ze]; exact (List.getElem?_eq_some_iff.1 h2).1
  rw [List.getD_eq_getElem?_getD,Gc S _ bX] at e
  rw [List.getD_eq_getElem?_getD,h2]
  have e:E1.κ p.2.1=some x:=e
  rw [ajH _ _ h2] at e
  exact e
 ·intro b cs bU hb
  rcases hinv b _ hb with ⟨Zf,_,_,e,h1⟩ | ⟨Zf,_,h1⟩ | ⟨_,e⟩ | ⟨i,q,_,hq,e⟩
  ·obtain ⟨k,vO⟩:=zu b Zf
   obtain ⟨p,r,x,b8,q1,q2,q3,q4,q5,q6,q7⟩:=S9 k b vO
   rw [h1] at q6
   simp only [jx.row.injEq] at e
   obtain ⟨rfl,rfl⟩:=e
   simp only [Option.some.injEq,jx.row.injEq] at q6
   obtain ⟨rfl,rfl⟩:=q6
   exact ⟨x,b8,q3,q4,q5⟩
  ·obtain ⟨x,c,q1,q2,q3⟩:=hk.row b cs bU h1
   refine ⟨x,c,q1,?_,q3.mono hle⟩
   rw [H5 x (hk.gY b x q1) (fun k b' hb' e=>?_) fun q=>hk.amO q1 (hG.at q)]
   ·exact q2
   ·have:=hk.inj _ _ _ q1 e
    subst this
    exact Zf (List.mem_of_getElem? hb')
  ·simp at e
  ·rcases ahC i q hq with ⟨_,_,e2⟩ | ⟨_,e2⟩ <;> rw [← e] at e2 <;> simp at e2
 ·intro b top sz hb
  rcases hinv b _ hb with ⟨_,_,_,e,_⟩ | ⟨Zf,JK,h1⟩ | ⟨_,e⟩ | ⟨i,q,rfl,h2,e⟩
  ·simp at e
  ·rcases hk.bb b top sz h1 with ⟨h2,h3⟩ | ⟨q,h2,h3,h4⟩
   ·exact .inl ⟨h2,by rw [Env.yI (hk.live b _ h1)]; exact h3⟩
   ·have hq:=hk.kc b q h2
    refine .inr ⟨q,by rw [Env.yI (hk.live b _ h1)]; exact h2,h3,fun x hx cs e own f k jD=>?_⟩
    have hmq:B1.members q=B.members q:=vT.pT q hq (fun c e=>by
     obtain ⟨f',_,_,h5,h6,h7⟩:=L6 c q e
     have:=hk.jM b f' q _ _ _ _ h1 h7 h2 h6
     subst this
     exact JK h5) fun k=>by
      obtain ⟨c,v,y,L,N,cs,e,own,m,h5,h6,h7⟩:=hG.af k
      exact (hk.ar.rZ c v y L N cs e own q m h5 h6 h7).2.1 b h2
    rw [hmq] at hx
    obtain ⟨ma,q1,q2⟩:=vT.rows x (hk.mem q x hx) _ _ _ _ jD
    obtain ⟨q3,q4⟩:=h4 x hx ma e own f k q1
    exact ⟨q3,by rw [← q2]; exact q4⟩
  ·simp at e
  ·subst e
   have:=hs.bb _ _ _ (QH Mr h2)
   rw [Env.yH]
   exact this
 ·intro b x hb
  have hx:=hk.gY b x hb
  show E1.z x=none
  cases hz:E1.z x with
  | none=>rfl
  | some r=>
   rcases vT.sS x r hz with e | e | e
   ·have e:E.z x=some r:=e
    rw [hk.apart b x hb] at e; simp at e
   ·exact absurd hb ((hk.ar.z x (hG.ar e)).2 b)
   ·omega
 ·intro b c q tb sb tc sc hb hc e1 e2
  have key:∀ {b tb sb},(S.back P g.bs g.fs vs rs A).get b=some (.bb tb sb)→(b < A.next∧b ∉ jJ g.fs∧A.get b=some (.bb tb sb))∨∃ i,b=A.next+i∧(S.mem P vs rs).get (S.nr+i)=some (.bb tb sb):=by
   intro b tb sb hb
   rcases hinv b _ hb with ⟨_,_,_,e,_⟩ | ⟨_,JK,h1⟩ | ⟨_,e⟩ | ⟨i,q,rfl,h2,e⟩
   ·simp at e
   ·exact .inl ⟨hk.live b _ h1,JK,h1⟩
   ·simp at e
   ·subst e
    exact .inr ⟨i,rfl,QH Mr h2⟩
  have C3:∀ {b c tb sb i},b < A.next→b ∉ jJ g.fs→A.get b=some (.bb tb sb)→c=A.next+i→E.φ b=some q→E1.φ (S.nr+i)=some q→False:=by
   intro b c tb sb i _ h2 h3 _ h5 h6
   rcases vT.sT _ _ h6 with ⟨c',e⟩ | e
   ·obtain ⟨f',_,_,k1,k2,k3⟩:=L6 c' q e
    have:=hk.jM b f' q _ _ _ _ h3 k3 h5 k2
    subst this
    exact h2 k1
   ·have:=hk.kc b q h5; omega
  rcases key hb with ⟨h1,h2,h3⟩ | ⟨i,rfl,h2⟩ <;> rcases key hc with ⟨k1,k2,k3⟩ | ⟨j,rfl,k2⟩
  ·rw [Env.yI h1] at e1; rw [Env.yI k1] at e2
   exact hk.jM b c q _ _ _ _ h3 k3 e1 e2
  ·rw [Env.yI h1] at e1; rw [Env.yH] at e2
   exact (C3 h1 h2 h3 rfl e1 e2).elim
  ·rw [Env.yH] at e1; rw [Env.yI k1] at e2
   exact (C3 k1 k2 k3 rfl e2 e1).elim
  ·rw [Env.yH] at e1 e2
   have:=hs.jM _ _ q _ _ _ _ h2 k2 e1 e2
   omega
 ·intro b x hb; have h1:=hk.lD b x hb; rw [aQ.back,gJ,jd]; omega
 ·intro b q hb
  rw [aQ.back,gJ,jd]
  by_cases h1:b < A.next
  ·omega
  ·obtain ⟨i,rfl⟩:=Nat.exists_eq_add_of_le (Nat.le_of_not_lt h1)
   rw [Env.yH] at hb
   have:=hs.mW _ _ hb
   rw [aQ.mem,gJ,nS Mr] at this
   omega
 ·intro b o hb
  rw [aQ.back,gJ,jd]
  rcases hinv b _ hb with ⟨Zf,_⟩ | ⟨_,_,h1⟩ | ⟨h1,_⟩ | ⟨i,q,rfl,h2,_⟩
  ·obtain ⟨k,vO⟩:=zu b Zf
   obtain ⟨p,r,x,b8,_,_,h3,_⟩:=S9 k b vO
   have:=hk.lD b x h3; omega
  ·have:=hk.live b _ h1; omega
  ·obtain ⟨_,_,⟨_,_,h3⟩ | ⟨_,h3⟩⟩:=BN b h1
   ·have:=hk.live b _ h3; omega
   ·have:=hk.live b _ h3; omega
  ·have:=(List.getElem?_eq_some_iff.1 h2).1; omega
 ·intro b x hb; have:=hk.gY b x hb; have:=vT.fL.next; omega
 ·intro b q hb
  by_cases h1:b < A.next
  ·rw [Env.yI h1] at hb
   have:=hk.kc b q hb; have:=vT.fL.next; omega
  ·obtain ⟨i,rfl⟩:=Nat.exists_eq_add_of_le (Nat.le_of_not_lt h1)
   rw [Env.yH] at hb
   exact hs.kc _ _ hb
 ·exact qG
 ·rw [aQ.back,gJ,jd]; omega
 ·intro x hx dT hna
  exact H5 x hx (fun k b _ e=>dT b e) fun q=>hna (hG.at q)
 ·intro b r e
  exact (vT.sS b r e).imp id (fun e=>e.imp hG.ar id)
 ·intro b q hb
  by_cases h1:b < A.next
  ·rw [Env.yI h1] at hb; exact .inl ⟨b,hb⟩
  ·obtain ⟨i,rfl⟩:=Nat.exists_eq_add_of_le (Nat.le_of_not_lt h1)
   rw [Env.yH] at hb
   rcases vT.sT _ _ hb with ⟨c,e⟩ | e
   ·obtain ⟨f',_,_,_,k2,_⟩:=L6 c q e
    exact .inl ⟨f',k2⟩
   ·exact .inr e
 ·intro q hq dT hna
  refine vT.pT q hq (fun c e=>?_) fun k=>hna (hG.af k)
  obtain ⟨f',_,_,_,k2,_⟩:=L6 c q e
  exact dT f' k2
 ·exact adf
 ·exact ahD
 ·rintro y (q | ⟨q,h1,h2⟩)
  ·exact (adf y q).imp .inl id
  ·rcases vT.uk q y h2 with h2 | h2
   ·rcases ahD q h1 with h1 | h1
    ·exact .inl (.inr ⟨q,h1,h2⟩)
    ·rw [hk.fresh q h1] at h2; simp at h2
   ·exact .inr h2
theorem restore {S:aQ} {t:bA} {A:az} {B B1:St} {g:GR} {ρ mC:aW} {base N:Nat} {w w1:World} {a1:Act} {vs:List KV} {rs:List (List KV)} {E1:Env} (hG:dM P S t A g) (hk:fI P E A B)
  (ht:kS P E1 mC (S.tm S.nr S.ids vs) N a1) (hs:fI P E1 (S.mem P vs rs) B1) (vT:Co base (E.sub A g.bs g.fs S.nr) (S.mem P g.vs g.rs) B ρ w E1 (S.mem P vs rs) B1 mC w1) (DI:∀ k,k < S.rows.length→E1.κ k=(E.sub A g.bs g.fs S.nr).κ k)
  (hv:iv S.dW vs=true) (Mr:rs.length=S.rows.length) (hrg:∀ (k:Nat) p r,S.rows[k]? = some p→rs[k]? = some r→dL p.2.1 r=true) :
  ∃ E',kS P E' mC (S.tm A.next g.bs vs) N a1∧Ev P base E A B ρ w E' (S.back P g.bs g.fs vs rs A) B1 mC w1:=⟨_,ab0 hG hk ht hs vT DI hv Mr hrg⟩
end Go.K
end
section
namespace Go.K
open Go Go.aG
variable {P:Program} {E:Env}
structure zF (P:Program) (S:aQ) (vs:List KV) (rs:List (List KV)):Prop where
 v:iv S.dW vs=true
 rF:rs.length=S.rows.length
 vK:∀ (k:Nat) p r,S.rows[k]? = some p→rs[k]? = some r→dL p.2.1 r=true
 vn:∃ t A,vs=o9 P t A S.dW
 rn:∀ (k:Nat) p,S.rows[k]? = some p→∃ A ma,rs[k]? = some (fv P A p.2.1 ma)∧ma.length=p.2.1.length
theorem dM.IZ {S:aQ} {t:bA} {A:az} {g:GR} (h:dM P S t A g):zF P S g.vs g.rs:=
 ⟨h.dW,h.rF,h.vK,⟨t,A,h.vs⟩,fun _ _ hp=>by obtain ⟨_,cs,_,_,h1,_,h2,_⟩:=h.row hp; exact ⟨A,cs,h2,h1⟩⟩
section
variable {cfg:eN} {L n:Nat} {f:FuncId} {S:aQ} {root body:Code} {p N:Nat}
theorem agA (hP:P.funcs.toList.all mM=true) (hm:P.follows .mixedOrders=true) (iu:qN P cfg.pc) (lY:uu P cfg) {fn:Func} (hf:P.funcs[f]? = some fn) (hb:fn.body=some root) (hs:Sub root p (.loop body)) (hc:codeOk N body=true)
  {vs cT:List KV} {rs ml:List (List KV)} {e:aw} (hr:jf P cfg L n f p body S vs rs=some (e,cT,ml)) {B:St} {ρ:aW} {base:Nat} {a:Act} {w:World} {Q:Exit→Act→World→Prop} (ch:zF P S vs rs)
  (ht:kS P E ρ (S.tm S.nr S.ids vs) N a) (hj:KJ P E (S.mem P vs rs) B ρ base w)
  (hq:∀ E' B' aY a' w',kS P E' aY (S.tm S.nr S.ids cT) N a'→a'.defers=a.defers→KJ P E' (S.mem P cT ml) B' aY base w'→Co base E (S.mem P vs rs) B ρ w E' (S.mem P cT ml) B' aY w'→(∀ k,k < S.rows.length→E'.κ k=E.κ k)→zF P S cT ml→Q e.out a' w'):body.wp P Q a w:=by
 have tT:=s9 (R:=aw×List KV×List (List KV)) hP hm iu lY L n
 refine mj iu tT hm (lY.2 f fn root hf hb) body (2 * p) hs.loop hc _ _ _ _ E B ρ base a w Q hr ht hj fun e' t' E1 A1 B1 mC a1 w1 h1 h2 h3 h4=>?_
 cases hi:uw (S.fJ P t' A1).bs S.ids with
 | false=>
  simp only [hi,cond_false] at h1
  exact absurd h1 (by simp)
 | true=>
  simp only [hi,cond_true] at h1
  cases ho:(S.fJ P t' A1).ok with
  | false=>simp only [ho] at h1; exact absurd h1 (by simp)
  | true=>
   simp only [ho,Option.some.injEq,Prod.mk.injEq] at h1
   obtain ⟨rfl,rfl,rfl⟩:=h1
   have hG:=Gd ho
   have ajN:=KG hi
   refine hq _ B1 mC a1 w1 (hG.tkr h2) h3 ⟨hG.jv h4.jv,h4.fL.jv⟩ (h4.co hG) (fun k hk=>?_) hG.IZ
   have hp:=List.getElem?_eq_getElem hk
   have hr':=List.getElem?_eq_getElem (show k < rs.length by rw [ch.rF]; exact hk)
   obtain ⟨x,_,hx,_⟩:=hj.k.row k _ _ (mem_row ch.rF hp hr')
   have e1:(E1.sub A1 (S.fJ P t' A1).bs (S.fJ P t' A1).fs S.nr).κ k=E1.κ k:=by
    simp only [Env.sub]
    rw [ajN,Gc S k hk,Option.bind_some]
   rw [e1,hx]
   exact h4.le.κ k x hx
theorem ab1 (hP:P.funcs.toList.all mM=true) (hm:P.follows .mixedOrders=true) (iu:qN P cfg.pc) (lY:uu P cfg) {fn:Func} (hf:P.funcs[f]? = some fn) (hb:fn.body=some root) (hs:Sub root p (.loop body)) (hc:codeOk N body=true)
  {e:aw} {cT:List KV} {ml:List (List KV)} : ∀ (m:Nat) {vs:List KV} {rs:List (List KV)},xu (jf P cfg L n f p body S) m vs rs=some (e,cT,ml)→∀ {E:Env} {B:St} {ρ:aW} {base:Nat} {a:Act} {w:World} {Q:Exit→Act→World→Prop},zF P S vs rs→
  kS P E ρ (S.tm S.nr S.ids vs) N a→KJ P E (S.mem P vs rs) B ρ base w→
  (∀ E' B' aY a' w',kS P E' aY (S.tm S.nr S.ids cT) N a'→a'.defers=a.defers→KJ P E' (S.mem P cT ml) B' aY base w'→Co base E (S.mem P vs rs) B ρ w E' (S.mem P cT ml) B' aY w'→(∀ k,k < S.rows.length→E'.κ k=E.κ k)→zF P S cT ml→Q e.out a' w')→Code.rounds P body Q m a w
 | 0,vs,rs,h,E,B,ρ,base,a,w,Q,ch,ht,hj,hq=>by simp [xu] at h
 | m+1,vs,rs,h,E,B,ρ,base,a,w,Q,ch,ht,hj,hq=>by
  unfold xu at h
  split at h
  ·rename_i e1 vs1 rs1 hr
   rw [rounds_succ]
   refine agA hP hm iu lY hf hb hs hc hr ch ht hj fun E' B' aY a' w' h1 h2 h3 h4 h5 h6=>?_
   have fin:x1 e1=false→some (e1,vs1,rs1)=some (e,cT,ml)→Q e1.out a' w':=by
    intro _ h
    simp only [Option.some.injEq,Prod.mk.injEq] at h
    obtain ⟨rfl,rfl,rfl⟩:=h
    exact hq E' B' aY a' w' h1 h2 h3 h4 h5 h6
   cases e1 with
   | normal=>
    have h:xu (jf P cfg L n f p body S) m vs1 rs1=some (e,cT,ml):=h
    exact ab1 hP hm iu lY hf hb hs hc m h h6 h1 h3 fun F9 HW ue YT FE q1 q2 q3 q4 q5 q6=>hq F9 HW ue YT FE q1 (q2.trans h2) q3 (h4.trans q4) (fun k hk=>(q5 k hk).trans (h5 k hk)) q6
   | exit id=>exact fin rfl h
   | goto l=>exact fin rfl h
   | ret=>exact fin rfl h
  ·simp at h
theorem TE {R:Type} {bs:List Nat} {fs:List (Option Nat)} {A:az} {k:KE R} {r:R} : ∀ (x:rE),(x.tell P S bs fs A).run k=some r→∃ e cT ml,x.ev=some (e,cT,ml)∧k e (S.tm A.next bs cT) (S.back P bs fs cT ml A)=some r
 | .no,h=>absurd h (by simp [rE.tell,DV.run])
 | .out e vs rs,h=>⟨e,vs,rs,rfl,h⟩
 | .br c x y,h=>by
  have h:Bool.rec (motive:=fun _=>Option R) ((y.tell P S bs fs A).run k) ((x.tell P S bs fs A).run k) c=some r:=h
  cases c with
  | true=>exact TE x h
  | false=>exact TE y h
theorem agB (hP:P.funcs.toList.all mM=true) (hm:P.follows .mixedOrders=true) (iu:qN P cfg.pc) (lY:uu P cfg) {fn:Func} (hf:P.funcs[f]? = some fn) (hb:fn.body=some root) (hs:Sub root p (.loop body)) (hc:codeOk N body=true) {F:LFn}
  (hF:∀ vs rs e cT ml,zF P S vs rs→(F vs rs).ev=some (e,cT,ml)→∃ m,xu (jf P cfg L n f p body S) m vs rs=some (e,cT,ml)):Tz P N body (alu P S F):=by
 intro R k r t A E B ρ base a w Q h ht hj hq
 have h:Bool.rec (motive:=fun _=>Option R) none (((F (S.fJ P t A).vs (S.fJ P t A).rs).tell P S (S.fJ P t A).bs (S.fJ P t A).fs A).run k) (S.fJ P t A).ok=some r:=h
 cases ho:(S.fJ P t A).ok with
 | false=>rw [ho] at h; exact absurd h (by simp)
 | true=>
  rw [ho] at h
  have hG:=Gd ho
  obtain ⟨e,cT,ml,h9,sn⟩:=TE _ h
  obtain ⟨m,hm'⟩:=hF _ _ e cT ml hG.IZ h9
  refine wp_loop_rounds m (ab1 hP hm iu lY hf hb hs hc m hm' hG.IZ (hG.tkr ht) ⟨hG.jv hj.k,hj.s⟩ fun E' B' aY a' w' q1 q2 q3 q4 q5 q6=>?_)
  obtain ⟨E2,r1,r2⟩:=restore hG hj.k q1 q3.k q4 q5 q6.v q6.rF q6.vK
  exact hq e _ E2 _ B' aY a' w' sn r1 q2 r2
end
end Go.K
end
section
namespace Go.K
open Go Go.aG
variable {P:Program} {E:Env}
def Env.re (E:Env) (f n:Nat):Env:={ κ:=E.κ,z:=E.z,φ:=E.φ,α:=fun b=>if b=f then E.α n else E.α b }
theorem Env.ajO {f n:Nat} (h:∀ p,E.α f=some p→E.α n=some p):E.le (E.re f n):=⟨fun b p e=>by
 simp only [Env.re]
 split
 ·rename_i e1; subst e1; exact h p e
 ·exact e,fun _ _ e=>e,fun _ _ e=>e,fun _ _ e=>e⟩
theorem Env.agC {f n:Nat} : (E.re f n).α f=E.α n:=by simp [Env.re]
theorem Env.Af {f n b:Nat} (h:b≠f):(E.re f n).α b=E.α b:=by simp [Env.re,h]
theorem fI.swap {A:az} {B:St} {f n:Nat} {v:KV} (h:fI P E A B) (hf:A.get f=some .dead) (hn:A.get n=some (.arr v)) (DI:E.κ f=none) (qf:∀ p,E.α f=some p→E.α n=some p) :
  fI P (E.re f n) ((A.put f (.arr v)).put n .dead) B∧(∀ x,AR ((A.put f (.arr v)).put n .dead) (E.re f n) x→AR A E x)∧∀ g,AF ((A.put f (.arr v)).put n .dead) (E.re f n) B g→AF A E B g:=by
 have dT:f≠n:=fun e=>by rw [e,hn] at hf; simp at hf
 have hle:=Env.ajO qf
 have jX:∀ b o,((A.put f (.arr v)).put n .dead).get b=some o→(b=n∧o = .dead)∨(b=f∧o = .arr v)∨(b≠f∧b≠n∧A.get b=some o):=fun b o hb=>by
  rw [az.ca] at hb
  split at hb
  ·rename_i e; simp at hb; exact .inl ⟨e,hb.symm⟩
  ·rename_i e
   rw [az.ca] at hb
   split at hb
   ·rename_i e2; simp at hb; exact .inr (.inl ⟨e2,hb.symm⟩)
   ·rename_i e2; exact .inr (.inr ⟨e2,e,hb⟩)
 have hA:∀ b u,((A.put f (.arr v)).put n .dead).get b=some (.arr u)→∃ c,A.get c=some (.arr u)∧(E.re f n).α b=E.α c∧((b=f∧c=n)∨(b≠f∧b≠n∧c=b)):=fun b u hb=>by
  rcases jX b _ hb with ⟨_,e⟩ | ⟨e,e2⟩ | ⟨e,e2,e3⟩
  ·simp at e
  ·simp at e2; subst e2 e; exact ⟨n,hn,Env.agC,.inl ⟨rfl,rfl⟩⟩
  ·exact ⟨b,e3,Env.Af e,.inr ⟨e,e2,rfl⟩⟩
 have Y0:∀ {b c d:Nat},((b=f∧d=n)∨(b≠f∧b≠n∧d=b))→((c=f∧d=n)∨(c≠f∧c≠n∧d=c))→b=c:=fun h1 h2=>by
  rcases h1 with ⟨a1,a2⟩ | ⟨a1,a2,a3⟩ <;> rcases h2 with ⟨b1,b2⟩ | ⟨b1,b2,b3⟩ <;> omega
 have qG:∀ x,AR ((A.put f (.arr v)).put n .dead) (E.re f n) x→AR A E x:=fun x ⟨b,u,L,N,h1,h2⟩=>by
  obtain ⟨c,h3,h4,_⟩:=hA b u h1
  exact ⟨c,u,L,N,h3,by rw [← h4]; exact h2⟩
 have ER:∀ g,AF ((A.put f (.arr v)).put n .dead) (E.re f n) B g→AF A E B g:=fun g ⟨b,u,x,L,N,cs,e,own,k,h1,h2,h3⟩=>by
  obtain ⟨c,h4,h5,_⟩:=hA b u h1
  exact ⟨c,u,x,L,N,cs,e,own,k,h4,by rw [← h5]; exact h2,h3⟩
 have hold:∀ b o,((A.put f (.arr v)).put n .dead).get b=some o→b < A.next:=fun b o hb=>by
  rcases jX b _ hb with ⟨e,_⟩ | ⟨e,_⟩ | ⟨_,_,e⟩
  ·rw [e]; exact h.live n _ hn
  ·rw [e]; exact h.live f _ hf
  ·exact h.live b o e
 refine ⟨⟨fun b cs bU hb=>?_,fun b top sz hb=>?_,h.z,h.apart,h.inj,fun b c g tb sb tc sc hb hc=>?_,h.lD,h.mW,hold,h.gY,h.m9,h.kc,h.fresh,h.mem,?_⟩,qG,ER⟩
 ·rcases jX b _ hb with ⟨_,e⟩ | ⟨_,e⟩ | ⟨_,_,e⟩
  ·simp at e
  ·simp at e
  ·obtain ⟨x,b8,h1,h2,h3⟩:=h.row b cs bU e
   exact ⟨x,b8,h1,h2,h3.mono hle⟩
 ·rcases jX b _ hb with ⟨_,e⟩ | ⟨_,e⟩ | ⟨_,_,e⟩
  ·simp at e
  ·simp at e
  ·exact h.bb b top sz e
 ·rcases jX b _ hb with ⟨_,e⟩ | ⟨_,e⟩ | ⟨_,_,hb⟩
  ·simp at e
  ·simp at e
  rcases jX c _ hc with ⟨_,e⟩ | ⟨_,e⟩ | ⟨_,_,hc⟩
  ·simp at e
  ·simp at e
  exact h.jM b c g tb sb tc sc hb hc
 ·refine ⟨fun b u hb=>?_,fun b u hb=>?_,fun x q=>h.ar.z x (qG x q),fun b c u u' x L N L' N' h1 h2 h3 h4=>?_,fun b c u u' x y L N L' N' cs e own g k b8 e' o7 k' h1 h2 h3 h4 h5 h6=>?_,fun b x e=>?_,fun b p e=>?_,fun b x L N e=>?_,fun b u x L N cs e own g k h1 h2 h3=>?_,fun b u hb=>?_⟩
  ·obtain ⟨c,h1,h2,_⟩:=hA b u hb
   obtain ⟨T,N,es,acc,q1,q2,q3,q4⟩:=h.ar.arr c u h1
   refine ⟨T,N,es,acc,q1,q2,q3,?_⟩
   rw [h2]
   exact q4.imp id fun ⟨x,cs,bQ,bq,r1,r2,r3,r4⟩=>⟨x,cs,bQ,bq,r1,r2,r3.mono hle,r4⟩
  ·rcases jX b _ hb with ⟨_,e⟩ | ⟨_,e⟩ | ⟨e1,_,e⟩
   ·simp at e
   ·simp at e
   ·exact (h.ar.jK b u e).mono hle (Env.Af e1)
  ·obtain ⟨b',k1,k2,k3⟩:=hA b u h1
   obtain ⟨c',l1,l2,l3⟩:=hA c u' h2
   rw [k2] at h3; rw [l2] at h4
   have:=h.ar.inj b' c' u u' x L N L' N' k1 l1 h3 h4
   subst this
   exact Y0 k3 l3
  ·obtain ⟨b',k1,k2,k3⟩:=hA b u h1
   obtain ⟨c',l1,l2,l3⟩:=hA c u' h2
   rw [k2] at h3; rw [l2] at h4
   have:=h.ar.tq b' c' u u' x y L N L' N' cs e own g k b8 e' o7 k' k1 l1 h3 h4 h5 h6
   subst this
   exact Y0 k3 l3
  ·have hb:b≠f:=fun e2=>by rw [e2] at e; rw [show (E.re f n).κ f=E.κ f from rfl,DI] at e; simp at e
   rw [Env.Af hb]
   exact h.ar.Yp b x e
  ·by_cases hb:b=f
   ·rw [hb]; exact h.live f _ hf
   ·rw [Env.Af hb] at e; exact h.ar.lD b p e
  ·by_cases hb:b=f
   ·rw [hb,Env.agC] at e; exact h.ar.gY n x L N e
   ·rw [Env.Af hb] at e; exact h.ar.gY b x L N e
  ·obtain ⟨c,k1,k2,_⟩:=hA b u h1
   rw [k2] at h2
   obtain ⟨q1,q2,q3⟩:=h.ar.rZ c u x L N cs e own g k k1 h2 h3
   exact ⟨q1,q2,fun y hy hy2=>⟨(q3 y hy hy2).1,fun q=>(q3 y hy hy2).2.1 (qG y q),(q3 y hy hy2).2.2⟩⟩
  ·refine ⟨hold b _ hb,?_⟩
   rcases jX b _ hb with ⟨_,e⟩ | ⟨e,_⟩ | ⟨_,_,e⟩
   ·simp at e
   ·rw [e]; exact DI
   ·exact (h.ar.nk b u e).2
structure Sw (E:Env) (A:az) (B:St) (E' : Env) (A' : az):Prop where
 le:E.le E'
 κ:E'.κ=E.κ
 z:E'.z=E.z
 φ:E'.φ=E.φ
 next:A'.next=A.next
 ar:∀ x,AR A' E' x→AR A E x
 af:∀ g,AF A' E' B g→AF A E B g
theorem Sw.refl {A:az} {B:St} : Sw E A B E A:=⟨Env.le_refl _,rfl,rfl,rfl,rfl,fun _ h=>h,fun _ h=>h⟩
theorem Sw.trans {E1 E2 E3:Env} {A1 A2 A3:az} {B:St} (h:Sw E1 A1 B E2 A2) (k:Sw E2 A2 B E3 A3):Sw E1 A1 B E3 A3:=
 ⟨Env.le_trans h.le k.le,k.κ.trans h.κ,k.z.trans h.z,k.φ.trans h.φ,k.next.trans h.next,fun x q=>h.ar x (k.ar x q),fun g q=>h.af g (k.af g q)⟩
theorem Ev.sw {base:Nat} {E1 E2 E3:Env} {A1 A2 A3:az} {B1 B2:St} {mC um:aW} {w1 w2:World} (h:Ev P base E1 A1 B1 mC w1 E2 A2 B2 um w2) (hk:fI P E3 A3 B2) (k:Sw E2 A2 B2 E3 A3):Ev P base E1 A1 B1 mC w1 E3 A3 B2 um w2 where
 jv:=hk
 fL:=h.fL
 le:=Env.le_trans h.le k.le
 next:=by rw [k.next]; exact h.next
 mb:=h.mb
 new b x e:=h.new b x (by rw [← k.κ]; exact e)
 sS b r e:=h.sS b r (by rw [← k.z]; exact e)
 sT b g e:=h.sT b g (by rw [← k.φ]; exact e)
 pT:=h.pT
 mK x q:=h.mK x (k.ar x q)
 mX g q:=h.mX g (k.af g q)
 uk:=h.uk
 nR y q:=h.nR y (q.imp (k.ar y) fun ⟨g,q1,q2⟩=>⟨g,k.af g q1,q2⟩)
 rows:=h.rows
noncomputable section
def Cq:List (Option Nat)→Nat→Bool
 | [],_=>true
 | some f::fs,j=>Nat.beq f j&&Cq fs (Nat.succ j)
 | none::_,_=>false
theorem VL:∀ {fs:List (Option Nat)} {j i:Nat} {x:Option Nat},Cq fs j=true→fs[i]? = some x→x=some (j+i)
 | [],_,_,_,_,e=>by simp at e
 | none::_,_,_,_,h,_=>by simp [Cq] at h
 | some f::fs,j,0,x,h,e=>by
  simp only [Cq,Bool.and_eq_true] at h
  simp at e
  rw [← e,Nat.eq_of_beq_eq_true h.1]
  rfl
 | some f::fs,j,i+1,x,h,e=>by
  simp only [Cq,Bool.and_eq_true] at h
  have:=VL (i:=i) (x:=x) h.2 (by simpa using e)
  rw [this]
  congr 1
  omega
def ajP (A:az) (f j:Nat) (o:jx):az:=
 match o with
 | .arr v=>(A.put f (.arr v)).put j .dead
 | _=>A
def Cr (A:az):List (Option Nat)→Nat→List jx→az
 | some f::fs,j,o::os=>Cr (ajP A f j o) fs (Nat.succ j) os
 | none::fs,j,_::os=>Cr A fs (Nat.succ j) os
 | _,_,_=>A
structure ab2 (E:Env) (A:az) (fs:List (Option Nat)) (j:Nat) (os:List jx):Prop where
 one:∀ (i:Nat) f v,fs[i]? = some (some f)→os[i]? = some (.arr v)→A.get f=some .dead∧E.κ f=none∧A.get (j+i)=some (.arr v)∧∀ p,E.α f=some p→E.α (j+i)=some p
 lt:∀ (i f:Nat),fs[i]? = some (some f)→f < j
 nodup:∀ (i k f:Nat),fs[i]? = some (some f)→fs[k]? = some (some f)→i=k
theorem ab2.tail {E1:Env} {A A1:az} {x:Option Nat} {o:jx} {fs:List (Option Nat)} {os:List jx} {j:Nat} (h:ab2 E A (x::fs) j (o::os)) (qf:∀ b,x≠some b→E1.α b=E.α b) (DI:E1.κ=E.κ) (hg:∀ b,x≠some b→b≠j→A1.get b=A.get b):ab2 E1 A1 fs (Nat.succ j) os where
 one i f v e1 e2:=by
  obtain ⟨h1,h3,h4,h5⟩:=h.one (i+1) f v (by simpa using e1) (by simpa using e2)
  have bX:=h.lt (i+1) f (by simpa using e1)
  rw [show j+(i+1)=Nat.succ j+i by omega] at h4 h5
  have hf:x≠some f:=fun e=>by have:=h.nodup (i+1) 0 f (by simpa using e1) (by simp [e]); omega
  have hn:x≠some (Nat.succ j+i):=fun e=>by have:=h.lt 0 (Nat.succ j+i) (by simp [e]); omega
  exact ⟨by rw [hg f hf (by omega)]; exact h1,by rw [DI]; exact h3,by rw [hg _ hn (by omega)]; exact h4,fun p e=>by rw [qf f hf] at e; rw [qf _ hn]; exact h5 p e⟩
 lt i f e:=by have:=h.lt (i+1) f (by simpa using e); omega
 nodup i k f e1 e2:=by have:=h.nodup (i+1) (k+1) f (by simpa using e1) (by simpa using e2); omega
theorem TF {B:St} : ∀ {fs:List (Option Nat)} {os:List jx} {j:Nat} {E:Env} {A:az},fI P E A B→ab2 E A fs j os→∃ E',fI P E' (Cr A fs j os) B∧Sw E A B E' (Cr A fs j os)∧
  (∀ (i:Nat) f v,fs[i]? = some (some f)→os[i]? = some (.arr v)→E'.α f=E.α (j+i))∧(∀ b,(∀ i:Nat,fs[i]?≠some (some b))→E'.α b=E.α b)
 | [],os,j,E,A,h,_=>⟨E,h,.refl,fun i f v e=>by simp at e,fun _ _=>rfl⟩
 | x::fs,[],j,E,A,h,_=>⟨E,by cases x <;> exact h,by cases x <;> exact .refl,fun i f v _ e=>by simp at e,fun _ _=>rfl⟩
 | none::fs,o::os,j,E,A,h,ho=>by
  obtain ⟨E',h1,h2,h3,h4⟩:=TF h (ho.tail (fun _ _=>rfl) rfl fun _ _ _=>rfl)
  refine ⟨E',h1,h2,fun i f v e1 e2=>?_,fun b hb=>h4 b fun i=>by have:=hb (i+1); simpa using this⟩
  cases i with
  | zero=>simp at e1
  | succ i=>
   rw [h3 i f v (by simpa using e1) (by simpa using e2)]
   congr 1
   omega
 | some f0::fs,o::os,j,E,A,h,ho=>by
  have amR:∀ i:Nat,fs[i]?≠some (some f0):=fun i e=>by have:=ho.nodup (i+1) 0 f0 (by simpa using e) (by simp); omega
  have step:∀ {E1:Env} {A1:az},fI P E1 A1 B→Sw E A B E1 A1→ajP A f0 j o=A1→(∀ b,b≠f0→E1.α b=E.α b)→(∀ v,o = .arr v→E1.α f0=E.α j)→ab2 E1 A1 fs (Nat.succ j) os→
    ∃ E',fI P E' (Cr A (some f0::fs) j (o::os)) B∧Sw E A B E' (Cr A (some f0::fs) j (o::os))∧(∀ (i:Nat) f v,(some f0::fs)[i]? = some (some f)→(o::os)[i]? = some (.arr v)→E'.α f=E.α (j+i))∧(∀ b,(∀ i:Nat,(some f0::fs)[i]?≠some (some b))→E'.α b=E.α b):=by
   intro E1 A1 k1 k2 k3 k4 k5 k6
   obtain ⟨E',h1,h2,h3,h4⟩:=TF k1 k6
   have e0:Cr A (some f0::fs) j (o::os)=Cr A1 fs (Nat.succ j) os:=by rw [← k3]; rfl
   rw [e0]
   refine ⟨E',h1,k2.trans h2,fun i f v e1 e2=>?_,fun b hb=>?_⟩
   ·cases i with
    | zero=>
     simp at e1 e2
     subst e1
     rw [h4 f0 amR]
     exact k5 v e2
    | succ i=>
     rw [h3 i f v (by simpa using e1) (by simpa using e2),k4 _ fun e=>by have:=ho.lt 0 f0 (by simp); omega]
     congr 1
     omega
   ·rw [h4 b fun i=>by have:=hb (i+1); simpa using this]
    exact k4 b fun e=>hb 0 (by simp [e])
  cases o with
  | arr v=>
   obtain ⟨h1,h2,h3,h4⟩:=ho.one 0 f0 v (by simp) (by simp)
   obtain ⟨q1,q2,q3⟩:=h.swap (n:=j) h1 h3 h2 h4
   have mQ:∀ b,some f0≠some b→b≠j→((A.put f0 (.arr v)).put j .dead).get b=A.get b:=fun b e1 e2=>by
    rw [az.ca,if_neg e2,az.ca,if_neg fun e=>e1 (by rw [e])]
   exact step q1 ⟨Env.ajO h4,rfl,rfl,rfl,by rw [az.ri,az.ri],q2,q3⟩ rfl (fun b hb=>Env.Af hb) (fun _ _=>Env.agC) (ho.tail (fun b hb=>Env.Af fun e=>hb (by rw [e])) rfl mQ)
  | _=>exact step h .refl rfl (fun _ _=>rfl) (fun v e=>by simp at e) (ho.tail (fun _ _=>rfl) rfl fun _ _ _=>rfl)
def rnB (fs:List (Option Nat)) (nx b:Nat):Nat:=cond (Nat.ble nx b) (match abG (b - nx) fs with
 | some (some f)=>f
 | _=>b) b
def rn1 (fs:List (Option Nat)) (nx:Nat) (v:KV):KV:=
 match v with
 | .al t b o n=>.al t (rnB fs nx b) o n
 | v=>v
def ajQ (fs:List (Option Nat)) (nx:Nat):List KV→List KV
 | []=>[]
 | v::vs=>rn1 fs nx v::ajQ fs nx vs
def rnV (fs:List (Option Nat)) (nx:Nat) (v:KV):KV:=
 match v with
 | .agg cs=>.agg (ajQ fs nx cs)
 | v=>rn1 fs nx v
def ajR (fs:List (Option Nat)) (nx:Nat):List (Nat×KV)→List (Nat×KV)
 | []=>[]
 | q::qs=>(q.1,rnV fs nx q.2)::ajR fs nx qs
def ae7 (E1 E2:Env) (fs:List (Option Nat)) (nx:Nat):Prop:=E1.le E2∧∀ (i f:Nat),fs[i]? = some (some f)→∀ p,E1.α (nx+i)=some p→E2.α f=some p
theorem akZ {E1 E2:Env} {fs:List (Option Nat)} {nx b:Nat} (h:ae7 E1 E2 fs nx) {p:Nat×Nat×Nat} (e:E1.α b=some p):E2.α (rnB fs nx b)=some p:=by
 unfold rnB
 cases hb:Nat.ble nx b with
 | false=>exact h.1.α b p e
 | true=>
  simp only [cond_true]
  have hb:=Nat.le_of_ble_eq_true hb
  rw [Yu]
  split
  ·rename_i f hf
   exact h.2 _ f hf p (by rw [show nx+(b - nx)=b by omega]; exact e)
  ·exact h.1.α b p e
theorem ahE {E1 E2:Env} {fs:List (Option Nat)} {nx:Nat} (h:ae7 E1 E2 fs nx) {v:KV} {u:Value} (hv:VK P E1 v u):VK P E2 (rn1 fs nx v) u:=by
 unfold rn1
 split
 ·rename_i t b o n
  refine .M5 ?_
  rcases hv.u3 with q | ⟨x,L,N,c,q1,q2⟩
  ·exact .inl q
  ·exact .inr ⟨x,L,N,c,akZ h q1,q2⟩
 ·exact hv.mono h.1
theorem ae8 {E1 E2:Env} {fs:List (Option Nat)} {nx:Nat} (h:ae7 E1 E2 fs nx):∀ {vs:List KV} {us:List Value},bf P E1 vs us→bf P E2 (ajQ fs nx vs) us
 | [],us,hv=>by rw [hv.ck]; exact .nil
 | v::vs,us,hv=>by
  obtain ⟨u,us',rfl,h1,h2⟩:=hv.cons_inv
  exact .cons (ahE h h1) (ae8 h h2)
theorem ak0 {E1 E2:Env} {fs:List (Option Nat)} {nx:Nat} (h:ae7 E1 E2 fs nx) {v:KV} {u:Value} (hv:VK P E1 v u):VK P E2 (rnV fs nx v) u:=by
 unfold rnV
 split
 ·obtain ⟨m,rfl,h1⟩:=hv.mc
  exact .oY (ae8 h h1)
 ·exact ahE h hv
theorem VM {E1 E2:Env} {fs:List (Option Nat)} {nx:Nat} (h:ae7 E1 E2 fs nx):∀ (l:List (Nat×KV)),tv P E1 E2 l (ajR fs nx l)
 | []=>trivial
 | _::qs=>⟨rfl,fun _ hv=>ak0 h hv,VM h qs⟩
end
end Go.K
end
section
namespace Go.K
open Go Go.aG
variable {P:Program} {E:Env}
noncomputable section
def QI:List CD→Bool
 | []=>true
 | .bb _::_=>false
 | _::ds=>QI ds
def Xx:List (Tmp×VD)→Bool
 | []=>true
 | p::ps=>QI p.2.ks&&Xx ps
def Xy:List (Tmp×List CD×Nat)→Bool
 | []=>true
 | p::ps=>QI p.2.1&&Xy ps
def aQ.stays (S:aQ):Bool:=Xx S.dW&&Xy S.rows
theorem Ag:∀ {ds:List CD} {vs:List KV},QI ds=true→∀ q∈oo P ds vs,∃ v,q = .arr v
 | [],_,_,q,hq=>by simp [oo] at hq
 | d::ds,[],_,q,hq=>by cases d <;> simp [oo] at hq
 | d::ds,v::vs,h,q,hq=>by
  cases d <;> simp only [QI,oo,List.mem_cons] at h hq
  ·exact Ag h q hq
  ·exact Ag h q hq
  ·simp at h
  ·rcases hq with rfl | hq
   ·exact ⟨_,rfl⟩
   ·exact Ag h q hq
  ·exact Ag h q hq
theorem Zg:∀ {ps:List (Tmp×VD)} {vs:List KV},Xx ps=true→∀ q∈vS P ps vs,∃ v,q = .arr v
 | [],_,_,q,hq=>by simp [vS] at hq
 | p::ps,[],_,q,hq=>by simp [vS] at hq
 | p::ps,v::vs,h,q,hq=>by
  simp only [Xx,Bool.and_eq_true,vS,List.mem_append] at h hq
  exact hq.elim (Ag h.1 q) (Zg h.2 q)
theorem Zh:∀ {ps:List (Tmp×List CD×Nat)} {rs:List (List KV)},Xy ps=true→∀ q∈xr P ps rs,∃ v,q = .arr v
 | [],_,_,q,hq=>by simp [xr] at hq
 | p::ps,[],_,q,hq=>by simp [xr] at hq
 | p::ps,r::rs,h,q,hq=>by
  simp only [Xy,Bool.and_eq_true,xr,List.mem_append] at h hq
  exact hq.elim (Ag h.1 q) (Zh h.2 q)
theorem ab3 {S:aQ} (h:S.stays=true) {vs:List KV} {rs:List (List KV)} {i:Nat} {q:jx} (hq:(S.lens P vs rs)[i]? = some q):∃ v,q = .arr v:=by
 simp only [aQ.stays,Bool.and_eq_true] at h
 have:=List.mem_of_getElem? hq
 simp only [aQ.lens,List.mem_append] at this
 exact this.elim (Zg h.1 q) (Zh h.2 q)
theorem L8 {S:aQ} {vs:List KV} {rs:List (List KV)} (hv:iv S.dW vs=true) (hl:rs.length=S.rows.length) (hg:∀ (k:Nat) p r,S.rows[k]? = some p→rs[k]? = some r→dL p.2.1 r=true):(S.lens P vs rs).length=m0 S.dW+(S.rows.map fun p=>qi p.2.1).sum:=by
 rw [aQ.lens,List.length_append,AL hv,EW hl hg rfl]
def aQ.iY (S:aQ) (nx:Nat) (bs:List Nat) (fs:List (Option Nat)) (vs:List KV):bA:=lK (ajR fs nx (VE nx bs S.dW vs++xZ bs S.VA))
def aQ.Zi (S:aQ) (P:Program) (bs:List Nat) (fs:List (Option Nat)) (vs:List KV) (rs:List (List KV)) (A:az):az:=Cr (S.back P bs fs vs rs A) fs A.next (S.lens P vs rs)
def ahF (S:aQ) (E E' : Env):Prop:=∀ (i:Nat) p,E.α (S.nr+i)=some p→E'.α (S.nr+i)=some p
theorem ab4 {S:aQ} {t:bA} {A:az} {B B1:St} {g:GR} {ρ mC:aW} {base N:Nat} {w w1:World} {a1:Act} {vs:List KV} {rs:List (List KV)} {E1:Env} (iX:S.stays=true) (hG:dM P S t A g) (hk:fI P E A B)
  (ht:kS P E1 mC (S.tm S.nr S.ids vs) N a1) (hs:fI P E1 (S.mem P vs rs) B1) (vT:Co base (E.sub A g.bs g.fs S.nr) (S.mem P g.vs g.rs) B ρ w E1 (S.mem P vs rs) B1 mC w1) (DI:∀ k,k < S.rows.length→E1.κ k=(E.sub A g.bs g.fs S.nr).κ k)
  (hpl:ahF S (E.sub A g.bs g.fs S.nr) E1)
  (hv:iv S.dW vs=true) (Mr:rs.length=S.rows.length) (hrg:∀ (k:Nat) p r,S.rows[k]? = some p→rs[k]? = some r→dL p.2.1 r=true) :
  ∃ E',kS P E' mC (S.iY A.next g.bs g.fs vs) N a1∧Ev P base E A B ρ w E' (S.Zi P g.bs g.fs vs rs A) B1 mC w1:=by
 obtain ⟨ht0,o8⟩:=ab0 hG hk ht hs vT DI hv Mr hrg
 have jd:(xt (nJ A g.bs S.rows (S.Dc A.next g.bs rs)) g.fs).next=A.next:=by rw [D9,OL]
 have hlen:(S.lens P vs rs).length=g.fs.length:=by
  rw [L8 hv Mr hrg,hG.fs,qH,← hG.lens,L8 hG.dW hG.rF hG.vK]
 have hold:∀ (i:Nat) f,g.fs[i]? = some (some f)→∃ u,A.get f=some (.arr u):=by
  intro i f hi
  have bX:i < (S.lens P g.vs g.rs).length:=by rw [hG.lens,← qH,← hG.fs]; exact (List.getElem?_eq_some_iff.1 hi).1
  obtain ⟨fi,_,h2,h3⟩:=hG.fact (List.getElem?_eq_getElem bX)
  rw [hi] at h2; simp at h2
  obtain ⟨u0,hu0⟩:=ab3 iX (List.getElem?_eq_getElem bX)
  rcases h3 with ⟨n,sz,e,_⟩ | ⟨T,v,_,⟨h3,_⟩ | ⟨f',m,N,es,acc,h3,h4,_⟩⟩
  ·rw [hu0] at e; simp at e
  ·rw [h3] at h2; simp at h2
  ·rw [h3] at h2; simp at h2; subst h2; exact ⟨_,h4⟩
 have mR:∀ (i f:Nat),g.fs[i]? = some (some f)→∀ p,(E.up E1 S.nr A.next).α f=some p→(E.up E1 S.nr A.next).α (A.next+i)=some p:=fun i f hi p e=>by
  obtain ⟨u,hu⟩:=hold i f hi
  rw [Env.Gg (hk.live f _ hu)] at e
  rw [Env.Gf]
  exact hpl i p (by rw [Env.De,hi]; exact e)
 have hsw:ab2 (E.up E1 S.nr A.next) (S.back P g.bs g.fs vs rs A) g.fs A.next (S.lens P vs rs):=by
  refine ⟨fun i f v hi hv=>?_,fun i f hi=>?_,fun i k f h1 h2=>u6 hG.Xw i k f h1 h2⟩
  ·obtain ⟨u,hu⟩:=hold i f hi
   refine ⟨?_,(hk.ar.nk f u hu).2,?_,mR i f hi⟩
   ·rw [aQ.back,Cn (by rw [jd]; exact hk.live f _ hu),Dd,if_pos (ux.2 (List.mem_of_getElem? hi))]
   ·have:=KD (A:=xt (nJ A g.bs S.rows (S.Dc A.next g.bs rs)) g.fs) hv
    rw [jd] at this
    exact this
  ·obtain ⟨u,hu⟩:=hold i f hi
   exact hk.live f _ hu
 obtain ⟨E',q1,q2,q3,_⟩:=TF o8.jv hsw
 refine ⟨E',?_,o8.sw q1 q2⟩
 refine kS.ajG ht0 (VM ⟨q2.le,fun i f hi p e=>?_⟩ _)
 have bX:i < (S.lens P vs rs).length:=by rw [hlen]; exact (List.getElem?_eq_some_iff.1 hi).1
 obtain ⟨v,PV⟩:=ab3 iX (List.getElem?_eq_getElem bX)
 rw [q3 i f v hi (by rw [List.getElem?_eq_getElem bX,PV])]
 exact e
def aQ.ab5 (S:aQ) (P:Program) (t:bA) (A:az):Bool:=cond (uw (S.fJ P t A).bs S.ids) (cond (Cq (S.fJ P t A).fs S.nr) (S.fJ P t A).ok false) false
theorem ae9 {S:aQ} {t:bA} {A:az} (h:S.ab5 P t A=true):uw (S.fJ P t A).bs S.ids=true∧Cq (S.fJ P t A).fs S.nr=true∧(S.fJ P t A).ok=true:=by
 unfold aQ.ab5 at h
 cases h1:uw (S.fJ P t A).bs S.ids with
 | false=>rw [h1] at h; simp at h
 | true=>
  cases h2:Cq (S.fJ P t A).fs S.nr with
  | false=>rw [h1,h2] at h; simp at h
  | true=>rw [h1,h2] at h; exact ⟨rfl,rfl,h⟩
def pB (P:Program) (cfg:eN) (L n:Nat) (f:FuncId) (p:Nat) (body:Code) (S:aQ) (vs:List KV) (rs:List (List KV)):Option (aw×List KV×List (List KV)):=
 pS P cfg (DW P cfg L n) L f body (2 * p) (fun e t A=>
  Bool.rec (motive:=fun _=>Option (aw×List KV×List (List KV))) none (some (e,(S.fJ P t A).vs,(S.fJ P t A).rs)) (S.ab5 P t A)) (S.tm S.nr S.ids vs) (S.mem P vs rs)
theorem afa {S:aQ} {t:bA} {A:az} {B0:St} {E1:Env} {g:GR} {vs:List KV} {rs:List (List KV)} (hG:dM P S t A g) (hf:Cq g.fs S.nr=true) (ch:zF P S vs rs) (hs:fI P E (S.mem P vs rs) B0) (hle:E.le E1):ahF S E (E1.sub A g.bs g.fs S.nr):=fun i p e=>by
 have hd:=hs.ar.lD _ p e
 rw [aQ.mem,gJ,nS ch.rF,L8 ch.v ch.rF ch.vK] at hd
 have bX:i < g.fs.length:=by
  rw [hG.fs,qH,← hG.lens,L8 hG.dW hG.rF hG.vK]
  omega
 have h1:=List.getElem?_eq_getElem bX
 rw [Env.De,h1,VL hf h1]
 exact hle.α _ p e
section
variable {cfg:eN} {L n:Nat} {f:FuncId} {S:aQ} {root body:Code} {p N:Nat}
theorem ab6 {t' : bA} {A1:az} {B B1:St} {ρ mC:aW} {base:Nat} {w w1:World} {E1:Env} {vs:List KV} {rs:List (List KV)} (ch:zF P S vs rs) (hj:KJ P E (S.mem P vs rs) B ρ base w) (h4:Ev P base E (S.mem P vs rs) B ρ w E1 A1 B1 mC w1) (_:dM P S t' A1 (S.fJ P t' A1)) (hi:uw (S.fJ P t' A1).bs S.ids=true) :
  ∀ k,k < S.rows.length→(E1.sub A1 (S.fJ P t' A1).bs (S.fJ P t' A1).fs S.nr).κ k=E.κ k:=fun k hk=>by
 have ajN:=KG hi
 have hp:=List.getElem?_eq_getElem hk
 have hr':=List.getElem?_eq_getElem (show k < rs.length by rw [ch.rF]; exact hk)
 obtain ⟨x,_,hx,_⟩:=hj.k.row k _ _ (mem_row ch.rF hp hr')
 have e1:(E1.sub A1 (S.fJ P t' A1).bs (S.fJ P t' A1).fs S.nr).κ k=E1.κ k:=by
  simp only [Env.sub]
  rw [ajN,Gc S k hk,Option.bind_some]
 rw [e1,hx]
 exact h4.le.κ k x hx
theorem afb (hP:P.funcs.toList.all mM=true) (hm:P.follows .mixedOrders=true) (iu:qN P cfg.pc) (lY:uu P cfg) {fn:Func} (hf:P.funcs[f]? = some fn) (hb:fn.body=some root) (hs:Sub root p (.loop body)) (hc:codeOk N body=true)
  {vs cT:List KV} {rs ml:List (List KV)} {e:aw} (hr:pB P cfg L n f p body S vs rs=some (e,cT,ml)) {B:St} {ρ:aW} {base:Nat} {a:Act} {w:World} {Q:Exit→Act→World→Prop} (ch:zF P S vs rs)
  (ht:kS P E ρ (S.tm S.nr S.ids vs) N a) (hj:KJ P E (S.mem P vs rs) B ρ base w)
  (hq:∀ E' B' aY a' w',kS P E' aY (S.tm S.nr S.ids cT) N a'→a'.defers=a.defers→KJ P E' (S.mem P cT ml) B' aY base w'→Co base E (S.mem P vs rs) B ρ w E' (S.mem P cT ml) B' aY w'→(∀ k,k < S.rows.length→E'.κ k=E.κ k)→zF P S cT ml→ahF S E E'→Q e.out a' w'):body.wp P Q a w:=by
 have tT:=s9 (R:=aw×List KV×List (List KV)) hP hm iu lY L n
 refine mj iu tT hm (lY.2 f fn root hf hb) body (2 * p) hs.loop hc _ _ _ _ E B ρ base a w Q hr ht hj fun e' t' E1 A1 B1 mC a1 w1 h1 h2 h3 h4=>?_
 cases hi:S.ab5 P t' A1 with
 | false=>simp only [hi] at h1; exact absurd h1 (by simp)
 | true=>
  simp only [hi,Option.some.injEq,Prod.mk.injEq] at h1
  obtain ⟨rfl,rfl,rfl⟩:=h1
  obtain ⟨i1,i2,i3⟩:=ae9 hi
  have hG:=Gd i3
  exact hq _ B1 mC a1 w1 (hG.tkr h2) h3 ⟨hG.jv h4.jv,h4.fL.jv⟩ (h4.co hG) (ab6 ch hj h4 hG i1) hG.IZ (afa hG i2 ch hj.k h4.le)
theorem Zj (hP:P.funcs.toList.all mM=true) (hm:P.follows .mixedOrders=true) (iu:qN P cfg.pc) (lY:uu P cfg) {fn:Func} (hf:P.funcs[f]? = some fn) (hb:fn.body=some root) (hs:Sub root p (.loop body)) (hc:codeOk N body=true)
  {e:aw} {cT:List KV} {ml:List (List KV)} : ∀ (m:Nat) {vs:List KV} {rs:List (List KV)},xu (pB P cfg L n f p body S) m vs rs=some (e,cT,ml)→∀ {E:Env} {B:St} {ρ:aW} {base:Nat} {a:Act} {w:World} {Q:Exit→Act→World→Prop},zF P S vs rs→
  kS P E ρ (S.tm S.nr S.ids vs) N a→KJ P E (S.mem P vs rs) B ρ base w→
  (∀ E' B' aY a' w',kS P E' aY (S.tm S.nr S.ids cT) N a'→a'.defers=a.defers→KJ P E' (S.mem P cT ml) B' aY base w'→Co base E (S.mem P vs rs) B ρ w E' (S.mem P cT ml) B' aY w'→(∀ k,k < S.rows.length→E'.κ k=E.κ k)→zF P S cT ml→ahF S E E'→Q e.out a' w')→Code.rounds P body Q m a w
 | 0,vs,rs,h,E,B,ρ,base,a,w,Q,ch,ht,hj,hq=>by simp [xu] at h
 | m+1,vs,rs,h,E,B,ρ,base,a,w,Q,ch,ht,hj,hq=>by
  unfold xu at h
  split at h
  ·rename_i e1 vs1 rs1 hr
   rw [rounds_succ]
   refine afb hP hm iu lY hf hb hs hc hr ch ht hj fun E' B' aY a' w' h1 h2 h3 h4 h5 h6 h7=>?_
   have fin:x1 e1=false→some (e1,vs1,rs1)=some (e,cT,ml)→Q e1.out a' w':=by
    intro _ h
    simp only [Option.some.injEq,Prod.mk.injEq] at h
    obtain ⟨rfl,rfl,rfl⟩:=h
    exact hq E' B' aY a' w' h1 h2 h3 h4 h5 h6 h7
   cases e1 with
   | normal=>
    have h:xu (pB P cfg L n f p body S) m vs1 rs1=some (e,cT,ml):=h
    exact Zj hP hm iu lY hf hb hs hc m h h6 h1 h3 fun F9 HW ue YT FE q1 q2 q3 q4 q5 q6 q7=>hq F9 HW ue YT FE q1 (q2.trans h2) q3 (h4.trans q4) (fun k hk=>(q5 k hk).trans (h5 k hk)) q6 fun i p e=>q7 i p (h7 i p e)
   | exit id=>exact fin rfl h
   | goto l=>exact fin rfl h
   | ret=>exact fin rfl h
  ·simp at h
def rE.KK (P:Program) (S:aQ) (bs:List Nat) (fs:List (Option Nat)) (A:az):rE→DV
 | .no=>.no
 | .out e vs rs=>.out e (S.iY A.next bs fs vs) (S.Zi P bs fs vs rs A)
 | .br c x y=>.br c (x.KK P S bs fs A) (y.KK P S bs fs A)
def ajS (P:Program) (S:aQ) (F:LFn):bA→az→DV:=fun t A=>
 .br (cond S.stays (S.fJ P t A).ok false) ((F (S.fJ P t A).vs (S.fJ P t A).rs).KK P S (S.fJ P t A).bs (S.fJ P t A).fs A) .no
theorem OQ {R:Type} {bs:List Nat} {fs:List (Option Nat)} {A:az} {k:KE R} {r:R} : ∀ (x:rE),(x.KK P S bs fs A).run k=some r→∃ e cT ml,x.ev=some (e,cT,ml)∧k e (S.iY A.next bs fs cT) (S.Zi P bs fs cT ml A)=some r
 | .no,h=>absurd h (by simp [rE.KK,DV.run])
 | .out e vs rs,h=>⟨e,vs,rs,rfl,h⟩
 | .br c x y,h=>by
  have h:Bool.rec (motive:=fun _=>Option R) ((y.KK P S bs fs A).run k) ((x.KK P S bs fs A).run k) c=some r:=h
  cases c with
  | true=>exact OQ x h
  | false=>exact OQ y h
theorem afc (hP:P.funcs.toList.all mM=true) (hm:P.follows .mixedOrders=true) (iu:qN P cfg.pc) (lY:uu P cfg) {fn:Func} (hf:P.funcs[f]? = some fn) (hb:fn.body=some root) (hs:Sub root p (.loop body)) (hc:codeOk N body=true) {F:LFn}
  (hF:∀ vs rs e cT ml,zF P S vs rs→(F vs rs).ev=some (e,cT,ml)→∃ m,xu (pB P cfg L n f p body S) m vs rs=some (e,cT,ml)):Tz P N body (ajS P S F):=by
 intro R k r t A E B ρ base a w Q h ht hj hq
 have h:Bool.rec (motive:=fun _=>Option R) none (((F (S.fJ P t A).vs (S.fJ P t A).rs).KK P S (S.fJ P t A).bs (S.fJ P t A).fs A).run k) (cond S.stays (S.fJ P t A).ok false)=some r:=h
 cases iX:S.stays with
 | false=>rw [iX] at h; exact absurd h (by simp)
 | true=>
  rw [iX,cond_true] at h
  cases ho:(S.fJ P t A).ok with
  | false=>rw [ho] at h; exact absurd h (by simp)
  | true=>
   rw [ho] at h
   have hG:=Gd ho
   obtain ⟨e,cT,ml,h9,sn⟩:=OQ _ h
   obtain ⟨m,hm'⟩:=hF _ _ e cT ml hG.IZ h9
   refine wp_loop_rounds m (Zj hP hm iu lY hf hb hs hc m hm' hG.IZ (hG.tkr ht) ⟨hG.jv hj.k,hj.s⟩ fun E' B' aY a' w' q1 q2 q3 q4 q5 q6 q7=>?_)
   obtain ⟨E2,r1,r2⟩:=ab4 iX hG hj.k q1 q3.k q4 q5 q7 q6.v q6.rF q6.vK
   exact hq e _ E2 _ B' aY a' w' sn r1 q2 r2
end
def adg:aw→Bool
 | .normal=>true
 | .ret=>true
 | _=>false
def EX (P:Program) (cfg:eN) (L n:Nat) (g:FuncId) (S:aQ) (vs:List KV) (rs:List (List KV)):Option (aw×List KV×List (List KV)):=
 match P.funcs.toList[g]? with
 | some fn=>match fn.body with
  | some c=>cond fn.results.toList.isEmpty (pS P cfg (DW P cfg L n) L g c 1 (fun e t A=>
    Bool.rec (motive:=fun _=>Option (aw×List KV×List (List KV))) none (some (.ret,(S.fJ P t A).vs,(S.fJ P t A).rs)) (cond (adg e) (S.ab5 P t A) false)) (S.tm S.nr S.ids vs) (S.mem P vs rs)) none
  | none=>none
 | none=>none
def rE.KL (P:Program) (S:aQ) (bs:List Nat) (fs:List (Option Nat)) (A:az):rE→ti
 | .no=>.no
 | .out _ vs rs=>.out (.jE []) (S.Zi P bs fs vs rs A)
 | .br c x y=>.br c (x.KL P S bs fs A) (y.KL P S bs fs A)
def alz (P:Program) (S:aQ) (F:LFn):List KV→az→ti:=fun args A=>
 .br (cond S.stays (S.fJ P (nu args 0 .leaf) A).ok false) ((F (S.fJ P (nu args 0 .leaf) A).vs (S.fJ P (nu args 0 .leaf) A).rs).KL P S (S.fJ P (nu args 0 .leaf) A).bs (S.fJ P (nu args 0 .leaf) A).fs A) .no
theorem OS {R:Type} {S:aQ} {bs:List Nat} {fs:List (Option Nat)} {A:az} {k:KV→az→Option R} {r:R} : ∀ (x:rE),ti.run k (x.KL P S bs fs A)=some r→∃ e cT ml,x.ev=some (e,cT,ml)∧k (.jE []) (S.Zi P bs fs cT ml A)=some r
 | .no,h=>absurd h (by simp [rE.KL,ti.run])
 | .out e vs rs,h=>⟨e,vs,rs,rfl,h⟩
 | .br c x y,h=>by
  have h:Bool.rec (motive:=fun _=>Option R) (ti.run k (y.KL P S bs fs A)) (ti.run k (x.KL P S bs fs A)) c=some r:=h
  cases c with
  | true=>exact OS x h
  | false=>exact OS y h
theorem aii {ρ:aW} {args:List KV} {ke:List Value} (hv:BH P E ρ args ke) (m:Nat):kS P E ρ (nu args 0 .leaf) (max m args.length) { tmps:=ke.toArray++Array.replicate (m - ke.toArray.size) undef,defers:=[] }:=by
 obtain ⟨agv,PS,Oh⟩:=hv
 have hlen:ke.length=args.length:=by rw [Oh.length,PS.length]
 have fo:(ke.toArray++Array.replicate (m - ke.toArray.size) undef).size=max m args.length:=by
  simp [hlen]
  omega
 refine ⟨fo,fun i=>?_,fun i hi=>?_⟩
 ·rw [C9]
  simp only [Nat.zero_le,true_and,Nat.zero_add,Nat.sub_zero,Trie.LK]
  by_cases hi:i < args.length
  ·rw [if_pos hi]
   obtain ⟨u,hu⟩:∃ u,args[i]? = some u:=⟨_,List.getElem?_eq_getElem hi⟩
   obtain ⟨m',h1,h2⟩:=PS.get hu
   obtain ⟨u',h3,h4⟩:=Oh.get h1
   rw [hu]
   have:(ke.toArray++Array.replicate (m - ke.toArray.size) undef).getD i undef=u':=by
    rw [Array.getD_eq_getD_getElem?,Array.getElem?_append_left (by simpa [hlen] using hi)]
    simp [h3]
   rw [this]
   exact ⟨m',h2,h4⟩
  ·rw [if_neg hi]
   exact VC.ax
 ·rw [C9,if_neg,Trie.LK]
  simp only [Nat.zero_le,true_and,Nat.zero_add]
  have:=Nat.le_max_right m args.length
  omega
theorem agD {cfg:eN} {L n:Nat} {g:FuncId} {S:aQ} {F:LFn} (hP:P.funcs.toList.all mM=true) (hm:P.follows .mixedOrders=true) (iu:qN P cfg.pc) (lY:uu P cfg) (hy:Nat.blt g yB=true)
  (hF:∀ vs rs e cT ml,zF P S vs rs→(F vs rs).ev=some (e,cT,ml)→EX P cfg L n g S vs rs=some (e,cT,ml)) {R:Type} {args:List KV} {A:az} {k:KV→az→Option R} {r:R} (h:ti.run k (alz P S F args A)=some r):F7 P g∧
  ∀ (E:Env) (B:St) (ρ:aW) (base:Nat) (w:World) (ke:List Value),BH P E ρ args ke→KJ P E A B ρ base w→
   Calls P g ke.toArray w fun e w'=>∃ v v' E' A' B' aY,e = .returned v'∧VC P E' aY v v'∧Ev P base E A B ρ w E' A' B' aY w'∧k v A' = some r:=by
 have h:Bool.rec (motive:=fun _=>Option R) none (ti.run k ((F (S.fJ P (nu args 0 .leaf) A).vs (S.fJ P (nu args 0 .leaf) A).rs).KL P S (S.fJ P (nu args 0 .leaf) A).bs (S.fJ P (nu args 0 .leaf) A).fs A)) (cond S.stays (S.fJ P (nu args 0 .leaf) A).ok false)=some r:=h
 cases iX:S.stays with
 | false=>rw [iX] at h; exact absurd h (by simp)
 | true=>
 rw [iX,cond_true] at h
 cases ho:(S.fJ P (nu args 0 .leaf) A).ok with
 | false=>rw [ho] at h; exact absurd h (by simp)
 | true=>
 rw [ho] at h
 have hG:=Gd ho
 obtain ⟨e0,cT,ml,h9,sn⟩:=OS _ h
 have mD:=hF _ _ e0 cT ml hG.IZ h9
 unfold EX at mD
 split at mD
 ·rename_i fn hf
  split at mD
  ·rename_i c hc
   cases hre:fn.results.toList.isEmpty with
   | false=>rw [hre] at mD; exact absurd mD (by simp)
   | true=>
   rw [hre,cond_true] at mD
   have hf' : P.funcs[g]? = some fn:=by simpa using hf
   have ch:=List.all_eq_true.1 hP fn (List.mem_of_getElem? hf)
   unfold mM at ch
   rw [hc] at ch
   simp only [Bool.and_eq_true,Bool.not_eq_true'] at ch
   refine ⟨⟨hy,fn,hf',by simp [hc],ch.2⟩,fun E B ρ base w ke hv hj=>?_⟩
   refine calls_of_wp hf' hc ?_
   have ht:=aii hv fn.ntmps
   have Vr:codeOk (max fn.ntmps args.length) c=true:=mf (Nat.le_max_left _ _) c ch.1
   have tT:=s9 (R:=aw×List KV×List (List KV)) hP hm iu lY L n
   refine mj (L:=L) (f:=g) (N:=max fn.ntmps args.length) iu tT hm (lY.2 g fn c hf' hc) c 1 .root Vr _ _ _ _ (E.sub A (S.fJ P (nu args 0 .leaf) A).bs (S.fJ P (nu args 0 .leaf) A).fs S.nr) B ρ base _ w _ mD (hG.tkr ht) ⟨hG.jv hj.k,hj.s⟩ fun e t' E1 A1 B1 mC a1 w1 h1 h2 h3 h4=>?_
   cases he:adg e with
   | false=>simp only [he,cond_false] at h1; exact absurd h1 (by simp)
   | true=>
   simp only [he,cond_true] at h1
   cases hi:S.ab5 P t' A1 with
   | false=>simp only [hi] at h1; exact absurd h1 (by simp)
   | true=>
   simp only [hi,Option.some.injEq,Prod.mk.injEq] at h1
   obtain ⟨_,rfl,rfl⟩:=h1
   obtain ⟨i1,i2,i3⟩:=ae9 hi
   have hG1:=Gd i3
   have hj0:KJ P (E.sub A (S.fJ P (nu args 0 .leaf) A).bs (S.fJ P (nu args 0 .leaf) A).fs S.nr) (S.mem P (S.fJ P (nu args 0 .leaf) A).vs (S.fJ P (nu args 0 .leaf) A).rs) B ρ base w:=⟨hG.jv hj.k,hj.s⟩
   obtain ⟨E2,_,r2⟩:=ab4 iX hG hj.k (hG1.tkr h2) (hG1.jv h4.jv) (h4.co hG1) (ab6 hG.IZ hj0 h4 hG1 i1) (afa hG1 i2 hG.IZ hj0.k h4.le) hG1.IZ.v hG1.IZ.rF hG1.IZ.vK
   have ai1:fn.results.toList = []:=List.isEmpty_iff.1 hre
   have aeW:(results fn a1.tmps).run P w1 = .ok (.tuple #[]) w1:=by
    rw [Ve,Sem.run_bind,Array.mapM_eq_mapM_toList,Sem.run_map,ai1]
    rfl
   have Y5:bodyPost P fn (fun e w'=>∃ v v' E' A' B' aY,e = .returned v'∧VC P E' aY v v'∧Ev P base E A B ρ w E' A' B' aY w'∧k v A' = some r) .ret a1 w1:=
    ⟨h3,_,aeW,_,_,E2,_,B1,mC,rfl,⟨_,.Yn .nil,VR.mkTuple .nil⟩,r2,sn⟩
   cases e with
   | normal=>exact Y5
   | ret=>exact Y5
   | exit id=>simp [adg] at he
   | goto l=>simp [adg] at he
  ·simp at mD
 ·simp at mD
end
end Go.K
end
section
namespace Go.K
open Go Go.aG
variable {P:Program} {E:Env}
def adh:Code→Bool→Option Code
 | .seq a _,false=>some a
 | .seq _ b,true=>some b
 | .cond _ a _,false=>some a
 | .cond _ _ b,true=>some b
 | .block _ a,false=>some a
 | .loop a,false=>some a
 | .scope a,false=>some a
 | _,_=>none
def qk:Nat→Code→Nat→Option Code
 | 0,_,_=>none
 | n+1,root,p=>cond (Nat.ble p 1) (cond (Nat.beq p 1) (some root) none) ((qk n root (p / 2)).bind fun c=>adh c (Nat.beq (p % 2) 1))
theorem QJ:∀ {n:Nat} {root c:Code} {p:Nat},qk n root p=some c→qk (n+1) root p=some c
 | 0,_,_,_,h=>by simp [qk] at h
 | n+1,root,c,p,h=>by
  unfold qk at h ⊢
  cases hp:Nat.ble p 1 with
  | true=>rw [hp] at h; exact h
  | false=>
   rw [hp] at h
   simp only [cond_false] at h ⊢
   obtain ⟨d,h1,h2⟩:=Option.bind_eq_some_iff.1 h
   exact Option.bind_eq_some_iff.2 ⟨d,QJ h1,h2⟩
theorem OT {root c:Code} {p n:Nat} (h:qk n root p=some c):∀ k,qk (n+k) root p=some c
 | 0=>h
 | k+1=>QJ (OT h k)
theorem Sub.pos {root c:Code} {p:Nat} (h:Sub root p c):1≤p:=by induction h <;> omega
theorem Sub.at {root c:Code} {p:Nat} (h:Sub root p c):∃ n,qk n root p=some c:=by
 have left:∀ {q n:Nat} {d:Code},1≤q→qk n root q=some d→qk (n+1) root (2 * q)=adh d false:=by
  intro q n d hq hd
  unfold qk
  have:Nat.ble (2 * q) 1=false:=by
   cases hb:Nat.ble (2 * q) 1 with
   | false=>rfl
   | true=>have:=Nat.le_of_ble_eq_true hb; omega
  rw [this,cond_false,show 2 * q / 2=q by omega,hd,show 2 * q % 2=0 by omega]
  rfl
 have right:∀ {q n:Nat} {d:Code},1≤q→qk n root q=some d→qk (n+1) root (2 * q+1)=adh d true:=by
  intro q n d hq hd
  unfold qk
  have:Nat.ble (2 * q+1) 1=false:=by
   cases hb:Nat.ble (2 * q+1) 1 with
   | false=>rfl
   | true=>have:=Nat.le_of_ble_eq_true hb; omega
  rw [this,cond_false,show (2 * q+1) / 2=q by omega,hd,show (2 * q+1) % 2=1 by omega]
  rfl
 induction h with
 | root=>exact ⟨1,rfl⟩
 | alp hs ih=>obtain ⟨n,hn⟩:=ih; exact ⟨n+1,left hs.pos hn⟩
 | alq hs ih=>obtain ⟨n,hn⟩:=ih; exact ⟨n+1,right hs.pos hn⟩
 | ajw hs ih=>obtain ⟨n,hn⟩:=ih; exact ⟨n+1,left hs.pos hn⟩
 | ajx hs ih=>obtain ⟨n,hn⟩:=ih; exact ⟨n+1,right hs.pos hn⟩
 | block hs ih=>obtain ⟨n,hn⟩:=ih; exact ⟨n+1,left hs.pos hn⟩
 | loop hs ih=>obtain ⟨n,hn⟩:=ih; exact ⟨n+1,left hs.pos hn⟩
 | scope hs ih=>obtain ⟨n,hn⟩:=ih; exact ⟨n+1,left hs.pos hn⟩
theorem Sub.uniq {root c d:Code} {p n:Nat} (h:Sub root p c) (k:qk n root p=some d):c=d:=by
 obtain ⟨m,hm⟩:=h.at
 have h1:=OT hm n
 have h2:=OT k m
 rw [Nat.add_comm] at h1
 rw [h1] at h2
 simpa using h2
def eX (P:Program) (f p:Nat):Code:=
 match P.funcs.toList[f]? with
 | some fn=>match fn.body with
  | some c=>match qk 200 c p with
   | some (.loop b)=>b
   | _=>.skip
  | none=>.skip
 | none=>.skip
structure Lp where
 f:Nat
 p:Nat
 S:aQ
 F:LFn
 st:Bool
noncomputable def ahG (st:Bool) (P:Program) (cfg:eN) (L n:Nat) (f:FuncId) (p:Nat) (body:Code) (S:aQ) (vs:List KV) (rs:List (List KV)):Option (aw×List KV×List (List KV)):=
 cond st (pB P cfg L n f p body S vs rs) (jf P cfg L n f p body S vs rs)
noncomputable def Zk (P:Program):List Lp→FuncId→Nat→Option (bA→az→DV)
 | [],_,_=>none
 | l::ls,f,p=>cond (Nat.beq l.f f&&Nat.beq l.p p) (some (cond l.st (ajS P l.S l.F) (alu P l.S l.F))) (Zk P ls f p)
def Lp.Ok (P:Program) (l:Lp):Prop:=∃ cfg L n,qN P cfg.pc∧uu P cfg∧
 ∀ vs rs e cT ml,zF P l.S vs rs→(l.F vs rs).ev=some (e,cT,ml)→∃ m,xu (ahG l.st P cfg L n l.f l.p (eX P l.f l.p) l.S) m vs rs=some (e,cT,ml)
def cz (P:Program) (f p:Nat):Bool:=
 match P.funcs.toList[f]? with
 | some fn=>match fn.body with
  | some c=>match qk 200 c p with
   | some (.loop _)=>true
   | _=>false
  | none=>false
 | none=>false
theorem ahH (hP:P.funcs.toList.all mM=true) (hm:P.follows .mixedOrders=true) {pc:FuncId→Option (List KV→KR KV)} {x:aeg} : ∀ {ls:List Lp},(∀ l∈ls,Lp.Ok P l∧cz P l.f l.p=true)→∀ f fn c,P.funcs[f]? = some fn→fn.body=some c→ahw P ⟨pc,Zk P ls,x⟩ f c
 | [],_=>fun f fn c hf hb p F body h=>by simp [Zk] at h
 | l::ls,hl=>fun f fn c hf hb p F body h hs N hc=>by
  have h:Zk P (l::ls) f p=some F:=h
  unfold Zk at h
  cases hk:(Nat.beq l.f f&&Nat.beq l.p p) with
  | false=>
   rw [hk] at h
   exact ahH hP hm (pc:=pc) (x:=x) (fun l' r9=>hl l' (List.mem_cons_of_mem _ r9)) f fn c hf hb p F body h hs N hc
  | true=>
   rw [hk] at h
   simp only [cond_true,Option.some.injEq] at h
   subst h
   simp only [Bool.and_eq_true] at hk
   have e1:=Nat.eq_of_beq_eq_true hk.1
   have e2:=Nat.eq_of_beq_eq_true hk.2
   obtain ⟨⟨cfg,L,n,iu,lY,hF⟩,hth⟩:=hl l (by simp)
   rw [e1,e2] at hF hth
   have hf' : P.funcs.toList[f]? = some fn:=by simpa using hf
   have alY:eX P f p=body:=by
    unfold cz at hth
    unfold eX
    simp only [hf',hb] at hth ⊢
    split at hth
    ·rename_i b yq
     have:=hs.uniq yq
     simp at this
     exact this.symm
    ·simp at hth
   rw [alY] at hF
   cases iX:l.st with
   | true=>
    rw [iX] at hF
    exact afc hP hm iu lY hf hb hs hc hF
   | false=>
    rw [iX] at hF
    exact agB hP hm iu lY hf hb hs hc hF
theorem L9 (hP:P.funcs.toList.all mM=true) (hm:P.follows .mixedOrders=true) {pc:FuncId→Option (List KV→KR KV)} {x:aeg} (hx:abT P x.ac) {ls:List Lp} (hl:∀ l∈ls,Lp.Ok P l∧cz P l.f l.p=true):uu P ⟨pc,Zk P ls,x⟩:=
 ⟨hx,ahH hP hm hl⟩
structure Fc where
 g:Nat
 S:aQ
 F:LFn
noncomputable def ab7 (P:Program):List Fc→FuncId→Option (List KV→az→ti)
 | [],_=>none
 | c::cs,g=>cond (Nat.beq c.g g) (some (alz P c.S c.F)) (ab7 P cs g)
def Fc.Ok (P:Program) (c:Fc):Prop:=Nat.blt c.g yB=true∧∃ cfg L n,qN P cfg.pc∧uu P cfg∧
 ∀ vs rs e cT ml,zF P c.S vs rs→(c.F vs rs).ev=some (e,cT,ml)→EX P cfg L n c.g c.S vs rs=some (e,cT,ml)
theorem Ma (hP:P.funcs.toList.all mM=true) (hm:P.follows .mixedOrders=true):∀ {cs:List Fc},(∀ c∈cs,Fc.Ok P c)→abT P (ab7 P cs)
 | [],_=>fun g F h=>by simp [ab7] at h
 | c::cs,hc=>fun g F h=>by
  have h:ab7 P (c::cs) g=some F:=h
  unfold ab7 at h
  cases hk:Nat.beq c.g g with
  | false=>
   rw [hk] at h
   intro R args A k r hr
   exact Ma hP hm (fun c' hc'=>hc c' (List.mem_cons_of_mem _ hc')) g F h args A k r hr
  | true=>
   rw [hk] at h
   simp only [cond_true,Option.some.injEq] at h
   subst h
   have e1:=Nat.eq_of_beq_eq_true hk
   subst e1
   obtain ⟨hy,cfg,L,n,iu,lY,hF⟩:=hc c (by simp)
   intro R args A k r hr
   exact agD hP hm iu lY hy hF hr
end Go.K
end
