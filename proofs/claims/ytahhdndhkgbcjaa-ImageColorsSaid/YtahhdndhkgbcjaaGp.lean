/- Part of the proof of ImageColors: a machine that runs the program's code over open terms, shown to be the model's, and the plain models of its functions. No conditions. -/
import Derived.Test.YtahhdndhkgbcjaaFp
section
namespace Go.K
open Go Go.aE
variable {P:Program} {E:Env}
theorem YR:∀ {bs:List Nat},ve bs=true→∀ (i j b:Nat),bs[i]? = some b→bs[j]? = some b→i=j
 | [],_,i,j,b,hi,_=>by simp at hi
 | a::bs,h,i,j,b,hi,hj=>by
  simp only [ve,Bool.and_eq_true,List.all_eq_true,Bool.not_eq_true'] at h
  cases i with
  | zero=>
   cases j with
   | zero=>rfl
   | succ j=>
    simp at hi hj; subst hi
    have:=h.1 a (List.mem_of_getElem? hj)
    exact absurd (Nat.beq_refl a) (by rw [this]; simp)
  | succ i=>
   cases j with
   | zero=>
    simp at hi hj; subst hj
    have:=h.1 a (List.mem_of_getElem? hi)
    exact absurd (Nat.beq_refl a) (by rw [this]; simp)
   | succ j=>
    simp at hi hj
    rw [YR h.2 i j b hi hj]
theorem uD:∀ {l:List (Option Nat)} {f:Nat},f∈jG l↔some f∈l
 | [],f=>by simp [jG]
 | some g::l,f=>by simp [jG,uD (l:=l)]
 | none::l,f=>by simp [jG,uD (l:=l)]
theorem vf:∀ {l:List (Option Nat)},ve (jG l)=true→∀ (i j f:Nat),l[i]? = some (some f)→l[j]? = some (some f)→i=j
 | [],_,i,j,b,hi,_=>by simp at hi
 | none::l,h,i,j,f,hi,hj=>by
  cases i with
  | zero=>simp at hi
  | succ i=>
   cases j with
   | zero=>simp at hj
   | succ j=>
    simp at hi hj
    rw [vf (l:=l) h i j f hi hj]
 | some g::l,h,i,j,f,hi,hj=>by
  simp only [jG,ve,Bool.and_eq_true,List.all_eq_true,Bool.not_eq_true'] at h
  have key:∀ {k:Nat},l[k]? = some (some g)→False:=by
   intro k hk
   have:=h.1 g (uD.2 (List.mem_of_getElem? hk))
   exact absurd (Nat.beq_refl g) (by rw [this]; simp)
  cases i with
  | zero=>
   cases j with
   | zero=>rfl
   | succ j=>
    simp at hi hj; subst hi
    exact (key hj).elim
  | succ i=>
   cases j with
   | zero=>
    simp at hi hj; subst hj
    exact (key hi).elim
   | succ j=>
    simp at hi hj
    rw [vf (l:=l) h.2 i j f hi hj]
theorem H4:∀ {l:List FI} {i:Nat} {x:FI},l[i]? = some x→(H2 l)[i]? = some x.f
 | [],_,_,h=>by simp at h
 | y::l,0,x,h=>by simp at h; subst h; rfl
 | y::l,i+1,x,h=>by simp at h; simpa [H2] using H4 h
theorem qD:∀ {l:List FI},(H2 l).length=l.length
 | []=>rfl
 | y::l=>by simp [H2,qD]
theorem OC:∀ {l:List FI},Tk l=true→∀ x∈l,x.ok=true
 | [],_,x,h=>by simp at h
 | y::l,h,x,hx=>by
  simp only [Tk] at h
  cases hl:Tk l with
  | false=>rw [hl] at h; simp at h
  | true=>
   rw [hl,cond_true] at h
   rcases List.mem_cons.1 hx with rfl | hx
   ·exact h
   ·exact OC hl x hx
theorem gG:∀ (l:List jt) (A:ax),(rv A l).next=A.next+l.length
 | [],_=>rfl
 | p::l,A=>by rw [rv,gG l]; simp; omega
theorem Cn:∀ {l:List jt} {A:ax} {x:Nat},x < A.next→(rv A l).get x=A.get x
 | [],_,_,_=>rfl
 | p::l,A,x,h=>by rw [rv,Cn (by simp; omega),ax.du,if_neg (by omega)]
theorem Kq:∀ {l:List jt} {A:ax} {i:Nat} {p:jt},l[i]? = some p→(rv A l).get (A.next+i)=some p
 | [],_,_,_,h=>by simp at h
 | q::l,A,0,p,h=>by
  simp at h; subst h
  rw [rv,Nat.add_zero,Cn (by simp),ax.du,if_pos rfl]
 | q::l,A,i+1,p,h=>by
  simp at h
  have:=Kq (A:=A.new q) h
  rw [ax.cq] at this
  rw [rv,show A.next+(i+1)=A.next+1+i by omega]
  exact this
theorem Qs:∀ {l:List jt} {A:ax} {x:Nat} {o:jt},(rv A l).get x=some o→(A.get x=some o∧x < A.next+l.length)∨(x < A.next∧A.get x=some o)∨(∃ i p,x=A.next+i∧l[i]? = some p∧o=p)∨A.get x=some o
 | [],_,_,_,h=>.inr (.inr (.inr h))
 | p::l,A,x,o,h=>by
  rw [rv] at h
  have key:(A.new p).get x=some o→(∃ i q,x=A.next+i∧(p::l)[i]? = some q∧o=q)∨A.get x=some o:=by
   intro h
   rw [ax.du] at h
   split at h
   ·rename_i e; simp at h; exact .inl ⟨0,p,by omega,rfl,h.symm⟩
   ·exact .inr h
  rcases Qs h with ⟨h,_⟩ | ⟨_,h⟩ | ⟨i,q,e,h1,h2⟩ | h
  ·exact .inr (.inr (key h))
  ·exact .inr (.inr (key h))
  ·exact .inr (.inr (.inl ⟨i+1,q,by rw [e]; simp; omega,by simpa using h1,h2⟩))
  ·exact .inr (.inr (key h))
theorem Qt {l:List jt} {A:ax} {x:Nat} {o:jt} (h:(rv A l).get x=some o):A.get x=some o∨∃ i p,x=A.next+i∧l[i]? = some p∧o=p:=by
 rcases Qs h with ⟨h,_⟩ | ⟨_,h⟩ | h | h
 ·exact .inl h
 ·exact .inl h
 ·exact .inr h
 ·exact .inl h
theorem Ef:∀ (l:List (Option Nat)) (A:ax),(xA A l).next=A.next
 | [],_=>rfl
 | some f::l,A=>by rw [xA,Ef l]; rfl
 | none::l,A=>by rw [xA,Ef l]
theorem Dh:∀ {l:List (Option Nat)} {A:ax} {x:Nat},(xA A l).get x=if x∈jG l then some .dead else A.get x
 | [],A,x=>by simp [xA,jG]
 | none::l,A,x=>by rw [xA,Dh,jG]
 | some f::l,A,x=>by
  rw [xA,Dh,jG,ax.b9]
  by_cases h1:x∈jG l
  ·rw [if_pos h1,if_pos (List.mem_cons_of_mem _ h1)]
  ·rw [if_neg h1]
   by_cases h2:x=f
   ·rw [if_pos h2,if_pos (by simp [h2])]
   ·rw [if_neg h2,if_neg (by simp [h1,h2])]
theorem OD:∀ (bs:List Nat) (ps:List (Tmp×List CD×Nat)) (rs:List (List KV)) (A:ax),(nQ A bs ps rs).next=A.next
 | [],_,_,_=>rfl
 | _::_,[],_,_=>rfl
 | _::_,_::_,[],_=>rfl
 | b::bs,p::ps,r::rs,A=>by rw [nQ,OD bs ps rs]; rfl
theorem Kr:∀ {bs:List Nat} {ps:List (Tmp×List CD×Nat)} {rs:List (List KV)} {A:ax} {x:Nat},x ∉ bs→(nQ A bs ps rs).get x=A.get x
 | [],_,_,_,_,_=>rfl
 | _::_,[],_,_,_,_=>rfl
 | _::_,_::_,[],_,_,_=>rfl
 | b::bs,p::ps,r::rs,A,x,h=>by
  simp only [List.mem_cons,not_or] at h
  rw [nQ,Kr h.2,ax.b9,if_neg h.1]
theorem aeE:∀ {bs:List Nat} {ps:List (Tmp×List CD×Nat)} {rs:List (List KV)} {A:ax} {k b:Nat} {p:Tmp×List CD×Nat} {r:List KV},ve bs=true→bs[k]? = some b→ps[k]? = some p→rs[k]? = some r→(nQ A bs ps rs).get b=some (.row r p.2.2)
 | [],_,_,_,_,_,_,_,_,h,_,_=>by simp at h
 | _::_,[],_,_,_,_,_,_,_,_,h,_=>by simp at h
 | _::_,_::_,[],_,_,_,_,_,_,_,_,h=>by simp at h
 | b::bs,p::ps,r::rs,A,k,x,p',r',hn,hb,hp,hr=>by
  have Hr:=hn
  simp only [ve,Bool.and_eq_true] at hn
  cases k with
  | zero=>
   simp at hb hp hr
   subst hb hp hr
   rw [nQ,Kr,ax.b9,if_pos rfl]
   intro hm
   have:=List.all_eq_true.1 hn.1 b hm
   simp at this
  | succ k=>
   simp only [List.getElem?_cons_succ] at hb hp hr
   rw [nQ]
   exact aeE hn.2 hb hp hr
theorem abG:∀ {ps:List (Tmp×List CD×Nat)} {rs:List (List KV)} {A:ax},rs.length=ps.length→(qe A ps rs).next=A.next+ps.length
 | [],[],_,_=>rfl
 | [],_::_,_,h=>by simp at h
 | _::_,[],_,h=>by simp at h
 | p::ps,r::rs,A,h=>by rw [qe,abG (by simpa using h)]; simp; omega
theorem aeF:∀ {ps:List (Tmp×List CD×Nat)} {rs:List (List KV)} {A:ax} {x:Nat},x < A.next→(qe A ps rs).get x=A.get x
 | [],_,_,_,_=>rfl
 | _::_,[],_,_,_=>rfl
 | p::ps,r::rs,A,x,h=>by rw [qe,aeF (by simp; omega),ax.du,if_neg (by omega)]
theorem aha:∀ {ps:List (Tmp×List CD×Nat)} {rs:List (List KV)} {A:ax} {k:Nat} {p:Tmp×List CD×Nat} {r:List KV},ps[k]? = some p→rs[k]? = some r→(qe A ps rs).get (A.next+k)=some (.row r p.2.2)
 | [],_,_,_,_,_,h,_=>by simp at h
 | _::_,[],_,_,_,_,_,h=>by simp at h
 | p::ps,r::rs,A,k,p',r',hp,hr=>by
  cases k with
  | zero=>
   simp at hp hr; subst hp hr
   rw [qe,Nat.add_zero,aeF (by simp),ax.du,if_pos rfl]
  | succ k=>
   simp only [List.getElem?_cons_succ] at hp hr
   have:=aha (A:=A.new (.row r p.2.2)) hp hr
   rw [qe]
   simpa [Nat.add_comm,Nat.add_left_comm] using this
theorem aeG:∀ {ps:List (Tmp×List CD×Nat)} {rs:List (List KV)} {A:ax} {x:Nat} {o:jt},(qe A ps rs).get x=some o→A.get x=some o∨∃ k p r,x=A.next+k∧ps[k]? = some p∧rs[k]? = some r∧o = .row r p.2.2
 | [],_,_,_,_,h=>.inl h
 | _::_,[],_,_,_,h=>.inl h
 | p::ps,r::rs,A,x,o,h=>by
  rw [qe] at h
  rcases aeG h with h | ⟨k,p',r',rfl,h1,h2,h3⟩
  ·rw [ax.du] at h
   by_cases e:x=A.next
   ·rw [if_pos e] at h; simp at h
    exact .inr ⟨0,p,r,by omega,rfl,rfl,h.symm⟩
   ·rw [if_neg e] at h; exact .inl h
  ·exact .inr ⟨k+1,p',r',by simp; omega,by simpa using h1,by simpa using h2,h3⟩
theorem abH:∀ (n:Nat) (l:List Nat) (k:Nat),(upto n l)[k]? = if k < n then some k else l[k - n]?
 | 0,l,k=>by simp [upto]
 | n+1,l,k=>by
  rw [upto,abH n]
  by_cases h:k < n
  ·rw [if_pos h,if_pos (by omega)]
  ·rw [if_neg h]
   by_cases h2:k=n
   ·subst h2
    rw [if_pos (by omega)]
    simp
   ·rw [if_neg (by omega),show k - n=(k - (n+1))+1 by omega]
    simp
theorem Ga (S:aQ) (k:Nat) (h:k < S.rows.length):S.ids[k]? = some k:=by rw [aQ.ids,abH,if_pos h]
theorem Ks:∀ {a b:List Nat},uC a b=true→a=b
 | [],[],_=>rfl
 | [],_::_,h=>by simp [uC] at h
 | _::_,[],h=>by simp [uC] at h
 | x::a,y::b,h=>by
  simp only [uC,Bool.and_eq_true] at h
  rw [Nat.eq_of_beq_eq_true h.1,Ks h.2]
theorem Eg {t:bA} {A:ax} {p:Tmp×List CD×Nat} (h:(rowOf t A p).isSome=true):∃ b cs,A.get b=some (.row cs p.2.2)∧cs.length=p.2.1.length∧ag8 t A p=b∧Ed t A p=cs:=by
 unfold rowOf at h
 split at h
 ·rename_i b hb
  split at h
  ·rename_i cs e hr
   cases hc:(Nat.beq e p.2.2&&Nat.beq cs.length p.2.1.length) with
   | false=>rw [hc] at h; simp at h
   | true=>
    have hro:rowOf t A p=some (b,cs):=by simp only [rowOf,hb,hr,hc,cond_true]
    simp only [Bool.and_eq_true] at hc
    have he:=Nat.eq_of_beq_eq_true hc.1
    subst he
    exact ⟨b,cs,hr,Nat.eq_of_beq_eq_true hc.2,by simp [ag8,hro],by simp [Ed,hro]⟩
  ·simp at h
 ·simp at h
structure dP (P:Program) (S:aQ) (t:bA) (A:ax) (g:GR):Prop where
 rows:w7 P t A S.rows=true
 nodup:ve g.bs=true
 Vj:LX t g.bs S.Vj=true
 dX:il S.dX g.vs=true
 Xf:ve (jG g.fs)=true
 ak9:Kp S.rows.length g.bs t S.dX=true
 ala:Tl S.rows.length g.bs t A S.rows=true
 tu:Tk (S.Ms P t A)=true
 bs:g.bs=xx t A S.rows
 fs:g.fs=H2 (S.Ms P t A)
 vs:g.vs=o8 P t A S.dX
 rs:g.rs=EV P t A S.rows
theorem Gb {S:aQ} {t:bA} {A:ax} (h:(S.fL P t A).ok=true):dP P S t A (S.fL P t A):=by
 unfold aQ.fL at h ⊢
 simp only at h ⊢
 cases hc:(w7 P t A S.rows&&ve (xx t A S.rows)&&LX t (xx t A S.rows) S.Vj&&il S.dX (o8 P t A S.dX)&&ve (jG (H2 (S.Ms P t A)))&&Kp S.rows.length (xx t A S.rows) t S.dX&&Tl S.rows.length (xx t A S.rows) t A S.rows) with
 | false=>rw [hc] at h; simp at h
 | true=>
  rw [hc,cond_true] at h
  simp only [Bool.and_eq_true] at hc
  exact ⟨hc.1.1.1.1.1.1,hc.1.1.1.1.1.2,hc.1.1.1.1.2,hc.1.1.1.2,hc.1.1.2,hc.1.2,hc.2,h,rfl,rfl,rfl,rfl⟩
theorem YS {t:bA} {A:ax} : ∀ {ps:List (Tmp×List CD×Nat)} {k:Nat} {p:Tmp×List CD×Nat},ps[k]? = some p→(xx t A ps)[k]? = some (ag8 t A p)
 | [],_,_,h=>by simp at h
 | p::ps,0,q,h=>by simp at h; subst h; rfl
 | p::ps,k+1,q,h=>by simp at h; simpa [xx] using YS h
theorem AG {t:bA} {A:ax} : ∀ {ps:List (Tmp×List CD×Nat)},(xx t A ps).length=ps.length
 | []=>rfl
 | p::ps=>by simp [xx,AG]
theorem Nc {t:bA} {A:ax} : ∀ {ps:List (Tmp×List CD×Nat)},(EV P t A ps).length=ps.length
 | []=>rfl
 | p::ps=>by simp [EV,Nc]
theorem Vn {t:bA} {A:ax} : ∀ {ps:List (Tmp×List CD×Nat)},w7 P t A ps=true→∀ {k:Nat} {p:Tmp×List CD×Nat},ps[k]? = some p→(rowOf t A p).isSome=true∧dN p.2.1 (fA P A p.2.1 (Ed t A p))=true
 | [],_,k,p,h=>by simp at h
 | q::ps,h,k,p,hp=>by
  simp only [w7,Bool.and_eq_true] at h
  cases k with
  | zero=>simp at hp; subst hp; exact ⟨h.1,h.2.1⟩
  | succ k=>simp at hp; exact Vn h.2.2 hp
theorem Qu:∀ {ps:List (Tmp×List CD×Nat)} {rs:List (List KV)},rs.length=ps.length→∀ (j:Nat) (bs:List Nat),(Vm j bs ps rs).length=ps.length
 | [],[],_,_,_=>rfl
 | [],_::_,h,_,_=>by simp at h
 | _::_,[],h,_,_=>by simp at h
 | p::ps,r::rs,h,j,bs=>by simp [Vm,Qu (by simpa using h)]
def x9 (j:Nat):List (Tmp×List CD×Nat)→Nat→Nat
 | [],_=>j
 | _::_,0=>j
 | p::ps,k+1=>x9 (j+qd p.2.1) ps k
theorem L1 {bs:List Nat} : ∀ {ps:List (Tmp×List CD×Nat)} {rs:List (List KV)} {j k:Nat} {p:Tmp×List CD×Nat} {r:List KV},ps[k]? = some p→rs[k]? = some r→(Vm j bs ps rs)[k]? = some (pO (x9 j ps k) bs p.2.1 r)
 | [],_,_,_,_,_,h,_=>by simp at h
 | _::_,[],_,_,_,_,_,h=>by simp at h
 | p::ps,r::rs,j,0,p',r',h1,h2=>by simp at h1 h2; subst h1 h2; rfl
 | p::ps,r::rs,j,k+1,p',r',h1,h2=>by
  simp at h1 h2
  simp only [Vm,List.getElem?_cons_succ]
  exact L1 h1 h2
theorem YT {E0:Env} {t:bA} {A:ax} : ∀ {ps:List (Tmp×List CD×Nat)} {j:Nat},w7 P t A ps=true→ow E E0 (Df P t A ps) j→∀ {k:Nat} {p:Tmp×List CD×Nat},ps[k]? = some p→ow E E0 (lG P A p.2.1 (Ed t A p)) (x9 j ps k)
 | [],_,_,_,_,_,h=>by simp at h
 | q::ps,j,hr,hf,k,p,hp=>by
  simp only [w7,Bool.and_eq_true] at hr
  obtain ⟨b,cs,_,hl,_,hC⟩:=Eg hr.1
  cases k with
  | zero=>simp at hp; subst hp; exact hf.left
  | succ k=>
   simp at hp
   have:=hf.right
   rw [kU (by rw [hC]; exact hl)] at this
   exact YT hr.2.2 this hp
theorem AH {t:bA} {A:ax} : ∀ {ps:List (Tmp×VD)},il ps (o8 P t A ps)=true→(BH P t A ps).length=nf ps
 | [],_=>rfl
 | p::ps,h=>by
  simp only [o8,il,Bool.and_eq_true] at h
  simp only [BH,nf,List.length_append]
  rw [kU (Ee h.1),AH h.2]
def Gc (P:Program) (A:ax) (x:FI) (q:jt):Prop:=
 (∃ n sz,q = .bf n sz∧((x.f=none∧n=0)∨∃ f,x.f=some f∧A.get f=some (.bf n sz)))∨
 ∃ t v,q = .arr v∧((x.f=none∧1≤bg P t∧v=K.ak P au (.ts t .any 0 [] ob))∨∃ f m N es acc,x.f=some f∧A.get f=some (.arr (.ts t m N es acc))∧v=K.ak P au (.ts t .any N es acc))
theorem ajk {A:ax} {t:TypeId} {v:KV} (cg:(EW P A t v).ok=true) (hg:jA (.arr t) (fy P A (.arr t) v)=true):Gc P A (EW P A t v) (.arr (fy P A (.arr t) v)):=by
 rcases Tn hg with rfl | ⟨b,n,m,N,es,acc,rfl,hb,he⟩
 ·exact .inr ⟨t,_,rfl,.inl ⟨rfl,Nat.le_of_ble_eq_true cg,rfl⟩⟩
 ·refine .inr ⟨t,_,rfl,.inr ⟨b,m,N,es,acc,?_,hb,he⟩⟩
  simp only [EW,hb]
theorem ajl {A:ax} {t:TypeId} {v:KV} (cg:(sm P A t v).ok=true) (hg:jA (.bf t) (fy P A (.bf t) v)=true):Gc P A (sm P A t v) (.bf (lenOf (fy P A (.bf t) v)) (szL P t)):=by
 refine .inl ⟨_,_,rfl,?_⟩
 cases v with
 | kR=>exact .inl ⟨rfl,rfl⟩
 | ts t' m n es acc=>
  cases m with
  | bf f=>
   have e1:fy P A (.bf t) (.ts t' (.bf f) n es acc)=cond (Nat.beq t t') (K.ak P au (.ts t .any n es acc)) .aw:=rfl
   rw [e1] at hg ⊢
   cases hb:Nat.beq t t' with
   | false=>rw [hb] at hg; simp [jA,kindOk] at hg
   | true=>
    rw [cond_true]
    refine .inr ⟨f,?_,?_⟩
    ·revert cg
     unfold sm
     simp only
     split
     ·intro _; rfl
     ·intro cg; simp at cg
    ·revert cg
     unfold sm
     simp only
     split
     ·rename_i top sz he
      intro cg
      simp only at cg
      cases hs:Nat.beq sz (szL P t) with
      | false=>rw [hs] at cg; simp at cg
      | true=>
       rw [hs,cond_true] at cg
       have h1:=Nat.eq_of_beq_eq_true hs
       have h2:=Nat.eq_of_beq_eq_true (show Nat.beq top n=true from cg)
       subst h1 h2
       exact he
     ·intro cg; simp at cg
  | any=>simp [sm] at cg
  | exact=>simp [sm] at cg
 | _=>simp [sm] at cg
theorem uE {A:ax} : ∀ {ds:List CD} {vs:List KV} {i:Nat} {x:FI},vs.length=ds.length→dN ds (fA P A ds vs)=true→(lG P A ds vs)[i]? = some x→x.ok=true→∃ q,(ov P ds (fA P A ds vs))[i]? = some q∧Gc P A x q
 | [],[],_,_,_,_,h,_=>by simp [lG] at h
 | [],_::_,_,_,e,_,_,_=>by simp at e
 | _::_,[],_,_,e,_,_,_=>by simp at e
 | .k c::ds,v::vs,i,x,e,hg,h,cg=>by
  simp only [fA,dN,Bool.and_eq_true] at hg
  have h' : (lG P A ds vs)[i]? = some x:=h
  exact uE (ds:=ds) (vs:=vs) (by simpa using e) hg.2 h' cg
 | .lit c::ds,v::vs,i,x,e,hg,h,cg=>by
  simp only [fA,dN,Bool.and_eq_true] at hg
  have h' : (lG P A ds vs)[i]? = some x:=h
  exact uE (ds:=ds) (vs:=vs) (by simpa using e) hg.2 h' cg
 | .ref c::ds,v::vs,i,x,e,hg,h,cg=>by
  simp only [fA,dN,Bool.and_eq_true] at hg
  have h' : (lG P A ds vs)[i]? = some x:=h
  exact uE (ds:=ds) (vs:=vs) (by simpa using e) hg.2 h' cg
 | .bf t::ds,v::vs,i,x,e,hg,h,cg=>by
  simp only [fA,dN,Bool.and_eq_true] at hg
  cases i with
  | zero=>
   simp [lG] at h
   subst h
   exact ⟨_,rfl,ajl cg hg.1⟩
  | succ i=>
   simp [lG] at h
   obtain ⟨q,h1,h2⟩:=uE (by simpa using e) hg.2 h cg
   exact ⟨q,by simpa [ov,fA] using h1,h2⟩
 | .arr t::ds,v::vs,i,x,e,hg,h,cg=>by
  simp only [fA,dN,Bool.and_eq_true] at hg
  cases i with
  | zero=>
   simp [lG] at h
   subst h
   exact ⟨_,rfl,ajk cg hg.1⟩
  | succ i=>
   simp [lG] at h
   obtain ⟨q,h1,h2⟩:=uE (by simpa using e) hg.2 h cg
   exact ⟨q,by simpa [ov,fA] using h1,h2⟩
theorem nt:∀ {ds:List CD} {vs:List KV},vs.length=ds.length→(ov P ds vs).length=qd ds
 | [],[],_=>rfl
 | [],_::_,e=>by simp at e
 | _::_,[],e=>by simp at e
 | .k c::ds,v::vs,e=>by simp only [ov,qd]; exact nt (by simpa using e)
 | .lit w::ds,v::vs,e=>by simp only [ov,qd]; exact nt (by simpa using e)
 | .ref w::ds,v::vs,e=>by simp only [ov,qd]; exact nt (by simpa using e)
 | .bf t::ds,v::vs,e=>by simp only [ov,qd,List.length_cons]; rw [nt (by simpa using e)]
 | .arr t::ds,v::vs,e=>by simp only [ov,qd,List.length_cons]; rw [nt (by simpa using e)]
theorem Cp:∀ {ds:List CD} {vs:List KV},dN ds vs=true→vs.length=ds.length
 | [],[],_=>rfl
 | [],_::_,h=>by simp [dN] at h
 | _::_,[],h=>by simp [dN] at h
 | d::ds,v::vs,h=>by
  simp only [dN,Bool.and_eq_true] at h
  simp [Cp h.2]
theorem Vo {d:VD} {v:KV} (h:vd d v=true):v.cells.length=d.ks.length:=by
 rcases wK h with ⟨cs,rfl,_,h1⟩ | ⟨h0,_,c,h1,_⟩
 ·exact Cp h1
 ·have:v.cells = [v]:=by cases v <;> first | rfl | exact absurd rfl (h0 _)
  rw [this,h1]; rfl
theorem AI:∀ {ps:List (Tmp×VD)} {vs:List KV},il ps vs=true→(vY P ps vs).length=nf ps
 | [],[],_=>rfl
 | [],_::_,h=>by simp [il] at h
 | _::_,[],h=>by simp [il] at h
 | p::ps,v::vs,h=>by
  simp only [il,Bool.and_eq_true] at h
  simp only [vY,nf,List.length_append]
  rw [nt (Vo h.1),AI h.2]
theorem Vp {t:bA} {A:ax} : ∀ {ps:List (Tmp×VD)} {i:Nat} {x:FI},il ps (o8 P t A ps)=true→(BH P t A ps)[i]? = some x→x.ok=true→∃ p,(vY P ps (o8 P t A ps))[i]? = some p∧Gc P A x p
 | [],_,_,_,h,_=>by simp [BH] at h
 | p::ps,i,x,hg,h,cg=>by
  simp only [o8,il,Bool.and_eq_true] at hg
  simp only [BH] at h
  have hl:=Ee hg.1
  by_cases hi:i < (lG P A p.2.ks (valOf t p.1).cells).length
  ·rw [List.getElem?_append_left hi] at h
   have hg' : dN p.2.ks (fA P A p.2.ks (valOf t p.1).cells)=true∧(tz P A p.2 (valOf t p.1)).cells=fA P A p.2.ks (valOf t p.1).cells:=by
    rcases wL hg.1 with ⟨cs,e,_,h2,h3⟩ | ⟨_,c,h1,h2,h3,h4,h5⟩
    ·rw [e] at h2 ⊢; exact ⟨h3,by rw [h2]; rfl⟩
    ·rw [h4,h1]
     refine ⟨by simp [fA,dN,h3],?_⟩
     rw [h2]
     show (fy P A c (valOf t p.1)).cells = [fy P A c (valOf t p.1)]
     generalize fy P A c (valOf t p.1)=w at h5 ⊢
     cases w <;> first | rfl | exact absurd rfl (h5 _)
   obtain ⟨q,h2,h3⟩:=uE hl hg'.1 h cg
   refine ⟨q,?_,h3⟩
   simp only [o8,vY]
   rw [hg'.2,List.getElem?_append_left (List.getElem?_eq_some_iff.1 h2).1]
   exact h2
  ·rw [List.getElem?_append_right (by omega)] at h
   obtain ⟨q,h1,h2⟩:=Vp hg.2 h cg
   refine ⟨q,?_,h2⟩
   simp only [o8,vY]
   have e1:(ov P p.2.ks (tz P A p.2 (valOf t p.1)).cells).length=(lG P A p.2.ks (valOf t p.1).cells).length:=by rw [nt (Vo hg.1),kU hl]
   rw [List.getElem?_append_right (by omega),e1]
   exact h1
theorem Vq {t:bA} {A:ax} : ∀ {ps:List (Tmp×List CD×Nat)} {i:Nat} {x:FI},w7 P t A ps=true→(Df P t A ps)[i]? = some x→x.ok=true→∃ p,(xz P ps (EV P t A ps))[i]? = some p∧Gc P A x p
 | [],_,_,_,h,_=>by simp [Df] at h
 | p::ps,i,x,hg,h,cg=>by
  simp only [w7,Bool.and_eq_true] at hg
  simp only [Df] at h
  obtain ⟨b,cs,_,hl,_,hC⟩:=Eg hg.1
  rw [← hC] at hl
  by_cases hi:i < (lG P A p.2.1 (Ed t A p)).length
  ·rw [List.getElem?_append_left hi] at h
   obtain ⟨q,h2,h3⟩:=uE hl hg.2.1 h cg
   refine ⟨q,?_,h3⟩
   simp only [EV,xz]
   rw [List.getElem?_append_left (List.getElem?_eq_some_iff.1 h2).1]
   exact h2
  ·rw [List.getElem?_append_right (by omega)] at h
   obtain ⟨q,h1,h2⟩:=Vq hg.2.2 h cg
   refine ⟨q,?_,h2⟩
   simp only [EV,xz]
   have e1:(ov P p.2.1 (fA P A p.2.1 (Ed t A p))).length=(lG P A p.2.1 (Ed t A p)).length:=by rw [nt (Cp hg.2.1),kU hl]
   rw [List.getElem?_append_right (by omega),e1]
   exact h1
theorem EY:∀ {ps:List (Tmp×List CD×Nat)} {rs:List (List KV)},rs.length=ps.length→(∀ (k:Nat) p r,ps[k]? = some p→rs[k]? = some r→dN p.2.1 r=true)→∀ {l:Nat},l=(ps.map fun p=>qd p.2.1).sum→(xz P ps rs).length=l
 | [],[],_,_,l,hl=>by subst hl; rfl
 | [],_::_,h,_,_,_=>by simp at h
 | _::_,[],h,_,_,_=>by simp at h
 | p::ps,r::rs,h,hk,l,hl=>by
  simp only [xz,List.length_append]
  rw [nt (Cp (hk 0 p r rfl rfl)),EY (by simpa using h) (fun k p r h1 h2=>hk (k+1) p r (by simpa using h1) (by simpa using h2)) rfl,hl]
  simp
theorem Nd {t:bA} {A:ax} : ∀ {ps:List (Tmp×List CD×Nat)},w7 P t A ps=true→(Df P t A ps).length=(ps.map fun p=>qd p.2.1).sum
 | [],_=>rfl
 | p::ps,h=>by
  simp only [w7,Bool.and_eq_true] at h
  obtain ⟨b,cs,_,hl,_,hC⟩:=Eg h.1
  simp only [Df,List.length_append,List.map_cons,List.sum_cons]
  rw [kU (by rw [hC]; exact hl),Nd h.2.2]
end Go.K
end
section
namespace Go.K
open Go Go.aE
variable {P:Program} {E:Env}
noncomputable def Env.sub (E:Env) (A:ax) (bs:List Nat) (fs:List (Option Nat)) (nr:Nat):Env:=
 { κ:=fun i=>(bs[i]?).bind E.κ,z:=E.z,φ:=fun i=>if nr≤i then (fs[i - nr]?).bind (fun f=>f.bind fun x=>cond (xy (A.get x)) (E.φ x) none) else none,α:=fun i=>if nr≤i then (fs[i - nr]?).bind (fun f=>f.bind E.α) else none }
theorem L3 {E:Env} {A:ax} {x q:Nat} (e:cond (xy (A.get x)) (E.φ x) none=some q):E.φ x=some q∧xy (A.get x)=true:=by
 cases h:xy (A.get x) with
 | true=>rw [h] at e; exact ⟨e,rfl⟩
 | false=>rw [h] at e; simp at e
theorem aeH {A:ax} {x:Nat} (h:xy (A.get x)=true):∃ n sz,A.get x=some (.bf n sz):=by
 unfold xy at h
 split at h
 ·rename_i n sz e; exact ⟨n,sz,e⟩
 ·simp at h
theorem Env.YU {A:ax} {bs:List Nat} {fs:List (Option Nat)} {nr i:Nat} : (E.sub A bs fs nr).φ (nr+i)=(fs[i]?).bind (fun f=>f.bind fun x=>cond (xy (A.get x)) (E.φ x) none):=by
 simp only [Env.sub]
 rw [if_pos (by omega),show nr+i - nr=i by omega]
theorem Env.Di {A:ax} {bs:List Nat} {fs:List (Option Nat)} {nr i:Nat} : (E.sub A bs fs nr).α (nr+i)=(fs[i]?).bind (fun f=>f.bind E.α):=by
 simp only [Env.sub]
 rw [if_pos (by omega),show nr+i - nr=i by omega]
theorem H5:∀ {l:List (Nat×KV)} {i:Nat} {v:KV},(lL l).get i=some v→(i,v)∈l
 | [],i,v,h=>by simp [lL] at h
 | p::ps,i,v,h=>by
  rw [lL,Trie.n8] at h
  split at h
  ·rename_i e
   simp at h; subst h e
   simp
  ·exact List.mem_cons_of_mem _ (H5 h)
theorem kT.lL {ρ:aW} {l:List (Nat×KV)} {N:Nat} {a:Act} (hs:a.tmps.size=N) (h:∀ q∈l,q.1 < N∧VC P E ρ q.2 (a.tmps.getD q.1 undef)):kT P E ρ (K.lL l) N a:=by
 refine ⟨hs,fun i=>?_,fun i hi=>?_⟩
 ·cases hg:(K.lL l).get i with
  | none=>exact .aw
  | some v=>exact (h _ (H5 hg)).2
 ·cases hg:(K.lL l).get i with
  | none=>rfl
  | some v=>have:=(h _ (H5 hg)).1; exact absurd hi (Nat.not_le_of_lt this)
theorem Ab {A:ax} {x:Nat} : ∀ {ds:List CD} {vs:List KV} {fi:FI},fi∈lG P A ds vs→fi.fm=true→fi.f=some x→xy (A.get x)=true
 | [],_,_,h,_,_=>by simp [lG] at h
 | d::ds,[],_,h,_,_=>by cases d <;> simp [lG] at h
 | d::ds,v::vs,fi,h,hm,hx=>by
  cases d <;> simp only [lG,List.mem_cons] at h
  ·exact Ab h hm hx
  ·exact Ab h hm hx
  ·rcases h with rfl | h
   ·exact ahR hx
   ·exact Ab h hm hx
  ·rcases h with rfl | h
   ·rw [ahQ] at hm; simp at hm
   ·exact Ab h hm hx
  ·exact Ab h hm hx
theorem aQ.akE (S:aQ) {t:bA} {A:ax} {x:Nat} {fi:FI} (h:fi∈S.Ms P t A) (hm:fi.fm=true) (hx:fi.f=some x):xy (A.get x)=true:=by
 have one:∀ {ps:List (Tmp×VD)},fi∈BH P t A ps→xy (A.get x)=true:=by
  intro ps
  induction ps with
  | nil=>intro h; simp [BH] at h
  | cons p ps ih=>
   intro h
   simp only [BH,List.mem_append] at h
   exact h.elim (fun h=>Ab h hm hx) ih
 have two:∀ {ps:List (Tmp×List CD×Nat)},fi∈Df P t A ps→xy (A.get x)=true:=by
  intro ps
  induction ps with
  | nil=>intro h; simp [Df] at h
  | cons p ps ih=>
   intro h
   simp only [Df,List.mem_append] at h
   exact h.elim (fun h=>Ab h hm hx) ih
 simp only [aQ.Ms,List.mem_append] at h
 exact h.elim one two
theorem dP.hyp {S:aQ} {t:bA} {A:ax} {g:GR} (h:dP P S t A g):ow E (E.sub A g.bs g.fs S.nr) (S.Ms P t A) S.nr:=fun i fi hi=>by
 refine ⟨OC h.tu fi (List.mem_of_getElem? hi),fun hm x q hx hq=>?_,fun x q hx hq=>?_⟩
 ·rw [Env.YU,h.fs,H4 hi,Option.bind_some,hx,Option.bind_some,S.akE (List.mem_of_getElem? hi) hm hx]
  exact hq
 ·rw [Env.Di,h.fs,H4 hi,Option.bind_some,hx,Option.bind_some]
  exact hq
theorem aeI {E0:Env} {t:bA} {A:ax} {ρ:aW} {N nr:Nat} {bs EX:List Nat} {a:Act} (hz:E0.z=E.z) (hk:Rk E E0 nr bs EX) (ht:kT P E ρ t N a):∀ {ps:List (Tmp×VD)} {j:Nat},il ps (o8 P t A ps)=true→ow E E0 (BH P t A ps) j→Kp nr bs t ps=true→∀ q∈Vl j EX ps (o8 P t A ps),q.1 < N∧VC P E0 ρ q.2 (a.tmps.getD q.1 undef)
 | [],_,_,_,_,q,hq=>by simp [Vl] at hq
 | p::ps,j,hg,hf,hr,q,hq=>by
  simp only [Kp,Bool.and_eq_true] at hr
  simp only [o8,il,Bool.and_eq_true] at hg
  simp only [o8,Vl,List.mem_cons] at hq
  rcases hq with rfl | hq
  ·refine ⟨?_,?_⟩
   ·obtain ⟨v,hv⟩:=VK.SX hg.1 hr.1
    by_cases hN:N≤p.1
    ·rw [ht.none _ hN] at hv; simp at hv
    ·exact Nat.lt_of_not_le hN
   ·obtain ⟨u,h1,h2⟩:=ht.val p.1
    exact ⟨u,h1.amt hz hk hg.1 hf.left hr.1,h2⟩
  ·have h2:=hf.right
   rw [kU (Ee hg.1)] at h2
   exact aeI hz hk ht hg.2 h2 hr.2 q hq
theorem Nf {bs:List Nat} : ∀ {ps:List (Tmp×Nat×Nat)} {q:Nat×KV},q∈x7 bs ps→∃ p∈ps,q=(p.1,.ptr (bs.getD p.2.1 0) p.2.2)
 | [],_,h=>by simp [x7] at h
 | p::ps,q,h=>by
  simp only [x7,List.mem_cons] at h
  rcases h with rfl | h
  ·exact ⟨p,by simp,rfl⟩
  ·obtain ⟨p',h1,h2⟩:=Nf h
   exact ⟨p',List.mem_cons_of_mem _ h1,h2⟩
theorem Kt {t:bA} {bs:List Nat} : ∀ {ps:List (Tmp×Nat×Nat)},LX t bs ps=true→∀ q∈ps,∃ b,t.get q.1=some (.ptr b q.2.2)∧bs[q.2.1]? = some b
 | [],_,q,hq=>by simp at hq
 | p::ps,h,q,hq=>by
  simp only [LX,Bool.and_eq_true] at h
  rcases List.mem_cons.1 hq with rfl | hq
  ·have h1:=h.1
   unfold ajh at h1
   split at h1
   ·rename_i b o b' e1 e2
    simp only [Bool.and_eq_true] at h1
    have:=Nat.eq_of_beq_eq_true h1.1
    have:=Nat.eq_of_beq_eq_true h1.2
    subst_vars
    exact ⟨_,e1,e2⟩
   ·simp at h1
  ·exact Kt h.2 q hq
theorem dP.rk {S:aQ} {t:bA} {A:ax} {g:GR} (h:dP P S t A g):Rk E (E.sub A g.bs g.fs S.nr) S.rows.length g.bs S.ids:=fun j x hj e=>by
 have bU:j < g.bs.length:=by rw [h.bs,AG]; exact hj
 rw [List.getD_eq_getElem?_getD,List.getElem?_eq_getElem bU] at e
 rw [List.getD_eq_getElem?_getD,Ga S j hj]
 simp only [Env.sub,Option.getD_some,List.getElem?_eq_getElem bU,Option.bind_some]
 exact e
theorem dP.tkr {S:aQ} {t:bA} {A:ax} {g:GR} {ρ:aW} {N:Nat} {a:Act} (h:dP P S t A g) (ht:kT P E ρ t N a):kT P (E.sub A g.bs g.fs S.nr) ρ (S.tm S.nr S.ids g.vs) N a:=by
 refine kT.lL ht.size fun q hq=>?_
 have hh:ow E (E.sub A g.bs g.fs S.nr) (S.Ms P t A) S.nr:=h.hyp
 rcases List.mem_append.1 hq with hq | hq
 ·rw [h.vs] at hq
  exact aeI (E:=E) (E0:=E.sub A g.bs g.fs S.nr) (A:=A) rfl h.rk ht (h.vs ▸ h.dX) hh.left h.ak9 q hq
 ·obtain ⟨p,hp,rfl⟩:=Nf hq
  obtain ⟨b,h1,h2⟩:=Kt h.Vj p hp
  refine ⟨?_,?_⟩
  ·by_cases hN:N≤p.1
   ·rw [ht.none _ hN] at h1; simp at h1
   ·exact Nat.lt_of_not_le hN
  ·have hk:p.2.1 < S.rows.length:=by
    have:=(List.getElem?_eq_some_iff.1 h2).1
    rw [h.bs,AG] at this; exact this
   have hv:=ht.val p.1
   rw [h1] at hv
   obtain ⟨u,h3,h4⟩:=hv
   refine ⟨u,?_,h4⟩
   obtain ⟨x,h5,rfl⟩:=(show VK P E (.ptr b p.2.2) u from h3).iL
   have:S.ids.getD p.2.1 0=p.2.1:=by rw [List.getD_eq_getElem?_getD,Ga S _ hk]; rfl
   rw [this]
   exact .xp (by simp [Env.sub,h2,h5])
theorem dP.row {S:aQ} {t:bA} {A:ax} {g:GR} (h:dP P S t A g) {k:Nat} {p:Tmp×List CD×Nat} (hp:S.rows[k]? = some p):∃ b cs,g.bs[k]? = some b∧A.get b=some (.row cs p.2.2)∧cs.length=p.2.1.length∧Ed t A p=cs∧g.rs[k]? = some (fA P A p.2.1 cs)∧dN p.2.1 (fA P A p.2.1 cs)=true:=by
 obtain ⟨h1,h2⟩:=Vn h.rows hp
 obtain ⟨b,cs,h4,h5,h6,h7⟩:=Eg h1
 refine ⟨b,cs,by rw [h.bs,YS hp,h6],h4,h5,h7,?_,by rw [← h7]; exact h2⟩
 have:∀ {ps:List (Tmp×List CD×Nat)} {k:Nat},ps[k]? = some p→(EV P t A ps)[k]? = some (fA P A p.2.1 (Ed t A p)):=by
  intro ps
  induction ps with
  | nil=>intro k h; simp at h
  | cons q ps ih=>
   intro k h
   cases k with
   | zero=>simp at h; subst h; rfl
   | succ k=>simp at h; simpa [EV] using ih h
 rw [h.rs,this hp,h7]
theorem dP.rA {S:aQ} {t:bA} {A:ax} {g:GR} (h:dP P S t A g):g.rs.length=S.rows.length:=by rw [h.rs,Nc]
theorem dP.YV {S:aQ} {t:bA} {A:ax} {g:GR} (h:dP P S t A g):g.bs.length=S.rows.length:=by rw [h.bs,AG]
theorem dP.vP {S:aQ} {t:bA} {A:ax} {g:GR} (h:dP P S t A g):∀ (k:Nat) p r,S.rows[k]? = some p→g.rs[k]? = some r→dN p.2.1 r=true:=fun k p r hp hr=>by
 obtain ⟨b,cs,_,_,_,_,h1,h2⟩:=h.row hp
 rw [hr] at h1; simp at h1; subst h1; exact h2
theorem dP.lens {S:aQ} {t:bA} {A:ax} {g:GR} (h:dP P S t A g):(S.lens P g.vs g.rs).length=(S.Ms P t A).length:=by
 simp only [aQ.lens,aQ.Ms,List.length_append]
 rw [AI h.dX,EY h.rA h.vP rfl,Nd h.rows,AH (h.vs ▸ h.dX)]
theorem dP.fact {S:aQ} {t:bA} {A:ax} {g:GR} (h:dP P S t A g) {i:Nat} {q:jt} (hq:(S.lens P g.vs g.rs)[i]? = some q):∃ fi,(S.Ms P t A)[i]? = some fi∧g.fs[i]? = some fi.f∧Gc P A fi q:=by
 have bU:i < (S.Ms P t A).length:=by rw [← h.lens]; exact (List.getElem?_eq_some_iff.1 hq).1
 have hfi:=List.getElem?_eq_getElem bU
 have cg:=OC h.tu _ (List.getElem_mem bU)
 refine ⟨_,hfi,by rw [h.fs]; exact H4 hfi,?_⟩
 have hv:(BH P t A S.dX).length=nf S.dX:=AH (h.vs ▸ h.dX)
 have hlv:(vY P S.dX g.vs).length=nf S.dX:=AI h.dX
 simp only [aQ.lens] at hq
 have aeJ:=hfi
 simp only [aQ.Ms] at aeJ
 by_cases hi:i < nf S.dX
 ·rw [List.getElem?_append_left (by omega)] at hq aeJ
  obtain ⟨p,h1,h2⟩:=Vp (h.vs ▸ h.dX) aeJ cg
  rw [h.vs,h1] at hq
  simp at hq; subst hq; exact h2
 ·rw [List.getElem?_append_right (by omega)] at hq aeJ
  obtain ⟨p,h1,h2⟩:=Vq h.rows aeJ cg
  rw [h.rs,hlv,← hv,h1] at hq
  simp at hq; subst hq; exact h2
theorem OE {t:bA} {A:ax} {nr:Nat} {bs:List Nat} : ∀ {ps:List (Tmp×List CD×Nat)},Tl nr bs t A ps=true→∀ {k:Nat} {p:Tmp×List CD×Nat},ps[k]? = some p→BI nr bs p.2.1 (Ed t A p)=true
 | [],_,k,p,h=>by simp at h
 | q::ps,h,k,p,hp=>by
  simp only [Tl,Bool.and_eq_true] at h
  cases k with
  | zero=>simp at hp; subst hp; exact h.1
  | succ k=>simp at hp; exact OE h.2 hp
theorem nZ {S:aQ} {rs:List (List KV)} (h:rs.length=S.rows.length):(qe .empty S.rows (S.Dg S.nr S.ids rs)).next=S.nr:=by
 show (qe .empty S.rows (Vm (S.nr+nf S.dX) S.ids S.rows rs)).next=S.nr
 rw [abG (Qu h _ _)]
 simp [ax.empty,aQ.nr]
theorem Dj {S:aQ} {vs:List KV} {rs:List (List KV)} (h:rs.length=S.rows.length) {b:Nat} {o:jt} (hb:(S.mem P vs rs).get b=some o) :
  (∃ p r,S.rows[b]? = some p∧rs[b]? = some r∧o = .row (pO (x9 (S.nr+nf S.dX) S.rows b) S.ids p.2.1 r) p.2.2)∨∃ i q,b=S.nr+i∧(S.lens P vs rs)[i]? = some q∧o=q:=by
 rcases Qt hb with hb | ⟨i,q,h1,h2,h3⟩
 ·rcases aeG hb with e | ⟨k,p,r,rfl,h1,h2,h3⟩
  ·simp [ax.empty,ax.get] at e
  ·have hk:(ax.empty.next+k)=k:=by simp [ax.empty]
   rw [hk]
   have bU:k < rs.length:=by rw [h]; exact (List.getElem?_eq_some_iff.1 h1).1
   have e1:=List.getElem?_eq_getElem bU
   have e2:=L1 (bs:=S.ids) (j:=S.nr+nf S.dX) h1 e1
   have h2:(Vm (S.nr+nf S.dX) S.ids S.rows rs)[k]? = some r:=h2
   rw [e2] at h2
   simp at h2
   exact .inl ⟨p,_,h1,e1,by rw [h3,← h2]⟩
 ·rw [nZ h] at h1
  exact .inr ⟨i,q,h1,h2,h3⟩
theorem Ku {t:TypeId} {n:Nat} {es:List KV} {acc:Nat→KV} {bq:List Value} (ht:iX P t n es acc) (h:bd P E es bq):∃ o4 fT,K.ak P au (.ts t .any n es acc) = .ts t .any n o4 fT∧iX P t n o4 fT∧bd P E o4 bq:=by
 refine ⟨(List.range n).map fun i=>ay P (K.ak P 5) t (acc i),fun i=>ay P (K.ak P 5) t (acc i),rfl,?_⟩
 have A8:∀ i,i < n→∃ e e',es[i]? = some e∧bq[i]? = some e'∧acc i=e∧dx (bw P t) e=true∧VK P E e e':=by
  intro i hi
  have hl:i < es.length:=by rw [← ht.len]; exact hi
  have e1:=List.getElem?_eq_getElem hl
  obtain ⟨e',e2,e3⟩:=h.get e1
  exact ⟨_,e',e1,e2,by rw [ht.acc i hi,List.getD_eq_getElem?_getD,e1]; rfl,ke ht.typed e1,e3⟩
 have hlen:bq.length=n:=by rw [h.length,ht.len]
 refine ⟨⟨by simp,fun i hi=>?_,?_⟩,?_⟩
 ·rw [List.getD_eq_getElem?_getD,List.getElem?_map,List.getElem?_range hi]; rfl
 ·refine oD fun i e he=>?_
  rw [List.getElem?_map] at he
  by_cases hi:i < n
  ·rw [List.getElem?_range hi] at he
   simp only [Option.map_some,Option.some.injEq] at he
   obtain ⟨x,x',_,_,q3,q4,_⟩:=A8 i hi
   rw [← he,q3,ay]
   obtain ⟨r1,r2,_⟩:=HI q4
   rw [r1]
   exact Yk q4 (C6 5 r2) (by simp)
  ·rw [List.getElem?_eq_none (by simp; omega)] at he; simp at he
 ·refine bd.PC (by simp [hlen]) fun i e e' he A6=>?_
  rw [List.getElem?_map] at he
  by_cases hi:i < n
  ·rw [List.getElem?_range hi] at he
   simp only [Option.map_some,Option.some.injEq] at he
   obtain ⟨x,x',_,q2,q3,q4,q5⟩:=A8 i hi
   rw [A6] at q2
   simp only [Option.some.injEq] at q2
   subst q2
   rw [← he,q3]
   exact VK.ay 5 q4 q5
  ·rw [List.getElem?_eq_none (by simp; omega)] at he; simp at he
theorem dP.ahb {S:aQ} {t:bA} {A:ax} {g:GR} (h:dP P S t A g) {b:Nat} {v:KV} (hb:(S.mem P g.vs g.rs).get b=some (.arr v)) :
  ∃ i T,b=S.nr+i∧((g.fs[i]? = some none∧1≤bg P T∧v=K.ak P au (.ts T .any 0 [] ob))∨∃ f m N es acc,g.fs[i]? = some (some f)∧A.get f=some (.arr (.ts T m N es acc))∧v=K.ak P au (.ts T .any N es acc)):=by
 rcases Dj h.rA hb with ⟨p,r,_,_,h3⟩ | ⟨i,q,rfl,h2,h3⟩
 ·simp at h3
 ·subst h3
  obtain ⟨fi,h4,h5,h6⟩:=h.fact h2
  rcases h6 with ⟨_,_,e,_⟩ | ⟨T,v',e,h6⟩
  ·simp at e
  ·simp only [jt.arr.injEq] at e
   subst e
   rcases h6 with ⟨h6,h7⟩ | ⟨f,m,N,es,acc,h6,h7⟩
   ·exact ⟨i,T,rfl,.inl ⟨by rw [h5,h6],h7⟩⟩
   ·exact ⟨i,T,rfl,.inr ⟨f,m,N,es,acc,by rw [h5,h6],h7⟩⟩
theorem dP.Dk {S:aQ} {t:bA} {A:ax} {g:GR} (h:dP P S t A g) {b:Nat} {v:KV} (hb:(S.mem P g.vs g.rs).get b=some (.arr v)) {p:Nat×Nat×Nat} (hp:(E.sub A g.bs g.fs S.nr).α b=some p) :
  ∃ i f u,b=S.nr+i∧g.fs[i]? = some (some f)∧A.get f=some (.arr u)∧E.α f=some p:=by
 obtain ⟨i,T,rfl,h1⟩:=h.ahb hb
 rw [Env.Di] at hp
 rcases h1 with ⟨h1,_⟩ | ⟨f,m,N,es,acc,h1,h2,_⟩
 ·rw [h1] at hp; simp at hp
 ·rw [h1] at hp; exact ⟨i,f,_,rfl,h1,h2,hp⟩
theorem dP.AR {S:aQ} {t:bA} {A:ax} {g:GR} (h:dP P S t A g) {x:Nat} (q:K.AR (S.mem P g.vs g.rs) (E.sub A g.bs g.fs S.nr) x):∃ f u L N,f∈jG g.fs∧A.get f=some (.arr u)∧E.α f=some (x,L,N):=by
 obtain ⟨b,v,L,N,h1,h2⟩:=q
 obtain ⟨i,f,u,_,h3,h4,h5⟩:=h.Dk h1 h2
 exact ⟨f,u,L,N,uD.2 (List.mem_of_getElem? h3),h4,h5⟩
theorem dP.ar {S:aQ} {t:bA} {A:ax} {g:GR} (h:dP P S t A g) {x:Nat} (q:K.AR (S.mem P g.vs g.rs) (E.sub A g.bs g.fs S.nr) x):K.AR A E x:=by
 obtain ⟨f,u,L,N,_,h2,h3⟩:=h.AR q
 exact ⟨f,u,L,N,h2,h3⟩
theorem dP.AF {S:aQ} {t:bA} {A:ax} {B:St} {g:GR} (h:dP P S t A g) {q:Nat} (k:K.AF (S.mem P g.vs g.rs) (E.sub A g.bs g.fs S.nr) B q):∃ f u x L N cs e own m,f∈jG g.fs∧A.get f=some (.arr u)∧E.α f=some (x,L,N)∧B.get x=some (.row cs e own (some (q,m))):=by
 obtain ⟨b,v,x,L,N,cs,e,own,m,h1,h2,h3⟩:=k
 obtain ⟨i,f,u,_,h4,h5,h6⟩:=h.Dk h1 h2
 exact ⟨f,u,x,L,N,cs,e,own,m,uD.2 (List.mem_of_getElem? h4),h5,h6,h3⟩
theorem dP.af {S:aQ} {t:bA} {A:ax} {B:St} {g:GR} (h:dP P S t A g) {q:Nat} (k:K.AF (S.mem P g.vs g.rs) (E.sub A g.bs g.fs S.nr) B q):K.AF A E B q:=by
 obtain ⟨f,u,x,L,N,cs,e,own,m,_,h1,h2,h3⟩:=h.AF k
 exact ⟨f,u,x,L,N,cs,e,own,m,h1,h2,h3⟩
theorem dP.at {S:aQ} {t:bA} {A:ax} {B:St} {g:GR} (h:dP P S t A g) {y:Nat} (k:K.AT (S.mem P g.vs g.rs) (E.sub A g.bs g.fs S.nr) B y):K.AT A E B y:=k.imp h.ar fun ⟨q,h1,h2⟩=>⟨q,h.af h1,h2⟩
theorem dP.jr {S:aQ} {t:bA} {A:ax} {B:St} {g:GR} (h:dP P S t A g) (hk:fK P E A B):fK P (E.sub A g.bs g.fs S.nr) (S.mem P g.vs g.rs) B where
 row b cs bW hb:=by
  rcases Dj h.rA hb with ⟨p,r,h1,h2,h3⟩ | ⟨i,q,_,h2,h3⟩
  ·simp only [jt.row.injEq] at h3
   obtain ⟨rfl,rfl⟩:=h3
   obtain ⟨b',cs,h4,h5,h6,h7,h8,h9⟩:=h.row h1
   rw [h2] at h8; simp at h8; subst h8
   obtain ⟨x,b8,sj,DP,h12⟩:=hk.row _ _ _ h5
   refine ⟨x,b8,by simp [Env.sub,h4,sj],DP,?_⟩
   have hh:ow E (E.sub A g.bs g.fs S.nr) (S.Ms P t A) S.nr:=h.hyp
   have hr:=hh.right
   rw [AH (h.vs ▸ h.dX)] at hr
   have:=YT h.rows hr h1
   rw [h7] at this
   have hrr:=OE h.ala h1
   rw [h7] at hrr
   exact bd.cellsIn (E:=E) (E0:=E.sub A g.bs g.fs S.nr) rfl h.rk h12 h6 h9 this hrr
  ·subst h3
   obtain ⟨fi,_,_,h6⟩:=h.fact h2
   rcases h6 with ⟨_,_,e,_⟩ | ⟨_,_,e,_⟩ <;> simp at e
 bf b top sz hb:=by
  rcases Dj h.rA hb with ⟨p,r,_,_,h3⟩ | ⟨i,q,rfl,h2,h3⟩
  ·simp at h3
  ·subst h3
   obtain ⟨fi,h4,h5,h6⟩:=h.fact h2
   rcases h6 with ⟨_,_,e,h6⟩ | ⟨_,_,e,_⟩
   ·simp only [jt.bf.injEq] at e
    obtain ⟨rfl,rfl⟩:=e
    rw [Env.YU,h5,Option.bind_some]
    rcases h6 with ⟨h6,h7⟩ | ⟨f,h6,h7⟩
    ·rw [h6]; exact .inl ⟨h7,rfl⟩
    ·rw [h6,Option.bind_some,show xy (A.get f)=true by rw [h7]; rfl,cond_true]; exact hk.bf f _ _ h7
   ·simp at e
 z:=hk.z
 apart b x e:=by
  simp only [Env.sub,Option.bind_eq_some_iff] at e
  obtain ⟨b',_,e⟩:=e
  exact hk.apart b' x e
 inj b c x e1 e2:=by
  simp only [Env.sub,Option.bind_eq_some_iff] at e1 e2
  obtain ⟨b',h1,e1⟩:=e1
  obtain ⟨c',h2,e2⟩:=e2
  have:=hk.inj _ _ _ e1 e2
  subst this
  exact YR h.nodup _ _ _ h1 h2
 jJ b c q tb sb tc sc hb hc e1 e2:=by
  have key:∀ {b t s},(S.mem P g.vs g.rs).get b=some (.bf t s)→∃ i,b=S.nr+i∧((g.fs[i]? = some none)∨∃ f,g.fs[i]? = some (some f)∧A.get f=some (.bf t s)):=by
   intro b t s hb
   rcases Dj h.rA hb with ⟨p,r,_,_,h3⟩ | ⟨i,q1,rfl,h2,h3⟩
   ·simp at h3
   subst h3
   obtain ⟨fi,h4,h5,h6⟩:=h.fact h2
   rcases h6 with ⟨_,_,e,h6⟩ | ⟨_,_,e,_⟩
   ·simp only [jt.bf.injEq] at e
    obtain ⟨rfl,rfl⟩:=e
    rcases h6 with ⟨h6,_⟩ | ⟨f,h6,h7⟩
    ·exact ⟨i,rfl,.inl (by rw [h5,h6])⟩
    ·exact ⟨i,rfl,.inr ⟨f,by rw [h5,h6],h7⟩⟩
   ·simp at e
  obtain ⟨i,rfl,h1⟩:=key hb
  obtain ⟨j,rfl,h2⟩:=key hc
  rw [Env.YU] at e1 e2
  rcases h1 with h1 | ⟨f,h1,h3⟩
  ·rw [h1] at e1; simp at e1
  rcases h2 with h2 | ⟨f',h2,h4⟩
  ·rw [h2] at e2; simp at e2
  rw [h1,Option.bind_some,Option.bind_some] at e1
  rw [h2,Option.bind_some,Option.bind_some] at e2
  rw [show xy (A.get f)=true by rw [h3]; rfl,cond_true] at e1
  rw [show xy (A.get f')=true by rw [h4]; rfl,cond_true] at e2
  have:=hk.jJ f f' q _ _ _ _ h3 h4 e1 e2
  subst this
  have:=vf h.Xf i j f h1 h2
  omega
 lE b x e:=by
  simp only [Env.sub,Option.bind_eq_some_iff] at e
  obtain ⟨b',h1,_⟩:=e
  have:b < g.bs.length:=(List.getElem?_eq_some_iff.1 h1).1
  rw [aQ.mem,gG,nZ h.rA]
  rw [h.YV] at this
  simp only [aQ.nr]; omega
 na b q e:=by
  simp only [Env.sub] at e
  split at e
  ·rename_i hle
   obtain ⟨f,h1,_⟩:=Option.bind_eq_some_iff.1 e
   have h2:b - S.nr < g.fs.length:=(List.getElem?_eq_some_iff.1 h1).1
   rw [h.fs,qD,← h.lens] at h2
   rw [aQ.mem,gG,nZ h.rA]
   omega
  ·simp at e
 live b o hb:=by
  rw [aQ.mem,gG,nZ h.rA]
  rcases Dj h.rA hb with ⟨p,r,h1,_,_⟩ | ⟨i,q,rfl,h2,h3⟩
  ·have:=(List.getElem?_eq_some_iff.1 h1).1
   simp only [aQ.nr]; omega
  ·have:=(List.getElem?_eq_some_iff.1 h2).1
   omega
 gV b x e:=by
  simp only [Env.sub,Option.bind_eq_some_iff] at e
  obtain ⟨b',_,e⟩:=e
  exact hk.gV b' x e
 nm:=hk.nm
 kd b q e:=by
  simp only [Env.sub] at e
  split at e
  ·obtain ⟨f,_,e⟩:=Option.bind_eq_some_iff.1 e
   obtain ⟨f',_,e⟩:=Option.bind_eq_some_iff.1 e
   exact hk.kd _ _ (L3 e).1
  ·simp at e
 fresh:=hk.fresh
 mem:=hk.mem
 ar:=by
  have acR:∀ b p,(E.sub A g.bs g.fs S.nr).α b=some p→S.nr≤b∧b - S.nr < g.fs.length∧∃ f,E.α f=some p:=by
   intro b p e
   simp only [Env.sub] at e
   split at e
   ·rename_i hle
    obtain ⟨f,h1,e⟩:=Option.bind_eq_some_iff.1 e
    obtain ⟨f',_,e⟩:=Option.bind_eq_some_iff.1 e
    exact ⟨hle,(List.getElem?_eq_some_iff.1 h1).1,f',e⟩
   ·simp at e
  refine ⟨fun b v hb=>?_,fun b v hb=>?_,fun x q=>?_,fun b c v u x L N L' N' h1 h2 h3 h4=>?_,fun b c v u x y L N L' N' cs e own q k b8 e' o6 k' h1 h2 h3 h4 h5 h6=>?_,fun b x e=>?_,fun b p e=>?_,fun b x L N e=>?_,fun b v x L N cs e own q k h1 h2 h3=>?_,fun b v hb=>?_⟩
  ·obtain ⟨i,T,rfl,h1⟩:=h.ahb hb
   rcases h1 with ⟨h1,h2,h3⟩ | ⟨f,m,N,es,acc,h1,h2,h3⟩
   ·obtain ⟨o4,fT,e1,e2,_⟩:=Ku (P:=P) (E:=E) (t:=T) (n:=0) (es:=[]) (acc:=ob) (bq:=[]) ⟨rfl,fun i hi=>by omega,rfl⟩ .nil
    rw [e1] at h3
    refine ⟨T,0,o4,fT,h3,e2,h2,.inl ⟨rfl,?_⟩⟩
    rw [Env.Di,h1]; rfl
   ·obtain ⟨T2,N2,o4,fT,e,ht,fq,vW⟩:=hk.ar.arr f _ h2
    simp only [KV.ts.injEq] at e
    obtain ⟨rfl,rfl,rfl,rfl,rfl⟩:=e
    rcases vW with ⟨h4,h5⟩ | ⟨x,cs,bQ,bq,h4,h5,h6,h7⟩
    ·subst h4
     have J8:es = []:=List.length_eq_zero_iff.1 ht.len.symm
     subst J8
     obtain ⟨o4,fT,e1,e2,_⟩:=Ku (P:=P) (E:=E) (bq:=[]) ht .nil
     rw [e1] at h3
     refine ⟨T,0,o4,fT,h3,e2,fq,.inl ⟨rfl,?_⟩⟩
     rw [Env.Di,h1]; exact h5
    ·obtain ⟨o4,fT,e1,e2,e3⟩:=Ku ht h6
     rw [e1] at h3
     refine ⟨T,N,o4,fT,h3,e2,fq,.inr ⟨x,cs,bQ,bq,?_,h5,bd.zEs (E:=E) (E0:=E.sub A g.bs g.fs S.nr) rfl e3 e2.typed,h7⟩⟩
     rw [Env.Di,h1]; exact h4
  ·rcases Dj h.rA hb with ⟨p,r,_,_,h3⟩ | ⟨i,q,rfl,h2,h3⟩
   ·simp at h3
   ·subst h3
    obtain ⟨fi,_,_,h6⟩:=h.fact h2
    rcases h6 with ⟨_,_,e,_⟩ | ⟨_,_,e,_⟩ <;> simp at e
  ·obtain ⟨h1,h2⟩:=hk.ar.z x (h.ar q)
   refine ⟨h1,fun c e=>?_⟩
   simp only [Env.sub,Option.bind_eq_some_iff] at e
   obtain ⟨b',_,e⟩:=e
   exact h2 b' e
  ·obtain ⟨i,f,u1,rfl,k1,k2,k3⟩:=h.Dk h1 h3
   obtain ⟨j,f',u2,rfl,k1',k2',k3'⟩:=h.Dk h2 h4
   have:=hk.ar.inj f f' u1 u2 x L N L' N' k2 k2' k3 k3'
   subst this
   have:=vf h.Xf i j f k1 k1'
   omega
  ·obtain ⟨i,f,u1,rfl,k1,k2,k3⟩:=h.Dk h1 h3
   obtain ⟨j,f',u2,rfl,k1',k2',k3'⟩:=h.Dk h2 h4
   have:=hk.ar.tu f f' u1 u2 x y L N L' N' cs e own q k b8 e' o6 k' k2 k2' k3 k3' h5 h6
   subst this
   have:=vf h.Xf i j f k1 k1'
   omega
  ·cases qa:(E.sub A g.bs g.fs S.nr).α b with
   | none=>rfl
   | some p=>
    obtain ⟨h1,_,_⟩:=acR b p qa
    simp only [Env.sub,Option.bind_eq_some_iff] at e
    obtain ⟨b',h2,_⟩:=e
    have:b < g.bs.length:=(List.getElem?_eq_some_iff.1 h2).1
    rw [h.YV] at this
    simp only [aQ.nr] at h1; omega
  ·obtain ⟨h1,h2,_⟩:=acR b p e
   rw [h.fs,qD,← h.lens] at h2
   rw [aQ.mem,gG,nZ h.rA]
   omega
  ·obtain ⟨_,_,f,e⟩:=acR b _ e
   exact hk.ar.gV f x L N e
  ·obtain ⟨i,f,u,rfl,k1,k2,k3⟩:=h.Dk h1 h2
   obtain ⟨h4,h5,h6⟩:=hk.ar.rV f u x L N cs e own q k k2 k3 h3
   refine ⟨h4,fun c e=>?_,fun y hy en=>?_⟩
   ·simp only [Env.sub] at e
    split at e
    ·obtain ⟨f1,_,e⟩:=Option.bind_eq_some_iff.1 e
     obtain ⟨f',_,e⟩:=Option.bind_eq_some_iff.1 e
     exact h5 f' (L3 e).1
    ·simp at e
   ·obtain ⟨h7,h8,h9⟩:=h6 y hy en
    refine ⟨h7,fun q=>h8 (h.ar q),fun c e=>?_⟩
    simp only [Env.sub,Option.bind_eq_some_iff] at e
    obtain ⟨b',_,e⟩:=e
    exact h9 b' e
  ·rcases Dj h.rA hb with ⟨p,r,_,_,h3⟩ | ⟨i,q,rfl,h2,_⟩
   ·simp at h3
   ·refine ⟨?_,?_⟩
    ·rw [aQ.mem,gG,nZ h.rA]
     have:=(List.getElem?_eq_some_iff.1 h2).1
     omega
    ·simp only [Env.sub]
     rw [List.getElem?_eq_none (by rw [h.YV]; simp only [aQ.nr]; omega)]
     rfl
structure Co (base:Nat) (E:Env) (A:ax) (B:St) (ρ:aW) (w:World) (E' : Env) (A' : ax) (B' : St) (aX:aW) (w' : World):Prop where
 fN:l7 base ρ B w aX B' w'
 z:∀ b r,E.z b=some r→E'.z b=some r
 mg:∀ x,x < B.next→(∀ b,E.κ b≠some x)→¬ AT A E B x→B'.get x=B.get x
 new:∀ b x,E'.κ b=some x→(∃ c,E.κ c=some x)∨B.next≤x
 sR:∀ b r,E'.z b=some r→E.z b=some r∨AR A E b∨B.next≤b
 sS:∀ b g,E'.φ b=some g→(∃ c,E.φ c=some g)∨B.next≤g
 pN:∀ g,g < B.next→(∀ b,E.φ b≠some g)→¬ AF A E B g→B'.members g=B.members g
 mQ:∀ x,AR A' E' x→AR A E x∨B.next≤x
 nb:∀ g,AF A' E' B' g→AF A E B g∨B.next≤g
 uv:∀ g y,y∈B'.members g→y∈B.members g∨B.next≤y
 nY:∀ y,AT A' E' B' y→AT A E B y∨B.next≤y
 rows:∀ y,y < B.next→∀ cs e own bQ,B'.get y=some (.row cs e own bQ)→∃ mf,B.get y=some (.row mf e own bQ)∧mf.length=cs.length
theorem Co.trans {base:Nat} {E1 E2 E3:Env} {A1 A2 A3:ax} {B1 B2 B3:St} {mI uw ρ3:aW} {w1 w2 w3:World} (h:Co base E1 A1 B1 mI w1 E2 A2 B2 uw w2) (k:Co base E2 A2 B2 uw w2 E3 A3 B3 ρ3 w3):Co base E1 A1 B1 mI w1 E3 A3 B3 ρ3 w3 where
 fN:=h.fN.trans k.fN
 z b r e:=k.z b r (h.z b r e)
 mg x hx hn ha:=by
  refine (k.mg x (Nat.lt_of_lt_of_le hx h.fN.next) (fun b e=>?_) fun q=>?_).trans (h.mg x hx hn ha)
  ·rcases h.new b x e with ⟨c,e⟩ | e
   ·exact hn c e
   ·omega
  ·rcases h.nY x q with e | e
   ·exact ha e
   ·omega
 new b x e:=by
  rcases k.new b x e with ⟨c,e⟩ | e
  ·exact h.new c x e
  ·have:=h.fN.next; exact .inr (by omega)
 sR b r e:=by
  rcases k.sR b r e with e | e | e
  ·exact h.sR b r e
  ·exact .inr (h.mQ b e)
  ·have:=h.fN.next; exact .inr (.inr (by omega))
 sS b g e:=by
  rcases k.sS b g e with ⟨c,e⟩ | e
  ·exact h.sS c g e
  ·have:=h.fN.next; exact .inr (by omega)
 pN g hg hn ha:=by
  refine (k.pN g (Nat.lt_of_lt_of_le hg h.fN.next) (fun b e=>?_) fun q=>?_).trans (h.pN g hg hn ha)
  ·rcases h.sS b g e with ⟨c,e⟩ | e
   ·exact hn c e
   ·omega
  ·rcases h.nb g q with e | e
   ·exact ha e
   ·omega
 mQ x e:=by
  rcases k.mQ x e with e | e
  ·exact h.mQ x e
  ·have:=h.fN.next; exact .inr (by omega)
 nb g e:=by
  rcases k.nb g e with e | e
  ·exact h.nb g e
  ·have:=h.fN.next; exact .inr (by omega)
 uv g y e:=by
  rcases k.uv g y e with e | e
  ·exact h.uv g y e
  ·have:=h.fN.next; exact .inr (by omega)
 nY y e:=by
  rcases k.nY y e with e | e
  ·exact h.nY y e
  ·have:=h.fN.next; exact .inr (by omega)
 rows y hy cs e own bQ q:=by
  obtain ⟨c1,h1,h2⟩:=k.rows y (Nat.lt_of_lt_of_le hy h.fN.next) cs e own bQ q
  obtain ⟨c0,h3,h4⟩:=h.rows y hy c1 e own bQ h1
  exact ⟨c0,h3,h4.trans h2⟩
theorem Ev.co {base:Nat} {A A1:ax} {B B1:St} {ρ mI:aW} {w w1:World} {E1:Env} {S:aQ} {t:bA} {g:GR} (h:Ev P base E A B ρ w E1 A1 B1 mI w1) (hG:dP P S t A1 g):Co base E A B ρ w (E1.sub A1 g.bs g.fs S.nr) (S.mem P g.vs g.rs) B1 mI w1 where
 fN:=h.fN
 z:=h.le.z
 mg:=h.mg
 new b x e:=by
  simp only [Env.sub,Option.bind_eq_some_iff] at e
  obtain ⟨b',_,e⟩:=e
  exact (h.new b' x e).imp (fun e=>⟨_,e⟩) id
 sR:=h.sR
 sS b g e:=by
  simp only [Env.sub] at e
  split at e
  ·obtain ⟨f,_,e⟩:=Option.bind_eq_some_iff.1 e
   obtain ⟨f',_,e⟩:=Option.bind_eq_some_iff.1 e
   exact h.sS _ _ (L3 e).1
  ·simp at e
 pN:=h.pN
 mQ x q:=h.mQ x (hG.ar q)
 nb g q:=h.nb g (hG.af q)
 uv:=h.uv
 nY y q:=h.nY y (hG.at q)
 rows:=h.rows
def Qv (nr:Nat):List CD→Bool
 | []=>true
 | .ref w::ds=>Vi nr w&&Qv nr ds
 | _::ds=>Qv nr ds
theorem Dl {nr:Nat} {bs:List Nat} : ∀ {ds:List CD} {vs:List KV},BI nr bs ds vs=true→vs.length=ds.length→Qv nr ds=true
 | [],_,_,_=>rfl
 | _::_,[],_,e=>by simp at e
 | .k c::ds,v::vs,h,e=>Dl (ds:=ds) (vs:=vs) h (by simpa using e)
 | .lit c::ds,v::vs,h,e=>Dl (ds:=ds) (vs:=vs) h (by simpa using e)
 | .bf c::ds,v::vs,h,e=>Dl (ds:=ds) (vs:=vs) h (by simpa using e)
 | .arr c::ds,v::vs,h,e=>Dl (ds:=ds) (vs:=vs) h (by simpa using e)
 | .ref w::ds,v::vs,h,e=>by
  simp only [BI,Bool.and_eq_true] at h
  simp only [Qv,Bool.and_eq_true]
  exact ⟨h.1,Dl h.2.2 (by simpa using e)⟩
def OG (E1 E2:Env) (i j n:Nat):Prop:=∀ m,m < n→(∀ g,E1.φ (i+m)=some g→E2.φ (j+m)=some g)∧∀ p,E1.α (i+m)=some p→E2.α (j+m)=some p
theorem OG.tail {E1 E2:Env} {i j n:Nat} (h:OG E1 E2 i j (n+1)):OG E1 E2 (i+1) (j+1) n:=fun m hm=>by
 have:=h (m+1) (by omega)
 rw [show i+(m+1)=i+1+m by omega,show j+(m+1)=j+1+m by omega] at this
 exact this
theorem OG.left {E1 E2:Env} {i j n n' : Nat} (h:OG E1 E2 i j n') (hn:n≤n'):OG E1 E2 i j n:=fun m hm=>h m (by omega)
theorem OG.right {E1 E2:Env} {i j n n' : Nat} (h:OG E1 E2 i j (n+n')):OG E1 E2 (i+n) (j+n) n':=fun m hm=>by
 have:=h (n+m) (by omega)
 rw [← Nat.add_assoc,← Nat.add_assoc] at this
 exact this
theorem bd.ya {E1 E2:Env} (hz:E2.z=E1.z) {nr:Nat} {OH bs2:List Nat} (hk:Rk E1 E2 nr OH bs2):∀ {ds:List CD} {vs:List KV} {us:List Value} {i j:Nat},bd P E1 (pO i OH ds vs) us→dN ds vs=true→Qv nr ds=true→OG E1 E2 i j (qd ds)→bd P E2 (pO j bs2 ds vs) us
 | [],[],us,_,_,h,_,_,_=>by rw [h.ck]; exact .nil
 | [],_::_,_,_,_,_,hg,_,_=>by simp [dN] at hg
 | _::_,[],_,_,_,_,hg,_,_=>by simp [dN] at hg
 | d::ds,v::vs,us,i,j,h,hg,hw,hf=>by
  simp only [dN,Bool.and_eq_true] at hg
  cases d with
  | k c=>
   obtain ⟨y,ys,rfl,h1,h2⟩:=bd.cons_inv (show bd P E1 (v::pO i OH ds vs) us from h)
   exact .cons (h1.gCD (d:=.k c) hz hg.1 (by simp)) (bd.ya hz hk h2 hg.2 hw hf)
  | lit w=>
   obtain ⟨y,ys,rfl,h1,h2⟩:=bd.cons_inv (show bd P E1 (v::pO i OH ds vs) us from h)
   exact .cons (h1.gCD (d:=.lit w) hz hg.1 (by simp)) (bd.ya hz hk h2 hg.2 hw hf)
  | ref w=>
   simp only [Qv,Bool.and_eq_true] at hw
   obtain ⟨y,ys,rfl,h1,h2⟩:=bd.cons_inv (show bd P E1 (inst OH w::pO i OH ds vs) us from h)
   exact .cons (VK.inst hk hw.1 h1) (bd.ya hz hk h2 hg.2 hw.2 hf)
  | bf t=>
   obtain ⟨y,ys,rfl,h1,h2⟩:=bd.cons_inv (show bd P E1 (H3 i v::pO (i+1) OH ds vs) us from h)
   refine .cons ?_ (bd.ya (i:=i+1) (j:=j+1) hz hk h2 hg.2 hw (OG.tail hf))
   have hv:∃ n es acc,v = .ts t .any n es acc:=by
    have hg1:kindOk (.slice t) v=true:=hg.1
    cases v <;> simp [kindOk] at hg1
    rename_i t' m n es acc
    cases m <;> simp at hg1
    subst hg1; exact ⟨_,_,_,rfl⟩
   obtain ⟨n,es,acc,rfl⟩:=hv
   exact VK.swap hz (show VK P E1 (.ts t (.bf i) n es acc) y from h1) fun sz a cap _ hm=>by
    refine ⟨hm.1,hm.2.imp id ?_⟩
    rintro ⟨b,r,g,q1,q2,q3,q4,q5⟩
    exact ⟨b,r,g,q1,by rw [hz]; exact q2,q3,(hf 0 (by simp [qd])).1 g q4,q5⟩
  | arr t=>
   obtain ⟨y,ys,rfl,h1,h2⟩:=bd.cons_inv (show bd P E1 (LY i v::pO (i+1) OH ds vs) us from h)
   refine .cons ?_ (bd.ya (i:=i+1) (j:=j+1) hz hk h2 hg.2 hw (OG.tail hf))
   have hv:∃ n es acc,v = .ts t .any n es acc:=by
    have hg1:kindOk (.slice t) v=true:=hg.1
    cases v <;> simp [kindOk] at hg1
    rename_i t' m n es acc
    cases m <;> simp at hg1
    subst hg1; exact ⟨_,_,_,rfl⟩
   obtain ⟨n,es,acc,rfl⟩:=hv
   show VK P E2 (.al t j 0 n) y
   rcases (show VK P E1 (.al t i 0 n) y from h1).vc with ⟨q1,q2,q3⟩ | ⟨x,L,N,c,q1,q2⟩
   ·exact .MW (.inl ⟨q1,q2,q3⟩)
   ·exact .MW (.inr ⟨x,L,N,c,(hf 0 (by simp [qd])).2 _ q1,q2⟩)
theorem ahS (j:Nat) (bs:List Nat) (d:VD) (cs:List KV):Vk j bs d (.agg cs) = .agg (pO j bs d.ks cs):=rfl
theorem abI {j:Nat} {bs:List Nat} {d:VD} {v:KV} (h:∀ cs,v≠.agg cs) {c:CD} (hc:d.ks = [c]) : [Vk j bs d v] = pO j bs d.ks [v]:=by
 have e:Vk j bs d v=(match d.ks with | [.bf _]=>H3 j v | [.arr _]=>LY j v | [.ref w]=>inst bs w | _=>v):=by
  cases v <;> first | rfl | exact absurd rfl (h _)
 rw [e,hc]
 cases c <;> rfl
theorem VK.alD {E1 E2:Env} (hz:E2.z=E1.z) {nr:Nat} {OH bs2:List Nat} (hk:Rk E1 E2 nr OH bs2) {d:VD} {v:KV} {u:Value} {i j:Nat} (h:VK P E1 (Vk i OH d v) u) (hg:vd d v=true) (hw:Qv nr d.ks=true) (hf:OG E1 E2 i j (qd d.ks)):VK P E2 (Vk j bs2 d v) u:=by
 rcases wK hg with ⟨cs,rfl,_,h2⟩ | ⟨h0,_,c,h1,h2⟩
 ·rw [ahS] at h ⊢
  obtain ⟨l,rfl,k⟩:=h.mh
  exact .oX (bd.ya hz hk k h2 hw hf)
 ·have k:bd P E1 (pO i OH d.ks [v]) [u]:=by rw [← abI h0 h1]; exact .cons h .nil
  have k2:=bd.ya hz hk k (by rw [h1]; simp [dN,h2]) hw hf
  rw [← abI h0 h1] at k2
  obtain ⟨y,e,k3⟩:=k2.eX
  simp at e; subst e; exact k3
def tA (P:Program) (E1 E2:Env):List (Nat×KV)→List (Nat×KV)→Prop
 | [],[]=>True
 | x::xs,y::ys=>x.1=y.1∧(∀ u,VK P E1 x.2 u→VK P E2 y.2 u)∧tA P E1 E2 xs ys
 | _,_=>False
theorem tA.append {E1 E2:Env} : ∀ {a b c d:List (Nat×KV)},tA P E1 E2 a b→tA P E1 E2 c d→tA P E1 E2 (a++c) (b++d)
 | [],[],_,_,_,h=>h
 | [],_::_,_,_,h,_=>h.elim
 | _::_,[],_,_,h,_=>h.elim
 | _::_,_::_,_,_,h,k=>⟨h.1,h.2.1,tA.append h.2.2 k⟩
theorem tA.get {E1 E2:Env} : ∀ {a b:List (Nat×KV)},tA P E1 E2 a b→∀ i,((lL a).get i=none∧(lL b).get i=none)∨∃ x y,(lL a).get i=some x∧(lL b).get i=some y∧∀ u,VK P E1 x u→VK P E2 y u
 | [],[],_,i=>.inl (by simp [lL])
 | [],_::_,h,_=>h.elim
 | _::_,[],h,_=>h.elim
 | x::a,y::b,h,i=>by
  rw [lL,lL,Trie.n8,Trie.n8]
  by_cases e:i=x.1
  ·rw [if_pos e,if_pos (by rw [e,h.1])]
   exact .inr ⟨_,_,rfl,rfl,h.2.1⟩
  ·rw [if_neg e,if_neg (by rw [← h.1]; exact e)]
   exact tA.get h.2.2 i
theorem kT.ajm {E1 E2:Env} {ρ:aW} {l m:List (Nat×KV)} {N:Nat} {a:Act} (h:kT P E1 ρ (K.lL l) N a) (hp:tA P E1 E2 l m):kT P E2 ρ (K.lL m) N a:=by
 refine ⟨h.size,fun i=>?_,fun i hi=>?_⟩
 ·rcases hp.get i with ⟨_,h2⟩ | ⟨x,y,h1,h2,h3⟩
  ·rw [h2]; exact .aw
  ·have:=h.val i
   rw [h1] at this
   rw [h2]
   obtain ⟨u,k1,k2⟩:=this
   exact ⟨u,h3 u k1,k2⟩
 ·rcases hp.get i with ⟨_,h2⟩ | ⟨x,y,h1,h2,h3⟩
  ·exact h2
  ·have:=h.none i hi
   rw [h1] at this; simp at this
def wsV (nr:Nat):List (Tmp×VD)→Bool
 | []=>true
 | p::ps=>Qv nr p.2.ks&&wsV nr ps
theorem ahc {A:ax} {t:bA} {nr:Nat} {bs:List Nat} : ∀ {ps:List (Tmp×VD)},Kp nr bs t ps=true→il ps (o8 P t A ps)=true→wsV nr ps=true
 | [],_,_=>rfl
 | p::ps,h,hg=>by
  simp only [Kp,Bool.and_eq_true] at h
  simp only [o8,il,Bool.and_eq_true] at hg
  simp only [wsV,Bool.and_eq_true]
  exact ⟨Dl h.1 (Ee hg.1),ahc h.2 hg.2⟩
theorem abJ {E1 E2:Env} (hz:E2.z=E1.z) {nr:Nat} {OH bs2:List Nat} (hk:Rk E1 E2 nr OH bs2):∀ {ps:List (Tmp×VD)} {vs:List KV} {i j:Nat},il ps vs=true→wsV nr ps=true→OG E1 E2 i j (nf ps)→tA P E1 E2 (Vl i OH ps vs) (Vl j bs2 ps vs)
 | [],[],_,_,_,_,_=>trivial
 | [],_::_,_,_,hg,_,_=>by simp [il] at hg
 | _::_,[],_,_,hg,_,_=>by simp [il] at hg
 | p::ps,v::vs,i,j,hg,hw,hf=>by
  simp only [wsV,Bool.and_eq_true] at hw
  simp only [il,Bool.and_eq_true] at hg
  have hf:OG E1 E2 i j (qd p.2.ks+nf ps):=hf
  exact ⟨rfl,fun u h=>h.alD hz hk hg.1 hw.1 (hf.left (Nat.le_add_right _ _)),abJ hz hk hg.2 hw.2 hf.right⟩
theorem aeK {E1 E2:Env} {ids bs:List Nat} : ∀ {ps:List (Tmp×Nat×Nat)},(∀ p∈ps,∀ x,E1.κ (ids.getD p.2.1 0)=some x→E2.κ (bs.getD p.2.1 0)=some x)→tA P E1 E2 (x7 ids ps) (x7 bs ps)
 | [],_=>trivial
 | p::ps,h=>⟨rfl,fun u k=>by
   obtain ⟨x,h1,rfl⟩:=(show VK P E1 (.ptr (ids.getD p.2.1 0) p.2.2) u from k).iL
   exact .xp (h p (by simp) x h1),aeK fun q hq=>h q (by simp [hq])⟩
end Go.K
end
section
namespace Go.K
open Go Go.aE
variable {P:Program} {E:Env}
theorem CJ:∀ (ps:List (Tmp×List CD×Nat)) (j k:Nat),x9 j ps k=j+x9 0 ps k
 | [],j,k=>by simp [x9]
 | _::_,j,0=>by simp [x9]
 | p::ps,j,k+1=>by
  simp only [x9]
  rw [CJ ps (j+qd p.2.1) k,CJ ps (0+qd p.2.1) k]
  omega
theorem mem_row {S:aQ} {vs:List KV} {rs:List (List KV)} (h:rs.length=S.rows.length) {k:Nat} {p:Tmp×List CD×Nat} {r:List KV} (hp:S.rows[k]? = some p) (hr:rs[k]? = some r):(S.mem P vs rs).get k=some (.row (pO (x9 (S.nr+nf S.dX) S.rows k) S.ids p.2.1 r) p.2.2):=by
 have hk:k < S.nr:=(List.getElem?_eq_some_iff.1 hp).1
 rw [aQ.mem,Cn (by rw [nZ h]; exact hk)]
 have:=aha (A:=.empty) hp (show (S.Dg S.nr S.ids rs)[k]? = some _ from L1 hp hr)
 simpa [ax.empty] using this
theorem Qw {S:aQ} {vs:List KV} {rs:List (List KV)} (h:rs.length=S.rows.length) {i:Nat} {q:jt} (hq:(S.lens P vs rs)[i]? = some q):(S.mem P vs rs).get (S.nr+i)=some q:=by
 have:=Kq (A:=qe .empty S.rows (S.Dg S.nr S.ids rs)) hq
 rw [nZ h] at this
 exact this
def Env.up (E E1:Env) (nr nx:Nat):Env:={ κ:=E.κ,z:=E1.z,φ:=fun b=>if nx≤b then E1.φ (nr+(b - nx)) else E.φ b,α:=fun b=>if nx≤b then E1.α (nr+(b - nx)) else E.α b }
theorem Env.yM {E1:Env} {nr nx j:Nat} : (E.up E1 nr nx).φ (nx+j)=E1.φ (nr+j):=by
 simp only [Env.up]
 rw [if_pos (by omega),show nx+j - nx=j by omega]
theorem Env.yN {E1:Env} {nr nx b:Nat} (h:b < nx):(E.up E1 nr nx).φ b=E.φ b:=by
 simp only [Env.up]
 rw [if_neg (by omega)]
theorem Env.Gd {E1:Env} {nr nx j:Nat} : (E.up E1 nr nx).α (nx+j)=E1.α (nr+j):=by
 simp only [Env.up]
 rw [if_pos (by omega),show nx+j - nx=j by omega]
theorem Env.Ge {E1:Env} {nr nx b:Nat} (h:b < nx):(E.up E1 nr nx).α b=E.α b:=by
 simp only [Env.up]
 rw [if_neg (by omega)]
theorem fK.amu {A:ax} {B:St} (h:fK P E A B) {b x:Nat} (hx:E.κ b=some x) : ¬ AT A E B x:=by
 rintro (q | ⟨g,⟨c,v,y,L,N,cs,e,own,k,h1,h2,h3⟩,hm⟩)
 ·exact (h.ar.z x q).2 b hx
 ·by_cases yw:x=y
  ·subst yw
   exact (h.ar.z x ⟨c,v,L,N,h1,h2⟩).2 b hx
  ·exact ((h.ar.rV c v y L N cs e own g k h1 h2 h3).2.2 x hm yw).2.2 b hx
theorem abK {S:aQ} {t:bA} {A:ax} {B B1:St} {g:GR} {ρ mI:aW} {base N:Nat} {w w1:World} {a1:Act} {vs:List KV} {rs:List (List KV)} {E1:Env} (hG:dP P S t A g) (hk:fK P E A B)
  (ht:kT P E1 mI (S.tm S.nr S.ids vs) N a1) (hs:fK P E1 (S.mem P vs rs) B1) (vZ:Co base (E.sub A g.bs g.fs S.nr) (S.mem P g.vs g.rs) B ρ w E1 (S.mem P vs rs) B1 mI w1) (DN:∀ k,k < S.rows.length→E1.κ k=(E.sub A g.bs g.fs S.nr).κ k)
  (hv:il S.dX vs=true) (Mo:rs.length=S.rows.length) (hrg:∀ (k:Nat) p r,S.rows[k]? = some p→rs[k]? = some r→dN p.2.1 r=true) :
  kT P (E.up E1 S.nr A.next) mI (S.tm A.next g.bs vs) N a1∧Ev P base E A B ρ w (E.up E1 S.nr A.next) (S.back P g.bs g.fs vs rs A) B1 mI w1:=by
 have hle:E.le (E.up E1 S.nr A.next):=⟨fun b p e=>by rw [Env.Ge (hk.ar.lE b p e)]; exact e,fun _ _ e=>e,fun b r e=>vZ.z b r e,fun b q e=>by rw [Env.yN (hk.na b q e)]; exact e⟩
 have ajn:∀ (k b:Nat),g.bs[k]? = some b→E1.κ k=E.κ b:=fun k b hb=>by
  rw [DN k (by rw [← hG.YV]; exact (List.getElem?_eq_some_iff.1 hb).1)]
  simp [Env.sub,hb]
 have iW:(xA (nQ A g.bs S.rows (S.Dg A.next g.bs rs)) g.fs).next=A.next:=by rw [Ef,OD]
 have H0:∀ x,x < B.next→(∀ (k b:Nat),g.bs[k]? = some b→E.κ b≠some x)→¬ AT (S.mem P g.vs g.rs) (E.sub A g.bs g.fs S.nr) B x→B1.get x=B.get x:=fun x hx en ha=>vZ.mg x hx (fun k e=>by
  simp only [Env.sub,Option.bind_eq_some_iff] at e
  obtain ⟨b,h1,e⟩:=e
  exact en k b h1 e) ha
 have BJ:∀ f,f∈jG g.fs→∃ i:Nat,g.fs[i]? = some (some f)∧((∃ n sz,A.get f=some (.bf n sz))∨∃ v,A.get f=some (.arr v)):=by
  intro f hf
  obtain ⟨i,hi⟩:=List.getElem?_of_mem (uD.1 hf)
  have bU:i < (S.lens P g.vs g.rs).length:=by rw [hG.lens,← qD,← hG.fs]; exact (List.getElem?_eq_some_iff.1 hi).1
  obtain ⟨fi,_,h2,h3⟩:=hG.fact (List.getElem?_eq_getElem bU)
  rw [hi] at h2; simp at h2
  rcases h3 with ⟨n,sz,_,⟨h3,_⟩ | ⟨f',h3,h4⟩⟩ | ⟨T,v,_,⟨h3,_⟩ | ⟨f',m,N,es,acc,h3,h4,_⟩⟩
  ·rw [h3] at h2; simp at h2
  ·rw [h3] at h2; simp at h2; subst h2; exact ⟨i,hi,.inl ⟨_,_,h4⟩⟩
  ·rw [h3] at h2; simp at h2
  ·rw [h3] at h2; simp at h2; subst h2; exact ⟨i,hi,.inr ⟨_,h4⟩⟩
 have amv:∀ f v,f∈jG g.fs→A.get f=some v→(∃ n sz,v = .bf n sz)∨∃ u,v = .arr u:=by
  intro f v hf hv
  obtain ⟨_,_,⟨n,sz,h1⟩ | ⟨u,h1⟩⟩:=BJ f hf
  ·rw [hv] at h1; simp at h1; exact .inl ⟨n,sz,h1⟩
  ·rw [hv] at h1; simp at h1; exact .inr ⟨u,h1⟩
 have hrk:Rk E1 (E.up E1 S.nr A.next) S.rows.length S.ids g.bs:=fun j x hj e=>by
  have bU:j < g.bs.length:=by rw [hG.YV]; exact hj
  rw [List.getD_eq_getElem?_getD,Ga S j hj,Option.getD_some] at e
  rw [List.getD_eq_getElem?_getD,List.getElem?_eq_getElem bU,Option.getD_some]
  show E.κ _=some x
  rw [← ajn j _ (List.getElem?_eq_getElem bU)]; exact e
 have SK:∀ (k b:Nat),g.bs[k]? = some b→∃ (p:Tmp×List CD×Nat) (r:List KV) (x:Nat) (b8:List Value),S.rows[k]? = some p∧rs[k]? = some r∧E.κ b=some x∧B1.get x=some (.row b8 p.2.2 true none)∧bd P (E.up E1 S.nr A.next) (pO (x9 (A.next+nf S.dX) S.rows k) g.bs p.2.1 r) b8∧
   (xA (nQ A g.bs S.rows (S.Dg A.next g.bs rs)) g.fs).get b=some (.row (pO (x9 (A.next+nf S.dX) S.rows k) g.bs p.2.1 r) p.2.2)∧b ∉ jG g.fs:=by
  intro k b hb
  have bU:k < S.rows.length:=by rw [← hG.YV]; exact (List.getElem?_eq_some_iff.1 hb).1
  have hp:=List.getElem?_eq_getElem bU
  have hr:=List.getElem?_eq_getElem (show k < rs.length by rw [Mo]; exact bU)
  obtain ⟨b',cs,q1,q2,_⟩:=hG.row hp
  rw [hb] at q1; simp at q1; subst q1
  obtain ⟨x,b8,h1,h2,h3⟩:=hs.row k _ _ (mem_row Mo hp hr)
  have hnf:b ∉ jG g.fs:=fun hf=>by
   rcases amv b _ hf q2 with ⟨_,_,e⟩ | ⟨_,e⟩ <;> simp at e
  refine ⟨_,_,x,b8,hp,hr,by rw [← ajn k b hb]; exact h1,h2,?_,?_,hnf⟩
  ·have hws:Qv S.rows.length S.rows[k].2.1=true:=by
    obtain ⟨_,mf,_,_,JP,hc0,_,_⟩:=hG.row hp
    have:=OE hG.ala hp
    rw [hc0] at this
    exact Dl this JP
   refine bd.ya (E1:=E1) (E2:=E.up E1 S.nr A.next) rfl hrk h3 (hrg _ _ _ hp hr) hws fun m _=>⟨fun q e=>?_,fun q e=>?_⟩
   ·rw [CJ,show A.next+nf S.dX+x9 0 S.rows k+m=A.next+(nf S.dX+x9 0 S.rows k+m) by omega,Env.yM]
    rw [CJ,show S.nr+nf S.dX+x9 0 S.rows k+m=S.nr+(nf S.dX+x9 0 S.rows k+m) by omega] at e
    exact e
   ·rw [CJ,show A.next+nf S.dX+x9 0 S.rows k+m=A.next+(nf S.dX+x9 0 S.rows k+m) by omega,Env.Gd]
    rw [CJ,show S.nr+nf S.dX+x9 0 S.rows k+m=S.nr+(nf S.dX+x9 0 S.rows k+m) by omega] at e
    exact e
  ·rw [Dh,if_neg hnf]
   exact aeE hG.nodup hb hp (show (S.Dg A.next g.bs rs)[k]? = some _ from L1 hp hr)
 have zu:∀ b,b∈g.bs→∃ k:Nat,g.bs[k]? = some b:=fun b hb=>List.getElem?_of_mem hb
 have L5:∀ c q,(E.sub A g.bs g.fs S.nr).φ c=some q→∃ f n sz,f∈jG g.fs∧E.φ f=some q∧A.get f=some (.bf n sz):=by
  intro c q e
  simp only [Env.sub] at e
  split at e
  ·obtain ⟨f,h1,e⟩:=Option.bind_eq_some_iff.1 e
   obtain ⟨f',h2,e⟩:=Option.bind_eq_some_iff.1 e
   subst h2
   obtain ⟨e1,e2⟩:=L3 e
   obtain ⟨n,sz,e3⟩:=aeH e2
   exact ⟨f',n,sz,uD.2 (List.mem_of_getElem? h1),e1,e3⟩
  ·simp at e
 have hinv:∀ b o,(S.back P g.bs g.fs vs rs A).get b=some o→(b∈g.bs∧∃ cs e,o = .row cs e∧(xA (nQ A g.bs S.rows (S.Dg A.next g.bs rs)) g.fs).get b=some (.row cs e))∨(b ∉ g.bs∧b ∉ jG g.fs∧A.get b=some o)∨(b∈jG g.fs∧o = .dead)∨∃ i q,b=A.next+i∧(S.lens P vs rs)[i]? = some q∧o=q:=by
  intro b o hb
  rcases Qt hb with hb | ⟨i,q,h1,h2,h3⟩
  ·by_cases YW:b∈g.bs
   ·obtain ⟨k,vU⟩:=zu b YW
    obtain ⟨p,r,x,b8,h1,h2,h3,h4,h5,h6,h7⟩:=SK k b vU
    rw [h6] at hb; simp at hb
    exact .inl ⟨YW,_,_,hb.symm,h6⟩
   ·rw [Dh] at hb
    split at hb
    ·rename_i hf; simp at hb; exact .inr (.inr (.inl ⟨hf,hb.symm⟩))
    ·rename_i hf
     rw [Kr YW] at hb
     exact .inr (.inl ⟨YW,hf,hb⟩)
  ·rw [iW] at h1
   exact .inr (.inr (.inr ⟨i,q,h1,h2,h3⟩))
 have hnewobj:∀ i q,(S.lens P vs rs)[i]? = some q→(S.mem P vs rs).get (S.nr+i)=some q:=fun i q hq=>Qw Mo hq
 have ahd:∀ (i:Nat) (q:jt),(S.lens P vs rs)[i]? = some q→(∃ n sz,q=jt.bf n sz)∨∃ v,q=jt.arr v:=by
  have one:∀ (ds:List CD) (vs:List KV),∀ q∈ov P ds vs,(∃ n sz,q = .bf n sz)∨∃ v,q = .arr v:=by
   intro ds
   induction ds with
   | nil=>intro vs q hq; simp [ov] at hq
   | cons d ds ih=>
    intro vs q hq
    cases vs with
    | nil=>cases d <;> simp [ov] at hq
    | cons v vs=>
     cases d <;> simp only [ov,List.mem_cons] at hq
     ·exact ih vs q hq
     ·exact ih vs q hq
     ·rcases hq with rfl | hq
      ·exact .inl ⟨_,_,rfl⟩
      ·exact ih vs q hq
     ·rcases hq with rfl | hq
      ·exact .inr ⟨_,rfl⟩
      ·exact ih vs q hq
     ·exact ih vs q hq
  have two:∀ (ps:List (Tmp×VD)) (vs:List KV),∀ q∈vY P ps vs,(∃ n sz,q = .bf n sz)∨∃ v,q = .arr v:=by
   intro ps
   induction ps with
   | nil=>intro vs q hq; simp [vY] at hq
   | cons p ps ih=>
    intro vs q hq
    cases vs with
    | nil=>simp [vY] at hq
    | cons v vs=>
     simp only [vY,List.mem_append] at hq
     exact hq.elim (one _ _ q) (ih vs q)
  have three:∀ (ps:List (Tmp×List CD×Nat)) (rs:List (List KV)),∀ q∈xz P ps rs,(∃ n sz,q = .bf n sz)∨∃ v,q = .arr v:=by
   intro ps
   induction ps with
   | nil=>intro vs q hq; simp [xz] at hq
   | cons p ps ih=>
    intro vs q hq
    cases vs with
    | nil=>simp [xz] at hq
    | cons v vs=>
     simp only [xz,List.mem_append] at hq
     exact hq.elim (one _ _ q) (ih vs q)
  intro i q hq
  have:=List.mem_of_getElem? hq
  simp only [aQ.lens,List.mem_append] at this
  exact this.elim (two _ _ q) (three _ _ q)
 have uy:∀ b v,(S.back P g.bs g.fs vs rs A).get b=some (.arr v)→(b < A.next∧b ∉ jG g.fs∧A.get b=some (.arr v)∧(E.up E1 S.nr A.next).α b=E.α b)∨∃ i,b=A.next+i∧(S.mem P vs rs).get (S.nr+i)=some (.arr v)∧(E.up E1 S.nr A.next).α b=E1.α (S.nr+i):=by
  intro b v hb
  rcases hinv b _ hb with ⟨_,_,_,e,_⟩ | ⟨_,Jw,h1⟩ | ⟨_,e⟩ | ⟨i,q,rfl,h2,e⟩
  ·simp at e
  ·exact .inl ⟨hk.live b _ h1,Jw,h1,Env.Ge (hk.live b _ h1)⟩
  ·simp at e
  ·subst e; exact .inr ⟨i,rfl,Qw Mo h2,Env.Gd⟩
 have alb:∀ {b v x L N},b ∉ jG g.fs→A.get b=some (.arr v)→E.α b=some (x,L,N)→¬ AR (S.mem P g.vs g.rs) (E.sub A g.bs g.fs S.nr) x:=by
  intro b v x L N Jw hb hx q
  obtain ⟨f,u,L',N',h1,h2,h3⟩:=hG.AR q
  have:=hk.ar.inj b f v u x L N L' N' hb h2 hx h3
  subst this
  exact Jw h1
 have amw:∀ {b v x L N},b ∉ jG g.fs→A.get b=some (.arr v)→E.α b=some (x,L,N)→¬ AT (S.mem P g.vs g.rs) (E.sub A g.bs g.fs S.nr) B x:=by
  intro b v x L N Jw hb hx q
  rcases q with q | ⟨bf,q,hm⟩
  ·exact alb Jw hb hx q
  ·obtain ⟨f,u,y,L',N',cs,e,own,m,h1,h2,h3,h4⟩:=hG.AF q
   by_cases yw:x=y
   ·subst yw
    have:=hk.ar.inj b f v u x L N L' N' hb h2 hx h3
    subst this
    exact Jw h1
   ·exact ((hk.ar.rV f u y L' N' cs e own bf m h2 h3 h4).2.2 x hm yw).2.1 ⟨b,v,L,N,hb,hx⟩
 have Gf:∀ {b v x L N},b ∉ jG g.fs→A.get b=some (.arr v)→E.α b=some (x,L,N)→B1.get x=B.get x:=by
  intro b v x L N Jw hb hx
  exact H0 x (hk.ar.gV b x L N hx) (fun k c _ e=>(hk.ar.z x ⟨b,v,L,N,hb,hx⟩).2 c e) (amw Jw hb hx)
 have ajo:∀ {i v x L N},(S.mem P vs rs).get (S.nr+i)=some (.arr v)→E1.α (S.nr+i)=some (x,L,N)→(∃ f u L' N',f∈jG g.fs∧A.get f=some (.arr u)∧E.α f=some (x,L',N'))∨B.next≤x:=by
  intro i v x L N h1 h2
  rcases vZ.mQ x ⟨_,v,L,N,h1,h2⟩ with q | q
  ·obtain ⟨f,u,L',N',q1,q2,q3⟩:=hG.AR q
   exact .inl ⟨f,u,L',N',q1,q2,q3⟩
  ·exact .inr q
 have ajp:∀ x,AR (S.back P g.bs g.fs vs rs A) (E.up E1 S.nr A.next) x→AR A E x∨AR (S.mem P vs rs) E1 x:=by
  rintro x ⟨b,v,L,N,h1,h2⟩
  rcases uy b v h1 with ⟨q1,q2,q3,q4⟩ | ⟨i,rfl,q2,q3⟩
  ·rw [q4] at h2; exact .inl ⟨b,v,L,N,q3,h2⟩
  ·rw [q3] at h2; exact .inr ⟨_,v,L,N,q2,h2⟩
 have ajq:∀ q,AF (S.back P g.bs g.fs vs rs A) (E.up E1 S.nr A.next) B1 q→AF A E B q∨AF (S.mem P vs rs) E1 B1 q:=by
  rintro q ⟨b,v,x,L,N,cs,e,own,k,h1,h2,h3⟩
  rcases uy b v h1 with ⟨q1,q2,q3,q4⟩ | ⟨i,rfl,q2,q3⟩
  ·rw [q4] at h2
   rw [Gf q2 q3 h2] at h3
   exact .inl ⟨b,v,x,L,N,cs,e,own,k,q3,h2,h3⟩
  ·rw [q3] at h2; exact .inr ⟨_,v,x,L,N,cs,e,own,k,q2,h2,h3⟩
 have acS:∀ x,AR (S.back P g.bs g.fs vs rs A) (E.up E1 S.nr A.next) x→AR A E x∨B.next≤x:=fun x q=>by
  rcases ajp x q with q | q
  ·exact .inl q
  ·exact (vZ.mQ x q).imp hG.ar id
 have ahe:∀ q,AF (S.back P g.bs g.fs vs rs A) (E.up E1 S.nr A.next) B1 q→AF A E B q∨B.next≤q:=fun x q=>by
  rcases ajq x q with q | q
  ·exact .inl q
  ·exact (vZ.nb x q).imp hG.af id
 have ajr:∀ x,x < B.next→E.z x=none→¬ AR (S.mem P g.vs g.rs) (E.sub A g.bs g.fs S.nr) x→E1.z x=none:=fun x hx h1 h2=>by
  cases hz:E1.z x with
  | none=>rfl
  | some r=>
   rcases vZ.sR x r hz with e | e | e
   ·have e:E.z x=some r:=e
    rw [h1] at e; simp at e
   ·exact (h2 e).elim
   ·omega
 have alc:∀ {b v x L N cs e own q k},b ∉ jG g.fs→A.get b=some (.arr v)→E.α b=some (x,L,N)→B.get x=some (.row cs e own (some (q,k)))→¬ AF (S.mem P g.vs g.rs) (E.sub A g.bs g.fs S.nr) B q:=by
  intro b v x L N cs e own q k Jw hb hx jz r
  obtain ⟨f,u,y,L',N',b8,e',o6,m,h1,h2,h3,h4⟩:=hG.AF r
  have:=hk.ar.tu b f v u x y L N L' N' cs e own q k b8 e' o6 m hb h2 hx h3 jz h4
  subst this
  exact Jw h1
 have qC:HC P (E.up E1 S.nr A.next) (S.back P g.bs g.fs vs rs A) B1:=by
  refine ⟨?_,?_,?_,?_,?_,?_,?_,?_,?_,?_⟩
  ·intro b v hb
   rcases uy b v hb with ⟨q1,q2,q3,q4⟩ | ⟨i,rfl,q2,q3⟩
   ·obtain ⟨T,N,es,acc,h1,h2,h3,h4⟩:=hk.ar.arr b v q3
    refine ⟨T,N,es,acc,h1,h2,h3,?_⟩
    rcases h4 with ⟨h4,h5⟩ | ⟨x,cs,bQ,bq,h4,h5,h6,h7⟩
    ·exact .inl ⟨h4,by rw [q4]; exact h5⟩
    ·exact .inr ⟨x,cs,bQ,bq,by rw [q4]; exact h4,by rw [Gf q2 q3 h4]; exact h5,h6.mono hle,h7⟩
   ·obtain ⟨T,N,es,acc,h1,h2,h3,h4⟩:=hs.ar.arr _ v q2
    refine ⟨T,N,es,acc,h1,h2,h3,?_⟩
    rcases h4 with ⟨h4,h5⟩ | ⟨x,cs,bQ,bq,h4,h5,h6,h7⟩
    ·exact .inl ⟨h4,by rw [q3]; exact h5⟩
    ·exact .inr ⟨x,cs,bQ,bq,by rw [q3]; exact h4,h5,bd.zEs (E:=E1) (E0:=E.up E1 S.nr A.next) rfl h6 h2.typed,h7⟩
  ·intro b v hb
   rcases hinv b _ hb with ⟨_,_,_,e,_⟩ | ⟨_,_,h1⟩ | ⟨_,e⟩ | ⟨i,q,_,h2,e⟩
   ·simp at e
   ·obtain ⟨T,N,es,acc,h2,h3,h4,h5⟩:=hk.ar.jH b v h1
    have qa:(E.up E1 S.nr A.next).α b=E.α b:=Env.Ge (hk.live b _ h1)
    refine ⟨T,N,es,acc,h2,h3,h4,?_⟩
    rcases h5 with ⟨h5,h6⟩ | ⟨x,r,bq,h5,h6,h7,h8,h9⟩
    ·exact .inl ⟨h5,by rw [qa]; exact h6⟩
    ·exact .inr ⟨x,r,bq,by rw [qa]; exact h5,vZ.z x r h6,h7,h8.mono hle,h9⟩
   ·simp at e
   ·rcases ahd i q h2 with ⟨_,_,e2⟩ | ⟨_,e2⟩ <;> rw [← e] at e2 <;> simp at e2
  ·rintro x ⟨b,v,L,N,h1,h2⟩
   rcases uy b v h1 with ⟨q1,q2,q3,q4⟩ | ⟨i,rfl,q2,q3⟩
   ·rw [q4] at h2
    obtain ⟨h3,h4⟩:=hk.ar.z x ⟨b,v,L,N,q3,h2⟩
    exact ⟨ajr x (hk.ar.gV b x L N h2) h3 (alb q2 q3 h2),h4⟩
   ·rw [q3] at h2
    refine ⟨(hs.ar.z x ⟨_,v,L,N,q2,h2⟩).1,fun c e=>?_⟩
    rcases vZ.mQ x ⟨_,v,L,N,q2,h2⟩ with q | q
    ·exact (hk.ar.z x (hG.ar q)).2 c e
    ·have:=hk.gV c x e; omega
  ·intro b c v u x L N L' N' hb hc e1 e2
   have C7:∀ {b v c u L N L' N'},b ∉ jG g.fs→A.get b=some (.arr v)→E.α b=some (x,L,N)→(S.mem P vs rs).get (S.nr+c)=some (.arr u)→E1.α (S.nr+c)=some (x,L',N')→False:=by
    intro b v c u L N L' N' h1 h2 h3 h4 h5
    rcases ajo h4 h5 with ⟨f,u',L2,N2,k1,k2,k3⟩ | k
    ·have:=hk.ar.inj b f v u' x L N L2 N2 h2 k2 h3 k3
     subst this
     exact h1 k1
    ·have:=hk.ar.gV b x L N h3; omega
   rcases uy b v hb with ⟨q1,q2,q3,q4⟩ | ⟨i,rfl,q2,q3⟩ <;> rcases uy c u hc with ⟨r1,r2,r3,r4⟩ | ⟨j,rfl,r2,r3⟩
   ·rw [q4] at e1; rw [r4] at e2
    exact hk.ar.inj b c v u x L N L' N' q3 r3 e1 e2
   ·rw [q4] at e1; rw [r3] at e2
    exact (C7 q2 q3 e1 r2 e2).elim
   ·rw [q3] at e1; rw [r4] at e2
    exact (C7 r2 r3 e2 q2 e1).elim
   ·rw [q3] at e1; rw [r3] at e2
    have:=hs.ar.inj _ _ v u x L N L' N' q2 r2 e1 e2
    omega
  ·intro b c v u x y L N L' N' cs e own q k b8 e' o6 k' hb hc e1 e2 w1 w2
   have C7:∀ {b v c u x y L N L' N' cs e own k b8 e' o6 k'},b ∉ jG g.fs→A.get b=some (.arr v)→E.α b=some (x,L,N)→(S.mem P vs rs).get (S.nr+c)=some (.arr u)→E1.α (S.nr+c)=some (y,L',N')→B1.get x=some (.row cs e own (some (q,k)))→B1.get y=some (.row b8 e' o6 (some (q,k')))→False:=by
    intro b v c u x y L N L' N' cs e own k b8 e' o6 k' h1 h2 h3 h4 h5 w1 w2
    rw [Gf h1 h2 h3] at w1
    rcases vZ.nb q ⟨_,u,y,L',N',b8,e',o6,k',h4,h5,w2⟩ with r | r
    ·exact alc h1 h2 h3 w1 r
    ·have:=(hk.ar.rV b v x L N cs e own q k h2 h3 w1).1; omega
   rcases uy b v hb with ⟨q1,q2,q3,q4⟩ | ⟨i,rfl,q2,q3⟩ <;> rcases uy c u hc with ⟨r1,r2,r3,r4⟩ | ⟨j,rfl,r2,r3⟩
   ·rw [q4] at e1; rw [r4] at e2
    rw [Gf q2 q3 e1] at w1; rw [Gf r2 r3 e2] at w2
    exact hk.ar.tu b c v u x y L N L' N' cs e own q k b8 e' o6 k' q3 r3 e1 e2 w1 w2
   ·rw [q4] at e1; rw [r3] at e2
    exact (C7 q2 q3 e1 r2 e2 w1 w2).elim
   ·rw [q3] at e1; rw [r4] at e2
    exact (C7 r2 r3 e2 q2 e1 w2 w1).elim
   ·rw [q3] at e1; rw [r3] at e2
    have:=hs.ar.tu _ _ v u x y L N L' N' cs e own q k b8 e' o6 k' q2 r2 e1 e2 w1 w2
    omega
  ·intro b x hb
   have hb:E.κ b=some x:=hb
   rw [Env.Ge (hk.lE b x hb)]
   exact hk.ar.X6 b x hb
  ·intro b p hb
   rw [aQ.back,gG,iW]
   by_cases h1:b < A.next
   ·omega
   ·obtain ⟨i,rfl⟩:=Nat.exists_eq_add_of_le (Nat.le_of_not_lt h1)
    rw [Env.Gd] at hb
    have:=hs.ar.lE _ _ hb
    rw [aQ.mem,gG,nZ Mo] at this
    omega
  ·intro b x L N hb
   by_cases h1:b < A.next
   ·rw [Env.Ge h1] at hb
    have:=hk.ar.gV b x L N hb; have:=vZ.fN.next; omega
   ·obtain ⟨i,rfl⟩:=Nat.exists_eq_add_of_le (Nat.le_of_not_lt h1)
    rw [Env.Gd] at hb
    exact hs.ar.gV _ _ _ _ hb
  ·intro b v x L N cs e own q k hb hx jz
   rcases uy b v hb with ⟨q1,q2,q3,q4⟩ | ⟨i,rfl,q2,q3⟩
   ·rw [q4] at hx
    have af8:=jz
    rw [Gf q2 q3 hx] at af8
    obtain ⟨h1,h2,h3⟩:=hk.ar.rV b v x L N cs e own q k q3 hx af8
    have hm:B1.members q=B.members q:=vZ.pN q h1 (fun c e=>by
     obtain ⟨f',_,_,_,k2,_⟩:=L5 c q e
     exact h2 f' k2) (alc q2 q3 hx af8)
    refine ⟨by have:=vZ.fN.next; omega,fun f e=>?_,fun y hy en=>?_⟩
    ·by_cases hf:f < A.next
     ·rw [Env.yN hf] at e; exact h2 f e
     ·obtain ⟨j,rfl⟩:=Nat.exists_eq_add_of_le (Nat.le_of_not_lt hf)
      rw [Env.yM] at e
      rcases vZ.sS _ _ e with ⟨c,e⟩ | e
      ·obtain ⟨f',_,_,_,k2,_⟩:=L5 c q e
       exact h2 f' k2
      ·omega
    ·rw [hm] at hy
     obtain ⟨h4,h5,h6⟩:=h3 y hy en
     have bU:=hk.mem q y hy
     refine ⟨ajr y bU h4 fun r=>h5 (hG.ar r),fun r=>?_,h6⟩
     rcases acS y r with r | r
     ·exact h5 r
     ·omega
   ·rw [q3] at hx
    obtain ⟨h1,h2,h3⟩:=hs.ar.rV _ v x L N cs e own q k q2 hx jz
    have yz:=vZ.nb q ⟨_,v,x,L,N,cs,e,own,k,q2,hx,jz⟩
    refine ⟨h1,fun f e=>?_,fun y hy en=>?_⟩
    ·by_cases hf:f < A.next
     ·rw [Env.yN hf] at e
      rcases yz with r | r
      ·obtain ⟨f0,u,x0,L0,N0,mf,e0,ajs,m,k1,k2,k3,k4⟩:=hG.AF r
       exact (hk.ar.rV f0 u x0 L0 N0 mf e0 ajs q m k2 k3 k4).2.1 f e
      ·have:=hk.kd f q e; omega
     ·obtain ⟨j,rfl⟩:=Nat.exists_eq_add_of_le (Nat.le_of_not_lt hf)
      rw [Env.yM] at e
      exact h2 _ e
    ·obtain ⟨h4,h5,h6⟩:=h3 y hy en
     have A8:y∈B.members q→(∀ c,c ∉ jG g.fs→∀ v' L' N',A.get c=some (.arr v')→E.α c≠some (y,L',N'))∧∀ c,E.κ c≠some y:=by
      intro hm
      rcases yz with r | r
      ·obtain ⟨f0,u,x0,L0,N0,mf,e0,ajs,m,k1,k2,k3,k4⟩:=hG.AF r
       by_cases hy0:y=x0
       ·subst hy0
        refine ⟨fun c hc v' L' N' p1 p2=>?_,(hk.ar.z y ⟨f0,u,L0,N0,k2,k3⟩).2⟩
        have:=hk.ar.inj c f0 v' u y L' N' L0 N0 p1 k2 p2 k3
        subst this
        exact hc k1
       ·obtain ⟨_,p5,p6⟩:=(hk.ar.rV f0 u x0 L0 N0 mf e0 ajs q m k2 k3 k4).2.2 y hm hy0
        exact ⟨fun c _ v' L' N' p1 p2=>p5 ⟨c,v',L',N',p1,p2⟩,p6⟩
      ·rw [hk.fresh q r] at hm; simp at hm
     refine ⟨h4,?_,fun c e=>?_⟩
     ·rintro ⟨c,v',L',N',r1,r2⟩
      rcases uy c v' r1 with ⟨p1,p2,p3,p4⟩ | ⟨j,rfl,p2,p3⟩
      ·rw [p4] at r2
       rcases vZ.uv q y hy with hm | hm
       ·exact (A8 hm).1 c p2 v' L' N' p3 r2
       ·have:=hk.ar.gV c y L' N' r2; omega
      ·rw [p3] at r2
       exact h5 ⟨_,v',L',N',p2,r2⟩
     ·have e:E.κ c=some y:=e
      rcases vZ.uv q y hy with hm | hm
      ·exact (A8 hm).2 c e
      ·have:=hk.gV c y e; omega
  ·intro b v hb
   rw [aQ.back,gG,iW]
   rcases uy b v hb with ⟨q1,q2,q3,q4⟩ | ⟨i,rfl,q2,q3⟩
   ·obtain ⟨k1,k2⟩:=hk.ar.nk b v q3
    exact ⟨by omega,k2⟩
   ·refine ⟨?_,?_⟩
    ·have:=hs.live _ _ q2
     rw [aQ.mem,gG,nZ Mo] at this
     omega
    ·show E.κ (A.next+i)=none
     cases hq:E.κ (A.next+i) with
     | none=>rfl
     | some x=>have:=hk.lE _ x hq; omega
 refine ⟨?_,⟨⟨?_,?_,hs.z,?_,hk.inj,?_,?_,?_,?_,?_,hs.nm,?_,hs.fresh,hs.mem,?_⟩,vZ.fN,hle,?_,?_,fun _ _ e=>.inl e,?_,?_,?_,?_,?_,vZ.uv,?_,vZ.rows⟩⟩
 ·refine kT.ajm ht (tA.append (abJ (E1:=E1) (E2:=E.up E1 S.nr A.next) rfl hrk hv (ahc hG.ak9 (hG.vs ▸ hG.dX)) fun m _=>⟨fun q e=>by rw [Env.yM]; exact e,fun q e=>by rw [Env.Gd]; exact e⟩) (aeK fun p hp x e=>?_))
  obtain ⟨b,_,h2⟩:=Kt hG.Vj p hp
  have bU:p.2.1 < S.rows.length:=by rw [← hG.YV]; exact (List.getElem?_eq_some_iff.1 h2).1
  rw [List.getD_eq_getElem?_getD,Ga S _ bU] at e
  rw [List.getD_eq_getElem?_getD,h2]
  have e:E1.κ p.2.1=some x:=e
  rw [ajn _ _ h2] at e
  exact e
 ·intro b cs bW hb
  rcases hinv b _ hb with ⟨YW,_,_,e,h1⟩ | ⟨YW,_,h1⟩ | ⟨_,e⟩ | ⟨i,q,_,hq,e⟩
  ·obtain ⟨k,vU⟩:=zu b YW
   obtain ⟨p,r,x,b8,q1,q2,q3,q4,q5,q6,q7⟩:=SK k b vU
   rw [h1] at q6
   simp only [jt.row.injEq] at e
   obtain ⟨rfl,rfl⟩:=e
   simp only [Option.some.injEq,jt.row.injEq] at q6
   obtain ⟨rfl,rfl⟩:=q6
   exact ⟨x,b8,q3,q4,q5⟩
  ·obtain ⟨x,c,q1,q2,q3⟩:=hk.row b cs bW h1
   refine ⟨x,c,q1,?_,q3.mono hle⟩
   rw [H0 x (hk.gV b x q1) (fun k b' hb' e=>?_) fun q=>hk.amu q1 (hG.at q)]
   ·exact q2
   ·have:=hk.inj _ _ _ q1 e
    subst this
    exact YW (List.mem_of_getElem? hb')
  ·simp at e
  ·rcases ahd i q hq with ⟨_,_,e2⟩ | ⟨_,e2⟩ <;> rw [← e] at e2 <;> simp at e2
 ·intro b top sz hb
  rcases hinv b _ hb with ⟨_,_,_,e,_⟩ | ⟨YW,Jw,h1⟩ | ⟨_,e⟩ | ⟨i,q,rfl,h2,e⟩
  ·simp at e
  ·rcases hk.bf b top sz h1 with ⟨h2,h3⟩ | ⟨q,h2,h3,h4⟩
   ·exact .inl ⟨h2,by rw [Env.yN (hk.live b _ h1)]; exact h3⟩
   ·have hq:=hk.kd b q h2
    refine .inr ⟨q,by rw [Env.yN (hk.live b _ h1)]; exact h2,h3,fun x hx cs e own f k jz=>?_⟩
    have hmq:B1.members q=B.members q:=vZ.pN q hq (fun c e=>by
     obtain ⟨f',_,_,h5,h6,h7⟩:=L5 c q e
     have:=hk.jJ b f' q _ _ _ _ h1 h7 h2 h6
     subst this
     exact Jw h5) fun k=>by
      obtain ⟨c,v,y,L,N,cs,e,own,m,h5,h6,h7⟩:=hG.af k
      exact (hk.ar.rV c v y L N cs e own q m h5 h6 h7).2.1 b h2
    rw [hmq] at hx
    obtain ⟨mf,q1,q2⟩:=vZ.rows x (hk.mem q x hx) _ _ _ _ jz
    obtain ⟨q3,q4⟩:=h4 x hx mf e own f k q1
    exact ⟨q3,by rw [← q2]; exact q4⟩
  ·simp at e
  ·subst e
   have:=hs.bf _ _ _ (Qw Mo h2)
   rw [Env.yM]
   exact this
 ·intro b x hb
  have hx:=hk.gV b x hb
  show E1.z x=none
  cases hz:E1.z x with
  | none=>rfl
  | some r=>
   rcases vZ.sR x r hz with e | e | e
   ·have e:E.z x=some r:=e
    rw [hk.apart b x hb] at e; simp at e
   ·exact absurd hb ((hk.ar.z x (hG.ar e)).2 b)
   ·omega
 ·intro b c q tb sb tc sc hb hc e1 e2
  have key:∀ {b tb sb},(S.back P g.bs g.fs vs rs A).get b=some (.bf tb sb)→(b < A.next∧b ∉ jG g.fs∧A.get b=some (.bf tb sb))∨∃ i,b=A.next+i∧(S.mem P vs rs).get (S.nr+i)=some (.bf tb sb):=by
   intro b tb sb hb
   rcases hinv b _ hb with ⟨_,_,_,e,_⟩ | ⟨_,Jw,h1⟩ | ⟨_,e⟩ | ⟨i,q,rfl,h2,e⟩
   ·simp at e
   ·exact .inl ⟨hk.live b _ h1,Jw,h1⟩
   ·simp at e
   ·subst e
    exact .inr ⟨i,rfl,Qw Mo h2⟩
  have C7:∀ {b c tb sb i},b < A.next→b ∉ jG g.fs→A.get b=some (.bf tb sb)→c=A.next+i→E.φ b=some q→E1.φ (S.nr+i)=some q→False:=by
   intro b c tb sb i _ h2 h3 _ h5 h6
   rcases vZ.sS _ _ h6 with ⟨c',e⟩ | e
   ·obtain ⟨f',_,_,k1,k2,k3⟩:=L5 c' q e
    have:=hk.jJ b f' q _ _ _ _ h3 k3 h5 k2
    subst this
    exact h2 k1
   ·have:=hk.kd b q h5; omega
  rcases key hb with ⟨h1,h2,h3⟩ | ⟨i,rfl,h2⟩ <;> rcases key hc with ⟨k1,k2,k3⟩ | ⟨j,rfl,k2⟩
  ·rw [Env.yN h1] at e1; rw [Env.yN k1] at e2
   exact hk.jJ b c q _ _ _ _ h3 k3 e1 e2
  ·rw [Env.yN h1] at e1; rw [Env.yM] at e2
   exact (C7 h1 h2 h3 rfl e1 e2).elim
  ·rw [Env.yM] at e1; rw [Env.yN k1] at e2
   exact (C7 k1 k2 k3 rfl e2 e1).elim
  ·rw [Env.yM] at e1 e2
   have:=hs.jJ _ _ q _ _ _ _ h2 k2 e1 e2
   omega
 ·intro b x hb; have h1:=hk.lE b x hb; rw [aQ.back,gG,iW]; omega
 ·intro b q hb
  rw [aQ.back,gG,iW]
  by_cases h1:b < A.next
  ·omega
  ·obtain ⟨i,rfl⟩:=Nat.exists_eq_add_of_le (Nat.le_of_not_lt h1)
   rw [Env.yM] at hb
   have:=hs.na _ _ hb
   rw [aQ.mem,gG,nZ Mo] at this
   omega
 ·intro b o hb
  rw [aQ.back,gG,iW]
  rcases hinv b _ hb with ⟨YW,_⟩ | ⟨_,_,h1⟩ | ⟨h1,_⟩ | ⟨i,q,rfl,h2,_⟩
  ·obtain ⟨k,vU⟩:=zu b YW
   obtain ⟨p,r,x,b8,_,_,h3,_⟩:=SK k b vU
   have:=hk.lE b x h3; omega
  ·have:=hk.live b _ h1; omega
  ·obtain ⟨_,_,⟨_,_,h3⟩ | ⟨_,h3⟩⟩:=BJ b h1
   ·have:=hk.live b _ h3; omega
   ·have:=hk.live b _ h3; omega
  ·have:=(List.getElem?_eq_some_iff.1 h2).1; omega
 ·intro b x hb; have:=hk.gV b x hb; have:=vZ.fN.next; omega
 ·intro b q hb
  by_cases h1:b < A.next
  ·rw [Env.yN h1] at hb
   have:=hk.kd b q hb; have:=vZ.fN.next; omega
  ·obtain ⟨i,rfl⟩:=Nat.exists_eq_add_of_le (Nat.le_of_not_lt h1)
   rw [Env.yM] at hb
   exact hs.kd _ _ hb
 ·exact qC
 ·rw [aQ.back,gG,iW]; omega
 ·intro x hx en hna
  exact H0 x hx (fun k b _ e=>en b e) fun q=>hna (hG.at q)
 ·intro b r e
  exact (vZ.sR b r e).imp id (fun e=>e.imp hG.ar id)
 ·intro b q hb
  by_cases h1:b < A.next
  ·rw [Env.yN h1] at hb; exact .inl ⟨b,hb⟩
  ·obtain ⟨i,rfl⟩:=Nat.exists_eq_add_of_le (Nat.le_of_not_lt h1)
   rw [Env.yM] at hb
   rcases vZ.sS _ _ hb with ⟨c,e⟩ | e
   ·obtain ⟨f',_,_,_,k2,_⟩:=L5 c q e
    exact .inl ⟨f',k2⟩
   ·exact .inr e
 ·intro q hq en hna
  refine vZ.pN q hq (fun c e=>?_) fun k=>hna (hG.af k)
  obtain ⟨f',_,_,_,k2,_⟩:=L5 c q e
  exact en f' k2
 ·exact acS
 ·exact ahe
 ·rintro y (q | ⟨q,h1,h2⟩)
  ·exact (acS y q).imp .inl id
  ·rcases vZ.uv q y h2 with h2 | h2
   ·rcases ahe q h1 with h1 | h1
    ·exact .inl (.inr ⟨q,h1,h2⟩)
    ·rw [hk.fresh q h1] at h2; simp at h2
   ·exact .inr h2
theorem restore {S:aQ} {t:bA} {A:ax} {B B1:St} {g:GR} {ρ mI:aW} {base N:Nat} {w w1:World} {a1:Act} {vs:List KV} {rs:List (List KV)} {E1:Env} (hG:dP P S t A g) (hk:fK P E A B)
  (ht:kT P E1 mI (S.tm S.nr S.ids vs) N a1) (hs:fK P E1 (S.mem P vs rs) B1) (vZ:Co base (E.sub A g.bs g.fs S.nr) (S.mem P g.vs g.rs) B ρ w E1 (S.mem P vs rs) B1 mI w1) (DN:∀ k,k < S.rows.length→E1.κ k=(E.sub A g.bs g.fs S.nr).κ k)
  (hv:il S.dX vs=true) (Mo:rs.length=S.rows.length) (hrg:∀ (k:Nat) p r,S.rows[k]? = some p→rs[k]? = some r→dN p.2.1 r=true) :
  ∃ E',kT P E' mI (S.tm A.next g.bs vs) N a1∧Ev P base E A B ρ w E' (S.back P g.bs g.fs vs rs A) B1 mI w1:=⟨_,abK hG hk ht hs vZ DN hv Mo hrg⟩
end Go.K
end
section
namespace Go.K
open Go Go.aE
variable {P:Program} {E:Env}
structure zF (P:Program) (S:aQ) (vs:List KV) (rs:List (List KV)):Prop where
 v:il S.dX vs=true
 rA:rs.length=S.rows.length
 vP:∀ (k:Nat) p r,S.rows[k]? = some p→rs[k]? = some r→dN p.2.1 r=true
 vn:∃ t A,vs=o8 P t A S.dX
 rn:∀ (k:Nat) p,S.rows[k]? = some p→∃ A mf,rs[k]? = some (fA P A p.2.1 mf)∧mf.length=p.2.1.length
theorem dP.IL {S:aQ} {t:bA} {A:ax} {g:GR} (h:dP P S t A g):zF P S g.vs g.rs:=
 ⟨h.dX,h.rA,h.vP,⟨t,A,h.vs⟩,fun _ _ hp=>by obtain ⟨_,cs,_,_,h1,_,h2,_⟩:=h.row hp; exact ⟨A,cs,h2,h1⟩⟩
section
variable {cfg:eK} {L n:Nat} {f:FuncId} {S:aQ} {root body:Code} {p N:Nat}
theorem af9 (hP:P.funcs.toList.all mS=true) (hm:P.follows .mixedOrders=true) (ik:qK P cfg.pc) (l8:uA P cfg) {fn:Func} (hf:P.funcs[f]? = some fn) (hb:fn.body=some root) (hs:Sub root p (.loop body)) (hc:codeOk N body=true)
  {vs cR:List KV} {rs mo:List (List KV)} {e:aq} (hr:jk P cfg L n f p body S vs rs=some (e,cR,mo)) {B:St} {ρ:aW} {base:Nat} {a:Act} {w:World} {Q:Exit→Act→World→Prop} (cg:zF P S vs rs)
  (ht:kT P E ρ (S.tm S.nr S.ids vs) N a) (hj:KJ P E (S.mem P vs rs) B ρ base w)
  (hq:∀ E' B' aX a' w',kT P E' aX (S.tm S.nr S.ids cR) N a'→a'.defers=a.defers→KJ P E' (S.mem P cR mo) B' aX base w'→Co base E (S.mem P vs rs) B ρ w E' (S.mem P cR mo) B' aX w'→(∀ k,k < S.rows.length→E'.κ k=E.κ k)→zF P S cR mo→Q e.out a' w'):body.wp P Q a w:=by
 have tZ:=s9 (R:=aq×List KV×List (List KV)) hP hm ik l8 L n
 refine mn ik tZ hm (l8.2 f fn root hf hb) body (2 * p) hs.loop hc _ _ _ _ E B ρ base a w Q hr ht hj fun e' t' E1 A1 B1 mI a1 w1 h1 h2 h3 h4=>?_
 cases hi:uC (S.fL P t' A1).bs S.ids with
 | false=>
  simp only [hi,cond_false] at h1
  exact absurd h1 (by simp)
 | true=>
  simp only [hi,cond_true] at h1
  cases ho:(S.fL P t' A1).ok with
  | false=>simp only [ho] at h1; exact absurd h1 (by simp)
  | true=>
   simp only [ho,Option.some.injEq,Prod.mk.injEq] at h1
   obtain ⟨rfl,rfl,rfl⟩:=h1
   have hG:=Gb ho
   have ajt:=Ks hi
   refine hq _ B1 mI a1 w1 (hG.tkr h2) h3 ⟨hG.jr h4.jr,h4.fN.jr⟩ (h4.co hG) (fun k hk=>?_) hG.IL
   have hp:=List.getElem?_eq_getElem hk
   have hr':=List.getElem?_eq_getElem (show k < rs.length by rw [cg.rA]; exact hk)
   obtain ⟨x,_,hx,_⟩:=hj.k.row k _ _ (mem_row cg.rA hp hr')
   have e1:(E1.sub A1 (S.fL P t' A1).bs (S.fL P t' A1).fs S.nr).κ k=E1.κ k:=by
    simp only [Env.sub]
    rw [ajt,Ga S k hk,Option.bind_some]
   rw [e1,hx]
   exact h4.le.κ k x hx
theorem abL (hP:P.funcs.toList.all mS=true) (hm:P.follows .mixedOrders=true) (ik:qK P cfg.pc) (l8:uA P cfg) {fn:Func} (hf:P.funcs[f]? = some fn) (hb:fn.body=some root) (hs:Sub root p (.loop body)) (hc:codeOk N body=true)
  {e:aq} {cR:List KV} {mo:List (List KV)} : ∀ (m:Nat) {vs:List KV} {rs:List (List KV)},xB (jk P cfg L n f p body S) m vs rs=some (e,cR,mo)→∀ {E:Env} {B:St} {ρ:aW} {base:Nat} {a:Act} {w:World} {Q:Exit→Act→World→Prop},zF P S vs rs→
  kT P E ρ (S.tm S.nr S.ids vs) N a→KJ P E (S.mem P vs rs) B ρ base w→
  (∀ E' B' aX a' w',kT P E' aX (S.tm S.nr S.ids cR) N a'→a'.defers=a.defers→KJ P E' (S.mem P cR mo) B' aX base w'→Co base E (S.mem P vs rs) B ρ w E' (S.mem P cR mo) B' aX w'→(∀ k,k < S.rows.length→E'.κ k=E.κ k)→zF P S cR mo→Q e.out a' w')→Code.rounds P body Q m a w
 | 0,vs,rs,h,E,B,ρ,base,a,w,Q,cg,ht,hj,hq=>by simp [xB] at h
 | m+1,vs,rs,h,E,B,ρ,base,a,w,Q,cg,ht,hj,hq=>by
  unfold xB at h
  split at h
  ·rename_i e1 vs1 rs1 hr
   rw [rounds_succ]
   refine af9 hP hm ik l8 hf hb hs hc hr cg ht hj fun E' B' aX a' w' h1 h2 h3 h4 h5 h6=>?_
   have fin:x8 e1=false→some (e1,vs1,rs1)=some (e,cR,mo)→Q e1.out a' w':=by
    intro _ h
    simp only [Option.some.injEq,Prod.mk.injEq] at h
    obtain ⟨rfl,rfl,rfl⟩:=h
    exact hq E' B' aX a' w' h1 h2 h3 h4 h5 h6
   cases e1 with
   | normal=>
    have h:xB (jk P cfg L n f p body S) m vs1 rs1=some (e,cR,mo):=h
    exact abL hP hm ik l8 hf hb hs hc m h h6 h1 h3 fun F7 HS uk YA FC q1 q2 q3 q4 q5 q6=>hq F7 HS uk YA FC q1 (q2.trans h2) q3 (h4.trans q4) (fun k hk=>(q5 k hk).trans (h5 k hk)) q6
   | exit id=>exact fin rfl h
   | goto l=>exact fin rfl h
   | ret=>exact fin rfl h
  ·simp at h
theorem Tp {R:Type} {bs:List Nat} {fs:List (Option Nat)} {A:ax} {k:KE R} {r:R} : ∀ (x:rz),(x.tell P S bs fs A).run k=some r→∃ e cR mo,x.ev=some (e,cR,mo)∧k e (S.tm A.next bs cR) (S.back P bs fs cR mo A)=some r
 | .no,h=>absurd h (by simp [rz.tell,D5.run])
 | .out e vs rs,h=>⟨e,vs,rs,rfl,h⟩
 | .br c x y,h=>by
  have h:Bool.rec (motive:=fun _=>Option R) ((y.tell P S bs fs A).run k) ((x.tell P S bs fs A).run k) c=some r:=h
  cases c with
  | true=>exact Tp x h
  | false=>exact Tp y h
theorem aga (hP:P.funcs.toList.all mS=true) (hm:P.follows .mixedOrders=true) (ik:qK P cfg.pc) (l8:uA P cfg) {fn:Func} (hf:P.funcs[f]? = some fn) (hb:fn.body=some root) (hs:Sub root p (.loop body)) (hc:codeOk N body=true) {F:LFn}
  (hF:∀ vs rs e cR mo,zF P S vs rs→(F vs rs).ev=some (e,cR,mo)→∃ m,xB (jk P cfg L n f p body S) m vs rs=some (e,cR,mo)):Ti P N body (ak8 P S F):=by
 intro R k r t A E B ρ base a w Q h ht hj hq
 have h:Bool.rec (motive:=fun _=>Option R) none (((F (S.fL P t A).vs (S.fL P t A).rs).tell P S (S.fL P t A).bs (S.fL P t A).fs A).run k) (S.fL P t A).ok=some r:=h
 cases ho:(S.fL P t A).ok with
 | false=>rw [ho] at h; exact absurd h (by simp)
 | true=>
  rw [ho] at h
  have hG:=Gb ho
  obtain ⟨e,cR,mo,h9,sj⟩:=Tp _ h
  obtain ⟨m,hm'⟩:=hF _ _ e cR mo hG.IL h9
  refine wp_loop_rounds m (abL hP hm ik l8 hf hb hs hc m hm' hG.IL (hG.tkr ht) ⟨hG.jr hj.k,hj.s⟩ fun E' B' aX a' w' q1 q2 q3 q4 q5 q6=>?_)
  obtain ⟨E2,r1,r2⟩:=restore hG hj.k q1 q3.k q4 q5 q6.v q6.rA q6.vP
  exact hq e _ E2 _ B' aX a' w' sj r1 q2 r2
end
end Go.K
end
section
namespace Go.K
open Go Go.aE
variable {P:Program} {E:Env}
def Env.re (E:Env) (f n:Nat):Env:={ κ:=E.κ,z:=E.z,φ:=E.φ,α:=fun b=>if b=f then E.α n else E.α b }
theorem Env.aju {f n:Nat} (h:∀ p,E.α f=some p→E.α n=some p):E.le (E.re f n):=⟨fun b p e=>by
 simp only [Env.re]
 split
 ·rename_i e1; subst e1; exact h p e
 ·exact e,fun _ _ e=>e,fun _ _ e=>e,fun _ _ e=>e⟩
theorem Env.agb {f n:Nat} : (E.re f n).α f=E.α n:=by simp [Env.re]
theorem Env.Ac {f n b:Nat} (h:b≠f):(E.re f n).α b=E.α b:=by simp [Env.re,h]
theorem fK.swap {A:ax} {B:St} {f n:Nat} {v:KV} (h:fK P E A B) (hf:A.get f=some .dead) (hn:A.get n=some (.arr v)) (DN:E.κ f=none) (qa:∀ p,E.α f=some p→E.α n=some p) :
  fK P (E.re f n) ((A.put f (.arr v)).put n .dead) B∧(∀ x,AR ((A.put f (.arr v)).put n .dead) (E.re f n) x→AR A E x)∧∀ g,AF ((A.put f (.arr v)).put n .dead) (E.re f n) B g→AF A E B g:=by
 have en:f≠n:=fun e=>by rw [e,hn] at hf; simp at hf
 have hle:=Env.aju qa
 have jV:∀ b o,((A.put f (.arr v)).put n .dead).get b=some o→(b=n∧o = .dead)∨(b=f∧o = .arr v)∨(b≠f∧b≠n∧A.get b=some o):=fun b o hb=>by
  rw [ax.b9] at hb
  split at hb
  ·rename_i e; simp at hb; exact .inl ⟨e,hb.symm⟩
  ·rename_i e
   rw [ax.b9] at hb
   split at hb
   ·rename_i e2; simp at hb; exact .inr (.inl ⟨e2,hb.symm⟩)
   ·rename_i e2; exact .inr (.inr ⟨e2,e,hb⟩)
 have hA:∀ b u,((A.put f (.arr v)).put n .dead).get b=some (.arr u)→∃ c,A.get c=some (.arr u)∧(E.re f n).α b=E.α c∧((b=f∧c=n)∨(b≠f∧b≠n∧c=b)):=fun b u hb=>by
  rcases jV b _ hb with ⟨_,e⟩ | ⟨e,e2⟩ | ⟨e,e2,e3⟩
  ·simp at e
  ·simp at e2; subst e2 e; exact ⟨n,hn,Env.agb,.inl ⟨rfl,rfl⟩⟩
  ·exact ⟨b,e3,Env.Ac e,.inr ⟨e,e2,rfl⟩⟩
 have YH:∀ {b c d:Nat},((b=f∧d=n)∨(b≠f∧b≠n∧d=b))→((c=f∧d=n)∨(c≠f∧c≠n∧d=c))→b=c:=fun h1 h2=>by
  rcases h1 with ⟨a1,a2⟩ | ⟨a1,a2,a3⟩ <;> rcases h2 with ⟨b1,b2⟩ | ⟨b1,b2,b3⟩ <;> omega
 have qC:∀ x,AR ((A.put f (.arr v)).put n .dead) (E.re f n) x→AR A E x:=fun x ⟨b,u,L,N,h1,h2⟩=>by
  obtain ⟨c,h3,h4,_⟩:=hA b u h1
  exact ⟨c,u,L,N,h3,by rw [← h4]; exact h2⟩
 have ET:∀ g,AF ((A.put f (.arr v)).put n .dead) (E.re f n) B g→AF A E B g:=fun g ⟨b,u,x,L,N,cs,e,own,k,h1,h2,h3⟩=>by
  obtain ⟨c,h4,h5,_⟩:=hA b u h1
  exact ⟨c,u,x,L,N,cs,e,own,k,h4,by rw [← h5]; exact h2,h3⟩
 have hold:∀ b o,((A.put f (.arr v)).put n .dead).get b=some o→b < A.next:=fun b o hb=>by
  rcases jV b _ hb with ⟨e,_⟩ | ⟨e,_⟩ | ⟨_,_,e⟩
  ·rw [e]; exact h.live n _ hn
  ·rw [e]; exact h.live f _ hf
  ·exact h.live b o e
 refine ⟨⟨fun b cs bW hb=>?_,fun b top sz hb=>?_,h.z,h.apart,h.inj,fun b c g tb sb tc sc hb hc=>?_,h.lE,h.na,hold,h.gV,h.nm,h.kd,h.fresh,h.mem,?_⟩,qC,ET⟩
 ·rcases jV b _ hb with ⟨_,e⟩ | ⟨_,e⟩ | ⟨_,_,e⟩
  ·simp at e
  ·simp at e
  ·obtain ⟨x,b8,h1,h2,h3⟩:=h.row b cs bW e
   exact ⟨x,b8,h1,h2,h3.mono hle⟩
 ·rcases jV b _ hb with ⟨_,e⟩ | ⟨_,e⟩ | ⟨_,_,e⟩
  ·simp at e
  ·simp at e
  ·exact h.bf b top sz e
 ·rcases jV b _ hb with ⟨_,e⟩ | ⟨_,e⟩ | ⟨_,_,hb⟩
  ·simp at e
  ·simp at e
  rcases jV c _ hc with ⟨_,e⟩ | ⟨_,e⟩ | ⟨_,_,hc⟩
  ·simp at e
  ·simp at e
  exact h.jJ b c g tb sb tc sc hb hc
 ·refine ⟨fun b u hb=>?_,fun b u hb=>?_,fun x q=>h.ar.z x (qC x q),fun b c u u' x L N L' N' h1 h2 h3 h4=>?_,fun b c u u' x y L N L' N' cs e own g k b8 e' o6 k' h1 h2 h3 h4 h5 h6=>?_,fun b x e=>?_,fun b p e=>?_,fun b x L N e=>?_,fun b u x L N cs e own g k h1 h2 h3=>?_,fun b u hb=>?_⟩
  ·obtain ⟨c,h1,h2,_⟩:=hA b u hb
   obtain ⟨T,N,es,acc,q1,q2,q3,q4⟩:=h.ar.arr c u h1
   refine ⟨T,N,es,acc,q1,q2,q3,?_⟩
   rw [h2]
   exact q4.imp id fun ⟨x,cs,bQ,bq,r1,r2,r3,r4⟩=>⟨x,cs,bQ,bq,r1,r2,r3.mono hle,r4⟩
  ·rcases jV b _ hb with ⟨_,e⟩ | ⟨_,e⟩ | ⟨e1,_,e⟩
   ·simp at e
   ·simp at e
   ·exact (h.ar.jH b u e).mono hle (Env.Ac e1)
  ·obtain ⟨b',k1,k2,k3⟩:=hA b u h1
   obtain ⟨c',l1,l2,l3⟩:=hA c u' h2
   rw [k2] at h3; rw [l2] at h4
   have:=h.ar.inj b' c' u u' x L N L' N' k1 l1 h3 h4
   subst this
   exact YH k3 l3
  ·obtain ⟨b',k1,k2,k3⟩:=hA b u h1
   obtain ⟨c',l1,l2,l3⟩:=hA c u' h2
   rw [k2] at h3; rw [l2] at h4
   have:=h.ar.tu b' c' u u' x y L N L' N' cs e own g k b8 e' o6 k' k1 l1 h3 h4 h5 h6
   subst this
   exact YH k3 l3
  ·have hb:b≠f:=fun e2=>by rw [e2] at e; rw [show (E.re f n).κ f=E.κ f from rfl,DN] at e; simp at e
   rw [Env.Ac hb]
   exact h.ar.X6 b x e
  ·by_cases hb:b=f
   ·rw [hb]; exact h.live f _ hf
   ·rw [Env.Ac hb] at e; exact h.ar.lE b p e
  ·by_cases hb:b=f
   ·rw [hb,Env.agb] at e; exact h.ar.gV n x L N e
   ·rw [Env.Ac hb] at e; exact h.ar.gV b x L N e
  ·obtain ⟨c,k1,k2,_⟩:=hA b u h1
   rw [k2] at h2
   obtain ⟨q1,q2,q3⟩:=h.ar.rV c u x L N cs e own g k k1 h2 h3
   exact ⟨q1,q2,fun y hy hy2=>⟨(q3 y hy hy2).1,fun q=>(q3 y hy hy2).2.1 (qC y q),(q3 y hy hy2).2.2⟩⟩
  ·refine ⟨hold b _ hb,?_⟩
   rcases jV b _ hb with ⟨_,e⟩ | ⟨e,_⟩ | ⟨_,_,e⟩
   ·simp at e
   ·rw [e]; exact DN
   ·exact (h.ar.nk b u e).2
structure Sw (E:Env) (A:ax) (B:St) (E' : Env) (A' : ax):Prop where
 le:E.le E'
 κ:E'.κ=E.κ
 z:E'.z=E.z
 φ:E'.φ=E.φ
 next:A'.next=A.next
 ar:∀ x,AR A' E' x→AR A E x
 af:∀ g,AF A' E' B g→AF A E B g
theorem Sw.refl {A:ax} {B:St} : Sw E A B E A:=⟨Env.le_refl _,rfl,rfl,rfl,rfl,fun _ h=>h,fun _ h=>h⟩
theorem Sw.trans {E1 E2 E3:Env} {A1 A2 A3:ax} {B:St} (h:Sw E1 A1 B E2 A2) (k:Sw E2 A2 B E3 A3):Sw E1 A1 B E3 A3:=
 ⟨Env.le_trans h.le k.le,k.κ.trans h.κ,k.z.trans h.z,k.φ.trans h.φ,k.next.trans h.next,fun x q=>h.ar x (k.ar x q),fun g q=>h.af g (k.af g q)⟩
theorem Ev.sw {base:Nat} {E1 E2 E3:Env} {A1 A2 A3:ax} {B1 B2:St} {mI uw:aW} {w1 w2:World} (h:Ev P base E1 A1 B1 mI w1 E2 A2 B2 uw w2) (hk:fK P E3 A3 B2) (k:Sw E2 A2 B2 E3 A3):Ev P base E1 A1 B1 mI w1 E3 A3 B2 uw w2 where
 jr:=hk
 fN:=h.fN
 le:=Env.le_trans h.le k.le
 next:=by rw [k.next]; exact h.next
 mg:=h.mg
 new b x e:=h.new b x (by rw [← k.κ]; exact e)
 sR b r e:=h.sR b r (by rw [← k.z]; exact e)
 sS b g e:=h.sS b g (by rw [← k.φ]; exact e)
 pN:=h.pN
 mQ x q:=h.mQ x (k.ar x q)
 nb g q:=h.nb g (k.af g q)
 uv:=h.uv
 nY y q:=h.nY y (q.imp (k.ar y) fun ⟨g,q1,q2⟩=>⟨g,k.af g q1,q2⟩)
 rows:=h.rows
noncomputable section
def Cq:List (Option Nat)→Nat→Bool
 | [],_=>true
 | some f::fs,j=>Nat.beq f j&&Cq fs (Nat.succ j)
 | none::_,_=>false
theorem Vr:∀ {fs:List (Option Nat)} {j i:Nat} {x:Option Nat},Cq fs j=true→fs[i]? = some x→x=some (j+i)
 | [],_,_,_,_,e=>by simp at e
 | none::_,_,_,_,h,_=>by simp [Cq] at h
 | some f::fs,j,0,x,h,e=>by
  simp only [Cq,Bool.and_eq_true] at h
  simp at e
  rw [← e,Nat.eq_of_beq_eq_true h.1]
  rfl
 | some f::fs,j,i+1,x,h,e=>by
  simp only [Cq,Bool.and_eq_true] at h
  have:=Vr (i:=i) (x:=x) h.2 (by simpa using e)
  rw [this]
  congr 1
  omega
def ajv (A:ax) (f j:Nat) (o:jt):ax:=
 match o with
 | .arr v=>(A.put f (.arr v)).put j .dead
 | _=>A
def Cr (A:ax):List (Option Nat)→Nat→List jt→ax
 | some f::fs,j,o::os=>Cr (ajv A f j o) fs (Nat.succ j) os
 | none::fs,j,_::os=>Cr A fs (Nat.succ j) os
 | _,_,_=>A
structure abM (E:Env) (A:ax) (fs:List (Option Nat)) (j:Nat) (os:List jt):Prop where
 one:∀ (i:Nat) f v,fs[i]? = some (some f)→os[i]? = some (.arr v)→A.get f=some .dead∧E.κ f=none∧A.get (j+i)=some (.arr v)∧∀ p,E.α f=some p→E.α (j+i)=some p
 lt:∀ (i f:Nat),fs[i]? = some (some f)→f < j
 nodup:∀ (i k f:Nat),fs[i]? = some (some f)→fs[k]? = some (some f)→i=k
theorem abM.tail {E1:Env} {A A1:ax} {x:Option Nat} {o:jt} {fs:List (Option Nat)} {os:List jt} {j:Nat} (h:abM E A (x::fs) j (o::os)) (qa:∀ b,x≠some b→E1.α b=E.α b) (DN:E1.κ=E.κ) (hg:∀ b,x≠some b→b≠j→A1.get b=A.get b):abM E1 A1 fs (Nat.succ j) os where
 one i f v e1 e2:=by
  obtain ⟨h1,h3,h4,h5⟩:=h.one (i+1) f v (by simpa using e1) (by simpa using e2)
  have bU:=h.lt (i+1) f (by simpa using e1)
  rw [show j+(i+1)=Nat.succ j+i by omega] at h4 h5
  have hf:x≠some f:=fun e=>by have:=h.nodup (i+1) 0 f (by simpa using e1) (by simp [e]); omega
  have hn:x≠some (Nat.succ j+i):=fun e=>by have:=h.lt 0 (Nat.succ j+i) (by simp [e]); omega
  exact ⟨by rw [hg f hf (by omega)]; exact h1,by rw [DN]; exact h3,by rw [hg _ hn (by omega)]; exact h4,fun p e=>by rw [qa f hf] at e; rw [qa _ hn]; exact h5 p e⟩
 lt i f e:=by have:=h.lt (i+1) f (by simpa using e); omega
 nodup i k f e1 e2:=by have:=h.nodup (i+1) (k+1) f (by simpa using e1) (by simpa using e2); omega
theorem Tq {B:St} : ∀ {fs:List (Option Nat)} {os:List jt} {j:Nat} {E:Env} {A:ax},fK P E A B→abM E A fs j os→∃ E',fK P E' (Cr A fs j os) B∧Sw E A B E' (Cr A fs j os)∧
  (∀ (i:Nat) f v,fs[i]? = some (some f)→os[i]? = some (.arr v)→E'.α f=E.α (j+i))∧(∀ b,(∀ i:Nat,fs[i]?≠some (some b))→E'.α b=E.α b)
 | [],os,j,E,A,h,_=>⟨E,h,.refl,fun i f v e=>by simp at e,fun _ _=>rfl⟩
 | x::fs,[],j,E,A,h,_=>⟨E,by cases x <;> exact h,by cases x <;> exact .refl,fun i f v _ e=>by simp at e,fun _ _=>rfl⟩
 | none::fs,o::os,j,E,A,h,ho=>by
  obtain ⟨E',h1,h2,h3,h4⟩:=Tq h (ho.tail (fun _ _=>rfl) rfl fun _ _ _=>rfl)
  refine ⟨E',h1,h2,fun i f v e1 e2=>?_,fun b hb=>h4 b fun i=>by have:=hb (i+1); simpa using this⟩
  cases i with
  | zero=>simp at e1
  | succ i=>
   rw [h3 i f v (by simpa using e1) (by simpa using e2)]
   congr 1
   omega
 | some f0::fs,o::os,j,E,A,h,ho=>by
  have amx:∀ i:Nat,fs[i]?≠some (some f0):=fun i e=>by have:=ho.nodup (i+1) 0 f0 (by simpa using e) (by simp); omega
  have step:∀ {E1:Env} {A1:ax},fK P E1 A1 B→Sw E A B E1 A1→ajv A f0 j o=A1→(∀ b,b≠f0→E1.α b=E.α b)→(∀ v,o = .arr v→E1.α f0=E.α j)→abM E1 A1 fs (Nat.succ j) os→
    ∃ E',fK P E' (Cr A (some f0::fs) j (o::os)) B∧Sw E A B E' (Cr A (some f0::fs) j (o::os))∧(∀ (i:Nat) f v,(some f0::fs)[i]? = some (some f)→(o::os)[i]? = some (.arr v)→E'.α f=E.α (j+i))∧(∀ b,(∀ i:Nat,(some f0::fs)[i]?≠some (some b))→E'.α b=E.α b):=by
   intro E1 A1 k1 k2 k3 k4 k5 k6
   obtain ⟨E',h1,h2,h3,h4⟩:=Tq k1 k6
   have e0:Cr A (some f0::fs) j (o::os)=Cr A1 fs (Nat.succ j) os:=by rw [← k3]; rfl
   rw [e0]
   refine ⟨E',h1,k2.trans h2,fun i f v e1 e2=>?_,fun b hb=>?_⟩
   ·cases i with
    | zero=>
     simp at e1 e2
     subst e1
     rw [h4 f0 amx]
     exact k5 v e2
    | succ i=>
     rw [h3 i f v (by simpa using e1) (by simpa using e2),k4 _ fun e=>by have:=ho.lt 0 f0 (by simp); omega]
     congr 1
     omega
   ·rw [h4 b fun i=>by have:=hb (i+1); simpa using this]
    exact k4 b fun e=>hb 0 (by simp [e])
  cases o with
  | arr v=>
   obtain ⟨h1,h2,h3,h4⟩:=ho.one 0 f0 v (by simp) (by simp)
   obtain ⟨q1,q2,q3⟩:=h.swap (n:=j) h1 h3 h2 h4
   have mZ:∀ b,some f0≠some b→b≠j→((A.put f0 (.arr v)).put j .dead).get b=A.get b:=fun b e1 e2=>by
    rw [ax.b9,if_neg e2,ax.b9,if_neg fun e=>e1 (by rw [e])]
   exact step q1 ⟨Env.aju h4,rfl,rfl,rfl,by rw [ax.qZ,ax.qZ],q2,q3⟩ rfl (fun b hb=>Env.Ac hb) (fun _ _=>Env.agb) (ho.tail (fun b hb=>Env.Ac fun e=>hb (by rw [e])) rfl mZ)
  | _=>exact step h .refl rfl (fun _ _=>rfl) (fun v e=>by simp at e) (ho.tail (fun _ _=>rfl) rfl fun _ _ _=>rfl)
def rnB (fs:List (Option Nat)) (nx b:Nat):Nat:=cond (Nat.ble nx b) (match abp (b - nx) fs with
 | some (some f)=>f
 | _=>b) b
def rn1 (fs:List (Option Nat)) (nx:Nat) (v:KV):KV:=
 match v with
 | .al t b o n=>.al t (rnB fs nx b) o n
 | v=>v
def ajw (fs:List (Option Nat)) (nx:Nat):List KV→List KV
 | []=>[]
 | v::vs=>rn1 fs nx v::ajw fs nx vs
def rnV (fs:List (Option Nat)) (nx:Nat) (v:KV):KV:=
 match v with
 | .agg cs=>.agg (ajw fs nx cs)
 | v=>rn1 fs nx v
def ajx (fs:List (Option Nat)) (nx:Nat):List (Nat×KV)→List (Nat×KV)
 | []=>[]
 | q::qs=>(q.1,rnV fs nx q.2)::ajx fs nx qs
def aeL (E1 E2:Env) (fs:List (Option Nat)) (nx:Nat):Prop:=E1.le E2∧∀ (i f:Nat),fs[i]? = some (some f)→∀ p,E1.α (nx+i)=some p→E2.α f=some p
theorem akF {E1 E2:Env} {fs:List (Option Nat)} {nx b:Nat} (h:aeL E1 E2 fs nx) {p:Nat×Nat×Nat} (e:E1.α b=some p):E2.α (rnB fs nx b)=some p:=by
 unfold rnB
 cases hb:Nat.ble nx b with
 | false=>exact h.1.α b p e
 | true=>
  simp only [cond_true]
  have hb:=Nat.le_of_ble_eq_true hb
  rw [Yb]
  split
  ·rename_i f hf
   exact h.2 _ f hf p (by rw [show nx+(b - nx)=b by omega]; exact e)
  ·exact h.1.α b p e
theorem ahf {E1 E2:Env} {fs:List (Option Nat)} {nx:Nat} (h:aeL E1 E2 fs nx) {v:KV} {u:Value} (hv:VK P E1 v u):VK P E2 (rn1 fs nx v) u:=by
 unfold rn1
 split
 ·rename_i t b o n
  refine .MW ?_
  rcases hv.vc with q | ⟨x,L,N,c,q1,q2⟩
  ·exact .inl q
  ·exact .inr ⟨x,L,N,c,akF h q1,q2⟩
 ·exact hv.mono h.1
theorem aeM {E1 E2:Env} {fs:List (Option Nat)} {nx:Nat} (h:aeL E1 E2 fs nx):∀ {vs:List KV} {us:List Value},bd P E1 vs us→bd P E2 (ajw fs nx vs) us
 | [],us,hv=>by rw [hv.ck]; exact .nil
 | v::vs,us,hv=>by
  obtain ⟨u,us',rfl,h1,h2⟩:=hv.cons_inv
  exact .cons (ahf h h1) (aeM h h2)
theorem akG {E1 E2:Env} {fs:List (Option Nat)} {nx:Nat} (h:aeL E1 E2 fs nx) {v:KV} {u:Value} (hv:VK P E1 v u):VK P E2 (rnV fs nx v) u:=by
 unfold rnV
 split
 ·obtain ⟨m,rfl,h1⟩:=hv.mh
  exact .oX (aeM h h1)
 ·exact ahf h hv
theorem Vs {E1 E2:Env} {fs:List (Option Nat)} {nx:Nat} (h:aeL E1 E2 fs nx):∀ (l:List (Nat×KV)),tA P E1 E2 l (ajx fs nx l)
 | []=>trivial
 | _::qs=>⟨rfl,fun _ hv=>akG h hv,Vs h qs⟩
end
end Go.K
end
section
namespace Go.K
open Go Go.aE
variable {P:Program} {E:Env}
noncomputable section
def Qx:List CD→Bool
 | []=>true
 | .bf _::_=>false
 | _::ds=>Qx ds
def Xg:List (Tmp×VD)→Bool
 | []=>true
 | p::ps=>Qx p.2.ks&&Xg ps
def Xh:List (Tmp×List CD×Nat)→Bool
 | []=>true
 | p::ps=>Qx p.2.1&&Xh ps
def aQ.stays (S:aQ):Bool:=Xg S.dX&&Xh S.rows
theorem Ad:∀ {ds:List CD} {vs:List KV},Qx ds=true→∀ q∈ov P ds vs,∃ v,q = .arr v
 | [],_,_,q,hq=>by simp [ov] at hq
 | d::ds,[],_,q,hq=>by cases d <;> simp [ov] at hq
 | d::ds,v::vs,h,q,hq=>by
  cases d <;> simp only [Qx,ov,List.mem_cons] at h hq
  ·exact Ad h q hq
  ·exact Ad h q hq
  ·simp at h
  ·rcases hq with rfl | hq
   ·exact ⟨_,rfl⟩
   ·exact Ad h q hq
  ·exact Ad h q hq
theorem YX:∀ {ps:List (Tmp×VD)} {vs:List KV},Xg ps=true→∀ q∈vY P ps vs,∃ v,q = .arr v
 | [],_,_,q,hq=>by simp [vY] at hq
 | p::ps,[],_,q,hq=>by simp [vY] at hq
 | p::ps,v::vs,h,q,hq=>by
  simp only [Xg,Bool.and_eq_true,vY,List.mem_append] at h hq
  exact hq.elim (Ad h.1 q) (YX h.2 q)
theorem YY:∀ {ps:List (Tmp×List CD×Nat)} {rs:List (List KV)},Xh ps=true→∀ q∈xz P ps rs,∃ v,q = .arr v
 | [],_,_,q,hq=>by simp [xz] at hq
 | p::ps,[],_,q,hq=>by simp [xz] at hq
 | p::ps,r::rs,h,q,hq=>by
  simp only [Xh,Bool.and_eq_true,xz,List.mem_append] at h hq
  exact hq.elim (Ad h.1 q) (YY h.2 q)
theorem abN {S:aQ} (h:S.stays=true) {vs:List KV} {rs:List (List KV)} {i:Nat} {q:jt} (hq:(S.lens P vs rs)[i]? = some q):∃ v,q = .arr v:=by
 simp only [aQ.stays,Bool.and_eq_true] at h
 have:=List.mem_of_getElem? hq
 simp only [aQ.lens,List.mem_append] at this
 exact this.elim (YX h.1 q) (YY h.2 q)
theorem L6 {S:aQ} {vs:List KV} {rs:List (List KV)} (hv:il S.dX vs=true) (hl:rs.length=S.rows.length) (hg:∀ (k:Nat) p r,S.rows[k]? = some p→rs[k]? = some r→dN p.2.1 r=true):(S.lens P vs rs).length=nf S.dX+(S.rows.map fun p=>qd p.2.1).sum:=by
 rw [aQ.lens,List.length_append,AI hv,EY hl hg rfl]
def aQ.iP (S:aQ) (nx:Nat) (bs:List Nat) (fs:List (Option Nat)) (vs:List KV):bA:=lL (ajx fs nx (Vl nx bs S.dX vs++x7 bs S.Vj))
def aQ.YZ (S:aQ) (P:Program) (bs:List Nat) (fs:List (Option Nat)) (vs:List KV) (rs:List (List KV)) (A:ax):ax:=Cr (S.back P bs fs vs rs A) fs A.next (S.lens P vs rs)
def ahg (S:aQ) (E E' : Env):Prop:=∀ (i:Nat) p,E.α (S.nr+i)=some p→E'.α (S.nr+i)=some p
theorem abO {S:aQ} {t:bA} {A:ax} {B B1:St} {g:GR} {ρ mI:aW} {base N:Nat} {w w1:World} {a1:Act} {vs:List KV} {rs:List (List KV)} {E1:Env} (iM:S.stays=true) (hG:dP P S t A g) (hk:fK P E A B)
  (ht:kT P E1 mI (S.tm S.nr S.ids vs) N a1) (hs:fK P E1 (S.mem P vs rs) B1) (vZ:Co base (E.sub A g.bs g.fs S.nr) (S.mem P g.vs g.rs) B ρ w E1 (S.mem P vs rs) B1 mI w1) (DN:∀ k,k < S.rows.length→E1.κ k=(E.sub A g.bs g.fs S.nr).κ k)
  (hpl:ahg S (E.sub A g.bs g.fs S.nr) E1)
  (hv:il S.dX vs=true) (Mo:rs.length=S.rows.length) (hrg:∀ (k:Nat) p r,S.rows[k]? = some p→rs[k]? = some r→dN p.2.1 r=true) :
  ∃ E',kT P E' mI (S.iP A.next g.bs g.fs vs) N a1∧Ev P base E A B ρ w E' (S.YZ P g.bs g.fs vs rs A) B1 mI w1:=by
 obtain ⟨ht0,o7⟩:=abK hG hk ht hs vZ DN hv Mo hrg
 have iW:(xA (nQ A g.bs S.rows (S.Dg A.next g.bs rs)) g.fs).next=A.next:=by rw [Ef,OD]
 have hlen:(S.lens P vs rs).length=g.fs.length:=by
  rw [L6 hv Mo hrg,hG.fs,qD,← hG.lens,L6 hG.dX hG.rA hG.vP]
 have hold:∀ (i:Nat) f,g.fs[i]? = some (some f)→∃ u,A.get f=some (.arr u):=by
  intro i f hi
  have bU:i < (S.lens P g.vs g.rs).length:=by rw [hG.lens,← qD,← hG.fs]; exact (List.getElem?_eq_some_iff.1 hi).1
  obtain ⟨fi,_,h2,h3⟩:=hG.fact (List.getElem?_eq_getElem bU)
  rw [hi] at h2; simp at h2
  obtain ⟨u0,hu0⟩:=abN iM (List.getElem?_eq_getElem bU)
  rcases h3 with ⟨n,sz,e,_⟩ | ⟨T,v,_,⟨h3,_⟩ | ⟨f',m,N,es,acc,h3,h4,_⟩⟩
  ·rw [hu0] at e; simp at e
  ·rw [h3] at h2; simp at h2
  ·rw [h3] at h2; simp at h2; subst h2; exact ⟨_,h4⟩
 have m4:∀ (i f:Nat),g.fs[i]? = some (some f)→∀ p,(E.up E1 S.nr A.next).α f=some p→(E.up E1 S.nr A.next).α (A.next+i)=some p:=fun i f hi p e=>by
  obtain ⟨u,hu⟩:=hold i f hi
  rw [Env.Ge (hk.live f _ hu)] at e
  rw [Env.Gd]
  exact hpl i p (by rw [Env.Di,hi]; exact e)
 have hsw:abM (E.up E1 S.nr A.next) (S.back P g.bs g.fs vs rs A) g.fs A.next (S.lens P vs rs):=by
  refine ⟨fun i f v hi hv=>?_,fun i f hi=>?_,fun i k f h1 h2=>vf hG.Xf i k f h1 h2⟩
  ·obtain ⟨u,hu⟩:=hold i f hi
   refine ⟨?_,(hk.ar.nk f u hu).2,?_,m4 i f hi⟩
   ·rw [aQ.back,Cn (by rw [iW]; exact hk.live f _ hu),Dh,if_pos (uD.2 (List.mem_of_getElem? hi))]
   ·have:=Kq (A:=xA (nQ A g.bs S.rows (S.Dg A.next g.bs rs)) g.fs) hv
    rw [iW] at this
    exact this
  ·obtain ⟨u,hu⟩:=hold i f hi
   exact hk.live f _ hu
 obtain ⟨E',q1,q2,q3,_⟩:=Tq o7.jr hsw
 refine ⟨E',?_,o7.sw q1 q2⟩
 refine kT.ajm ht0 (Vs ⟨q2.le,fun i f hi p e=>?_⟩ _)
 have bU:i < (S.lens P vs rs).length:=by rw [hlen]; exact (List.getElem?_eq_some_iff.1 hi).1
 obtain ⟨v,PK⟩:=abN iM (List.getElem?_eq_getElem bU)
 rw [q3 i f v hi (by rw [List.getElem?_eq_getElem bU,PK])]
 exact e
def aQ.abP (S:aQ) (P:Program) (t:bA) (A:ax):Bool:=cond (uC (S.fL P t A).bs S.ids) (cond (Cq (S.fL P t A).fs S.nr) (S.fL P t A).ok false) false
theorem aeN {S:aQ} {t:bA} {A:ax} (h:S.abP P t A=true):uC (S.fL P t A).bs S.ids=true∧Cq (S.fL P t A).fs S.nr=true∧(S.fL P t A).ok=true:=by
 unfold aQ.abP at h
 cases h1:uC (S.fL P t A).bs S.ids with
 | false=>rw [h1] at h; simp at h
 | true=>
  cases h2:Cq (S.fL P t A).fs S.nr with
  | false=>rw [h1,h2] at h; simp at h
  | true=>rw [h1,h2] at h; exact ⟨rfl,rfl,h⟩
def py (P:Program) (cfg:eK) (L n:Nat) (f:FuncId) (p:Nat) (body:Code) (S:aQ) (vs:List KV) (rs:List (List KV)):Option (aq×List KV×List (List KV)):=
 pM P cfg (D6 P cfg L n) L f body (2 * p) (fun e t A=>
  Bool.rec (motive:=fun _=>Option (aq×List KV×List (List KV))) none (some (e,(S.fL P t A).vs,(S.fL P t A).rs)) (S.abP P t A)) (S.tm S.nr S.ids vs) (S.mem P vs rs)
theorem aeO {S:aQ} {t:bA} {A:ax} {B0:St} {E1:Env} {g:GR} {vs:List KV} {rs:List (List KV)} (hG:dP P S t A g) (hf:Cq g.fs S.nr=true) (cg:zF P S vs rs) (hs:fK P E (S.mem P vs rs) B0) (hle:E.le E1):ahg S E (E1.sub A g.bs g.fs S.nr):=fun i p e=>by
 have hd:=hs.ar.lE _ p e
 rw [aQ.mem,gG,nZ cg.rA,L6 cg.v cg.rA cg.vP] at hd
 have bU:i < g.fs.length:=by
  rw [hG.fs,qD,← hG.lens,L6 hG.dX hG.rA hG.vP]
  omega
 have h1:=List.getElem?_eq_getElem bU
 rw [Env.Di,h1,Vr hf h1]
 exact hle.α _ p e
section
variable {cfg:eK} {L n:Nat} {f:FuncId} {S:aQ} {root body:Code} {p N:Nat}
theorem abQ {t' : bA} {A1:ax} {B B1:St} {ρ mI:aW} {base:Nat} {w w1:World} {E1:Env} {vs:List KV} {rs:List (List KV)} (cg:zF P S vs rs) (hj:KJ P E (S.mem P vs rs) B ρ base w) (h4:Ev P base E (S.mem P vs rs) B ρ w E1 A1 B1 mI w1) (_:dP P S t' A1 (S.fL P t' A1)) (hi:uC (S.fL P t' A1).bs S.ids=true) :
  ∀ k,k < S.rows.length→(E1.sub A1 (S.fL P t' A1).bs (S.fL P t' A1).fs S.nr).κ k=E.κ k:=fun k hk=>by
 have ajt:=Ks hi
 have hp:=List.getElem?_eq_getElem hk
 have hr':=List.getElem?_eq_getElem (show k < rs.length by rw [cg.rA]; exact hk)
 obtain ⟨x,_,hx,_⟩:=hj.k.row k _ _ (mem_row cg.rA hp hr')
 have e1:(E1.sub A1 (S.fL P t' A1).bs (S.fL P t' A1).fs S.nr).κ k=E1.κ k:=by
  simp only [Env.sub]
  rw [ajt,Ga S k hk,Option.bind_some]
 rw [e1,hx]
 exact h4.le.κ k x hx
theorem aeP (hP:P.funcs.toList.all mS=true) (hm:P.follows .mixedOrders=true) (ik:qK P cfg.pc) (l8:uA P cfg) {fn:Func} (hf:P.funcs[f]? = some fn) (hb:fn.body=some root) (hs:Sub root p (.loop body)) (hc:codeOk N body=true)
  {vs cR:List KV} {rs mo:List (List KV)} {e:aq} (hr:py P cfg L n f p body S vs rs=some (e,cR,mo)) {B:St} {ρ:aW} {base:Nat} {a:Act} {w:World} {Q:Exit→Act→World→Prop} (cg:zF P S vs rs)
  (ht:kT P E ρ (S.tm S.nr S.ids vs) N a) (hj:KJ P E (S.mem P vs rs) B ρ base w)
  (hq:∀ E' B' aX a' w',kT P E' aX (S.tm S.nr S.ids cR) N a'→a'.defers=a.defers→KJ P E' (S.mem P cR mo) B' aX base w'→Co base E (S.mem P vs rs) B ρ w E' (S.mem P cR mo) B' aX w'→(∀ k,k < S.rows.length→E'.κ k=E.κ k)→zF P S cR mo→ahg S E E'→Q e.out a' w'):body.wp P Q a w:=by
 have tZ:=s9 (R:=aq×List KV×List (List KV)) hP hm ik l8 L n
 refine mn ik tZ hm (l8.2 f fn root hf hb) body (2 * p) hs.loop hc _ _ _ _ E B ρ base a w Q hr ht hj fun e' t' E1 A1 B1 mI a1 w1 h1 h2 h3 h4=>?_
 cases hi:S.abP P t' A1 with
 | false=>simp only [hi] at h1; exact absurd h1 (by simp)
 | true=>
  simp only [hi,Option.some.injEq,Prod.mk.injEq] at h1
  obtain ⟨rfl,rfl,rfl⟩:=h1
  obtain ⟨i1,i2,i3⟩:=aeN hi
  have hG:=Gb i3
  exact hq _ B1 mI a1 w1 (hG.tkr h2) h3 ⟨hG.jr h4.jr,h4.fN.jr⟩ (h4.co hG) (abQ cg hj h4 hG i1) hG.IL (aeO hG i2 cg hj.k h4.le)
theorem Y0 (hP:P.funcs.toList.all mS=true) (hm:P.follows .mixedOrders=true) (ik:qK P cfg.pc) (l8:uA P cfg) {fn:Func} (hf:P.funcs[f]? = some fn) (hb:fn.body=some root) (hs:Sub root p (.loop body)) (hc:codeOk N body=true)
  {e:aq} {cR:List KV} {mo:List (List KV)} : ∀ (m:Nat) {vs:List KV} {rs:List (List KV)},xB (py P cfg L n f p body S) m vs rs=some (e,cR,mo)→∀ {E:Env} {B:St} {ρ:aW} {base:Nat} {a:Act} {w:World} {Q:Exit→Act→World→Prop},zF P S vs rs→
  kT P E ρ (S.tm S.nr S.ids vs) N a→KJ P E (S.mem P vs rs) B ρ base w→
  (∀ E' B' aX a' w',kT P E' aX (S.tm S.nr S.ids cR) N a'→a'.defers=a.defers→KJ P E' (S.mem P cR mo) B' aX base w'→Co base E (S.mem P vs rs) B ρ w E' (S.mem P cR mo) B' aX w'→(∀ k,k < S.rows.length→E'.κ k=E.κ k)→zF P S cR mo→ahg S E E'→Q e.out a' w')→Code.rounds P body Q m a w
 | 0,vs,rs,h,E,B,ρ,base,a,w,Q,cg,ht,hj,hq=>by simp [xB] at h
 | m+1,vs,rs,h,E,B,ρ,base,a,w,Q,cg,ht,hj,hq=>by
  unfold xB at h
  split at h
  ·rename_i e1 vs1 rs1 hr
   rw [rounds_succ]
   refine aeP hP hm ik l8 hf hb hs hc hr cg ht hj fun E' B' aX a' w' h1 h2 h3 h4 h5 h6 h7=>?_
   have fin:x8 e1=false→some (e1,vs1,rs1)=some (e,cR,mo)→Q e1.out a' w':=by
    intro _ h
    simp only [Option.some.injEq,Prod.mk.injEq] at h
    obtain ⟨rfl,rfl,rfl⟩:=h
    exact hq E' B' aX a' w' h1 h2 h3 h4 h5 h6 h7
   cases e1 with
   | normal=>
    have h:xB (py P cfg L n f p body S) m vs1 rs1=some (e,cR,mo):=h
    exact Y0 hP hm ik l8 hf hb hs hc m h h6 h1 h3 fun F7 HS uk YA FC q1 q2 q3 q4 q5 q6 q7=>hq F7 HS uk YA FC q1 (q2.trans h2) q3 (h4.trans q4) (fun k hk=>(q5 k hk).trans (h5 k hk)) q6 fun i p e=>q7 i p (h7 i p e)
   | exit id=>exact fin rfl h
   | goto l=>exact fin rfl h
   | ret=>exact fin rfl h
  ·simp at h
def rz.Kv (P:Program) (S:aQ) (bs:List Nat) (fs:List (Option Nat)) (A:ax):rz→D5
 | .no=>.no
 | .out e vs rs=>.out e (S.iP A.next bs fs vs) (S.YZ P bs fs vs rs A)
 | .br c x y=>.br c (x.Kv P S bs fs A) (y.Kv P S bs fs A)
def ajy (P:Program) (S:aQ) (F:LFn):bA→ax→D5:=fun t A=>
 .br (cond S.stays (S.fL P t A).ok false) ((F (S.fL P t A).vs (S.fL P t A).rs).Kv P S (S.fL P t A).bs (S.fL P t A).fs A) .no
theorem OI {R:Type} {bs:List Nat} {fs:List (Option Nat)} {A:ax} {k:KE R} {r:R} : ∀ (x:rz),(x.Kv P S bs fs A).run k=some r→∃ e cR mo,x.ev=some (e,cR,mo)∧k e (S.iP A.next bs fs cR) (S.YZ P bs fs cR mo A)=some r
 | .no,h=>absurd h (by simp [rz.Kv,D5.run])
 | .out e vs rs,h=>⟨e,vs,rs,rfl,h⟩
 | .br c x y,h=>by
  have h:Bool.rec (motive:=fun _=>Option R) ((y.Kv P S bs fs A).run k) ((x.Kv P S bs fs A).run k) c=some r:=h
  cases c with
  | true=>exact OI x h
  | false=>exact OI y h
theorem aeQ (hP:P.funcs.toList.all mS=true) (hm:P.follows .mixedOrders=true) (ik:qK P cfg.pc) (l8:uA P cfg) {fn:Func} (hf:P.funcs[f]? = some fn) (hb:fn.body=some root) (hs:Sub root p (.loop body)) (hc:codeOk N body=true) {F:LFn}
  (hF:∀ vs rs e cR mo,zF P S vs rs→(F vs rs).ev=some (e,cR,mo)→∃ m,xB (py P cfg L n f p body S) m vs rs=some (e,cR,mo)):Ti P N body (ajy P S F):=by
 intro R k r t A E B ρ base a w Q h ht hj hq
 have h:Bool.rec (motive:=fun _=>Option R) none (((F (S.fL P t A).vs (S.fL P t A).rs).Kv P S (S.fL P t A).bs (S.fL P t A).fs A).run k) (cond S.stays (S.fL P t A).ok false)=some r:=h
 cases iM:S.stays with
 | false=>rw [iM] at h; exact absurd h (by simp)
 | true=>
  rw [iM,cond_true] at h
  cases ho:(S.fL P t A).ok with
  | false=>rw [ho] at h; exact absurd h (by simp)
  | true=>
   rw [ho] at h
   have hG:=Gb ho
   obtain ⟨e,cR,mo,h9,sj⟩:=OI _ h
   obtain ⟨m,hm'⟩:=hF _ _ e cR mo hG.IL h9
   refine wp_loop_rounds m (Y0 hP hm ik l8 hf hb hs hc m hm' hG.IL (hG.tkr ht) ⟨hG.jr hj.k,hj.s⟩ fun E' B' aX a' w' q1 q2 q3 q4 q5 q6 q7=>?_)
   obtain ⟨E2,r1,r2⟩:=abO iM hG hj.k q1 q3.k q4 q5 q7 q6.v q6.rA q6.vP
   exact hq e _ E2 _ B' aX a' w' sj r1 q2 r2
end
def acT:aq→Bool
 | .normal=>true
 | .ret=>true
 | _=>false
def EZ (P:Program) (cfg:eK) (L n:Nat) (g:FuncId) (S:aQ) (vs:List KV) (rs:List (List KV)):Option (aq×List KV×List (List KV)):=
 match P.funcs.toList[g]? with
 | some fn=>match fn.body with
  | some c=>cond fn.results.toList.isEmpty (pM P cfg (D6 P cfg L n) L g c 1 (fun e t A=>
    Bool.rec (motive:=fun _=>Option (aq×List KV×List (List KV))) none (some (.ret,(S.fL P t A).vs,(S.fL P t A).rs)) (cond (acT e) (S.abP P t A) false)) (S.tm S.nr S.ids vs) (S.mem P vs rs)) none
  | none=>none
 | none=>none
def rz.Kw (P:Program) (S:aQ) (bs:List Nat) (fs:List (Option Nat)) (A:ax):rz→tj
 | .no=>.no
 | .out _ vs rs=>.out (.jI []) (S.YZ P bs fs vs rs A)
 | .br c x y=>.br c (x.Kw P S bs fs A) (y.Kw P S bs fs A)
def ald (P:Program) (S:aQ) (F:LFn):List KV→ax→tj:=fun args A=>
 .br (cond S.stays (S.fL P (nC args 0 .leaf) A).ok false) ((F (S.fL P (nC args 0 .leaf) A).vs (S.fL P (nC args 0 .leaf) A).rs).Kw P S (S.fL P (nC args 0 .leaf) A).bs (S.fL P (nC args 0 .leaf) A).fs A) .no
theorem OJ {R:Type} {S:aQ} {bs:List Nat} {fs:List (Option Nat)} {A:ax} {k:KV→ax→Option R} {r:R} : ∀ (x:rz),tj.run k (x.Kw P S bs fs A)=some r→∃ e cR mo,x.ev=some (e,cR,mo)∧k (.jI []) (S.YZ P bs fs cR mo A)=some r
 | .no,h=>absurd h (by simp [rz.Kw,tj.run])
 | .out e vs rs,h=>⟨e,vs,rs,rfl,h⟩
 | .br c x y,h=>by
  have h:Bool.rec (motive:=fun _=>Option R) (tj.run k (y.Kw P S bs fs A)) (tj.run k (x.Kw P S bs fs A)) c=some r:=h
  cases c with
  | true=>exact OJ x h
  | false=>exact OJ y h
theorem ahT {ρ:aW} {args:List KV} {kh:List Value} (hv:BD P E ρ args kh) (m:Nat):kT P E ρ (nC args 0 .leaf) (max m args.length) { tmps:=kh.toArray++Array.replicate (m - kh.toArray.size) undef,defers:=[] }:=by
 obtain ⟨af4,PH,N9⟩:=hv
 have hlen:kh.length=args.length:=by rw [N9.length,PH.length]
 have fq:(kh.toArray++Array.replicate (m - kh.toArray.size) undef).size=max m args.length:=by
  simp [hlen]
  omega
 refine ⟨fq,fun i=>?_,fun i hi=>?_⟩
 ·rw [Dd]
  simp only [Nat.zero_le,true_and,Nat.zero_add,Nat.sub_zero,Trie.LI]
  by_cases hi:i < args.length
  ·rw [if_pos hi]
   obtain ⟨u,hu⟩:∃ u,args[i]? = some u:=⟨_,List.getElem?_eq_getElem hi⟩
   obtain ⟨m',h1,h2⟩:=PH.get hu
   obtain ⟨u',h3,h4⟩:=N9.get h1
   rw [hu]
   have:(kh.toArray++Array.replicate (m - kh.toArray.size) undef).getD i undef=u':=by
    rw [Array.getD_eq_getD_getElem?,Array.getElem?_append_left (by simpa [hlen] using hi)]
    simp [h3]
   rw [this]
   exact ⟨m',h2,h4⟩
  ·rw [if_neg hi]
   exact VC.aw
 ·rw [Dd,if_neg,Trie.LI]
  simp only [Nat.zero_le,true_and,Nat.zero_add]
  have:=Nat.le_max_right m args.length
  omega
theorem agc {cfg:eK} {L n:Nat} {g:FuncId} {S:aQ} {F:LFn} (hP:P.funcs.toList.all mS=true) (hm:P.follows .mixedOrders=true) (ik:qK P cfg.pc) (l8:uA P cfg) (hy:Nat.blt g yB=true)
  (hF:∀ vs rs e cR mo,zF P S vs rs→(F vs rs).ev=some (e,cR,mo)→EZ P cfg L n g S vs rs=some (e,cR,mo)) {R:Type} {args:List KV} {A:ax} {k:KV→ax→Option R} {r:R} (h:tj.run k (ald P S F args A)=some r):F5 P g∧
  ∀ (E:Env) (B:St) (ρ:aW) (base:Nat) (w:World) (kh:List Value),BD P E ρ args kh→KJ P E A B ρ base w→
   Calls P g kh.toArray w fun e w'=>∃ v v' E' A' B' aX,e = .returned v'∧VC P E' aX v v'∧Ev P base E A B ρ w E' A' B' aX w'∧k v A' = some r:=by
 have h:Bool.rec (motive:=fun _=>Option R) none (tj.run k ((F (S.fL P (nC args 0 .leaf) A).vs (S.fL P (nC args 0 .leaf) A).rs).Kw P S (S.fL P (nC args 0 .leaf) A).bs (S.fL P (nC args 0 .leaf) A).fs A)) (cond S.stays (S.fL P (nC args 0 .leaf) A).ok false)=some r:=h
 cases iM:S.stays with
 | false=>rw [iM] at h; exact absurd h (by simp)
 | true=>
 rw [iM,cond_true] at h
 cases ho:(S.fL P (nC args 0 .leaf) A).ok with
 | false=>rw [ho] at h; exact absurd h (by simp)
 | true=>
 rw [ho] at h
 have hG:=Gb ho
 obtain ⟨e0,cR,mo,h9,sj⟩:=OJ _ h
 have mJ:=hF _ _ e0 cR mo hG.IL h9
 unfold EZ at mJ
 split at mJ
 ·rename_i fn hf
  split at mJ
  ·rename_i c hc
   cases hre:fn.results.toList.isEmpty with
   | false=>rw [hre] at mJ; exact absurd mJ (by simp)
   | true=>
   rw [hre,cond_true] at mJ
   have hf' : P.funcs[g]? = some fn:=by simpa using hf
   have cg:=List.all_eq_true.1 hP fn (List.mem_of_getElem? hf)
   unfold mS at cg
   rw [hc] at cg
   simp only [Bool.and_eq_true,Bool.not_eq_true'] at cg
   refine ⟨⟨hy,fn,hf',by simp [hc],cg.2⟩,fun E B ρ base w kh hv hj=>?_⟩
   refine calls_of_wp hf' hc ?_
   have ht:=ahT hv fn.ntmps
   have Va:codeOk (max fn.ntmps args.length) c=true:=mi (Nat.le_max_left _ _) c cg.1
   have tZ:=s9 (R:=aq×List KV×List (List KV)) hP hm ik l8 L n
   refine mn (L:=L) (f:=g) (N:=max fn.ntmps args.length) ik tZ hm (l8.2 g fn c hf' hc) c 1 .root Va _ _ _ _ (E.sub A (S.fL P (nC args 0 .leaf) A).bs (S.fL P (nC args 0 .leaf) A).fs S.nr) B ρ base _ w _ mJ (hG.tkr ht) ⟨hG.jr hj.k,hj.s⟩ fun e t' E1 A1 B1 mI a1 w1 h1 h2 h3 h4=>?_
   cases he:acT e with
   | false=>simp only [he,cond_false] at h1; exact absurd h1 (by simp)
   | true=>
   simp only [he,cond_true] at h1
   cases hi:S.abP P t' A1 with
   | false=>simp only [hi] at h1; exact absurd h1 (by simp)
   | true=>
   simp only [hi,Option.some.injEq,Prod.mk.injEq] at h1
   obtain ⟨_,rfl,rfl⟩:=h1
   obtain ⟨i1,i2,i3⟩:=aeN hi
   have hG1:=Gb i3
   have hj0:KJ P (E.sub A (S.fL P (nC args 0 .leaf) A).bs (S.fL P (nC args 0 .leaf) A).fs S.nr) (S.mem P (S.fL P (nC args 0 .leaf) A).vs (S.fL P (nC args 0 .leaf) A).rs) B ρ base w:=⟨hG.jr hj.k,hj.s⟩
   obtain ⟨E2,_,r2⟩:=abO iM hG hj.k (hG1.tkr h2) (hG1.jr h4.jr) (h4.co hG1) (abQ hG.IL hj0 h4 hG1 i1) (aeO hG1 i2 hG.IL hj0.k h4.le) hG1.IL.v hG1.IL.rA hG1.IL.vP
   have aiH:fn.results.toList = []:=List.isEmpty_iff.1 hre
   have aeA:(results fn a1.tmps).run P w1 = .ok (.tuple #[]) w1:=by
    rw [UU,Sem.run_bind,Array.mapM_eq_mapM_toList,Sem.run_map,aiH]
    rfl
   have YM:bodyPost P fn (fun e w'=>∃ v v' E' A' B' aX,e = .returned v'∧VC P E' aX v v'∧Ev P base E A B ρ w E' A' B' aX w'∧k v A' = some r) .ret a1 w1:=
    ⟨h3,_,aeA,_,_,E2,_,B1,mI,rfl,⟨_,.X4 .nil,VR.mkTuple .nil⟩,r2,sj⟩
   cases e with
   | normal=>exact YM
   | ret=>exact YM
   | exit id=>simp [acT] at he
   | goto l=>simp [acT] at he
  ·simp at mJ
 ·simp at mJ
end
end Go.K
end
section
namespace Go.K
open Go Go.aE
variable {P:Program} {E:Env}
def acU:Code→Bool→Option Code
 | .seq a _,false=>some a
 | .seq _ b,true=>some b
 | .cond _ a _,false=>some a
 | .cond _ _ b,true=>some b
 | .block _ a,false=>some a
 | .loop a,false=>some a
 | .scope a,false=>some a
 | _,_=>none
def qf:Nat→Code→Nat→Option Code
 | 0,_,_=>none
 | n+1,root,p=>cond (Nat.ble p 1) (cond (Nat.beq p 1) (some root) none) ((qf n root (p / 2)).bind fun c=>acU c (Nat.beq (p % 2) 1))
theorem Qy:∀ {n:Nat} {root c:Code} {p:Nat},qf n root p=some c→qf (n+1) root p=some c
 | 0,_,_,_,h=>by simp [qf] at h
 | n+1,root,c,p,h=>by
  unfold qf at h ⊢
  cases hp:Nat.ble p 1 with
  | true=>rw [hp] at h; exact h
  | false=>
   rw [hp] at h
   simp only [cond_false] at h ⊢
   obtain ⟨d,h1,h2⟩:=Option.bind_eq_some_iff.1 h
   exact Option.bind_eq_some_iff.2 ⟨d,Qy h1,h2⟩
theorem OK {root c:Code} {p n:Nat} (h:qf n root p=some c):∀ k,qf (n+k) root p=some c
 | 0=>h
 | k+1=>Qy (OK h k)
theorem Sub.pos {root c:Code} {p:Nat} (h:Sub root p c):1≤p:=by induction h <;> omega
theorem Sub.at {root c:Code} {p:Nat} (h:Sub root p c):∃ n,qf n root p=some c:=by
 have left:∀ {q n:Nat} {d:Code},1≤q→qf n root q=some d→qf (n+1) root (2 * q)=acU d false:=by
  intro q n d hq hd
  unfold qf
  have:Nat.ble (2 * q) 1=false:=by
   cases hb:Nat.ble (2 * q) 1 with
   | false=>rfl
   | true=>have:=Nat.le_of_ble_eq_true hb; omega
  rw [this,cond_false,show 2 * q / 2=q by omega,hd,show 2 * q % 2=0 by omega]
  rfl
 have right:∀ {q n:Nat} {d:Code},1≤q→qf n root q=some d→qf (n+1) root (2 * q+1)=acU d true:=by
  intro q n d hq hd
  unfold qf
  have:Nat.ble (2 * q+1) 1=false:=by
   cases hb:Nat.ble (2 * q+1) 1 with
   | false=>rfl
   | true=>have:=Nat.le_of_ble_eq_true hb; omega
  rw [this,cond_false,show (2 * q+1) / 2=q by omega,hd,show (2 * q+1) % 2=1 by omega]
  rfl
 induction h with
 | root=>exact ⟨1,rfl⟩
 | ak4 hs ih=>obtain ⟨n,hn⟩:=ih; exact ⟨n+1,left hs.pos hn⟩
 | ak5 hs ih=>obtain ⟨n,hn⟩:=ih; exact ⟨n+1,right hs.pos hn⟩
 | ajc hs ih=>obtain ⟨n,hn⟩:=ih; exact ⟨n+1,left hs.pos hn⟩
 | ajd hs ih=>obtain ⟨n,hn⟩:=ih; exact ⟨n+1,right hs.pos hn⟩
 | block hs ih=>obtain ⟨n,hn⟩:=ih; exact ⟨n+1,left hs.pos hn⟩
 | loop hs ih=>obtain ⟨n,hn⟩:=ih; exact ⟨n+1,left hs.pos hn⟩
 | scope hs ih=>obtain ⟨n,hn⟩:=ih; exact ⟨n+1,left hs.pos hn⟩
theorem Sub.uniq {root c d:Code} {p n:Nat} (h:Sub root p c) (k:qf n root p=some d):c=d:=by
 obtain ⟨m,hm⟩:=h.at
 have h1:=OK hm n
 have h2:=OK k m
 rw [Nat.add_comm] at h1
 rw [h1] at h2
 simpa using h2
def fh (P:Program) (f p:Nat):Code:=
 match P.funcs.toList[f]? with
 | some fn=>match fn.body with
  | some c=>match qf 200 c p with
   | some (.loop b)=>b
   | _=>.skip
  | none=>.skip
 | none=>.skip
structure Lp where
 f:Nat
 p:Nat
 S:aQ
 F:LFn
 st:Bool
noncomputable def ahh (st:Bool) (P:Program) (cfg:eK) (L n:Nat) (f:FuncId) (p:Nat) (body:Code) (S:aQ) (vs:List KV) (rs:List (List KV)):Option (aq×List KV×List (List KV)):=
 cond st (py P cfg L n f p body S vs rs) (jk P cfg L n f p body S vs rs)
noncomputable def Y1 (P:Program):List Lp→FuncId→Nat→Option (bA→ax→D5)
 | [],_,_=>none
 | l::ls,f,p=>cond (Nat.beq l.f f&&Nat.beq l.p p) (some (cond l.st (ajy P l.S l.F) (ak8 P l.S l.F))) (Y1 P ls f p)
def Lp.Ok (P:Program) (l:Lp):Prop:=∃ cfg L n,qK P cfg.pc∧uA P cfg∧
 ∀ vs rs e cR mo,zF P l.S vs rs→(l.F vs rs).ev=some (e,cR,mo)→∃ m,xB (ahh l.st P cfg L n l.f l.p (fh P l.f l.p) l.S) m vs rs=some (e,cR,mo)
def cC (P:Program) (f p:Nat):Bool:=
 match P.funcs.toList[f]? with
 | some fn=>match fn.body with
  | some c=>match qf 200 c p with
   | some (.loop _)=>true
   | _=>false
  | none=>false
 | none=>false
theorem ahi (hP:P.funcs.toList.all mS=true) (hm:P.follows .mixedOrders=true) {pc:FuncId→Option (List KV→KR KV)} {x:adT} : ∀ {ls:List Lp},(∀ l∈ls,Lp.Ok P l∧cC P l.f l.p=true)→∀ f fn c,P.funcs[f]? = some fn→fn.body=some c→ag7 P ⟨pc,Y1 P ls,x⟩ f c
 | [],_=>fun f fn c hf hb p F body h=>by simp [Y1] at h
 | l::ls,hl=>fun f fn c hf hb p F body h hs N hc=>by
  have h:Y1 P (l::ls) f p=some F:=h
  unfold Y1 at h
  cases hk:(Nat.beq l.f f&&Nat.beq l.p p) with
  | false=>
   rw [hk] at h
   exact ahi hP hm (pc:=pc) (x:=x) (fun l' r5=>hl l' (List.mem_cons_of_mem _ r5)) f fn c hf hb p F body h hs N hc
  | true=>
   rw [hk] at h
   simp only [cond_true,Option.some.injEq] at h
   subst h
   simp only [Bool.and_eq_true] at hk
   have e1:=Nat.eq_of_beq_eq_true hk.1
   have e2:=Nat.eq_of_beq_eq_true hk.2
   obtain ⟨⟨cfg,L,n,ik,l8,hF⟩,hth⟩:=hl l (by simp)
   rw [e1,e2] at hF hth
   have hf' : P.funcs.toList[f]? = some fn:=by simpa using hf
   have alE:fh P f p=body:=by
    unfold cC at hth
    unfold fh
    simp only [hf',hb] at hth ⊢
    split at hth
    ·rename_i b yy
     have:=hs.uniq yy
     simp at this
     exact this.symm
    ·simp at hth
   rw [alE] at hF
   cases iM:l.st with
   | true=>
    rw [iM] at hF
    exact aeQ hP hm ik l8 hf hb hs hc hF
   | false=>
    rw [iM] at hF
    exact aga hP hm ik l8 hf hb hs hc hF
theorem L8 (hP:P.funcs.toList.all mS=true) (hm:P.follows .mixedOrders=true) {pc:FuncId→Option (List KV→KR KV)} {x:adT} (hx:abD P x.ac) {ls:List Lp} (hl:∀ l∈ls,Lp.Ok P l∧cC P l.f l.p=true):uA P ⟨pc,Y1 P ls,x⟩:=
 ⟨hx,ahi hP hm hl⟩
structure Fc where
 g:Nat
 S:aQ
 F:LFn
noncomputable def abR (P:Program):List Fc→FuncId→Option (List KV→ax→tj)
 | [],_=>none
 | c::cs,g=>cond (Nat.beq c.g g) (some (ald P c.S c.F)) (abR P cs g)
def Fc.Ok (P:Program) (c:Fc):Prop:=Nat.blt c.g yB=true∧∃ cfg L n,qK P cfg.pc∧uA P cfg∧
 ∀ vs rs e cR mo,zF P c.S vs rs→(c.F vs rs).ev=some (e,cR,mo)→EZ P cfg L n c.g c.S vs rs=some (e,cR,mo)
theorem L9 (hP:P.funcs.toList.all mS=true) (hm:P.follows .mixedOrders=true):∀ {cs:List Fc},(∀ c∈cs,Fc.Ok P c)→abD P (abR P cs)
 | [],_=>fun g F h=>by simp [abR] at h
 | c::cs,hc=>fun g F h=>by
  have h:abR P (c::cs) g=some F:=h
  unfold abR at h
  cases hk:Nat.beq c.g g with
  | false=>
   rw [hk] at h
   intro R args A k r hr
   exact L9 hP hm (fun c' hc'=>hc c' (List.mem_cons_of_mem _ hc')) g F h args A k r hr
  | true=>
   rw [hk] at h
   simp only [cond_true,Option.some.injEq] at h
   subst h
   have e1:=Nat.eq_of_beq_eq_true hk
   subst e1
   obtain ⟨hy,cfg,L,n,ik,l8,hF⟩:=hc c (by simp)
   intro R args A k r hr
   exact agc hP hm ik l8 hy hF hr
end Go.K
end
