/- Part of the proof of ImageLeaves: a machine that runs the program's code over open terms, shown to be the model's, and the plain models of its functions. No conditions. -/
import Derived.Test.YtahhdndhkgbcjaaFp
section
namespace Go.K
open Go Go.aE
variable {P:Program} {E:Env}
theorem ZH:∀ {bs:List Nat},vq bs=true→∀ (i j b:Nat),bs[i]? = some b→bs[j]? = some b→i=j
 | [],_,i,j,b,hi,_=>by simp at hi
 | a::bs,h,i,j,b,hi,hj=>by
  simp only [vq,Bool.and_eq_true,List.all_eq_true,Bool.not_eq_true'] at h
  cases i with
  | zero=>
   cases j with
   | zero=>rfl
   | succ j=>
    simp at hi hj; subst hi
    have:=h.1 a (List.mem_of_getElem? hj)
    exact absurd (Nat.beq_refl a) (by rw [this]; simp)
  | succ i=>
   cases j with
   | zero=>
    simp at hi hj; subst hj
    have:=h.1 a (List.mem_of_getElem? hi)
    exact absurd (Nat.beq_refl a) (by rw [this]; simp)
   | succ j=>
    simp at hi hj
    rw [ZH h.2 i j b hi hj]
theorem uR:∀ {l:List (Option Nat)} {f:Nat},f∈jN l↔some f∈l
 | [],f=>by simp [jN]
 | some g::l,f=>by simp [jN,uR (l:=l)]
 | none::l,f=>by simp [jN,uR (l:=l)]
theorem vr:∀ {l:List (Option Nat)},vq (jN l)=true→∀ (i j f:Nat),l[i]? = some (some f)→l[j]? = some (some f)→i=j
 | [],_,i,j,b,hi,_=>by simp at hi
 | none::l,h,i,j,f,hi,hj=>by
  cases i with
  | zero=>simp at hi
  | succ i=>
   cases j with
   | zero=>simp at hj
   | succ j=>
    simp at hi hj
    rw [vr (l:=l) h i j f hi hj]
 | some g::l,h,i,j,f,hi,hj=>by
  simp only [jN,vq,Bool.and_eq_true,List.all_eq_true,Bool.not_eq_true'] at h
  have key:∀ {k:Nat},l[k]? = some (some g)→False:=by
   intro k hk
   have:=h.1 g (uR.2 (List.mem_of_getElem? hk))
   exact absurd (Nat.beq_refl g) (by rw [this]; simp)
  cases i with
  | zero=>
   cases j with
   | zero=>rfl
   | succ j=>
    simp at hi hj; subst hi
    exact (key hj).elim
  | succ i=>
   cases j with
   | zero=>
    simp at hi hj; subst hj
    exact (key hi).elim
   | succ j=>
    simp at hi hj
    rw [vr (l:=l) h.2 i j f hi hj]
theorem IK:∀ {l:List FI} {i:Nat} {x:FI},l[i]? = some x→(II l)[i]? = some x.f
 | [],_,_,h=>by simp at h
 | y::l,0,x,h=>by simp at h; subst h; rfl
 | y::l,i+1,x,h=>by simp at h; simpa [II] using IK h
theorem qU:∀ {l:List FI},(II l).length=l.length
 | []=>rfl
 | y::l=>by simp [II,qU]
theorem Pm:∀ {l:List FI},Ug l=true→∀ x∈l,x.ok=true
 | [],_,x,h=>by simp at h
 | y::l,h,x,hx=>by
  simp only [Ug] at h
  cases hl:Ug l with
  | false=>rw [hl] at h; simp at h
  | true=>
   rw [hl,cond_true] at h
   rcases List.mem_cons.1 hx with rfl | hx
   ·exact h
   ·exact Pm hl x hx
theorem gK:∀ (l:List jA) (A:ax),(rQ A l).next=A.next+l.length
 | [],_=>rfl
 | p::l,A=>by rw [rQ,gK l]; simp; omega
theorem CC:∀ {l:List jA} {A:ax} {x:Nat},x < A.next→(rQ A l).get x=A.get x
 | [],_,_,_=>rfl
 | p::l,A,x,h=>by rw [rQ,CC (by simp; omega),ax.dr,if_neg (by omega)]
theorem K8:∀ {l:List jA} {A:ax} {i:Nat} {p:jA},l[i]? = some p→(rQ A l).get (A.next+i)=some p
 | [],_,_,_,h=>by simp at h
 | q::l,A,0,p,h=>by
  simp at h; subst h
  rw [rQ,Nat.add_zero,CC (by simp),ax.dr,if_pos rfl]
 | q::l,A,i+1,p,h=>by
  simp at h
  have:=K8 (A:=A.new q) h
  rw [ax.cr] at this
  rw [rQ,show A.next+(i+1)=A.next+1+i by omega]
  exact this
theorem Ri:∀ {l:List jA} {A:ax} {x:Nat} {o:jA},(rQ A l).get x=some o→(A.get x=some o∧x < A.next+l.length)∨(x < A.next∧A.get x=some o)∨(∃ i p,x=A.next+i∧l[i]? = some p∧o=p)∨A.get x=some o
 | [],_,_,_,h=>.inr (.inr (.inr h))
 | p::l,A,x,o,h=>by
  rw [rQ] at h
  have key:(A.new p).get x=some o→(∃ i q,x=A.next+i∧(p::l)[i]? = some q∧o=q)∨A.get x=some o:=by
   intro h
   rw [ax.dr] at h
   split at h
   ·rename_i e; simp at h; exact .inl ⟨0,p,by omega,rfl,h.symm⟩
   ·exact .inr h
  rcases Ri h with ⟨h,_⟩ | ⟨_,h⟩ | ⟨i,q,e,h1,h2⟩ | h
  ·exact .inr (.inr (key h))
  ·exact .inr (.inr (key h))
  ·exact .inr (.inr (.inl ⟨i+1,q,by rw [e]; simp; omega,by simpa using h1,h2⟩))
  ·exact .inr (.inr (key h))
theorem Rj {l:List jA} {A:ax} {x:Nat} {o:jA} (h:(rQ A l).get x=some o):A.get x=some o∨∃ i p,x=A.next+i∧l[i]? = some p∧o=p:=by
 rcases Ri h with ⟨h,_⟩ | ⟨_,h⟩ | h | h
 ·exact .inl h
 ·exact .inl h
 ·exact .inr h
 ·exact .inl h
theorem Ew:∀ (l:List (Option Nat)) (A:ax),(xI A l).next=A.next
 | [],_=>rfl
 | some f::l,A=>by rw [xI,Ew l]; rfl
 | none::l,A=>by rw [xI,Ew l]
theorem Dz:∀ {l:List (Option Nat)} {A:ax} {x:Nat},(xI A l).get x=if x∈jN l then some .dead else A.get x
 | [],A,x=>by simp [xI,jN]
 | none::l,A,x=>by rw [xI,Dz,jN]
 | some f::l,A,x=>by
  rw [xI,Dz,jN,ax.cd]
  by_cases h1:x∈jN l
  ·rw [if_pos h1,if_pos (List.mem_cons_of_mem _ h1)]
  ·rw [if_neg h1]
   by_cases h2:x=f
   ·rw [if_pos h2,if_pos (by simp [h2])]
   ·rw [if_neg h2,if_neg (by simp [h1,h2])]
theorem Pn:∀ (bs:List Nat) (ps:List (Tmp×List CD×Nat)) (rs:List (List KV)) (A:ax),(n5 A bs ps rs).next=A.next
 | [],_,_,_=>rfl
 | _::_,[],_,_=>rfl
 | _::_,_::_,[],_=>rfl
 | b::bs,p::ps,r::rs,A=>by rw [n5,Pn bs ps rs]; rfl
theorem K9:∀ {bs:List Nat} {ps:List (Tmp×List CD×Nat)} {rs:List (List KV)} {A:ax} {x:Nat},x ∉ bs→(n5 A bs ps rs).get x=A.get x
 | [],_,_,_,_,_=>rfl
 | _::_,[],_,_,_,_=>rfl
 | _::_,_::_,[],_,_,_=>rfl
 | b::bs,p::ps,r::rs,A,x,h=>by
  simp only [List.mem_cons,not_or] at h
  rw [n5,K9 h.2,ax.cd,if_neg h.1]
theorem afA:∀ {bs:List Nat} {ps:List (Tmp×List CD×Nat)} {rs:List (List KV)} {A:ax} {k b:Nat} {p:Tmp×List CD×Nat} {r:List KV},vq bs=true→bs[k]? = some b→ps[k]? = some p→rs[k]? = some r→(n5 A bs ps rs).get b=some (.row r p.2.2)
 | [],_,_,_,_,_,_,_,_,h,_,_=>by simp at h
 | _::_,[],_,_,_,_,_,_,_,_,h,_=>by simp at h
 | _::_,_::_,[],_,_,_,_,_,_,_,_,h=>by simp at h
 | b::bs,p::ps,r::rs,A,k,x,p',r',hn,hb,hp,hr=>by
  have H0:=hn
  simp only [vq,Bool.and_eq_true] at hn
  cases k with
  | zero=>
   simp at hb hp hr
   subst hb hp hr
   rw [n5,K9,ax.cd,if_pos rfl]
   intro hm
   have:=List.all_eq_true.1 hn.1 b hm
   simp at this
  | succ k=>
   simp only [List.getElem?_cons_succ] at hb hp hr
   rw [n5]
   exact afA hn.2 hb hp hr
theorem acy:∀ {ps:List (Tmp×List CD×Nat)} {rs:List (List KV)} {A:ax},rs.length=ps.length→(qt A ps rs).next=A.next+ps.length
 | [],[],_,_=>rfl
 | [],_::_,_,h=>by simp at h
 | _::_,[],_,h=>by simp at h
 | p::ps,r::rs,A,h=>by rw [qt,acy (by simpa using h)]; simp; omega
theorem afB:∀ {ps:List (Tmp×List CD×Nat)} {rs:List (List KV)} {A:ax} {x:Nat},x < A.next→(qt A ps rs).get x=A.get x
 | [],_,_,_,_=>rfl
 | _::_,[],_,_,_=>rfl
 | p::ps,r::rs,A,x,h=>by rw [qt,afB (by simp; omega),ax.dr,if_neg (by omega)]
theorem aia:∀ {ps:List (Tmp×List CD×Nat)} {rs:List (List KV)} {A:ax} {k:Nat} {p:Tmp×List CD×Nat} {r:List KV},ps[k]? = some p→rs[k]? = some r→(qt A ps rs).get (A.next+k)=some (.row r p.2.2)
 | [],_,_,_,_,_,h,_=>by simp at h
 | _::_,[],_,_,_,_,_,h=>by simp at h
 | p::ps,r::rs,A,k,p',r',hp,hr=>by
  cases k with
  | zero=>
   simp at hp hr; subst hp hr
   rw [qt,Nat.add_zero,afB (by simp),ax.dr,if_pos rfl]
  | succ k=>
   simp only [List.getElem?_cons_succ] at hp hr
   have:=aia (A:=A.new (.row r p.2.2)) hp hr
   rw [qt]
   simpa [Nat.add_comm,Nat.add_left_comm] using this
theorem afC:∀ {ps:List (Tmp×List CD×Nat)} {rs:List (List KV)} {A:ax} {x:Nat} {o:jA},(qt A ps rs).get x=some o→A.get x=some o∨∃ k p r,x=A.next+k∧ps[k]? = some p∧rs[k]? = some r∧o = .row r p.2.2
 | [],_,_,_,_,h=>.inl h
 | _::_,[],_,_,_,h=>.inl h
 | p::ps,r::rs,A,x,o,h=>by
  rw [qt] at h
  rcases afC h with h | ⟨k,p',r',rfl,h1,h2,h3⟩
  ·rw [ax.dr] at h
   by_cases e:x=A.next
   ·rw [if_pos e] at h; simp at h
    exact .inr ⟨0,p,r,by omega,rfl,rfl,h.symm⟩
   ·rw [if_neg e] at h; exact .inl h
  ·exact .inr ⟨k+1,p',r',by simp; omega,by simpa using h1,by simpa using h2,h3⟩
theorem acz:∀ (n:Nat) (l:List Nat) (k:Nat),(upto n l)[k]? = if k < n then some k else l[k - n]?
 | 0,l,k=>by simp [upto]
 | n+1,l,k=>by
  rw [upto,acz n]
  by_cases h:k < n
  ·rw [if_pos h,if_pos (by omega)]
  ·rw [if_neg h]
   by_cases h2:k=n
   ·subst h2
    rw [if_pos (by omega)]
    simp
   ·rw [if_neg (by omega),show k - n=(k - (n+1))+1 by omega]
    simp
theorem GF (S:aU) (k:Nat) (h:k < S.rows.length):S.ids[k]? = some k:=by rw [aU.ids,acz,if_pos h]
theorem Lb:∀ {a b:List Nat},uQ a b=true→a=b
 | [],[],_=>rfl
 | [],_::_,h=>by simp [uQ] at h
 | _::_,[],h=>by simp [uQ] at h
 | x::a,y::b,h=>by
  simp only [uQ,Bool.and_eq_true] at h
  rw [Nat.eq_of_beq_eq_true h.1,Lb h.2]
theorem Ex {t:bz} {A:ax} {p:Tmp×List CD×Nat} (h:(rowOf t A p).isSome=true):∃ b cs,A.get b=some (.row cs p.2.2)∧cs.length=p.2.1.length∧ah8 t A p=b∧Et t A p=cs:=by
 unfold rowOf at h
 split at h
 ·rename_i b hb
  split at h
  ·rename_i cs e hr
   cases hc:(Nat.beq e p.2.2&&Nat.beq cs.length p.2.1.length) with
   | false=>rw [hc] at h; simp at h
   | true=>
    have hro:rowOf t A p=some (b,cs):=by simp only [rowOf,hb,hr,hc,cond_true]
    simp only [Bool.and_eq_true] at hc
    have he:=Nat.eq_of_beq_eq_true hc.1
    subst he
    exact ⟨b,cs,hr,Nat.eq_of_beq_eq_true hc.2,by simp [ah8,hro],by simp [Et,hro]⟩
  ·simp at h
 ·simp at h
structure dP (P:Program) (S:aU) (t:bz) (A:ax) (g:GR):Prop where
 rows:xi P t A S.rows=true
 nodup:vq g.bs=true
 V7:MG t g.bs S.V7=true
 dW:iv S.dW g.vs=true
 X3:vq (jN g.fs)=true
 amb:K7 S.rows.length g.bs t S.dW=true
 amc:Uh S.rows.length g.bs t A S.rows=true
 tN:Ug (S.M9 P t A)=true
 bs:g.bs=xF t A S.rows
 fs:g.fs=II (S.M9 P t A)
 vs:g.vs=pq P t A S.dW
 rs:g.rs=Fq P t A S.rows
theorem GG {S:aU} {t:bz} {A:ax} (h:(S.fL P t A).ok=true):dP P S t A (S.fL P t A):=by
 unfold aU.fL at h ⊢
 simp only at h ⊢
 cases hc:(xi P t A S.rows&&vq (xF t A S.rows)&&MG t (xF t A S.rows) S.V7&&iv S.dW (pq P t A S.dW)&&vq (jN (II (S.M9 P t A)))&&K7 S.rows.length (xF t A S.rows) t S.dW&&Uh S.rows.length (xF t A S.rows) t A S.rows) with
 | false=>rw [hc] at h; simp at h
 | true=>
  rw [hc,cond_true] at h
  simp only [Bool.and_eq_true] at hc
  exact ⟨hc.1.1.1.1.1.1,hc.1.1.1.1.1.2,hc.1.1.1.1.2,hc.1.1.1.2,hc.1.1.2,hc.1.2,hc.2,h,rfl,rfl,rfl,rfl⟩
theorem ZI {t:bz} {A:ax} : ∀ {ps:List (Tmp×List CD×Nat)} {k:Nat} {p:Tmp×List CD×Nat},ps[k]? = some p→(xF t A ps)[k]? = some (ah8 t A p)
 | [],_,_,h=>by simp at h
 | p::ps,0,q,h=>by simp at h; subst h; rfl
 | p::ps,k+1,q,h=>by simp at h; simpa [xF] using ZI h
theorem AY {t:bz} {A:ax} : ∀ {ps:List (Tmp×List CD×Nat)},(xF t A ps).length=ps.length
 | []=>rfl
 | p::ps=>by simp [xF,AY]
theorem NX {t:bz} {A:ax} : ∀ {ps:List (Tmp×List CD×Nat)},(Fq P t A ps).length=ps.length
 | []=>rfl
 | p::ps=>by simp [Fq,NX]
theorem Wb {t:bz} {A:ax} : ∀ {ps:List (Tmp×List CD×Nat)},xi P t A ps=true→∀ {k:Nat} {p:Tmp×List CD×Nat},ps[k]? = some p→(rowOf t A p).isSome=true∧dN p.2.1 (fA P A p.2.1 (Et t A p))=true
 | [],_,k,p,h=>by simp at h
 | q::ps,h,k,p,hp=>by
  simp only [xi,Bool.and_eq_true] at h
  cases k with
  | zero=>simp at hp; subst hp; exact ⟨h.1,h.2.1⟩
  | succ k=>simp at hp; exact Wb h.2.2 hp
theorem Rl:∀ {ps:List (Tmp×List CD×Nat)} {rs:List (List KV)},rs.length=ps.length→∀ (j:Nat) (bs:List Nat),(Wa j bs ps rs).length=ps.length
 | [],[],_,_,_=>rfl
 | [],_::_,h,_,_=>by simp at h
 | _::_,[],h,_,_=>by simp at h
 | p::ps,r::rs,h,j,bs=>by simp [Wa,Rl (by simpa using h)]
def yi (j:Nat):List (Tmp×List CD×Nat)→Nat→Nat
 | [],_=>j
 | _::_,0=>j
 | p::ps,k+1=>yi (j+qq p.2.1) ps k
theorem MJ {bs:List Nat} : ∀ {ps:List (Tmp×List CD×Nat)} {rs:List (List KV)} {j k:Nat} {p:Tmp×List CD×Nat} {r:List KV},ps[k]? = some p→rs[k]? = some r→(Wa j bs ps rs)[k]? = some (p8 (yi j ps k) bs p.2.1 r)
 | [],_,_,_,_,_,h,_=>by simp at h
 | _::_,[],_,_,_,_,_,h=>by simp at h
 | p::ps,r::rs,j,0,p',r',h1,h2=>by simp at h1 h2; subst h1 h2; rfl
 | p::ps,r::rs,j,k+1,p',r',h1,h2=>by
  simp at h1 h2
  simp only [Wa,List.getElem?_cons_succ]
  exact MJ h1 h2
theorem ZJ {E0:Env} {t:bz} {A:ax} : ∀ {ps:List (Tmp×List CD×Nat)} {j:Nat},xi P t A ps=true→oH E E0 (Dx P t A ps) j→∀ {k:Nat} {p:Tmp×List CD×Nat},ps[k]? = some p→oH E E0 (lT P A p.2.1 (Et t A p)) (yi j ps k)
 | [],_,_,_,_,_,h=>by simp at h
 | q::ps,j,hr,hf,k,p,hp=>by
  simp only [xi,Bool.and_eq_true] at hr
  obtain ⟨b,cs,_,hl,_,hC⟩:=Ex hr.1
  cases k with
  | zero=>simp at hp; subst hp; exact hf.left
  | succ k=>
   simp at hp
   have:=hf.right
   rw [lq (by rw [hC]; exact hl)] at this
   exact ZJ hr.2.2 this hp
theorem AZ {t:bz} {A:ax} : ∀ {ps:List (Tmp×VD)},iv ps (pq P t A ps)=true→(BT P t A ps).length=nu ps
 | [],_=>rfl
 | p::ps,h=>by
  simp only [pq,iv,Bool.and_eq_true] at h
  simp only [BT,nu,List.length_append]
  rw [lq (Eu h.1),AZ h.2]
def GH (P:Program) (A:ax) (x:FI) (q:jA):Prop:=
 (∃ n sz,q = .bc n sz∧((x.f=none∧n=0)∨∃ f,x.f=some f∧A.get f=some (.bc n sz)))∨
 ∃ t v,q = .arr v∧((x.f=none∧1≤bd P t∧v=K.aj P aq (.ts t .any 0 [] ot))∨∃ f m N es acc,x.f=some f∧A.get f=some (.arr (.ts t m N es acc))∧v=K.aj P aq (.ts t .any N es acc))
theorem akf {A:ax} {t:TypeId} {v:KV} (b9:(Fs P A t v).ok=true) (hg:jJ (.arr t) (fy P A (.arr t) v)=true):GH P A (Fs P A t v) (.arr (fy P A (.arr t) v)):=by
 rcases Ui hg with rfl | ⟨b,n,m,N,es,acc,rfl,hb,he⟩
 ·exact .inr ⟨t,_,rfl,.inl ⟨rfl,Nat.le_of_ble_eq_true b9,rfl⟩⟩
 ·refine .inr ⟨t,_,rfl,.inr ⟨b,m,N,es,acc,?_,hb,he⟩⟩
  simp only [Fs,hb]
theorem akg {A:ax} {t:TypeId} {v:KV} (b9:(sL P A t v).ok=true) (hg:jJ (.bc t) (fy P A (.bc t) v)=true):GH P A (sL P A t v) (.bc (lenOf (fy P A (.bc t) v)) (szL P t)):=by
 refine .inl ⟨_,_,rfl,?_⟩
 cases v with
 | lk=>exact .inl ⟨rfl,rfl⟩
 | ts t' m n es acc=>
  cases m with
  | bc f=>
   have e1:fy P A (.bc t) (.ts t' (.bc f) n es acc)=cond (Nat.beq t t') (K.aj P aq (.ts t .any n es acc)) .aw:=rfl
   rw [e1] at hg ⊢
   cases hb:Nat.beq t t' with
   | false=>rw [hb] at hg; simp [jJ,kindOk] at hg
   | true=>
    rw [cond_true]
    refine .inr ⟨f,?_,?_⟩
    ·revert b9
     unfold sL
     simp only
     split
     ·intro _; rfl
     ·intro b9; simp at b9
    ·revert b9
     unfold sL
     simp only
     split
     ·rename_i top sz he
      intro b9
      simp only at b9
      cases hs:Nat.beq sz (szL P t) with
      | false=>rw [hs] at b9; simp at b9
      | true=>
       rw [hs,cond_true] at b9
       have h1:=Nat.eq_of_beq_eq_true hs
       have h2:=Nat.eq_of_beq_eq_true (show Nat.beq top n=true from b9)
       subst h1 h2
       exact he
     ·intro b9; simp at b9
  | any=>simp [sL] at b9
  | exact=>simp [sL] at b9
 | _=>simp [sL] at b9
theorem uT {A:ax} : ∀ {ds:List CD} {vs:List KV} {i:Nat} {x:FI},vs.length=ds.length→dN ds (fA P A ds vs)=true→(lT P A ds vs)[i]? = some x→x.ok=true→∃ q,(oG P ds (fA P A ds vs))[i]? = some q∧GH P A x q
 | [],[],_,_,_,_,h,_=>by simp [lT] at h
 | [],_::_,_,_,e,_,_,_=>by simp at e
 | _::_,[],_,_,e,_,_,_=>by simp at e
 | .k c::ds,v::vs,i,x,e,hg,h,b9=>by
  simp only [fA,dN,Bool.and_eq_true] at hg
  have h' : (lT P A ds vs)[i]? = some x:=h
  exact uT (ds:=ds) (vs:=vs) (by simpa using e) hg.2 h' b9
 | .lit c::ds,v::vs,i,x,e,hg,h,b9=>by
  simp only [fA,dN,Bool.and_eq_true] at hg
  have h' : (lT P A ds vs)[i]? = some x:=h
  exact uT (ds:=ds) (vs:=vs) (by simpa using e) hg.2 h' b9
 | .ref c::ds,v::vs,i,x,e,hg,h,b9=>by
  simp only [fA,dN,Bool.and_eq_true] at hg
  have h' : (lT P A ds vs)[i]? = some x:=h
  exact uT (ds:=ds) (vs:=vs) (by simpa using e) hg.2 h' b9
 | .bc t::ds,v::vs,i,x,e,hg,h,b9=>by
  simp only [fA,dN,Bool.and_eq_true] at hg
  cases i with
  | zero=>
   simp [lT] at h
   subst h
   exact ⟨_,rfl,akg b9 hg.1⟩
  | succ i=>
   simp [lT] at h
   obtain ⟨q,h1,h2⟩:=uT (by simpa using e) hg.2 h b9
   exact ⟨q,by simpa [oG,fA] using h1,h2⟩
 | .arr t::ds,v::vs,i,x,e,hg,h,b9=>by
  simp only [fA,dN,Bool.and_eq_true] at hg
  cases i with
  | zero=>
   simp [lT] at h
   subst h
   exact ⟨_,rfl,akf b9 hg.1⟩
  | succ i=>
   simp [lT] at h
   obtain ⟨q,h1,h2⟩:=uT (by simpa using e) hg.2 h b9
   exact ⟨q,by simpa [oG,fA] using h1,h2⟩
theorem nG:∀ {ds:List CD} {vs:List KV},vs.length=ds.length→(oG P ds vs).length=qq ds
 | [],[],_=>rfl
 | [],_::_,e=>by simp at e
 | _::_,[],e=>by simp at e
 | .k c::ds,v::vs,e=>by simp only [oG,qq]; exact nG (by simpa using e)
 | .lit w::ds,v::vs,e=>by simp only [oG,qq]; exact nG (by simpa using e)
 | .ref w::ds,v::vs,e=>by simp only [oG,qq]; exact nG (by simpa using e)
 | .bc t::ds,v::vs,e=>by simp only [oG,qq,List.length_cons]; rw [nG (by simpa using e)]
 | .arr t::ds,v::vs,e=>by simp only [oG,qq,List.length_cons]; rw [nG (by simpa using e)]
theorem CE:∀ {ds:List CD} {vs:List KV},dN ds vs=true→vs.length=ds.length
 | [],[],_=>rfl
 | [],_::_,h=>by simp [dN] at h
 | _::_,[],h=>by simp [dN] at h
 | d::ds,v::vs,h=>by
  simp only [dN,Bool.and_eq_true] at h
  simp [CE h.2]
theorem Wc {d:VD} {v:KV} (h:vp d v=true):v.cells.length=d.ks.length:=by
 rcases wU h with ⟨cs,rfl,_,h1⟩ | ⟨h0,_,c,h1,_⟩
 ·exact CE h1
 ·have:v.cells = [v]:=by cases v <;> first | rfl | exact absurd rfl (h0 _)
  rw [this,h1]; rfl
theorem A4:∀ {ps:List (Tmp×VD)} {vs:List KV},iv ps vs=true→(wg P ps vs).length=nu ps
 | [],[],_=>rfl
 | [],_::_,h=>by simp [iv] at h
 | _::_,[],h=>by simp [iv] at h
 | p::ps,v::vs,h=>by
  simp only [iv,Bool.and_eq_true] at h
  simp only [wg,nu,List.length_append]
  rw [nG (Wc h.1),A4 h.2]
theorem Wd {t:bz} {A:ax} : ∀ {ps:List (Tmp×VD)} {i:Nat} {x:FI},iv ps (pq P t A ps)=true→(BT P t A ps)[i]? = some x→x.ok=true→∃ p,(wg P ps (pq P t A ps))[i]? = some p∧GH P A x p
 | [],_,_,_,h,_=>by simp [BT] at h
 | p::ps,i,x,hg,h,b9=>by
  simp only [pq,iv,Bool.and_eq_true] at hg
  simp only [BT] at h
  have hl:=Eu hg.1
  by_cases hi:i < (lT P A p.2.ks (valOf t p.1).cells).length
  ·rw [List.getElem?_append_left hi] at h
   have hg' : dN p.2.ks (fA P A p.2.ks (valOf t p.1).cells)=true∧(tR P A p.2 (valOf t p.1)).cells=fA P A p.2.ks (valOf t p.1).cells:=by
    rcases wV hg.1 with ⟨cs,e,_,h2,h3⟩ | ⟨_,c,h1,h2,h3,h4,h5⟩
    ·rw [e] at h2 ⊢; exact ⟨h3,by rw [h2]; rfl⟩
    ·rw [h4,h1]
     refine ⟨by simp [fA,dN,h3],?_⟩
     rw [h2]
     show (fy P A c (valOf t p.1)).cells = [fy P A c (valOf t p.1)]
     generalize fy P A c (valOf t p.1)=w at h5 ⊢
     cases w <;> first | rfl | exact absurd rfl (h5 _)
   obtain ⟨q,h2,h3⟩:=uT hl hg'.1 h b9
   refine ⟨q,?_,h3⟩
   simp only [pq,wg]
   rw [hg'.2,List.getElem?_append_left (List.getElem?_eq_some_iff.1 h2).1]
   exact h2
  ·rw [List.getElem?_append_right (by omega)] at h
   obtain ⟨q,h1,h2⟩:=Wd hg.2 h b9
   refine ⟨q,?_,h2⟩
   simp only [pq,wg]
   have e1:(oG P p.2.ks (tR P A p.2 (valOf t p.1)).cells).length=(lT P A p.2.ks (valOf t p.1).cells).length:=by rw [nG (Wc hg.1),lq hl]
   rw [List.getElem?_append_right (by omega),e1]
   exact h1
theorem Wf {t:bz} {A:ax} : ∀ {ps:List (Tmp×List CD×Nat)} {i:Nat} {x:FI},xi P t A ps=true→(Dx P t A ps)[i]? = some x→x.ok=true→∃ p,(xH P ps (Fq P t A ps))[i]? = some p∧GH P A x p
 | [],_,_,_,h,_=>by simp [Dx] at h
 | p::ps,i,x,hg,h,b9=>by
  simp only [xi,Bool.and_eq_true] at hg
  simp only [Dx] at h
  obtain ⟨b,cs,_,hl,_,hC⟩:=Ex hg.1
  rw [← hC] at hl
  by_cases hi:i < (lT P A p.2.1 (Et t A p)).length
  ·rw [List.getElem?_append_left hi] at h
   obtain ⟨q,h2,h3⟩:=uT hl hg.2.1 h b9
   refine ⟨q,?_,h3⟩
   simp only [Fq,xH]
   rw [List.getElem?_append_left (List.getElem?_eq_some_iff.1 h2).1]
   exact h2
  ·rw [List.getElem?_append_right (by omega)] at h
   obtain ⟨q,h1,h2⟩:=Wf hg.2.2 h b9
   refine ⟨q,?_,h2⟩
   simp only [Fq,xH]
   have e1:(oG P p.2.1 (fA P A p.2.1 (Et t A p))).length=(lT P A p.2.1 (Et t A p)).length:=by rw [nG (CE hg.2.1),lq hl]
   rw [List.getElem?_append_right (by omega),e1]
   exact h1
theorem Fu:∀ {ps:List (Tmp×List CD×Nat)} {rs:List (List KV)},rs.length=ps.length→(∀ (k:Nat) p r,ps[k]? = some p→rs[k]? = some r→dN p.2.1 r=true)→∀ {l:Nat},l=(ps.map fun p=>qq p.2.1).sum→(xH P ps rs).length=l
 | [],[],_,_,l,hl=>by subst hl; rfl
 | [],_::_,h,_,_,_=>by simp at h
 | _::_,[],h,_,_,_=>by simp at h
 | p::ps,r::rs,h,hk,l,hl=>by
  simp only [xH,List.length_append]
  rw [nG (CE (hk 0 p r rfl rfl)),Fu (by simpa using h) (fun k p r h1 h2=>hk (k+1) p r (by simpa using h1) (by simpa using h2)) rfl,hl]
  simp
theorem NY {t:bz} {A:ax} : ∀ {ps:List (Tmp×List CD×Nat)},xi P t A ps=true→(Dx P t A ps).length=(ps.map fun p=>qq p.2.1).sum
 | [],_=>rfl
 | p::ps,h=>by
  simp only [xi,Bool.and_eq_true] at h
  obtain ⟨b,cs,_,hl,_,hC⟩:=Ex h.1
  simp only [Dx,List.length_append,List.map_cons,List.sum_cons]
  rw [lq (by rw [hC]; exact hl),NY h.2.2]
end Go.K
end
section
namespace Go.K
open Go Go.aE
variable {P:Program} {E:Env}
noncomputable def Env.sub (E:Env) (A:ax) (bs:List Nat) (fs:List (Option Nat)) (nr:Nat):Env:=
 { κ:=fun i=>(bs[i]?).bind E.κ,z:=E.z,φ:=fun i=>if nr≤i then (fs[i - nr]?).bind (fun f=>f.bind fun x=>cond (xG (A.get x)) (E.φ x) none) else none,α:=fun i=>if nr≤i then (fs[i - nr]?).bind (fun f=>f.bind E.α) else none }
theorem MK {E:Env} {A:ax} {x q:Nat} (e:cond (xG (A.get x)) (E.φ x) none=some q):E.φ x=some q∧xG (A.get x)=true:=by
 cases h:xG (A.get x) with
 | true=>rw [h] at e; exact ⟨e,rfl⟩
 | false=>rw [h] at e; simp at e
theorem afD {A:ax} {x:Nat} (h:xG (A.get x)=true):∃ n sz,A.get x=some (.bc n sz):=by
 unfold xG at h
 split at h
 ·rename_i n sz e; exact ⟨n,sz,e⟩
 ·simp at h
theorem Env.ZK {A:ax} {bs:List Nat} {fs:List (Option Nat)} {nr i:Nat} : (E.sub A bs fs nr).φ (nr+i)=(fs[i]?).bind (fun f=>f.bind fun x=>cond (xG (A.get x)) (E.φ x) none):=by
 simp only [Env.sub]
 rw [if_pos (by omega),show nr+i - nr=i by omega]
theorem Env.DA {A:ax} {bs:List Nat} {fs:List (Option Nat)} {nr i:Nat} : (E.sub A bs fs nr).α (nr+i)=(fs[i]?).bind (fun f=>f.bind E.α):=by
 simp only [Env.sub]
 rw [if_pos (by omega),show nr+i - nr=i by omega]
theorem IL:∀ {l:List (Nat×KV)} {i:Nat} {v:KV},(lX l).get i=some v→(i,v)∈l
 | [],i,v,h=>by simp [lX] at h
 | p::ps,i,v,h=>by
  rw [lX,Trie.om] at h
  split at h
  ·rename_i e
   simp at h; subst h e
   simp
  ·exact List.mem_cons_of_mem _ (IL h)
theorem ln.lX {ρ:aW} {l:List (Nat×KV)} {N:Nat} {a:Act} (hs:a.tmps.size=N) (h:∀ q∈l,q.1 < N∧VC P E ρ q.2 (a.tmps.getD q.1 undef)):ln P E ρ (K.lX l) N a:=by
 refine ⟨hs,fun i=>?_,fun i hi=>?_⟩
 ·cases hg:(K.lX l).get i with
  | none=>exact .aw
  | some v=>exact (h _ (IL hg)).2
 ·cases hg:(K.lX l).get i with
  | none=>rfl
  | some v=>have:=(h _ (IL hg)).1; exact absurd hi (Nat.not_le_of_lt this)
theorem Av {A:ax} {x:Nat} : ∀ {ds:List CD} {vs:List KV} {fi:FI},fi∈lT P A ds vs→fi.fm=true→fi.f=some x→xG (A.get x)=true
 | [],_,_,h,_,_=>by simp [lT] at h
 | d::ds,[],_,h,_,_=>by cases d <;> simp [lT] at h
 | d::ds,v::vs,fi,h,hm,hx=>by
  cases d <;> simp only [lT,List.mem_cons] at h
  ·exact Av h hm hx
  ·exact Av h hm hx
  ·rcases h with rfl | h
   ·exact aiS hx
   ·exact Av h hm hx
  ·rcases h with rfl | h
   ·rw [aiR] at hm; simp at hm
   ·exact Av h hm hx
  ·exact Av h hm hx
theorem aU.alF (S:aU) {t:bz} {A:ax} {x:Nat} {fi:FI} (h:fi∈S.M9 P t A) (hm:fi.fm=true) (hx:fi.f=some x):xG (A.get x)=true:=by
 have one:∀ {ps:List (Tmp×VD)},fi∈BT P t A ps→xG (A.get x)=true:=by
  intro ps
  induction ps with
  | nil=>intro h; simp [BT] at h
  | cons p ps ih=>
   intro h
   simp only [BT,List.mem_append] at h
   exact h.elim (fun h=>Av h hm hx) ih
 have two:∀ {ps:List (Tmp×List CD×Nat)},fi∈Dx P t A ps→xG (A.get x)=true:=by
  intro ps
  induction ps with
  | nil=>intro h; simp [Dx] at h
  | cons p ps ih=>
   intro h
   simp only [Dx,List.mem_append] at h
   exact h.elim (fun h=>Av h hm hx) ih
 simp only [aU.M9,List.mem_append] at h
 exact h.elim one two
theorem dP.hyp {S:aU} {t:bz} {A:ax} {g:GR} (h:dP P S t A g):oH E (E.sub A g.bs g.fs S.nr) (S.M9 P t A) S.nr:=fun i fi hi=>by
 refine ⟨Pm h.tN fi (List.mem_of_getElem? hi),fun hm x q hx hq=>?_,fun x q hx hq=>?_⟩
 ·rw [Env.ZK,h.fs,IK hi,Option.bind_some,hx,Option.bind_some,S.alF (List.mem_of_getElem? hi) hm hx]
  exact hq
 ·rw [Env.DA,h.fs,IK hi,Option.bind_some,hx,Option.bind_some]
  exact hq
theorem afE {E0:Env} {t:bz} {A:ax} {ρ:aW} {N nr:Nat} {bs Ft:List Nat} {a:Act} (hz:E0.z=E.z) (hk:Rk E E0 nr bs Ft) (ht:ln P E ρ t N a):∀ {ps:List (Tmp×VD)} {j:Nat},iv ps (pq P t A ps)=true→oH E E0 (BT P t A ps) j→K7 nr bs t ps=true→∀ q∈V9 j Ft ps (pq P t A ps),q.1 < N∧VC P E0 ρ q.2 (a.tmps.getD q.1 undef)
 | [],_,_,_,_,q,hq=>by simp [V9] at hq
 | p::ps,j,hg,hf,hr,q,hq=>by
  simp only [K7,Bool.and_eq_true] at hr
  simp only [pq,iv,Bool.and_eq_true] at hg
  simp only [pq,V9,List.mem_cons] at hq
  rcases hq with rfl | hq
  ·refine ⟨?_,?_⟩
   ·obtain ⟨v,hv⟩:=VK.TT hg.1 hr.1
    by_cases hN:N≤p.1
    ·rw [ht.none _ hN] at hv; simp at hv
    ·exact Nat.lt_of_not_le hN
   ·obtain ⟨u,h1,h2⟩:=ht.val p.1
    exact ⟨u,h1.anx hz hk hg.1 hf.left hr.1,h2⟩
  ·have h2:=hf.right
   rw [lq (Eu hg.1)] at h2
   exact afE hz hk ht hg.2 h2 hr.2 q hq
theorem NZ {bs:List Nat} : ∀ {ps:List (Tmp×Nat×Nat)} {q:Nat×KV},q∈yg bs ps→∃ p∈ps,q=(p.1,.ptr (bs.getD p.2.1 0) p.2.2)
 | [],_,h=>by simp [yg] at h
 | p::ps,q,h=>by
  simp only [yg,List.mem_cons] at h
  rcases h with rfl | h
  ·exact ⟨p,by simp,rfl⟩
  ·obtain ⟨p',h1,h2⟩:=NZ h
   exact ⟨p',List.mem_cons_of_mem _ h1,h2⟩
theorem Lc {t:bz} {bs:List Nat} : ∀ {ps:List (Tmp×Nat×Nat)},MG t bs ps=true→∀ q∈ps,∃ b,t.get q.1=some (.ptr b q.2.2)∧bs[q.2.1]? = some b
 | [],_,q,hq=>by simp at hq
 | p::ps,h,q,hq=>by
  simp only [MG,Bool.and_eq_true] at h
  rcases List.mem_cons.1 hq with rfl | hq
  ·have h1:=h.1
   unfold akc at h1
   split at h1
   ·rename_i b o b' e1 e2
    simp only [Bool.and_eq_true] at h1
    have:=Nat.eq_of_beq_eq_true h1.1
    have:=Nat.eq_of_beq_eq_true h1.2
    subst_vars
    exact ⟨_,e1,e2⟩
   ·simp at h1
  ·exact Lc h.2 q hq
theorem dP.rk {S:aU} {t:bz} {A:ax} {g:GR} (h:dP P S t A g):Rk E (E.sub A g.bs g.fs S.nr) S.rows.length g.bs S.ids:=fun j x hj e=>by
 have bV:j < g.bs.length:=by rw [h.bs,AY]; exact hj
 rw [List.getD_eq_getElem?_getD,List.getElem?_eq_getElem bV] at e
 rw [List.getD_eq_getElem?_getD,GF S j hj]
 simp only [Env.sub,Option.getD_some,List.getElem?_eq_getElem bV,Option.bind_some]
 exact e
theorem dP.tkr {S:aU} {t:bz} {A:ax} {g:GR} {ρ:aW} {N:Nat} {a:Act} (h:dP P S t A g) (ht:ln P E ρ t N a):ln P (E.sub A g.bs g.fs S.nr) ρ (S.tm S.nr S.ids g.vs) N a:=by
 refine ln.lX ht.size fun q hq=>?_
 have hh:oH E (E.sub A g.bs g.fs S.nr) (S.M9 P t A) S.nr:=h.hyp
 rcases List.mem_append.1 hq with hq | hq
 ·rw [h.vs] at hq
  exact afE (E:=E) (E0:=E.sub A g.bs g.fs S.nr) (A:=A) rfl h.rk ht (h.vs ▸ h.dW) hh.left h.amb q hq
 ·obtain ⟨p,hp,rfl⟩:=NZ hq
  obtain ⟨b,h1,h2⟩:=Lc h.V7 p hp
  refine ⟨?_,?_⟩
  ·by_cases hN:N≤p.1
   ·rw [ht.none _ hN] at h1; simp at h1
   ·exact Nat.lt_of_not_le hN
  ·have hk:p.2.1 < S.rows.length:=by
    have:=(List.getElem?_eq_some_iff.1 h2).1
    rw [h.bs,AY] at this; exact this
   have hv:=ht.val p.1
   rw [h1] at hv
   obtain ⟨u,h3,h4⟩:=hv
   refine ⟨u,?_,h4⟩
   obtain ⟨x,h5,rfl⟩:=(show VK P E (.ptr b p.2.2) u from h3).iW
   have:S.ids.getD p.2.1 0=p.2.1:=by rw [List.getD_eq_getElem?_getD,GF S _ hk]; rfl
   rw [this]
   exact .xy (by simp [Env.sub,h2,h5])
theorem dP.row {S:aU} {t:bz} {A:ax} {g:GR} (h:dP P S t A g) {k:Nat} {p:Tmp×List CD×Nat} (hp:S.rows[k]? = some p):∃ b cs,g.bs[k]? = some b∧A.get b=some (.row cs p.2.2)∧cs.length=p.2.1.length∧Et t A p=cs∧g.rs[k]? = some (fA P A p.2.1 cs)∧dN p.2.1 (fA P A p.2.1 cs)=true:=by
 obtain ⟨h1,h2⟩:=Wb h.rows hp
 obtain ⟨b,cs,h4,h5,h6,h7⟩:=Ex h1
 refine ⟨b,cs,by rw [h.bs,ZI hp,h6],h4,h5,h7,?_,by rw [← h7]; exact h2⟩
 have:∀ {ps:List (Tmp×List CD×Nat)} {k:Nat},ps[k]? = some p→(Fq P t A ps)[k]? = some (fA P A p.2.1 (Et t A p)):=by
  intro ps
  induction ps with
  | nil=>intro k h; simp at h
  | cons q ps ih=>
   intro k h
   cases k with
   | zero=>simp at h; subst h; rfl
   | succ k=>simp at h; simpa [Fq] using ih h
 rw [h.rs,this hp,h7]
theorem dP.rS {S:aU} {t:bz} {A:ax} {g:GR} (h:dP P S t A g):g.rs.length=S.rows.length:=by rw [h.rs,NX]
theorem dP.ZL {S:aU} {t:bz} {A:ax} {g:GR} (h:dP P S t A g):g.bs.length=S.rows.length:=by rw [h.bs,AY]
theorem dP.vZ {S:aU} {t:bz} {A:ax} {g:GR} (h:dP P S t A g):∀ (k:Nat) p r,S.rows[k]? = some p→g.rs[k]? = some r→dN p.2.1 r=true:=fun k p r hp hr=>by
 obtain ⟨b,cs,_,_,_,_,h1,h2⟩:=h.row hp
 rw [hr] at h1; simp at h1; subst h1; exact h2
theorem dP.lens {S:aU} {t:bz} {A:ax} {g:GR} (h:dP P S t A g):(S.lens P g.vs g.rs).length=(S.M9 P t A).length:=by
 simp only [aU.lens,aU.M9,List.length_append]
 rw [A4 h.dW,Fu h.rS h.vZ rfl,NY h.rows,AZ (h.vs ▸ h.dW)]
theorem dP.fact {S:aU} {t:bz} {A:ax} {g:GR} (h:dP P S t A g) {i:Nat} {q:jA} (hq:(S.lens P g.vs g.rs)[i]? = some q):∃ fi,(S.M9 P t A)[i]? = some fi∧g.fs[i]? = some fi.f∧GH P A fi q:=by
 have bV:i < (S.M9 P t A).length:=by rw [← h.lens]; exact (List.getElem?_eq_some_iff.1 hq).1
 have hfi:=List.getElem?_eq_getElem bV
 have b9:=Pm h.tN _ (List.getElem_mem bV)
 refine ⟨_,hfi,by rw [h.fs]; exact IK hfi,?_⟩
 have hv:(BT P t A S.dW).length=nu S.dW:=AZ (h.vs ▸ h.dW)
 have hlv:(wg P S.dW g.vs).length=nu S.dW:=A4 h.dW
 simp only [aU.lens] at hq
 have afF:=hfi
 simp only [aU.M9] at afF
 by_cases hi:i < nu S.dW
 ·rw [List.getElem?_append_left (by omega)] at hq afF
  obtain ⟨p,h1,h2⟩:=Wd (h.vs ▸ h.dW) afF b9
  rw [h.vs,h1] at hq
  simp at hq; subst hq; exact h2
 ·rw [List.getElem?_append_right (by omega)] at hq afF
  obtain ⟨p,h1,h2⟩:=Wf h.rows afF b9
  rw [h.rs,hlv,← hv,h1] at hq
  simp at hq; subst hq; exact h2
theorem Po {t:bz} {A:ax} {nr:Nat} {bs:List Nat} : ∀ {ps:List (Tmp×List CD×Nat)},Uh nr bs t A ps=true→∀ {k:Nat} {p:Tmp×List CD×Nat},ps[k]? = some p→BU nr bs p.2.1 (Et t A p)=true
 | [],_,k,p,h=>by simp at h
 | q::ps,h,k,p,hp=>by
  simp only [Uh,Bool.and_eq_true] at h
  cases k with
  | zero=>simp at hp; subst hp; exact h.1
  | succ k=>simp at hp; exact Po h.2 hp
theorem oe {S:aU} {rs:List (List KV)} (h:rs.length=S.rows.length):(qt .empty S.rows (S.Dy S.nr S.ids rs)).next=S.nr:=by
 show (qt .empty S.rows (Wa (S.nr+nu S.dW) S.ids S.rows rs)).next=S.nr
 rw [acy (Rl h _ _)]
 simp [ax.empty,aU.nr]
theorem DB {S:aU} {vs:List KV} {rs:List (List KV)} (h:rs.length=S.rows.length) {b:Nat} {o:jA} (hb:(S.mem P vs rs).get b=some o) :
  (∃ p r,S.rows[b]? = some p∧rs[b]? = some r∧o = .row (p8 (yi (S.nr+nu S.dW) S.rows b) S.ids p.2.1 r) p.2.2)∨∃ i q,b=S.nr+i∧(S.lens P vs rs)[i]? = some q∧o=q:=by
 rcases Rj hb with hb | ⟨i,q,h1,h2,h3⟩
 ·rcases afC hb with e | ⟨k,p,r,rfl,h1,h2,h3⟩
  ·simp [ax.empty,ax.get] at e
  ·have hk:(ax.empty.next+k)=k:=by simp [ax.empty]
   rw [hk]
   have bV:k < rs.length:=by rw [h]; exact (List.getElem?_eq_some_iff.1 h1).1
   have e1:=List.getElem?_eq_getElem bV
   have e2:=MJ (bs:=S.ids) (j:=S.nr+nu S.dW) h1 e1
   have h2:(Wa (S.nr+nu S.dW) S.ids S.rows rs)[k]? = some r:=h2
   rw [e2] at h2
   simp at h2
   exact .inl ⟨p,_,h1,e1,by rw [h3,← h2]⟩
 ·rw [oe h] at h1
  exact .inr ⟨i,q,h1,h2,h3⟩
theorem Ld {t:TypeId} {n:Nat} {es:List KV} {acc:Nat→KV} {bp:List Value} (ht:jg P t n es acc) (h:bb P E es bp):∃ ph fW,K.aj P aq (.ts t .any n es acc) = .ts t .any n ph fW∧jg P t n ph fW∧bb P E ph bp:=by
 refine ⟨(List.range n).map fun i=>ay P (K.aj P 5) t (acc i),fun i=>ay P (K.aj P 5) t (acc i),rfl,?_⟩
 have Bm:∀ i,i < n→∃ e e',es[i]? = some e∧bp[i]? = some e'∧acc i=e∧dv (bt P t) e=true∧VK P E e e':=by
  intro i hi
  have hl:i < es.length:=by rw [← ht.len]; exact hi
  have e1:=List.getElem?_eq_getElem hl
  obtain ⟨e',e2,e3⟩:=h.get e1
  exact ⟨_,e',e1,e2,by rw [ht.acc i hi,List.getD_eq_getElem?_getD,e1]; rfl,ku ht.typed e1,e3⟩
 have hlen:bp.length=n:=by rw [h.length,ht.len]
 refine ⟨⟨by simp,fun i hi=>?_,?_⟩,?_⟩
 ·rw [List.getD_eq_getElem?_getD,List.getElem?_map,List.getElem?_range hi]; rfl
 ·refine oP fun i e he=>?_
  rw [List.getElem?_map] at he
  by_cases hi:i < n
  ·rw [List.getElem?_range hi] at he
   simp only [Option.map_some,Option.some.injEq] at he
   obtain ⟨x,x',_,_,q3,q4,_⟩:=Bm i hi
   rw [← he,q3,ay]
   obtain ⟨r1,r2,_⟩:=Ij q4
   rw [r1]
   exact Za q4 (Dn 5 r2) (by simp)
  ·rw [List.getElem?_eq_none (by simp; omega)] at he; simp at he
 ·refine bb.Qx (by simp [hlen]) fun i e e' he Dd=>?_
  rw [List.getElem?_map] at he
  by_cases hi:i < n
  ·rw [List.getElem?_range hi] at he
   simp only [Option.map_some,Option.some.injEq] at he
   obtain ⟨x,x',_,q2,q3,q4,q5⟩:=Bm i hi
   rw [Dd] at q2
   simp only [Option.some.injEq] at q2
   subst q2
   rw [← he,q3]
   exact VK.ay 5 q4 q5
  ·rw [List.getElem?_eq_none (by simp; omega)] at he; simp at he
theorem dP.aib {S:aU} {t:bz} {A:ax} {g:GR} (h:dP P S t A g) {b:Nat} {v:KV} (hb:(S.mem P g.vs g.rs).get b=some (.arr v)) :
  ∃ i T,b=S.nr+i∧((g.fs[i]? = some none∧1≤bd P T∧v=K.aj P aq (.ts T .any 0 [] ot))∨∃ f m N es acc,g.fs[i]? = some (some f)∧A.get f=some (.arr (.ts T m N es acc))∧v=K.aj P aq (.ts T .any N es acc)):=by
 rcases DB h.rS hb with ⟨p,r,_,_,h3⟩ | ⟨i,q,rfl,h2,h3⟩
 ·simp at h3
 ·subst h3
  obtain ⟨fi,h4,h5,h6⟩:=h.fact h2
  rcases h6 with ⟨_,_,e,_⟩ | ⟨T,v',e,h6⟩
  ·simp at e
  ·simp only [jA.arr.injEq] at e
   subst e
   rcases h6 with ⟨h6,h7⟩ | ⟨f,m,N,es,acc,h6,h7⟩
   ·exact ⟨i,T,rfl,.inl ⟨by rw [h5,h6],h7⟩⟩
   ·exact ⟨i,T,rfl,.inr ⟨f,m,N,es,acc,by rw [h5,h6],h7⟩⟩
theorem dP.DC {S:aU} {t:bz} {A:ax} {g:GR} (h:dP P S t A g) {b:Nat} {v:KV} (hb:(S.mem P g.vs g.rs).get b=some (.arr v)) {p:Nat×Nat×Nat} (hp:(E.sub A g.bs g.fs S.nr).α b=some p) :
  ∃ i f u,b=S.nr+i∧g.fs[i]? = some (some f)∧A.get f=some (.arr u)∧E.α f=some p:=by
 obtain ⟨i,T,rfl,h1⟩:=h.aib hb
 rw [Env.DA] at hp
 rcases h1 with ⟨h1,_⟩ | ⟨f,m,N,es,acc,h1,h2,_⟩
 ·rw [h1] at hp; simp at hp
 ·rw [h1] at hp; exact ⟨i,f,_,rfl,h1,h2,hp⟩
theorem dP.AR {S:aU} {t:bz} {A:ax} {g:GR} (h:dP P S t A g) {x:Nat} (q:K.AR (S.mem P g.vs g.rs) (E.sub A g.bs g.fs S.nr) x):∃ f u L N,f∈jN g.fs∧A.get f=some (.arr u)∧E.α f=some (x,L,N):=by
 obtain ⟨b,v,L,N,h1,h2⟩:=q
 obtain ⟨i,f,u,_,h3,h4,h5⟩:=h.DC h1 h2
 exact ⟨f,u,L,N,uR.2 (List.mem_of_getElem? h3),h4,h5⟩
theorem dP.ar {S:aU} {t:bz} {A:ax} {g:GR} (h:dP P S t A g) {x:Nat} (q:K.AR (S.mem P g.vs g.rs) (E.sub A g.bs g.fs S.nr) x):K.AR A E x:=by
 obtain ⟨f,u,L,N,_,h2,h3⟩:=h.AR q
 exact ⟨f,u,L,N,h2,h3⟩
theorem dP.AF {S:aU} {t:bz} {A:ax} {B:St} {g:GR} (h:dP P S t A g) {q:Nat} (k:K.AF (S.mem P g.vs g.rs) (E.sub A g.bs g.fs S.nr) B q):∃ f u x L N cs e own m,f∈jN g.fs∧A.get f=some (.arr u)∧E.α f=some (x,L,N)∧B.get x=some (.row cs e own (some (q,m))):=by
 obtain ⟨b,v,x,L,N,cs,e,own,m,h1,h2,h3⟩:=k
 obtain ⟨i,f,u,_,h4,h5,h6⟩:=h.DC h1 h2
 exact ⟨f,u,x,L,N,cs,e,own,m,uR.2 (List.mem_of_getElem? h4),h5,h6,h3⟩
theorem dP.af {S:aU} {t:bz} {A:ax} {B:St} {g:GR} (h:dP P S t A g) {q:Nat} (k:K.AF (S.mem P g.vs g.rs) (E.sub A g.bs g.fs S.nr) B q):K.AF A E B q:=by
 obtain ⟨f,u,x,L,N,cs,e,own,m,_,h1,h2,h3⟩:=h.AF k
 exact ⟨f,u,x,L,N,cs,e,own,m,h1,h2,h3⟩
theorem dP.at {S:aU} {t:bz} {A:ax} {B:St} {g:GR} (h:dP P S t A g) {y:Nat} (k:K.AT (S.mem P g.vs g.rs) (E.sub A g.bs g.fs S.nr) B y):K.AT A E B y:=k.imp h.ar fun ⟨q,h1,h2⟩=>⟨q,h.af h1,h2⟩
theorem dP.jy {S:aU} {t:bz} {A:ax} {B:St} {g:GR} (h:dP P S t A g) (hk:fK P E A B):fK P (E.sub A g.bs g.fs S.nr) (S.mem P g.vs g.rs) B where
 row b cs bU hb:=by
  rcases DB h.rS hb with ⟨p,r,h1,h2,h3⟩ | ⟨i,q,_,h2,h3⟩
  ·simp only [jA.row.injEq] at h3
   obtain ⟨rfl,rfl⟩:=h3
   obtain ⟨b',cs,h4,h5,h6,h7,h8,h9⟩:=h.row h1
   rw [h2] at h8; simp at h8; subst h8
   obtain ⟨x,b8,sJ,D9,h12⟩:=hk.row _ _ _ h5
   refine ⟨x,b8,by simp [Env.sub,h4,sJ],D9,?_⟩
   have hh:oH E (E.sub A g.bs g.fs S.nr) (S.M9 P t A) S.nr:=h.hyp
   have hr:=hh.right
   rw [AZ (h.vs ▸ h.dW)] at hr
   have:=ZJ h.rows hr h1
   rw [h7] at this
   have hrr:=Po h.amc h1
   rw [h7] at hrr
   exact bb.cellsIn (E:=E) (E0:=E.sub A g.bs g.fs S.nr) rfl h.rk h12 h6 h9 this hrr
  ·subst h3
   obtain ⟨fi,_,_,h6⟩:=h.fact h2
   rcases h6 with ⟨_,_,e,_⟩ | ⟨_,_,e,_⟩ <;> simp at e
 bc b top sz hb:=by
  rcases DB h.rS hb with ⟨p,r,_,_,h3⟩ | ⟨i,q,rfl,h2,h3⟩
  ·simp at h3
  ·subst h3
   obtain ⟨fi,h4,h5,h6⟩:=h.fact h2
   rcases h6 with ⟨_,_,e,h6⟩ | ⟨_,_,e,_⟩
   ·simp only [jA.bc.injEq] at e
    obtain ⟨rfl,rfl⟩:=e
    rw [Env.ZK,h5,Option.bind_some]
    rcases h6 with ⟨h6,h7⟩ | ⟨f,h6,h7⟩
    ·rw [h6]; exact .inl ⟨h7,rfl⟩
    ·rw [h6,Option.bind_some,show xG (A.get f)=true by rw [h7]; rfl,cond_true]; exact hk.bc f _ _ h7
   ·simp at e
 z:=hk.z
 apart b x e:=by
  simp only [Env.sub,Option.bind_eq_some_iff] at e
  obtain ⟨b',_,e⟩:=e
  exact hk.apart b' x e
 inj b c x e1 e2:=by
  simp only [Env.sub,Option.bind_eq_some_iff] at e1 e2
  obtain ⟨b',h1,e1⟩:=e1
  obtain ⟨c',h2,e2⟩:=e2
  have:=hk.inj _ _ _ e1 e2
  subst this
  exact ZH h.nodup _ _ _ h1 h2
 jP b c q tb sb tc sc hb hc e1 e2:=by
  have key:∀ {b t s},(S.mem P g.vs g.rs).get b=some (.bc t s)→∃ i,b=S.nr+i∧((g.fs[i]? = some none)∨∃ f,g.fs[i]? = some (some f)∧A.get f=some (.bc t s)):=by
   intro b t s hb
   rcases DB h.rS hb with ⟨p,r,_,_,h3⟩ | ⟨i,q1,rfl,h2,h3⟩
   ·simp at h3
   subst h3
   obtain ⟨fi,h4,h5,h6⟩:=h.fact h2
   rcases h6 with ⟨_,_,e,h6⟩ | ⟨_,_,e,_⟩
   ·simp only [jA.bc.injEq] at e
    obtain ⟨rfl,rfl⟩:=e
    rcases h6 with ⟨h6,_⟩ | ⟨f,h6,h7⟩
    ·exact ⟨i,rfl,.inl (by rw [h5,h6])⟩
    ·exact ⟨i,rfl,.inr ⟨f,by rw [h5,h6],h7⟩⟩
   ·simp at e
  obtain ⟨i,rfl,h1⟩:=key hb
  obtain ⟨j,rfl,h2⟩:=key hc
  rw [Env.ZK] at e1 e2
  rcases h1 with h1 | ⟨f,h1,h3⟩
  ·rw [h1] at e1; simp at e1
  rcases h2 with h2 | ⟨f',h2,h4⟩
  ·rw [h2] at e2; simp at e2
  rw [h1,Option.bind_some,Option.bind_some] at e1
  rw [h2,Option.bind_some,Option.bind_some] at e2
  rw [show xG (A.get f)=true by rw [h3]; rfl,cond_true] at e1
  rw [show xG (A.get f')=true by rw [h4]; rfl,cond_true] at e2
  have:=hk.jP f f' q _ _ _ _ h3 h4 e1 e2
  subst this
  have:=vr h.X3 i j f h1 h2
  omega
 lQ b x e:=by
  simp only [Env.sub,Option.bind_eq_some_iff] at e
  obtain ⟨b',h1,_⟩:=e
  have:b < g.bs.length:=(List.getElem?_eq_some_iff.1 h1).1
  rw [aU.mem,gK,oe h.rS]
  rw [h.ZL] at this
  simp only [aU.nr]; omega
 nq b q e:=by
  simp only [Env.sub] at e
  split at e
  ·rename_i hle
   obtain ⟨f,h1,_⟩:=Option.bind_eq_some_iff.1 e
   have h2:b - S.nr < g.fs.length:=(List.getElem?_eq_some_iff.1 h1).1
   rw [h.fs,qU,← h.lens] at h2
   rw [aU.mem,gK,oe h.rS]
   omega
  ·simp at e
 live b o hb:=by
  rw [aU.mem,gK,oe h.rS]
  rcases DB h.rS hb with ⟨p,r,h1,_,_⟩ | ⟨i,q,rfl,h2,h3⟩
  ·have:=(List.getElem?_eq_some_iff.1 h1).1
   simp only [aU.nr]; omega
  ·have:=(List.getElem?_eq_some_iff.1 h2).1
   omega
 hH b x e:=by
  simp only [Env.sub,Option.bind_eq_some_iff] at e
  obtain ⟨b',_,e⟩:=e
  exact hk.hH b' x e
 nD:=hk.nD
 kr b q e:=by
  simp only [Env.sub] at e
  split at e
  ·obtain ⟨f,_,e⟩:=Option.bind_eq_some_iff.1 e
   obtain ⟨f',_,e⟩:=Option.bind_eq_some_iff.1 e
   exact hk.kr _ _ (MK e).1
  ·simp at e
 fresh:=hk.fresh
 mem:=hk.mem
 ar:=by
  have adN:∀ b p,(E.sub A g.bs g.fs S.nr).α b=some p→S.nr≤b∧b - S.nr < g.fs.length∧∃ f,E.α f=some p:=by
   intro b p e
   simp only [Env.sub] at e
   split at e
   ·rename_i hle
    obtain ⟨f,h1,e⟩:=Option.bind_eq_some_iff.1 e
    obtain ⟨f',_,e⟩:=Option.bind_eq_some_iff.1 e
    exact ⟨hle,(List.getElem?_eq_some_iff.1 h1).1,f',e⟩
   ·simp at e
  refine ⟨fun b v hb=>?_,fun b v hb=>?_,fun x q=>?_,fun b c v u x L N L' N' h1 h2 h3 h4=>?_,fun b c v u x y L N L' N' cs e own q k b8 e' pk k' h1 h2 h3 h4 h5 h6=>?_,fun b x e=>?_,fun b p e=>?_,fun b x L N e=>?_,fun b v x L N cs e own q k h1 h2 h3=>?_,fun b v hb=>?_⟩
  ·obtain ⟨i,T,rfl,h1⟩:=h.aib hb
   rcases h1 with ⟨h1,h2,h3⟩ | ⟨f,m,N,es,acc,h1,h2,h3⟩
   ·obtain ⟨ph,fW,e1,e2,_⟩:=Ld (P:=P) (E:=E) (t:=T) (n:=0) (es:=[]) (acc:=ot) (bp:=[]) ⟨rfl,fun i hi=>by omega,rfl⟩ .nil
    rw [e1] at h3
    refine ⟨T,0,ph,fW,h3,e2,h2,.inl ⟨rfl,?_⟩⟩
    rw [Env.DA,h1]; rfl
   ·obtain ⟨T2,N2,ph,fW,e,ht,fv,wb⟩:=hk.ar.arr f _ h2
    simp only [KV.ts.injEq] at e
    obtain ⟨rfl,rfl,rfl,rfl,rfl⟩:=e
    rcases wb with ⟨h4,h5⟩ | ⟨x,cs,bP,bp,h4,h5,h6,h7⟩
    ·subst h4
     have KO:es = []:=List.length_eq_zero_iff.1 ht.len.symm
     subst KO
     obtain ⟨ph,fW,e1,e2,_⟩:=Ld (P:=P) (E:=E) (bp:=[]) ht .nil
     rw [e1] at h3
     refine ⟨T,0,ph,fW,h3,e2,fv,.inl ⟨rfl,?_⟩⟩
     rw [Env.DA,h1]; exact h5
    ·obtain ⟨ph,fW,e1,e2,e3⟩:=Ld ht h6
     rw [e1] at h3
     refine ⟨T,N,ph,fW,h3,e2,fv,.inr ⟨x,cs,bP,bp,?_,h5,bb.zEs (E:=E) (E0:=E.sub A g.bs g.fs S.nr) rfl e3 e2.typed,h7⟩⟩
     rw [Env.DA,h1]; exact h4
  ·rcases DB h.rS hb with ⟨p,r,_,_,h3⟩ | ⟨i,q,rfl,h2,h3⟩
   ·simp at h3
   ·subst h3
    obtain ⟨fi,_,_,h6⟩:=h.fact h2
    rcases h6 with ⟨_,_,e,_⟩ | ⟨_,_,e,_⟩ <;> simp at e
  ·obtain ⟨h1,h2⟩:=hk.ar.z x (h.ar q)
   refine ⟨h1,fun c e=>?_⟩
   simp only [Env.sub,Option.bind_eq_some_iff] at e
   obtain ⟨b',_,e⟩:=e
   exact h2 b' e
  ·obtain ⟨i,f,u1,rfl,k1,k2,k3⟩:=h.DC h1 h3
   obtain ⟨j,f',u2,rfl,k1',k2',k3'⟩:=h.DC h2 h4
   have:=hk.ar.inj f f' u1 u2 x L N L' N' k2 k2' k3 k3'
   subst this
   have:=vr h.X3 i j f k1 k1'
   omega
  ·obtain ⟨i,f,u1,rfl,k1,k2,k3⟩:=h.DC h1 h3
   obtain ⟨j,f',u2,rfl,k1',k2',k3'⟩:=h.DC h2 h4
   have:=hk.ar.tN f f' u1 u2 x y L N L' N' cs e own q k b8 e' pk k' k2 k2' k3 k3' h5 h6
   subst this
   have:=vr h.X3 i j f k1 k1'
   omega
  ·cases qn:(E.sub A g.bs g.fs S.nr).α b with
   | none=>rfl
   | some p=>
    obtain ⟨h1,_,_⟩:=adN b p qn
    simp only [Env.sub,Option.bind_eq_some_iff] at e
    obtain ⟨b',h2,_⟩:=e
    have:b < g.bs.length:=(List.getElem?_eq_some_iff.1 h2).1
    rw [h.ZL] at this
    simp only [aU.nr] at h1; omega
  ·obtain ⟨h1,h2,_⟩:=adN b p e
   rw [h.fs,qU,← h.lens] at h2
   rw [aU.mem,gK,oe h.rS]
   omega
  ·obtain ⟨_,_,f,e⟩:=adN b _ e
   exact hk.ar.hH f x L N e
  ·obtain ⟨i,f,u,rfl,k1,k2,k3⟩:=h.DC h1 h2
   obtain ⟨h4,h5,h6⟩:=hk.ar.sk f u x L N cs e own q k k2 k3 h3
   refine ⟨h4,fun c e=>?_,fun y hy dJ=>?_⟩
   ·simp only [Env.sub] at e
    split at e
    ·obtain ⟨f1,_,e⟩:=Option.bind_eq_some_iff.1 e
     obtain ⟨f',_,e⟩:=Option.bind_eq_some_iff.1 e
     exact h5 f' (MK e).1
    ·simp at e
   ·obtain ⟨h7,h8,h9⟩:=h6 y hy dJ
    refine ⟨h7,fun q=>h8 (h.ar q),fun c e=>?_⟩
    simp only [Env.sub,Option.bind_eq_some_iff] at e
    obtain ⟨b',_,e⟩:=e
    exact h9 b' e
  ·rcases DB h.rS hb with ⟨p,r,_,_,h3⟩ | ⟨i,q,rfl,h2,_⟩
   ·simp at h3
   ·refine ⟨?_,?_⟩
    ·rw [aU.mem,gK,oe h.rS]
     have:=(List.getElem?_eq_some_iff.1 h2).1
     omega
    ·simp only [Env.sub]
     rw [List.getElem?_eq_none (by rw [h.ZL]; simp only [aU.nr]; omega)]
     rfl
structure Co (base:Nat) (E:Env) (A:ax) (B:St) (ρ:aW) (w:World) (E' : Env) (A' : ax) (B' : St) (aX:aW) (w' : World):Prop where
 fP:ml base ρ B w aX B' w'
 z:∀ b r,E.z b=some r→E'.z b=some r
 mC:∀ x,x < B.next→(∀ b,E.κ b≠some x)→¬ AT A E B x→B'.get x=B.get x
 new:∀ b x,E'.κ b=some x→(∃ c,E.κ c=some x)∨B.next≤x
 tg:∀ b r,E'.z b=some r→E.z b=some r∨AR A E b∨B.next≤b
 th:∀ b g,E'.φ b=some g→(∃ c,E.φ c=some g)∨B.next≤g
 p0:∀ g,g < B.next→(∀ b,E.φ b≠some g)→¬ AF A E B g→B'.members g=B.members g
 m7:∀ x,AR A' E' x→AR A E x∨B.next≤x
 ns:∀ g,AF A' E' B' g→AF A E B g∨B.next≤g
 uI:∀ g y,y∈B'.members g→y∈B.members g∨B.next≤y
 od:∀ y,AT A' E' B' y→AT A E B y∨B.next≤y
 rows:∀ y,y < B.next→∀ cs e own bP,B'.get y=some (.row cs e own bP)→∃ mB,B.get y=some (.row mB e own bP)∧mB.length=cs.length
theorem Co.trans {base:Nat} {E1 E2 E3:Env} {A1 A2 A3:ax} {B1 B2 B3:St} {mX uJ ρ3:aW} {w1 w2 w3:World} (h:Co base E1 A1 B1 mX w1 E2 A2 B2 uJ w2) (k:Co base E2 A2 B2 uJ w2 E3 A3 B3 ρ3 w3):Co base E1 A1 B1 mX w1 E3 A3 B3 ρ3 w3 where
 fP:=h.fP.trans k.fP
 z b r e:=k.z b r (h.z b r e)
 mC x hx hn ha:=by
  refine (k.mC x (Nat.lt_of_lt_of_le hx h.fP.next) (fun b e=>?_) fun q=>?_).trans (h.mC x hx hn ha)
  ·rcases h.new b x e with ⟨c,e⟩ | e
   ·exact hn c e
   ·omega
  ·rcases h.od x q with e | e
   ·exact ha e
   ·omega
 new b x e:=by
  rcases k.new b x e with ⟨c,e⟩ | e
  ·exact h.new c x e
  ·have:=h.fP.next; exact .inr (by omega)
 tg b r e:=by
  rcases k.tg b r e with e | e | e
  ·exact h.tg b r e
  ·exact .inr (h.m7 b e)
  ·have:=h.fP.next; exact .inr (.inr (by omega))
 th b g e:=by
  rcases k.th b g e with ⟨c,e⟩ | e
  ·exact h.th c g e
  ·have:=h.fP.next; exact .inr (by omega)
 p0 g hg hn ha:=by
  refine (k.p0 g (Nat.lt_of_lt_of_le hg h.fP.next) (fun b e=>?_) fun q=>?_).trans (h.p0 g hg hn ha)
  ·rcases h.th b g e with ⟨c,e⟩ | e
   ·exact hn c e
   ·omega
  ·rcases h.ns g q with e | e
   ·exact ha e
   ·omega
 m7 x e:=by
  rcases k.m7 x e with e | e
  ·exact h.m7 x e
  ·have:=h.fP.next; exact .inr (by omega)
 ns g e:=by
  rcases k.ns g e with e | e
  ·exact h.ns g e
  ·have:=h.fP.next; exact .inr (by omega)
 uI g y e:=by
  rcases k.uI g y e with e | e
  ·exact h.uI g y e
  ·have:=h.fP.next; exact .inr (by omega)
 od y e:=by
  rcases k.od y e with e | e
  ·exact h.od y e
  ·have:=h.fP.next; exact .inr (by omega)
 rows y hy cs e own bP q:=by
  obtain ⟨c1,h1,h2⟩:=k.rows y (Nat.lt_of_lt_of_le hy h.fP.next) cs e own bP q
  obtain ⟨c0,h3,h4⟩:=h.rows y hy c1 e own bP h1
  exact ⟨c0,h3,h4.trans h2⟩
theorem Ev.co {base:Nat} {A A1:ax} {B B1:St} {ρ mX:aW} {w w1:World} {E1:Env} {S:aU} {t:bz} {g:GR} (h:Ev P base E A B ρ w E1 A1 B1 mX w1) (hG:dP P S t A1 g):Co base E A B ρ w (E1.sub A1 g.bs g.fs S.nr) (S.mem P g.vs g.rs) B1 mX w1 where
 fP:=h.fP
 z:=h.le.z
 mC:=h.mC
 new b x e:=by
  simp only [Env.sub,Option.bind_eq_some_iff] at e
  obtain ⟨b',_,e⟩:=e
  exact (h.new b' x e).imp (fun e=>⟨_,e⟩) id
 tg:=h.tg
 th b g e:=by
  simp only [Env.sub] at e
  split at e
  ·obtain ⟨f,_,e⟩:=Option.bind_eq_some_iff.1 e
   obtain ⟨f',_,e⟩:=Option.bind_eq_some_iff.1 e
   exact h.th _ _ (MK e).1
  ·simp at e
 p0:=h.p0
 m7 x q:=h.m7 x (hG.ar q)
 ns g q:=h.ns g (hG.af q)
 uI:=h.uI
 od y q:=h.od y (hG.at q)
 rows:=h.rows
def Rm (nr:Nat):List CD→Bool
 | []=>true
 | .ref w::ds=>V6 nr w&&Rm nr ds
 | _::ds=>Rm nr ds
theorem DD {nr:Nat} {bs:List Nat} : ∀ {ds:List CD} {vs:List KV},BU nr bs ds vs=true→vs.length=ds.length→Rm nr ds=true
 | [],_,_,_=>rfl
 | _::_,[],_,e=>by simp at e
 | .k c::ds,v::vs,h,e=>DD (ds:=ds) (vs:=vs) h (by simpa using e)
 | .lit c::ds,v::vs,h,e=>DD (ds:=ds) (vs:=vs) h (by simpa using e)
 | .bc c::ds,v::vs,h,e=>DD (ds:=ds) (vs:=vs) h (by simpa using e)
 | .arr c::ds,v::vs,h,e=>DD (ds:=ds) (vs:=vs) h (by simpa using e)
 | .ref w::ds,v::vs,h,e=>by
  simp only [BU,Bool.and_eq_true] at h
  simp only [Rm,Bool.and_eq_true]
  exact ⟨h.1,DD h.2.2 (by simpa using e)⟩
def Pp (E1 E2:Env) (i j n:Nat):Prop:=∀ m,m < n→(∀ g,E1.φ (i+m)=some g→E2.φ (j+m)=some g)∧∀ p,E1.α (i+m)=some p→E2.α (j+m)=some p
theorem Pp.tail {E1 E2:Env} {i j n:Nat} (h:Pp E1 E2 i j (n+1)):Pp E1 E2 (i+1) (j+1) n:=fun m hm=>by
 have:=h (m+1) (by omega)
 rw [show i+(m+1)=i+1+m by omega,show j+(m+1)=j+1+m by omega] at this
 exact this
theorem Pp.left {E1 E2:Env} {i j n n' : Nat} (h:Pp E1 E2 i j n') (hn:n≤n'):Pp E1 E2 i j n:=fun m hm=>h m (by omega)
theorem Pp.right {E1 E2:Env} {i j n n' : Nat} (h:Pp E1 E2 i j (n+n')):Pp E1 E2 (i+n) (j+n) n':=fun m hm=>by
 have:=h (n+m) (by omega)
 rw [← Nat.add_assoc,← Nat.add_assoc] at this
 exact this
theorem bb.yj {E1 E2:Env} (hz:E2.z=E1.z) {nr:Nat} {Pq bs2:List Nat} (hk:Rk E1 E2 nr Pq bs2):∀ {ds:List CD} {vs:List KV} {us:List Value} {i j:Nat},bb P E1 (p8 i Pq ds vs) us→dN ds vs=true→Rm nr ds=true→Pp E1 E2 i j (qq ds)→bb P E2 (p8 j bs2 ds vs) us
 | [],[],us,_,_,h,_,_,_=>by rw [h.cl]; exact .nil
 | [],_::_,_,_,_,_,hg,_,_=>by simp [dN] at hg
 | _::_,[],_,_,_,_,hg,_,_=>by simp [dN] at hg
 | d::ds,v::vs,us,i,j,h,hg,hw,hf=>by
  simp only [dN,Bool.and_eq_true] at hg
  cases d with
  | k c=>
   obtain ⟨y,ys,rfl,h1,h2⟩:=bb.cons_inv (show bb P E1 (v::p8 i Pq ds vs) us from h)
   exact .cons (h1.gCD (d:=.k c) hz hg.1 (by simp)) (bb.yj hz hk h2 hg.2 hw hf)
  | lit w=>
   obtain ⟨y,ys,rfl,h1,h2⟩:=bb.cons_inv (show bb P E1 (v::p8 i Pq ds vs) us from h)
   exact .cons (h1.gCD (d:=.lit w) hz hg.1 (by simp)) (bb.yj hz hk h2 hg.2 hw hf)
  | ref w=>
   simp only [Rm,Bool.and_eq_true] at hw
   obtain ⟨y,ys,rfl,h1,h2⟩:=bb.cons_inv (show bb P E1 (inst Pq w::p8 i Pq ds vs) us from h)
   exact .cons (VK.inst hk hw.1 h1) (bb.yj hz hk h2 hg.2 hw.2 hf)
  | bc t=>
   obtain ⟨y,ys,rfl,h1,h2⟩:=bb.cons_inv (show bb P E1 (IJ i v::p8 (i+1) Pq ds vs) us from h)
   refine .cons ?_ (bb.yj (i:=i+1) (j:=j+1) hz hk h2 hg.2 hw (Pp.tail hf))
   have hv:∃ n es acc,v = .ts t .any n es acc:=by
    have hg1:kindOk (.slice t) v=true:=hg.1
    cases v <;> simp [kindOk] at hg1
    rename_i t' m n es acc
    cases m <;> simp at hg1
    subst hg1; exact ⟨_,_,_,rfl⟩
   obtain ⟨n,es,acc,rfl⟩:=hv
   exact VK.swap hz (show VK P E1 (.ts t (.bc i) n es acc) y from h1) fun sz a cap _ hm=>by
    refine ⟨hm.1,hm.2.imp id ?_⟩
    rintro ⟨b,r,g,q1,q2,q3,q4,q5⟩
    exact ⟨b,r,g,q1,by rw [hz]; exact q2,q3,(hf 0 (by simp [qq])).1 g q4,q5⟩
  | arr t=>
   obtain ⟨y,ys,rfl,h1,h2⟩:=bb.cons_inv (show bb P E1 (MH i v::p8 (i+1) Pq ds vs) us from h)
   refine .cons ?_ (bb.yj (i:=i+1) (j:=j+1) hz hk h2 hg.2 hw (Pp.tail hf))
   have hv:∃ n es acc,v = .ts t .any n es acc:=by
    have hg1:kindOk (.slice t) v=true:=hg.1
    cases v <;> simp [kindOk] at hg1
    rename_i t' m n es acc
    cases m <;> simp at hg1
    subst hg1; exact ⟨_,_,_,rfl⟩
   obtain ⟨n,es,acc,rfl⟩:=hv
   show VK P E2 (.al t j 0 n) y
   rcases (show VK P E1 (.al t i 0 n) y from h1).vo with ⟨q1,q2,q3⟩ | ⟨x,L,N,c,q1,q2⟩
   ·exact .NH (.inl ⟨q1,q2,q3⟩)
   ·exact .NH (.inr ⟨x,L,N,c,(hf 0 (by simp [qq])).2 _ q1,q2⟩)
theorem aiT (j:Nat) (bs:List Nat) (d:VD) (cs:List KV):V8 j bs d (.agg cs) = .agg (p8 j bs d.ks cs):=rfl
theorem acA {j:Nat} {bs:List Nat} {d:VD} {v:KV} (h:∀ cs,v≠.agg cs) {c:CD} (hc:d.ks = [c]) : [V8 j bs d v] = p8 j bs d.ks [v]:=by
 have e:V8 j bs d v=(match d.ks with | [.bc _]=>IJ j v | [.arr _]=>MH j v | [.ref w]=>inst bs w | _=>v):=by
  cases v <;> first | rfl | exact absurd rfl (h _)
 rw [e,hc]
 cases c <;> rfl
theorem VK.amF {E1 E2:Env} (hz:E2.z=E1.z) {nr:Nat} {Pq bs2:List Nat} (hk:Rk E1 E2 nr Pq bs2) {d:VD} {v:KV} {u:Value} {i j:Nat} (h:VK P E1 (V8 i Pq d v) u) (hg:vp d v=true) (hw:Rm nr d.ks=true) (hf:Pp E1 E2 i j (qq d.ks)):VK P E2 (V8 j bs2 d v) u:=by
 rcases wU hg with ⟨cs,rfl,_,h2⟩ | ⟨h0,_,c,h1,h2⟩
 ·rw [aiT] at h ⊢
  obtain ⟨l,rfl,k⟩:=h.mD
  exact .pd (bb.yj hz hk k h2 hw hf)
 ·have k:bb P E1 (p8 i Pq d.ks [v]) [u]:=by rw [← acA h0 h1]; exact .cons h .nil
  have k2:=bb.yj hz hk k (by rw [h1]; simp [dN,h2]) hw hf
  rw [← acA h0 h1] at k2
  obtain ⟨y,e,k3⟩:=k2.eW
  simp at e; subst e; exact k3
def tS (P:Program) (E1 E2:Env):List (Nat×KV)→List (Nat×KV)→Prop
 | [],[]=>True
 | x::xs,y::ys=>x.1=y.1∧(∀ u,VK P E1 x.2 u→VK P E2 y.2 u)∧tS P E1 E2 xs ys
 | _,_=>False
theorem tS.append {E1 E2:Env} : ∀ {a b c d:List (Nat×KV)},tS P E1 E2 a b→tS P E1 E2 c d→tS P E1 E2 (a++c) (b++d)
 | [],[],_,_,_,h=>h
 | [],_::_,_,_,h,_=>h.elim
 | _::_,[],_,_,h,_=>h.elim
 | _::_,_::_,_,_,h,k=>⟨h.1,h.2.1,tS.append h.2.2 k⟩
theorem tS.get {E1 E2:Env} : ∀ {a b:List (Nat×KV)},tS P E1 E2 a b→∀ i,((lX a).get i=none∧(lX b).get i=none)∨∃ x y,(lX a).get i=some x∧(lX b).get i=some y∧∀ u,VK P E1 x u→VK P E2 y u
 | [],[],_,i=>.inl (by simp [lX])
 | [],_::_,h,_=>h.elim
 | _::_,[],h,_=>h.elim
 | x::a,y::b,h,i=>by
  rw [lX,lX,Trie.om,Trie.om]
  by_cases e:i=x.1
  ·rw [if_pos e,if_pos (by rw [e,h.1])]
   exact .inr ⟨_,_,rfl,rfl,h.2.1⟩
  ·rw [if_neg e,if_neg (by rw [← h.1]; exact e)]
   exact tS.get h.2.2 i
theorem ln.akh {E1 E2:Env} {ρ:aW} {l m:List (Nat×KV)} {N:Nat} {a:Act} (h:ln P E1 ρ (K.lX l) N a) (hp:tS P E1 E2 l m):ln P E2 ρ (K.lX m) N a:=by
 refine ⟨h.size,fun i=>?_,fun i hi=>?_⟩
 ·rcases hp.get i with ⟨_,h2⟩ | ⟨x,y,h1,h2,h3⟩
  ·rw [h2]; exact .aw
  ·have:=h.val i
   rw [h1] at this
   rw [h2]
   obtain ⟨u,k1,k2⟩:=this
   exact ⟨u,h3 u k1,k2⟩
 ·rcases hp.get i with ⟨_,h2⟩ | ⟨x,y,h1,h2,h3⟩
  ·exact h2
  ·have:=h.none i hi
   rw [h1] at this; simp at this
def wsV (nr:Nat):List (Tmp×VD)→Bool
 | []=>true
 | p::ps=>Rm nr p.2.ks&&wsV nr ps
theorem aic {A:ax} {t:bz} {nr:Nat} {bs:List Nat} : ∀ {ps:List (Tmp×VD)},K7 nr bs t ps=true→iv ps (pq P t A ps)=true→wsV nr ps=true
 | [],_,_=>rfl
 | p::ps,h,hg=>by
  simp only [K7,Bool.and_eq_true] at h
  simp only [pq,iv,Bool.and_eq_true] at hg
  simp only [wsV,Bool.and_eq_true]
  exact ⟨DD h.1 (Eu hg.1),aic h.2 hg.2⟩
theorem acB {E1 E2:Env} (hz:E2.z=E1.z) {nr:Nat} {Pq bs2:List Nat} (hk:Rk E1 E2 nr Pq bs2):∀ {ps:List (Tmp×VD)} {vs:List KV} {i j:Nat},iv ps vs=true→wsV nr ps=true→Pp E1 E2 i j (nu ps)→tS P E1 E2 (V9 i Pq ps vs) (V9 j bs2 ps vs)
 | [],[],_,_,_,_,_=>trivial
 | [],_::_,_,_,hg,_,_=>by simp [iv] at hg
 | _::_,[],_,_,hg,_,_=>by simp [iv] at hg
 | p::ps,v::vs,i,j,hg,hw,hf=>by
  simp only [wsV,Bool.and_eq_true] at hw
  simp only [iv,Bool.and_eq_true] at hg
  have hf:Pp E1 E2 i j (qq p.2.ks+nu ps):=hf
  exact ⟨rfl,fun u h=>h.amF hz hk hg.1 hw.1 (hf.left (Nat.le_add_right _ _)),acB hz hk hg.2 hw.2 hf.right⟩
theorem afG {E1 E2:Env} {ids bs:List Nat} : ∀ {ps:List (Tmp×Nat×Nat)},(∀ p∈ps,∀ x,E1.κ (ids.getD p.2.1 0)=some x→E2.κ (bs.getD p.2.1 0)=some x)→tS P E1 E2 (yg ids ps) (yg bs ps)
 | [],_=>trivial
 | p::ps,h=>⟨rfl,fun u k=>by
   obtain ⟨x,h1,rfl⟩:=(show VK P E1 (.ptr (ids.getD p.2.1 0) p.2.2) u from k).iW
   exact .xy (h p (by simp) x h1),afG fun q hq=>h q (by simp [hq])⟩
end Go.K
end
section
namespace Go.K
open Go Go.aE
variable {P:Program} {E:Env}
theorem CY:∀ (ps:List (Tmp×List CD×Nat)) (j k:Nat),yi j ps k=j+yi 0 ps k
 | [],j,k=>by simp [yi]
 | _::_,j,0=>by simp [yi]
 | p::ps,j,k+1=>by
  simp only [yi]
  rw [CY ps (j+qq p.2.1) k,CY ps (0+qq p.2.1) k]
  omega
theorem mem_row {S:aU} {vs:List KV} {rs:List (List KV)} (h:rs.length=S.rows.length) {k:Nat} {p:Tmp×List CD×Nat} {r:List KV} (hp:S.rows[k]? = some p) (hr:rs[k]? = some r):(S.mem P vs rs).get k=some (.row (p8 (yi (S.nr+nu S.dW) S.rows k) S.ids p.2.1 r) p.2.2):=by
 have hk:k < S.nr:=(List.getElem?_eq_some_iff.1 hp).1
 rw [aU.mem,CC (by rw [oe h]; exact hk)]
 have:=aia (A:=.empty) hp (show (S.Dy S.nr S.ids rs)[k]? = some _ from MJ hp hr)
 simpa [ax.empty] using this
theorem Rn {S:aU} {vs:List KV} {rs:List (List KV)} (h:rs.length=S.rows.length) {i:Nat} {q:jA} (hq:(S.lens P vs rs)[i]? = some q):(S.mem P vs rs).get (S.nr+i)=some q:=by
 have:=K8 (A:=qt .empty S.rows (S.Dy S.nr S.ids rs)) hq
 rw [oe h] at this
 exact this
def Env.up (E E1:Env) (nr nx:Nat):Env:={ κ:=E.κ,z:=E1.z,φ:=fun b=>if nx≤b then E1.φ (nr+(b - nx)) else E.φ b,α:=fun b=>if nx≤b then E1.α (nr+(b - nx)) else E.α b }
theorem Env.yZ {E1:Env} {nr nx j:Nat} : (E.up E1 nr nx).φ (nx+j)=E1.φ (nr+j):=by
 simp only [Env.up]
 rw [if_pos (by omega),show nx+j - nx=j by omega]
theorem Env.y7 {E1:Env} {nr nx b:Nat} (h:b < nx):(E.up E1 nr nx).φ b=E.φ b:=by
 simp only [Env.up]
 rw [if_neg (by omega)]
theorem Env.GI {E1:Env} {nr nx j:Nat} : (E.up E1 nr nx).α (nx+j)=E1.α (nr+j):=by
 simp only [Env.up]
 rw [if_pos (by omega),show nx+j - nx=j by omega]
theorem Env.GJ {E1:Env} {nr nx b:Nat} (h:b < nx):(E.up E1 nr nx).α b=E.α b:=by
 simp only [Env.up]
 rw [if_neg (by omega)]
theorem fK.anz {A:ax} {B:St} (h:fK P E A B) {b x:Nat} (hx:E.κ b=some x) : ¬ AT A E B x:=by
 rintro (q | ⟨g,⟨c,v,y,L,N,cs,e,own,k,h1,h2,h3⟩,hm⟩)
 ·exact (h.ar.z x q).2 b hx
 ·by_cases yJ:x=y
  ·subst yJ
   exact (h.ar.z x ⟨c,v,L,N,h1,h2⟩).2 b hx
  ·exact ((h.ar.sk c v y L N cs e own g k h1 h2 h3).2.2 x hm yJ).2.2 b hx
theorem acC {S:aU} {t:bz} {A:ax} {B B1:St} {g:GR} {ρ mX:aW} {base N:Nat} {w w1:World} {a1:Act} {vs:List KV} {rs:List (List KV)} {E1:Env} (hG:dP P S t A g) (hk:fK P E A B)
  (ht:ln P E1 mX (S.tm S.nr S.ids vs) N a1) (hs:fK P E1 (S.mem P vs rs) B1) (wh:Co base (E.sub A g.bs g.fs S.nr) (S.mem P g.vs g.rs) B ρ w E1 (S.mem P vs rs) B1 mX w1) (D8:∀ k,k < S.rows.length→E1.κ k=(E.sub A g.bs g.fs S.nr).κ k)
  (hv:iv S.dW vs=true) (M6:rs.length=S.rows.length) (hrg:∀ (k:Nat) p r,S.rows[k]? = some p→rs[k]? = some r→dN p.2.1 r=true) :
  ln P (E.up E1 S.nr A.next) mX (S.tm A.next g.bs vs) N a1∧Ev P base E A B ρ w (E.up E1 S.nr A.next) (S.back P g.bs g.fs vs rs A) B1 mX w1:=by
 have hle:E.le (E.up E1 S.nr A.next):=⟨fun b p e=>by rw [Env.GJ (hk.ar.lQ b p e)]; exact e,fun _ _ e=>e,fun b r e=>wh.z b r e,fun b q e=>by rw [Env.y7 (hk.nq b q e)]; exact e⟩
 have aki:∀ (k b:Nat),g.bs[k]? = some b→E1.κ k=E.κ b:=fun k b hb=>by
  rw [D8 k (by rw [← hG.ZL]; exact (List.getElem?_eq_some_iff.1 hb).1)]
  simp [Env.sub,hb]
 have jf:(xI (n5 A g.bs S.rows (S.Dy A.next g.bs rs)) g.fs).next=A.next:=by rw [Ew,Pn]
 have IG:∀ x,x < B.next→(∀ (k b:Nat),g.bs[k]? = some b→E.κ b≠some x)→¬ AT (S.mem P g.vs g.rs) (E.sub A g.bs g.fs S.nr) B x→B1.get x=B.get x:=fun x hx dJ ha=>wh.mC x hx (fun k e=>by
  simp only [Env.sub,Option.bind_eq_some_iff] at e
  obtain ⟨b,h1,e⟩:=e
  exact dJ k b h1 e) ha
 have BV:∀ f,f∈jN g.fs→∃ i:Nat,g.fs[i]? = some (some f)∧((∃ n sz,A.get f=some (.bc n sz))∨∃ v,A.get f=some (.arr v)):=by
  intro f hf
  obtain ⟨i,hi⟩:=List.getElem?_of_mem (uR.1 hf)
  have bV:i < (S.lens P g.vs g.rs).length:=by rw [hG.lens,← qU,← hG.fs]; exact (List.getElem?_eq_some_iff.1 hi).1
  obtain ⟨fi,_,h2,h3⟩:=hG.fact (List.getElem?_eq_getElem bV)
  rw [hi] at h2; simp at h2
  rcases h3 with ⟨n,sz,_,⟨h3,_⟩ | ⟨f',h3,h4⟩⟩ | ⟨T,v,_,⟨h3,_⟩ | ⟨f',m,N,es,acc,h3,h4,_⟩⟩
  ·rw [h3] at h2; simp at h2
  ·rw [h3] at h2; simp at h2; subst h2; exact ⟨i,hi,.inl ⟨_,_,h4⟩⟩
  ·rw [h3] at h2; simp at h2
  ·rw [h3] at h2; simp at h2; subst h2; exact ⟨i,hi,.inr ⟨_,h4⟩⟩
 have anA:∀ f v,f∈jN g.fs→A.get f=some v→(∃ n sz,v = .bc n sz)∨∃ u,v = .arr u:=by
  intro f v hf hv
  obtain ⟨_,_,⟨n,sz,h1⟩ | ⟨u,h1⟩⟩:=BV f hf
  ·rw [hv] at h1; simp at h1; exact .inl ⟨n,sz,h1⟩
  ·rw [hv] at h1; simp at h1; exact .inr ⟨u,h1⟩
 have hrk:Rk E1 (E.up E1 S.nr A.next) S.rows.length S.ids g.bs:=fun j x hj e=>by
  have bV:j < g.bs.length:=by rw [hG.ZL]; exact hj
  rw [List.getD_eq_getElem?_getD,GF S j hj,Option.getD_some] at e
  rw [List.getD_eq_getElem?_getD,List.getElem?_eq_getElem bV,Option.getD_some]
  show E.κ _=some x
  rw [← aki j _ (List.getElem?_eq_getElem bV)]; exact e
 have TH:∀ (k b:Nat),g.bs[k]? = some b→∃ (p:Tmp×List CD×Nat) (r:List KV) (x:Nat) (b8:List Value),S.rows[k]? = some p∧rs[k]? = some r∧E.κ b=some x∧B1.get x=some (.row b8 p.2.2 true none)∧bb P (E.up E1 S.nr A.next) (p8 (yi (A.next+nu S.dW) S.rows k) g.bs p.2.1 r) b8∧
   (xI (n5 A g.bs S.rows (S.Dy A.next g.bs rs)) g.fs).get b=some (.row (p8 (yi (A.next+nu S.dW) S.rows k) g.bs p.2.1 r) p.2.2)∧b ∉ jN g.fs:=by
  intro k b hb
  have bV:k < S.rows.length:=by rw [← hG.ZL]; exact (List.getElem?_eq_some_iff.1 hb).1
  have hp:=List.getElem?_eq_getElem bV
  have hr:=List.getElem?_eq_getElem (show k < rs.length by rw [M6]; exact bV)
  obtain ⟨b',cs,q1,q2,_⟩:=hG.row hp
  rw [hb] at q1; simp at q1; subst q1
  obtain ⟨x,b8,h1,h2,h3⟩:=hs.row k _ _ (mem_row M6 hp hr)
  have hnf:b ∉ jN g.fs:=fun hf=>by
   rcases anA b _ hf q2 with ⟨_,_,e⟩ | ⟨_,e⟩ <;> simp at e
  refine ⟨_,_,x,b8,hp,hr,by rw [← aki k b hb]; exact h1,h2,?_,?_,hnf⟩
  ·have hws:Rm S.rows.length S.rows[k].2.1=true:=by
    obtain ⟨_,mB,_,_,Ks,hc0,_,_⟩:=hG.row hp
    have:=Po hG.amc hp
    rw [hc0] at this
    exact DD this Ks
   refine bb.yj (E1:=E1) (E2:=E.up E1 S.nr A.next) rfl hrk h3 (hrg _ _ _ hp hr) hws fun m _=>⟨fun q e=>?_,fun q e=>?_⟩
   ·rw [CY,show A.next+nu S.dW+yi 0 S.rows k+m=A.next+(nu S.dW+yi 0 S.rows k+m) by omega,Env.yZ]
    rw [CY,show S.nr+nu S.dW+yi 0 S.rows k+m=S.nr+(nu S.dW+yi 0 S.rows k+m) by omega] at e
    exact e
   ·rw [CY,show A.next+nu S.dW+yi 0 S.rows k+m=A.next+(nu S.dW+yi 0 S.rows k+m) by omega,Env.GI]
    rw [CY,show S.nr+nu S.dW+yi 0 S.rows k+m=S.nr+(nu S.dW+yi 0 S.rows k+m) by omega] at e
    exact e
  ·rw [Dz,if_neg hnf]
   exact afA hG.nodup hb hp (show (S.Dy A.next g.bs rs)[k]? = some _ from MJ hp hr)
 have wN:∀ b,b∈g.bs→∃ k:Nat,g.bs[k]? = some b:=fun b hb=>List.getElem?_of_mem hb
 have ML:∀ c q,(E.sub A g.bs g.fs S.nr).φ c=some q→∃ f n sz,f∈jN g.fs∧E.φ f=some q∧A.get f=some (.bc n sz):=by
  intro c q e
  simp only [Env.sub] at e
  split at e
  ·obtain ⟨f,h1,e⟩:=Option.bind_eq_some_iff.1 e
   obtain ⟨f',h2,e⟩:=Option.bind_eq_some_iff.1 e
   subst h2
   obtain ⟨e1,e2⟩:=MK e
   obtain ⟨n,sz,e3⟩:=afD e2
   exact ⟨f',n,sz,uR.2 (List.mem_of_getElem? h1),e1,e3⟩
  ·simp at e
 have hinv:∀ b o,(S.back P g.bs g.fs vs rs A).get b=some o→(b∈g.bs∧∃ cs e,o = .row cs e∧(xI (n5 A g.bs S.rows (S.Dy A.next g.bs rs)) g.fs).get b=some (.row cs e))∨(b ∉ g.bs∧b ∉ jN g.fs∧A.get b=some o)∨(b∈jN g.fs∧o = .dead)∨∃ i q,b=A.next+i∧(S.lens P vs rs)[i]? = some q∧o=q:=by
  intro b o hb
  rcases Rj hb with hb | ⟨i,q,h1,h2,h3⟩
  ·by_cases ZM:b∈g.bs
   ·obtain ⟨k,te⟩:=wN b ZM
    obtain ⟨p,r,x,b8,h1,h2,h3,h4,h5,h6,h7⟩:=TH k b te
    rw [h6] at hb; simp at hb
    exact .inl ⟨ZM,_,_,hb.symm,h6⟩
   ·rw [Dz] at hb
    split at hb
    ·rename_i hf; simp at hb; exact .inr (.inr (.inl ⟨hf,hb.symm⟩))
    ·rename_i hf
     rw [K9 ZM] at hb
     exact .inr (.inl ⟨ZM,hf,hb⟩)
  ·rw [jf] at h1
   exact .inr (.inr (.inr ⟨i,q,h1,h2,h3⟩))
 have hnewobj:∀ i q,(S.lens P vs rs)[i]? = some q→(S.mem P vs rs).get (S.nr+i)=some q:=fun i q hq=>Rn M6 hq
 have aid:∀ (i:Nat) (q:jA),(S.lens P vs rs)[i]? = some q→(∃ n sz,q=jA.bc n sz)∨∃ v,q=jA.arr v:=by
  have one:∀ (ds:List CD) (vs:List KV),∀ q∈oG P ds vs,(∃ n sz,q = .bc n sz)∨∃ v,q = .arr v:=by
   intro ds
   induction ds with
   | nil=>intro vs q hq; simp [oG] at hq
   | cons d ds ih=>
    intro vs q hq
    cases vs with
    | nil=>cases d <;> simp [oG] at hq
    | cons v vs=>
     cases d <;> simp only [oG,List.mem_cons] at hq
     ·exact ih vs q hq
     ·exact ih vs q hq
     ·rcases hq with rfl | hq
      ·exact .inl ⟨_,_,rfl⟩
      ·exact ih vs q hq
     ·rcases hq with rfl | hq
      ·exact .inr ⟨_,rfl⟩
      ·exact ih vs q hq
     ·exact ih vs q hq
  have two:∀ (ps:List (Tmp×VD)) (vs:List KV),∀ q∈wg P ps vs,(∃ n sz,q = .bc n sz)∨∃ v,q = .arr v:=by
   intro ps
   induction ps with
   | nil=>intro vs q hq; simp [wg] at hq
   | cons p ps ih=>
    intro vs q hq
    cases vs with
    | nil=>simp [wg] at hq
    | cons v vs=>
     simp only [wg,List.mem_append] at hq
     exact hq.elim (one _ _ q) (ih vs q)
  have three:∀ (ps:List (Tmp×List CD×Nat)) (rs:List (List KV)),∀ q∈xH P ps rs,(∃ n sz,q = .bc n sz)∨∃ v,q = .arr v:=by
   intro ps
   induction ps with
   | nil=>intro vs q hq; simp [xH] at hq
   | cons p ps ih=>
    intro vs q hq
    cases vs with
    | nil=>simp [xH] at hq
    | cons v vs=>
     simp only [xH,List.mem_append] at hq
     exact hq.elim (one _ _ q) (ih vs q)
  intro i q hq
  have:=List.mem_of_getElem? hq
  simp only [aU.lens,List.mem_append] at this
  exact this.elim (two _ _ q) (three _ _ q)
 have uL:∀ b v,(S.back P g.bs g.fs vs rs A).get b=some (.arr v)→(b < A.next∧b ∉ jN g.fs∧A.get b=some (.arr v)∧(E.up E1 S.nr A.next).α b=E.α b)∨∃ i,b=A.next+i∧(S.mem P vs rs).get (S.nr+i)=some (.arr v)∧(E.up E1 S.nr A.next).α b=E1.α (S.nr+i):=by
  intro b v hb
  rcases hinv b _ hb with ⟨_,_,_,e,_⟩ | ⟨_,J9,h1⟩ | ⟨_,e⟩ | ⟨i,q,rfl,h2,e⟩
  ·simp at e
  ·exact .inl ⟨hk.live b _ h1,J9,h1,Env.GJ (hk.live b _ h1)⟩
  ·simp at e
  ·subst e; exact .inr ⟨i,rfl,Rn M6 h2,Env.GI⟩
 have amd:∀ {b v x L N},b ∉ jN g.fs→A.get b=some (.arr v)→E.α b=some (x,L,N)→¬ AR (S.mem P g.vs g.rs) (E.sub A g.bs g.fs S.nr) x:=by
  intro b v x L N J9 hb hx q
  obtain ⟨f,u,L',N',h1,h2,h3⟩:=hG.AR q
  have:=hk.ar.inj b f v u x L N L' N' hb h2 hx h3
  subst this
  exact J9 h1
 have anB:∀ {b v x L N},b ∉ jN g.fs→A.get b=some (.arr v)→E.α b=some (x,L,N)→¬ AT (S.mem P g.vs g.rs) (E.sub A g.bs g.fs S.nr) B x:=by
  intro b v x L N J9 hb hx q
  rcases q with q | ⟨bc,q,hm⟩
  ·exact amd J9 hb hx q
  ·obtain ⟨f,u,y,L',N',cs,e,own,m,h1,h2,h3,h4⟩:=hG.AF q
   by_cases yJ:x=y
   ·subst yJ
    have:=hk.ar.inj b f v u x L N L' N' hb h2 hx h3
    subst this
    exact J9 h1
   ·exact ((hk.ar.sk f u y L' N' cs e own bc m h2 h3 h4).2.2 x hm yJ).2.1 ⟨b,v,L,N,hb,hx⟩
 have GK:∀ {b v x L N},b ∉ jN g.fs→A.get b=some (.arr v)→E.α b=some (x,L,N)→B1.get x=B.get x:=by
  intro b v x L N J9 hb hx
  exact IG x (hk.ar.hH b x L N hx) (fun k c _ e=>(hk.ar.z x ⟨b,v,L,N,hb,hx⟩).2 c e) (anB J9 hb hx)
 have akj:∀ {i v x L N},(S.mem P vs rs).get (S.nr+i)=some (.arr v)→E1.α (S.nr+i)=some (x,L,N)→(∃ f u L' N',f∈jN g.fs∧A.get f=some (.arr u)∧E.α f=some (x,L',N'))∨B.next≤x:=by
  intro i v x L N h1 h2
  rcases wh.m7 x ⟨_,v,L,N,h1,h2⟩ with q | q
  ·obtain ⟨f,u,L',N',q1,q2,q3⟩:=hG.AR q
   exact .inl ⟨f,u,L',N',q1,q2,q3⟩
  ·exact .inr q
 have akk:∀ x,AR (S.back P g.bs g.fs vs rs A) (E.up E1 S.nr A.next) x→AR A E x∨AR (S.mem P vs rs) E1 x:=by
  rintro x ⟨b,v,L,N,h1,h2⟩
  rcases uL b v h1 with ⟨q1,q2,q3,q4⟩ | ⟨i,rfl,q2,q3⟩
  ·rw [q4] at h2; exact .inl ⟨b,v,L,N,q3,h2⟩
  ·rw [q3] at h2; exact .inr ⟨_,v,L,N,q2,h2⟩
 have akl:∀ q,AF (S.back P g.bs g.fs vs rs A) (E.up E1 S.nr A.next) B1 q→AF A E B q∨AF (S.mem P vs rs) E1 B1 q:=by
  rintro q ⟨b,v,x,L,N,cs,e,own,k,h1,h2,h3⟩
  rcases uL b v h1 with ⟨q1,q2,q3,q4⟩ | ⟨i,rfl,q2,q3⟩
  ·rw [q4] at h2
   rw [GK q2 q3 h2] at h3
   exact .inl ⟨b,v,x,L,N,cs,e,own,k,q3,h2,h3⟩
  ·rw [q3] at h2; exact .inr ⟨_,v,x,L,N,cs,e,own,k,q2,h2,h3⟩
 have adO:∀ x,AR (S.back P g.bs g.fs vs rs A) (E.up E1 S.nr A.next) x→AR A E x∨B.next≤x:=fun x q=>by
  rcases akk x q with q | q
  ·exact .inl q
  ·exact (wh.m7 x q).imp hG.ar id
 have aie:∀ q,AF (S.back P g.bs g.fs vs rs A) (E.up E1 S.nr A.next) B1 q→AF A E B q∨B.next≤q:=fun x q=>by
  rcases akl x q with q | q
  ·exact .inl q
  ·exact (wh.ns x q).imp hG.af id
 have akm:∀ x,x < B.next→E.z x=none→¬ AR (S.mem P g.vs g.rs) (E.sub A g.bs g.fs S.nr) x→E1.z x=none:=fun x hx h1 h2=>by
  cases hz:E1.z x with
  | none=>rfl
  | some r=>
   rcases wh.tg x r hz with e | e | e
   ·have e:E.z x=some r:=e
    rw [h1] at e; simp at e
   ·exact (h2 e).elim
   ·omega
 have ame:∀ {b v x L N cs e own q k},b ∉ jN g.fs→A.get b=some (.arr v)→E.α b=some (x,L,N)→B.get x=some (.row cs e own (some (q,k)))→¬ AF (S.mem P g.vs g.rs) (E.sub A g.bs g.fs S.nr) B q:=by
  intro b v x L N cs e own q k J9 hb hx jI r
  obtain ⟨f,u,y,L',N',b8,e',pk,m,h1,h2,h3,h4⟩:=hG.AF r
  have:=hk.ar.tN b f v u x y L N L' N' cs e own q k b8 e' pk m hb h2 hx h3 jI h4
  subst this
  exact J9 h1
 have qT:Ic P (E.up E1 S.nr A.next) (S.back P g.bs g.fs vs rs A) B1:=by
  refine ⟨?_,?_,?_,?_,?_,?_,?_,?_,?_,?_⟩
  ·intro b v hb
   rcases uL b v hb with ⟨q1,q2,q3,q4⟩ | ⟨i,rfl,q2,q3⟩
   ·obtain ⟨T,N,es,acc,h1,h2,h3,h4⟩:=hk.ar.arr b v q3
    refine ⟨T,N,es,acc,h1,h2,h3,?_⟩
    rcases h4 with ⟨h4,h5⟩ | ⟨x,cs,bP,bp,h4,h5,h6,h7⟩
    ·exact .inl ⟨h4,by rw [q4]; exact h5⟩
    ·exact .inr ⟨x,cs,bP,bp,by rw [q4]; exact h4,by rw [GK q2 q3 h4]; exact h5,h6.mono hle,h7⟩
   ·obtain ⟨T,N,es,acc,h1,h2,h3,h4⟩:=hs.ar.arr _ v q2
    refine ⟨T,N,es,acc,h1,h2,h3,?_⟩
    rcases h4 with ⟨h4,h5⟩ | ⟨x,cs,bP,bp,h4,h5,h6,h7⟩
    ·exact .inl ⟨h4,by rw [q3]; exact h5⟩
    ·exact .inr ⟨x,cs,bP,bp,by rw [q3]; exact h4,h5,bb.zEs (E:=E1) (E0:=E.up E1 S.nr A.next) rfl h6 h2.typed,h7⟩
  ·intro b v hb
   rcases hinv b _ hb with ⟨_,_,_,e,_⟩ | ⟨_,_,h1⟩ | ⟨_,e⟩ | ⟨i,q,_,h2,e⟩
   ·simp at e
   ·obtain ⟨T,N,es,acc,h2,h3,h4,h5⟩:=hk.ar.jO b v h1
    have qn:(E.up E1 S.nr A.next).α b=E.α b:=Env.GJ (hk.live b _ h1)
    refine ⟨T,N,es,acc,h2,h3,h4,?_⟩
    rcases h5 with ⟨h5,h6⟩ | ⟨x,r,bp,h5,h6,h7,h8,h9⟩
    ·exact .inl ⟨h5,by rw [qn]; exact h6⟩
    ·exact .inr ⟨x,r,bp,by rw [qn]; exact h5,wh.z x r h6,h7,h8.mono hle,h9⟩
   ·simp at e
   ·rcases aid i q h2 with ⟨_,_,e2⟩ | ⟨_,e2⟩ <;> rw [← e] at e2 <;> simp at e2
  ·rintro x ⟨b,v,L,N,h1,h2⟩
   rcases uL b v h1 with ⟨q1,q2,q3,q4⟩ | ⟨i,rfl,q2,q3⟩
   ·rw [q4] at h2
    obtain ⟨h3,h4⟩:=hk.ar.z x ⟨b,v,L,N,q3,h2⟩
    exact ⟨akm x (hk.ar.hH b x L N h2) h3 (amd q2 q3 h2),h4⟩
   ·rw [q3] at h2
    refine ⟨(hs.ar.z x ⟨_,v,L,N,q2,h2⟩).1,fun c e=>?_⟩
    rcases wh.m7 x ⟨_,v,L,N,q2,h2⟩ with q | q
    ·exact (hk.ar.z x (hG.ar q)).2 c e
    ·have:=hk.hH c x e; omega
  ·intro b c v u x L N L' N' hb hc e1 e2
   have Dp:∀ {b v c u L N L' N'},b ∉ jN g.fs→A.get b=some (.arr v)→E.α b=some (x,L,N)→(S.mem P vs rs).get (S.nr+c)=some (.arr u)→E1.α (S.nr+c)=some (x,L',N')→False:=by
    intro b v c u L N L' N' h1 h2 h3 h4 h5
    rcases akj h4 h5 with ⟨f,u',L2,N2,k1,k2,k3⟩ | k
    ·have:=hk.ar.inj b f v u' x L N L2 N2 h2 k2 h3 k3
     subst this
     exact h1 k1
    ·have:=hk.ar.hH b x L N h3; omega
   rcases uL b v hb with ⟨q1,q2,q3,q4⟩ | ⟨i,rfl,q2,q3⟩ <;> rcases uL c u hc with ⟨r1,r2,r3,r4⟩ | ⟨j,rfl,r2,r3⟩
   ·rw [q4] at e1; rw [r4] at e2
    exact hk.ar.inj b c v u x L N L' N' q3 r3 e1 e2
   ·rw [q4] at e1; rw [r3] at e2
    exact (Dp q2 q3 e1 r2 e2).elim
   ·rw [q3] at e1; rw [r4] at e2
    exact (Dp r2 r3 e2 q2 e1).elim
   ·rw [q3] at e1; rw [r3] at e2
    have:=hs.ar.inj _ _ v u x L N L' N' q2 r2 e1 e2
    omega
  ·intro b c v u x y L N L' N' cs e own q k b8 e' pk k' hb hc e1 e2 w1 w2
   have Dp:∀ {b v c u x y L N L' N' cs e own k b8 e' pk k'},b ∉ jN g.fs→A.get b=some (.arr v)→E.α b=some (x,L,N)→(S.mem P vs rs).get (S.nr+c)=some (.arr u)→E1.α (S.nr+c)=some (y,L',N')→B1.get x=some (.row cs e own (some (q,k)))→B1.get y=some (.row b8 e' pk (some (q,k')))→False:=by
    intro b v c u x y L N L' N' cs e own k b8 e' pk k' h1 h2 h3 h4 h5 w1 w2
    rw [GK h1 h2 h3] at w1
    rcases wh.ns q ⟨_,u,y,L',N',b8,e',pk,k',h4,h5,w2⟩ with r | r
    ·exact ame h1 h2 h3 w1 r
    ·have:=(hk.ar.sk b v x L N cs e own q k h2 h3 w1).1; omega
   rcases uL b v hb with ⟨q1,q2,q3,q4⟩ | ⟨i,rfl,q2,q3⟩ <;> rcases uL c u hc with ⟨r1,r2,r3,r4⟩ | ⟨j,rfl,r2,r3⟩
   ·rw [q4] at e1; rw [r4] at e2
    rw [GK q2 q3 e1] at w1; rw [GK r2 r3 e2] at w2
    exact hk.ar.tN b c v u x y L N L' N' cs e own q k b8 e' pk k' q3 r3 e1 e2 w1 w2
   ·rw [q4] at e1; rw [r3] at e2
    exact (Dp q2 q3 e1 r2 e2 w1 w2).elim
   ·rw [q3] at e1; rw [r4] at e2
    exact (Dp r2 r3 e2 q2 e1 w2 w1).elim
   ·rw [q3] at e1; rw [r3] at e2
    have:=hs.ar.tN _ _ v u x y L N L' N' cs e own q k b8 e' pk k' q2 r2 e1 e2 w1 w2
    omega
  ·intro b x hb
   have hb:E.κ b=some x:=hb
   rw [Env.GJ (hk.lQ b x hb)]
   exact hk.ar.YW b x hb
  ·intro b p hb
   rw [aU.back,gK,jf]
   by_cases h1:b < A.next
   ·omega
   ·obtain ⟨i,rfl⟩:=Nat.exists_eq_add_of_le (Nat.le_of_not_lt h1)
    rw [Env.GI] at hb
    have:=hs.ar.lQ _ _ hb
    rw [aU.mem,gK,oe M6] at this
    omega
  ·intro b x L N hb
   by_cases h1:b < A.next
   ·rw [Env.GJ h1] at hb
    have:=hk.ar.hH b x L N hb; have:=wh.fP.next; omega
   ·obtain ⟨i,rfl⟩:=Nat.exists_eq_add_of_le (Nat.le_of_not_lt h1)
    rw [Env.GI] at hb
    exact hs.ar.hH _ _ _ _ hb
  ·intro b v x L N cs e own q k hb hx jI
   rcases uL b v hb with ⟨q1,q2,q3,q4⟩ | ⟨i,rfl,q2,q3⟩
   ·rw [q4] at hx
    have ag5:=jI
    rw [GK q2 q3 hx] at ag5
    obtain ⟨h1,h2,h3⟩:=hk.ar.sk b v x L N cs e own q k q3 hx ag5
    have hm:B1.members q=B.members q:=wh.p0 q h1 (fun c e=>by
     obtain ⟨f',_,_,_,k2,_⟩:=ML c q e
     exact h2 f' k2) (ame q2 q3 hx ag5)
    refine ⟨by have:=wh.fP.next; omega,fun f e=>?_,fun y hy dJ=>?_⟩
    ·by_cases hf:f < A.next
     ·rw [Env.y7 hf] at e; exact h2 f e
     ·obtain ⟨j,rfl⟩:=Nat.exists_eq_add_of_le (Nat.le_of_not_lt hf)
      rw [Env.yZ] at e
      rcases wh.th _ _ e with ⟨c,e⟩ | e
      ·obtain ⟨f',_,_,_,k2,_⟩:=ML c q e
       exact h2 f' k2
      ·omega
    ·rw [hm] at hy
     obtain ⟨h4,h5,h6⟩:=h3 y hy dJ
     have bV:=hk.mem q y hy
     refine ⟨akm y bV h4 fun r=>h5 (hG.ar r),fun r=>?_,h6⟩
     rcases adO y r with r | r
     ·exact h5 r
     ·omega
   ·rw [q3] at hx
    obtain ⟨h1,h2,h3⟩:=hs.ar.sk _ v x L N cs e own q k q2 hx jI
    have yN:=wh.ns q ⟨_,v,x,L,N,cs,e,own,k,q2,hx,jI⟩
    refine ⟨h1,fun f e=>?_,fun y hy dJ=>?_⟩
    ·by_cases hf:f < A.next
     ·rw [Env.y7 hf] at e
      rcases yN with r | r
      ·obtain ⟨f0,u,x0,L0,N0,mB,e0,akn,m,k1,k2,k3,k4⟩:=hG.AF r
       exact (hk.ar.sk f0 u x0 L0 N0 mB e0 akn q m k2 k3 k4).2.1 f e
      ·have:=hk.kr f q e; omega
     ·obtain ⟨j,rfl⟩:=Nat.exists_eq_add_of_le (Nat.le_of_not_lt hf)
      rw [Env.yZ] at e
      exact h2 _ e
    ·obtain ⟨h4,h5,h6⟩:=h3 y hy dJ
     have Bm:y∈B.members q→(∀ c,c ∉ jN g.fs→∀ v' L' N',A.get c=some (.arr v')→E.α c≠some (y,L',N'))∧∀ c,E.κ c≠some y:=by
      intro hm
      rcases yN with r | r
      ·obtain ⟨f0,u,x0,L0,N0,mB,e0,akn,m,k1,k2,k3,k4⟩:=hG.AF r
       by_cases hy0:y=x0
       ·subst hy0
        refine ⟨fun c hc v' L' N' p1 p2=>?_,(hk.ar.z y ⟨f0,u,L0,N0,k2,k3⟩).2⟩
        have:=hk.ar.inj c f0 v' u y L' N' L0 N0 p1 k2 p2 k3
        subst this
        exact hc k1
       ·obtain ⟨_,p5,p6⟩:=(hk.ar.sk f0 u x0 L0 N0 mB e0 akn q m k2 k3 k4).2.2 y hm hy0
        exact ⟨fun c _ v' L' N' p1 p2=>p5 ⟨c,v',L',N',p1,p2⟩,p6⟩
      ·rw [hk.fresh q r] at hm; simp at hm
     refine ⟨h4,?_,fun c e=>?_⟩
     ·rintro ⟨c,v',L',N',r1,r2⟩
      rcases uL c v' r1 with ⟨p1,p2,p3,p4⟩ | ⟨j,rfl,p2,p3⟩
      ·rw [p4] at r2
       rcases wh.uI q y hy with hm | hm
       ·exact (Bm hm).1 c p2 v' L' N' p3 r2
       ·have:=hk.ar.hH c y L' N' r2; omega
      ·rw [p3] at r2
       exact h5 ⟨_,v',L',N',p2,r2⟩
     ·have e:E.κ c=some y:=e
      rcases wh.uI q y hy with hm | hm
      ·exact (Bm hm).2 c e
      ·have:=hk.hH c y e; omega
  ·intro b v hb
   rw [aU.back,gK,jf]
   rcases uL b v hb with ⟨q1,q2,q3,q4⟩ | ⟨i,rfl,q2,q3⟩
   ·obtain ⟨k1,k2⟩:=hk.ar.nk b v q3
    exact ⟨by omega,k2⟩
   ·refine ⟨?_,?_⟩
    ·have:=hs.live _ _ q2
     rw [aU.mem,gK,oe M6] at this
     omega
    ·show E.κ (A.next+i)=none
     cases hq:E.κ (A.next+i) with
     | none=>rfl
     | some x=>have:=hk.lQ _ x hq; omega
 refine ⟨?_,⟨⟨?_,?_,hs.z,?_,hk.inj,?_,?_,?_,?_,?_,hs.nD,?_,hs.fresh,hs.mem,?_⟩,wh.fP,hle,?_,?_,fun _ _ e=>.inl e,?_,?_,?_,?_,?_,wh.uI,?_,wh.rows⟩⟩
 ·refine ln.akh ht (tS.append (acB (E1:=E1) (E2:=E.up E1 S.nr A.next) rfl hrk hv (aic hG.amb (hG.vs ▸ hG.dW)) fun m _=>⟨fun q e=>by rw [Env.yZ]; exact e,fun q e=>by rw [Env.GI]; exact e⟩) (afG fun p hp x e=>?_))
  obtain ⟨b,_,h2⟩:=Lc hG.V7 p hp
  have bV:p.2.1 < S.rows.length:=by rw [← hG.ZL]; exact (List.getElem?_eq_some_iff.1 h2).1
  rw [List.getD_eq_getElem?_getD,GF S _ bV] at e
  rw [List.getD_eq_getElem?_getD,h2]
  have e:E1.κ p.2.1=some x:=e
  rw [aki _ _ h2] at e
  exact e
 ·intro b cs bU hb
  rcases hinv b _ hb with ⟨ZM,_,_,e,h1⟩ | ⟨ZM,_,h1⟩ | ⟨_,e⟩ | ⟨i,q,_,hq,e⟩
  ·obtain ⟨k,te⟩:=wN b ZM
   obtain ⟨p,r,x,b8,q1,q2,q3,q4,q5,q6,q7⟩:=TH k b te
   rw [h1] at q6
   simp only [jA.row.injEq] at e
   obtain ⟨rfl,rfl⟩:=e
   simp only [Option.some.injEq,jA.row.injEq] at q6
   obtain ⟨rfl,rfl⟩:=q6
   exact ⟨x,b8,q3,q4,q5⟩
  ·obtain ⟨x,c,q1,q2,q3⟩:=hk.row b cs bU h1
   refine ⟨x,c,q1,?_,q3.mono hle⟩
   rw [IG x (hk.hH b x q1) (fun k b' hb' e=>?_) fun q=>hk.anz q1 (hG.at q)]
   ·exact q2
   ·have:=hk.inj _ _ _ q1 e
    subst this
    exact ZM (List.mem_of_getElem? hb')
  ·simp at e
  ·rcases aid i q hq with ⟨_,_,e2⟩ | ⟨_,e2⟩ <;> rw [← e] at e2 <;> simp at e2
 ·intro b top sz hb
  rcases hinv b _ hb with ⟨_,_,_,e,_⟩ | ⟨ZM,J9,h1⟩ | ⟨_,e⟩ | ⟨i,q,rfl,h2,e⟩
  ·simp at e
  ·rcases hk.bc b top sz h1 with ⟨h2,h3⟩ | ⟨q,h2,h3,h4⟩
   ·exact .inl ⟨h2,by rw [Env.y7 (hk.live b _ h1)]; exact h3⟩
   ·have hq:=hk.kr b q h2
    refine .inr ⟨q,by rw [Env.y7 (hk.live b _ h1)]; exact h2,h3,fun x hx cs e own f k jI=>?_⟩
    have hmq:B1.members q=B.members q:=wh.p0 q hq (fun c e=>by
     obtain ⟨f',_,_,h5,h6,h7⟩:=ML c q e
     have:=hk.jP b f' q _ _ _ _ h1 h7 h2 h6
     subst this
     exact J9 h5) fun k=>by
      obtain ⟨c,v,y,L,N,cs,e,own,m,h5,h6,h7⟩:=hG.af k
      exact (hk.ar.sk c v y L N cs e own q m h5 h6 h7).2.1 b h2
    rw [hmq] at hx
    obtain ⟨mB,q1,q2⟩:=wh.rows x (hk.mem q x hx) _ _ _ _ jI
    obtain ⟨q3,q4⟩:=h4 x hx mB e own f k q1
    exact ⟨q3,by rw [← q2]; exact q4⟩
  ·simp at e
  ·subst e
   have:=hs.bc _ _ _ (Rn M6 h2)
   rw [Env.yZ]
   exact this
 ·intro b x hb
  have hx:=hk.hH b x hb
  show E1.z x=none
  cases hz:E1.z x with
  | none=>rfl
  | some r=>
   rcases wh.tg x r hz with e | e | e
   ·have e:E.z x=some r:=e
    rw [hk.apart b x hb] at e; simp at e
   ·exact absurd hb ((hk.ar.z x (hG.ar e)).2 b)
   ·omega
 ·intro b c q tb sb tc sc hb hc e1 e2
  have key:∀ {b tb sb},(S.back P g.bs g.fs vs rs A).get b=some (.bc tb sb)→(b < A.next∧b ∉ jN g.fs∧A.get b=some (.bc tb sb))∨∃ i,b=A.next+i∧(S.mem P vs rs).get (S.nr+i)=some (.bc tb sb):=by
   intro b tb sb hb
   rcases hinv b _ hb with ⟨_,_,_,e,_⟩ | ⟨_,J9,h1⟩ | ⟨_,e⟩ | ⟨i,q,rfl,h2,e⟩
   ·simp at e
   ·exact .inl ⟨hk.live b _ h1,J9,h1⟩
   ·simp at e
   ·subst e
    exact .inr ⟨i,rfl,Rn M6 h2⟩
  have Dp:∀ {b c tb sb i},b < A.next→b ∉ jN g.fs→A.get b=some (.bc tb sb)→c=A.next+i→E.φ b=some q→E1.φ (S.nr+i)=some q→False:=by
   intro b c tb sb i _ h2 h3 _ h5 h6
   rcases wh.th _ _ h6 with ⟨c',e⟩ | e
   ·obtain ⟨f',_,_,k1,k2,k3⟩:=ML c' q e
    have:=hk.jP b f' q _ _ _ _ h3 k3 h5 k2
    subst this
    exact h2 k1
   ·have:=hk.kr b q h5; omega
  rcases key hb with ⟨h1,h2,h3⟩ | ⟨i,rfl,h2⟩ <;> rcases key hc with ⟨k1,k2,k3⟩ | ⟨j,rfl,k2⟩
  ·rw [Env.y7 h1] at e1; rw [Env.y7 k1] at e2
   exact hk.jP b c q _ _ _ _ h3 k3 e1 e2
  ·rw [Env.y7 h1] at e1; rw [Env.yZ] at e2
   exact (Dp h1 h2 h3 rfl e1 e2).elim
  ·rw [Env.yZ] at e1; rw [Env.y7 k1] at e2
   exact (Dp k1 k2 k3 rfl e2 e1).elim
  ·rw [Env.yZ] at e1 e2
   have:=hs.jP _ _ q _ _ _ _ h2 k2 e1 e2
   omega
 ·intro b x hb; have h1:=hk.lQ b x hb; rw [aU.back,gK,jf]; omega
 ·intro b q hb
  rw [aU.back,gK,jf]
  by_cases h1:b < A.next
  ·omega
  ·obtain ⟨i,rfl⟩:=Nat.exists_eq_add_of_le (Nat.le_of_not_lt h1)
   rw [Env.yZ] at hb
   have:=hs.nq _ _ hb
   rw [aU.mem,gK,oe M6] at this
   omega
 ·intro b o hb
  rw [aU.back,gK,jf]
  rcases hinv b _ hb with ⟨ZM,_⟩ | ⟨_,_,h1⟩ | ⟨h1,_⟩ | ⟨i,q,rfl,h2,_⟩
  ·obtain ⟨k,te⟩:=wN b ZM
   obtain ⟨p,r,x,b8,_,_,h3,_⟩:=TH k b te
   have:=hk.lQ b x h3; omega
  ·have:=hk.live b _ h1; omega
  ·obtain ⟨_,_,⟨_,_,h3⟩ | ⟨_,h3⟩⟩:=BV b h1
   ·have:=hk.live b _ h3; omega
   ·have:=hk.live b _ h3; omega
  ·have:=(List.getElem?_eq_some_iff.1 h2).1; omega
 ·intro b x hb; have:=hk.hH b x hb; have:=wh.fP.next; omega
 ·intro b q hb
  by_cases h1:b < A.next
  ·rw [Env.y7 h1] at hb
   have:=hk.kr b q hb; have:=wh.fP.next; omega
  ·obtain ⟨i,rfl⟩:=Nat.exists_eq_add_of_le (Nat.le_of_not_lt h1)
   rw [Env.yZ] at hb
   exact hs.kr _ _ hb
 ·exact qT
 ·rw [aU.back,gK,jf]; omega
 ·intro x hx dJ hna
  exact IG x hx (fun k b _ e=>dJ b e) fun q=>hna (hG.at q)
 ·intro b r e
  exact (wh.tg b r e).imp id (fun e=>e.imp hG.ar id)
 ·intro b q hb
  by_cases h1:b < A.next
  ·rw [Env.y7 h1] at hb; exact .inl ⟨b,hb⟩
  ·obtain ⟨i,rfl⟩:=Nat.exists_eq_add_of_le (Nat.le_of_not_lt h1)
   rw [Env.yZ] at hb
   rcases wh.th _ _ hb with ⟨c,e⟩ | e
   ·obtain ⟨f',_,_,_,k2,_⟩:=ML c q e
    exact .inl ⟨f',k2⟩
   ·exact .inr e
 ·intro q hq dJ hna
  refine wh.p0 q hq (fun c e=>?_) fun k=>hna (hG.af k)
  obtain ⟨f',_,_,_,k2,_⟩:=ML c q e
  exact dJ f' k2
 ·exact adO
 ·exact aie
 ·rintro y (q | ⟨q,h1,h2⟩)
  ·exact (adO y q).imp .inl id
  ·rcases wh.uI q y h2 with h2 | h2
   ·rcases aie q h1 with h1 | h1
    ·exact .inl (.inr ⟨q,h1,h2⟩)
    ·rw [hk.fresh q h1] at h2; simp at h2
   ·exact .inr h2
theorem restore {S:aU} {t:bz} {A:ax} {B B1:St} {g:GR} {ρ mX:aW} {base N:Nat} {w w1:World} {a1:Act} {vs:List KV} {rs:List (List KV)} {E1:Env} (hG:dP P S t A g) (hk:fK P E A B)
  (ht:ln P E1 mX (S.tm S.nr S.ids vs) N a1) (hs:fK P E1 (S.mem P vs rs) B1) (wh:Co base (E.sub A g.bs g.fs S.nr) (S.mem P g.vs g.rs) B ρ w E1 (S.mem P vs rs) B1 mX w1) (D8:∀ k,k < S.rows.length→E1.κ k=(E.sub A g.bs g.fs S.nr).κ k)
  (hv:iv S.dW vs=true) (M6:rs.length=S.rows.length) (hrg:∀ (k:Nat) p r,S.rows[k]? = some p→rs[k]? = some r→dN p.2.1 r=true) :
  ∃ E',ln P E' mX (S.tm A.next g.bs vs) N a1∧Ev P base E A B ρ w E' (S.back P g.bs g.fs vs rs A) B1 mX w1:=⟨_,acC hG hk ht hs wh D8 hv M6 hrg⟩
end Go.K
end
section
namespace Go.K
open Go Go.aE
variable {P:Program} {E:Env}
structure zU (P:Program) (S:aU) (vs:List KV) (rs:List (List KV)):Prop where
 v:iv S.dW vs=true
 rS:rs.length=S.rows.length
 vZ:∀ (k:Nat) p r,S.rows[k]? = some p→rs[k]? = some r→dN p.2.1 r=true
 vn:∃ t A,vs=pq P t A S.dW
 rn:∀ (k:Nat) p,S.rows[k]? = some p→∃ A mB,rs[k]? = some (fA P A p.2.1 mB)∧mB.length=p.2.1.length
theorem dP.Jq {S:aU} {t:bz} {A:ax} {g:GR} (h:dP P S t A g):zU P S g.vs g.rs:=
 ⟨h.dW,h.rS,h.vZ,⟨t,A,h.vs⟩,fun _ _ hp=>by obtain ⟨_,cs,_,_,h1,_,h2,_⟩:=h.row hp; exact ⟨A,cs,h2,h1⟩⟩
section
variable {cfg:eJ} {L n:Nat} {f:FuncId} {S:aU} {root body:Code} {p N:Nat}
theorem ag6 (hP:P.funcs.toList.all m9=true) (hm:P.follows .mixedOrders=true) (iu:ra P cfg.pc) (mu:uN P cfg) {fn:Func} (hf:P.funcs[f]? = some fn) (hb:fn.body=some root) (hs:Sub root p (.loop body)) (hc:codeOk N body=true)
  {vs cS:List KV} {rs mK:List (List KV)} {e:ak} (hr:jh P cfg L n f p body S vs rs=some (e,cS,mK)) {B:St} {ρ:aW} {base:Nat} {a:Act} {w:World} {Q:Exit→Act→World→Prop} (b9:zU P S vs rs)
  (ht:ln P E ρ (S.tm S.nr S.ids vs) N a) (hj:KJ P E (S.mem P vs rs) B ρ base w)
  (hq:∀ E' B' aX a' w',ln P E' aX (S.tm S.nr S.ids cS) N a'→a'.defers=a.defers→KJ P E' (S.mem P cS mK) B' aX base w'→Co base E (S.mem P vs rs) B ρ w E' (S.mem P cS mK) B' aX w'→(∀ k,k < S.rows.length→E'.κ k=E.κ k)→zU P S cS mK→Q e.out a' w'):body.wp P Q a w:=by
 have uu:=tC (R:=ak×List KV×List (List KV)) hP hm iu mu L n
 refine mJ iu uu hm (mu.2 f fn root hf hb) body (2 * p) hs.loop hc _ _ _ _ E B ρ base a w Q hr ht hj fun e' t' E1 A1 B1 mX a1 w1 h1 h2 h3 h4=>?_
 cases hi:uQ (S.fL P t' A1).bs S.ids with
 | false=>
  simp only [hi,cond_false] at h1
  exact absurd h1 (by simp)
 | true=>
  simp only [hi,cond_true] at h1
  cases ho:(S.fL P t' A1).ok with
  | false=>simp only [ho] at h1; exact absurd h1 (by simp)
  | true=>
   simp only [ho,Option.some.injEq,Prod.mk.injEq] at h1
   obtain ⟨rfl,rfl,rfl⟩:=h1
   have hG:=GG ho
   have ako:=Lb hi
   refine hq _ B1 mX a1 w1 (hG.tkr h2) h3 ⟨hG.jy h4.jy,h4.fP.jy⟩ (h4.co hG) (fun k hk=>?_) hG.Jq
   have hp:=List.getElem?_eq_getElem hk
   have hr':=List.getElem?_eq_getElem (show k < rs.length by rw [b9.rS]; exact hk)
   obtain ⟨x,_,hx,_⟩:=hj.k.row k _ _ (mem_row b9.rS hp hr')
   have e1:(E1.sub A1 (S.fL P t' A1).bs (S.fL P t' A1).fs S.nr).κ k=E1.κ k:=by
    simp only [Env.sub]
    rw [ako,GF S k hk,Option.bind_some]
   rw [e1,hx]
   exact h4.le.κ k x hx
theorem acD (hP:P.funcs.toList.all m9=true) (hm:P.follows .mixedOrders=true) (iu:ra P cfg.pc) (mu:uN P cfg) {fn:Func} (hf:P.funcs[f]? = some fn) (hb:fn.body=some root) (hs:Sub root p (.loop body)) (hc:codeOk N body=true)
  {e:ak} {cS:List KV} {mK:List (List KV)} : ∀ (m:Nat) {vs:List KV} {rs:List (List KV)},xJ (jh P cfg L n f p body S) m vs rs=some (e,cS,mK)→∀ {E:Env} {B:St} {ρ:aW} {base:Nat} {a:Act} {w:World} {Q:Exit→Act→World→Prop},zU P S vs rs→
  ln P E ρ (S.tm S.nr S.ids vs) N a→KJ P E (S.mem P vs rs) B ρ base w→
  (∀ E' B' aX a' w',ln P E' aX (S.tm S.nr S.ids cS) N a'→a'.defers=a.defers→KJ P E' (S.mem P cS mK) B' aX base w'→Co base E (S.mem P vs rs) B ρ w E' (S.mem P cS mK) B' aX w'→(∀ k,k < S.rows.length→E'.κ k=E.κ k)→zU P S cS mK→Q e.out a' w')→Code.rounds P body Q m a w
 | 0,vs,rs,h,E,B,ρ,base,a,w,Q,b9,ht,hj,hq=>by simp [xJ] at h
 | m+1,vs,rs,h,E,B,ρ,base,a,w,Q,b9,ht,hj,hq=>by
  unfold xJ at h
  split at h
  ·rename_i e1 vs1 rs1 hr
   rw [rounds_succ]
   refine ag6 hP hm iu mu hf hb hs hc hr b9 ht hj fun E' B' aX a' w' h1 h2 h3 h4 h5 h6=>?_
   have fin:yh e1=false→some (e1,vs1,rs1)=some (e,cS,mK)→Q e1.out a' w':=by
    intro _ h
    simp only [Option.some.injEq,Prod.mk.injEq] at h
    obtain ⟨rfl,rfl,rfl⟩:=h
    exact hq E' B' aX a' w' h1 h2 h3 h4 h5 h6
   cases e1 with
   | normal=>
    have h:xJ (jh P cfg L n f p body S) m vs1 rs1=some (e,cS,mK):=h
    exact acD hP hm iu mu hf hb hs hc m h h6 h1 h3 fun GB Ix uC Zq Ga q1 q2 q3 q4 q5 q6=>hq GB Ix uC Zq Ga q1 (q2.trans h2) q3 (h4.trans q4) (fun k hk=>(q5 k hk).trans (h5 k hk)) q6
   | exit id=>exact fin rfl h
   | goto l=>exact fin rfl h
   | ret=>exact fin rfl h
  ·simp at h
theorem Uj {R:Type} {bs:List Nat} {fs:List (Option Nat)} {A:ax} {k:KE R} {r:R} : ∀ (x:rR),(x.tell P S bs fs A).run k=some r→∃ e cS mK,x.ev=some (e,cS,mK)∧k e (S.tm A.next bs cS) (S.back P bs fs cS mK A)=some r
 | .no,h=>absurd h (by simp [rR.tell,Ek.run])
 | .out e vs rs,h=>⟨e,vs,rs,rfl,h⟩
 | .br c x y,h=>by
  have h:Bool.rec (motive:=fun _=>Option R) ((y.tell P S bs fs A).run k) ((x.tell P S bs fs A).run k) c=some r:=h
  cases c with
  | true=>exact Uj x h
  | false=>exact Uj y h
theorem ag7 (hP:P.funcs.toList.all m9=true) (hm:P.follows .mixedOrders=true) (iu:ra P cfg.pc) (mu:uN P cfg) {fn:Func} (hf:P.funcs[f]? = some fn) (hb:fn.body=some root) (hs:Sub root p (.loop body)) (hc:codeOk N body=true) {F:LFn}
  (hF:∀ vs rs e cS mK,zU P S vs rs→(F vs rs).ev=some (e,cS,mK)→∃ m,xJ (jh P cfg L n f p body S) m vs rs=some (e,cS,mK)):Ue P N body (ama P S F):=by
 intro R k r t A E B ρ base a w Q h ht hj hq
 have h:Bool.rec (motive:=fun _=>Option R) none (((F (S.fL P t A).vs (S.fL P t A).rs).tell P S (S.fL P t A).bs (S.fL P t A).fs A).run k) (S.fL P t A).ok=some r:=h
 cases ho:(S.fL P t A).ok with
 | false=>rw [ho] at h; exact absurd h (by simp)
 | true=>
  rw [ho] at h
  have hG:=GG ho
  obtain ⟨e,cS,mK,h9,sJ⟩:=Uj _ h
  obtain ⟨m,hm'⟩:=hF _ _ e cS mK hG.Jq h9
  refine wp_loop_rounds m (acD hP hm iu mu hf hb hs hc m hm' hG.Jq (hG.tkr ht) ⟨hG.jy hj.k,hj.s⟩ fun E' B' aX a' w' q1 q2 q3 q4 q5 q6=>?_)
  obtain ⟨E2,r1,r2⟩:=restore hG hj.k q1 q3.k q4 q5 q6.v q6.rS q6.vZ
  exact hq e _ E2 _ B' aX a' w' sJ r1 q2 r2
end
end Go.K
end
section
namespace Go.K
open Go Go.aE
variable {P:Program} {E:Env}
def Env.re (E:Env) (f n:Nat):Env:={ κ:=E.κ,z:=E.z,φ:=E.φ,α:=fun b=>if b=f then E.α n else E.α b }
theorem Env.akp {f n:Nat} (h:∀ p,E.α f=some p→E.α n=some p):E.le (E.re f n):=⟨fun b p e=>by
 simp only [Env.re]
 split
 ·rename_i e1; subst e1; exact h p e
 ·exact e,fun _ _ e=>e,fun _ _ e=>e,fun _ _ e=>e⟩
theorem Env.ag8 {f n:Nat} : (E.re f n).α f=E.α n:=by simp [Env.re]
theorem Env.Aw {f n b:Nat} (h:b≠f):(E.re f n).α b=E.α b:=by simp [Env.re,h]
theorem fK.swap {A:ax} {B:St} {f n:Nat} {v:KV} (h:fK P E A B) (hf:A.get f=some .dead) (hn:A.get n=some (.arr v)) (D8:E.κ f=none) (qn:∀ p,E.α f=some p→E.α n=some p) :
  fK P (E.re f n) ((A.put f (.arr v)).put n .dead) B∧(∀ x,AR ((A.put f (.arr v)).put n .dead) (E.re f n) x→AR A E x)∧∀ g,AF ((A.put f (.arr v)).put n .dead) (E.re f n) B g→AF A E B g:=by
 have dJ:f≠n:=fun e=>by rw [e,hn] at hf; simp at hf
 have hle:=Env.akp qn
 have j7:∀ b o,((A.put f (.arr v)).put n .dead).get b=some o→(b=n∧o = .dead)∨(b=f∧o = .arr v)∨(b≠f∧b≠n∧A.get b=some o):=fun b o hb=>by
  rw [ax.cd] at hb
  split at hb
  ·rename_i e; simp at hb; exact .inl ⟨e,hb.symm⟩
  ·rename_i e
   rw [ax.cd] at hb
   split at hb
   ·rename_i e2; simp at hb; exact .inr (.inl ⟨e2,hb.symm⟩)
   ·rename_i e2; exact .inr (.inr ⟨e2,e,hb⟩)
 have hA:∀ b u,((A.put f (.arr v)).put n .dead).get b=some (.arr u)→∃ c,A.get c=some (.arr u)∧(E.re f n).α b=E.α c∧((b=f∧c=n)∨(b≠f∧b≠n∧c=b)):=fun b u hb=>by
  rcases j7 b _ hb with ⟨_,e⟩ | ⟨e,e2⟩ | ⟨e,e2,e3⟩
  ·simp at e
  ·simp at e2; subst e2 e; exact ⟨n,hn,Env.ag8,.inl ⟨rfl,rfl⟩⟩
  ·exact ⟨b,e3,Env.Aw e,.inr ⟨e,e2,rfl⟩⟩
 have Zx:∀ {b c d:Nat},((b=f∧d=n)∨(b≠f∧b≠n∧d=b))→((c=f∧d=n)∨(c≠f∧c≠n∧d=c))→b=c:=fun h1 h2=>by
  rcases h1 with ⟨a1,a2⟩ | ⟨a1,a2,a3⟩ <;> rcases h2 with ⟨b1,b2⟩ | ⟨b1,b2,b3⟩ <;> omega
 have qT:∀ x,AR ((A.put f (.arr v)).put n .dead) (E.re f n) x→AR A E x:=fun x ⟨b,u,L,N,h1,h2⟩=>by
  obtain ⟨c,h3,h4,_⟩:=hA b u h1
  exact ⟨c,u,L,N,h3,by rw [← h4]; exact h2⟩
 have Fo:∀ g,AF ((A.put f (.arr v)).put n .dead) (E.re f n) B g→AF A E B g:=fun g ⟨b,u,x,L,N,cs,e,own,k,h1,h2,h3⟩=>by
  obtain ⟨c,h4,h5,_⟩:=hA b u h1
  exact ⟨c,u,x,L,N,cs,e,own,k,h4,by rw [← h5]; exact h2,h3⟩
 have hold:∀ b o,((A.put f (.arr v)).put n .dead).get b=some o→b < A.next:=fun b o hb=>by
  rcases j7 b _ hb with ⟨e,_⟩ | ⟨e,_⟩ | ⟨_,_,e⟩
  ·rw [e]; exact h.live n _ hn
  ·rw [e]; exact h.live f _ hf
  ·exact h.live b o e
 refine ⟨⟨fun b cs bU hb=>?_,fun b top sz hb=>?_,h.z,h.apart,h.inj,fun b c g tb sb tc sc hb hc=>?_,h.lQ,h.nq,hold,h.hH,h.nD,h.kr,h.fresh,h.mem,?_⟩,qT,Fo⟩
 ·rcases j7 b _ hb with ⟨_,e⟩ | ⟨_,e⟩ | ⟨_,_,e⟩
  ·simp at e
  ·simp at e
  ·obtain ⟨x,b8,h1,h2,h3⟩:=h.row b cs bU e
   exact ⟨x,b8,h1,h2,h3.mono hle⟩
 ·rcases j7 b _ hb with ⟨_,e⟩ | ⟨_,e⟩ | ⟨_,_,e⟩
  ·simp at e
  ·simp at e
  ·exact h.bc b top sz e
 ·rcases j7 b _ hb with ⟨_,e⟩ | ⟨_,e⟩ | ⟨_,_,hb⟩
  ·simp at e
  ·simp at e
  rcases j7 c _ hc with ⟨_,e⟩ | ⟨_,e⟩ | ⟨_,_,hc⟩
  ·simp at e
  ·simp at e
  exact h.jP b c g tb sb tc sc hb hc
 ·refine ⟨fun b u hb=>?_,fun b u hb=>?_,fun x q=>h.ar.z x (qT x q),fun b c u u' x L N L' N' h1 h2 h3 h4=>?_,fun b c u u' x y L N L' N' cs e own g k b8 e' pk k' h1 h2 h3 h4 h5 h6=>?_,fun b x e=>?_,fun b p e=>?_,fun b x L N e=>?_,fun b u x L N cs e own g k h1 h2 h3=>?_,fun b u hb=>?_⟩
  ·obtain ⟨c,h1,h2,_⟩:=hA b u hb
   obtain ⟨T,N,es,acc,q1,q2,q3,q4⟩:=h.ar.arr c u h1
   refine ⟨T,N,es,acc,q1,q2,q3,?_⟩
   rw [h2]
   exact q4.imp id fun ⟨x,cs,bP,bp,r1,r2,r3,r4⟩=>⟨x,cs,bP,bp,r1,r2,r3.mono hle,r4⟩
  ·rcases j7 b _ hb with ⟨_,e⟩ | ⟨_,e⟩ | ⟨e1,_,e⟩
   ·simp at e
   ·simp at e
   ·exact (h.ar.jO b u e).mono hle (Env.Aw e1)
  ·obtain ⟨b',k1,k2,k3⟩:=hA b u h1
   obtain ⟨c',l1,l2,l3⟩:=hA c u' h2
   rw [k2] at h3; rw [l2] at h4
   have:=h.ar.inj b' c' u u' x L N L' N' k1 l1 h3 h4
   subst this
   exact Zx k3 l3
  ·obtain ⟨b',k1,k2,k3⟩:=hA b u h1
   obtain ⟨c',l1,l2,l3⟩:=hA c u' h2
   rw [k2] at h3; rw [l2] at h4
   have:=h.ar.tN b' c' u u' x y L N L' N' cs e own g k b8 e' pk k' k1 l1 h3 h4 h5 h6
   subst this
   exact Zx k3 l3
  ·have hb:b≠f:=fun e2=>by rw [e2] at e; rw [show (E.re f n).κ f=E.κ f from rfl,D8] at e; simp at e
   rw [Env.Aw hb]
   exact h.ar.YW b x e
  ·by_cases hb:b=f
   ·rw [hb]; exact h.live f _ hf
   ·rw [Env.Aw hb] at e; exact h.ar.lQ b p e
  ·by_cases hb:b=f
   ·rw [hb,Env.ag8] at e; exact h.ar.hH n x L N e
   ·rw [Env.Aw hb] at e; exact h.ar.hH b x L N e
  ·obtain ⟨c,k1,k2,_⟩:=hA b u h1
   rw [k2] at h2
   obtain ⟨q1,q2,q3⟩:=h.ar.sk c u x L N cs e own g k k1 h2 h3
   exact ⟨q1,q2,fun y hy hy2=>⟨(q3 y hy hy2).1,fun q=>(q3 y hy hy2).2.1 (qT y q),(q3 y hy hy2).2.2⟩⟩
  ·refine ⟨hold b _ hb,?_⟩
   rcases j7 b _ hb with ⟨_,e⟩ | ⟨e,_⟩ | ⟨_,_,e⟩
   ·simp at e
   ·rw [e]; exact D8
   ·exact (h.ar.nk b u e).2
structure Sw (E:Env) (A:ax) (B:St) (E' : Env) (A' : ax):Prop where
 le:E.le E'
 κ:E'.κ=E.κ
 z:E'.z=E.z
 φ:E'.φ=E.φ
 next:A'.next=A.next
 ar:∀ x,AR A' E' x→AR A E x
 af:∀ g,AF A' E' B g→AF A E B g
theorem Sw.refl {A:ax} {B:St} : Sw E A B E A:=⟨Env.le_refl _,rfl,rfl,rfl,rfl,fun _ h=>h,fun _ h=>h⟩
theorem Sw.trans {E1 E2 E3:Env} {A1 A2 A3:ax} {B:St} (h:Sw E1 A1 B E2 A2) (k:Sw E2 A2 B E3 A3):Sw E1 A1 B E3 A3:=
 ⟨Env.le_trans h.le k.le,k.κ.trans h.κ,k.z.trans h.z,k.φ.trans h.φ,k.next.trans h.next,fun x q=>h.ar x (k.ar x q),fun g q=>h.af g (k.af g q)⟩
theorem Ev.sw {base:Nat} {E1 E2 E3:Env} {A1 A2 A3:ax} {B1 B2:St} {mX uJ:aW} {w1 w2:World} (h:Ev P base E1 A1 B1 mX w1 E2 A2 B2 uJ w2) (hk:fK P E3 A3 B2) (k:Sw E2 A2 B2 E3 A3):Ev P base E1 A1 B1 mX w1 E3 A3 B2 uJ w2 where
 jy:=hk
 fP:=h.fP
 le:=Env.le_trans h.le k.le
 next:=by rw [k.next]; exact h.next
 mC:=h.mC
 new b x e:=h.new b x (by rw [← k.κ]; exact e)
 tg b r e:=h.tg b r (by rw [← k.z]; exact e)
 th b g e:=h.th b g (by rw [← k.φ]; exact e)
 p0:=h.p0
 m7 x q:=h.m7 x (k.ar x q)
 ns g q:=h.ns g (k.af g q)
 uI:=h.uI
 od y q:=h.od y (q.imp (k.ar y) fun ⟨g,q1,q2⟩=>⟨g,k.af g q1,q2⟩)
 rows:=h.rows
noncomputable section
def CF:List (Option Nat)→Nat→Bool
 | [],_=>true
 | some f::fs,j=>Nat.beq f j&&CF fs (Nat.succ j)
 | none::_,_=>false
theorem Wg:∀ {fs:List (Option Nat)} {j i:Nat} {x:Option Nat},CF fs j=true→fs[i]? = some x→x=some (j+i)
 | [],_,_,_,_,e=>by simp at e
 | none::_,_,_,_,h,_=>by simp [CF] at h
 | some f::fs,j,0,x,h,e=>by
  simp only [CF,Bool.and_eq_true] at h
  simp at e
  rw [← e,Nat.eq_of_beq_eq_true h.1]
  rfl
 | some f::fs,j,i+1,x,h,e=>by
  simp only [CF,Bool.and_eq_true] at h
  have:=Wg (i:=i) (x:=x) h.2 (by simpa using e)
  rw [this]
  congr 1
  omega
def akq (A:ax) (f j:Nat) (o:jA):ax:=
 match o with
 | .arr v=>(A.put f (.arr v)).put j .dead
 | _=>A
def CG (A:ax):List (Option Nat)→Nat→List jA→ax
 | some f::fs,j,o::os=>CG (akq A f j o) fs (Nat.succ j) os
 | none::fs,j,_::os=>CG A fs (Nat.succ j) os
 | _,_,_=>A
structure acE (E:Env) (A:ax) (fs:List (Option Nat)) (j:Nat) (os:List jA):Prop where
 one:∀ (i:Nat) f v,fs[i]? = some (some f)→os[i]? = some (.arr v)→A.get f=some .dead∧E.κ f=none∧A.get (j+i)=some (.arr v)∧∀ p,E.α f=some p→E.α (j+i)=some p
 lt:∀ (i f:Nat),fs[i]? = some (some f)→f < j
 nodup:∀ (i k f:Nat),fs[i]? = some (some f)→fs[k]? = some (some f)→i=k
theorem acE.tail {E1:Env} {A A1:ax} {x:Option Nat} {o:jA} {fs:List (Option Nat)} {os:List jA} {j:Nat} (h:acE E A (x::fs) j (o::os)) (qn:∀ b,x≠some b→E1.α b=E.α b) (D8:E1.κ=E.κ) (hg:∀ b,x≠some b→b≠j→A1.get b=A.get b):acE E1 A1 fs (Nat.succ j) os where
 one i f v e1 e2:=by
  obtain ⟨h1,h3,h4,h5⟩:=h.one (i+1) f v (by simpa using e1) (by simpa using e2)
  have bV:=h.lt (i+1) f (by simpa using e1)
  rw [show j+(i+1)=Nat.succ j+i by omega] at h4 h5
  have hf:x≠some f:=fun e=>by have:=h.nodup (i+1) 0 f (by simpa using e1) (by simp [e]); omega
  have hn:x≠some (Nat.succ j+i):=fun e=>by have:=h.lt 0 (Nat.succ j+i) (by simp [e]); omega
  exact ⟨by rw [hg f hf (by omega)]; exact h1,by rw [D8]; exact h3,by rw [hg _ hn (by omega)]; exact h4,fun p e=>by rw [qn f hf] at e; rw [qn _ hn]; exact h5 p e⟩
 lt i f e:=by have:=h.lt (i+1) f (by simpa using e); omega
 nodup i k f e1 e2:=by have:=h.nodup (i+1) (k+1) f (by simpa using e1) (by simpa using e2); omega
theorem Uk {B:St} : ∀ {fs:List (Option Nat)} {os:List jA} {j:Nat} {E:Env} {A:ax},fK P E A B→acE E A fs j os→∃ E',fK P E' (CG A fs j os) B∧Sw E A B E' (CG A fs j os)∧
  (∀ (i:Nat) f v,fs[i]? = some (some f)→os[i]? = some (.arr v)→E'.α f=E.α (j+i))∧(∀ b,(∀ i:Nat,fs[i]?≠some (some b))→E'.α b=E.α b)
 | [],os,j,E,A,h,_=>⟨E,h,.refl,fun i f v e=>by simp at e,fun _ _=>rfl⟩
 | x::fs,[],j,E,A,h,_=>⟨E,by cases x <;> exact h,by cases x <;> exact .refl,fun i f v _ e=>by simp at e,fun _ _=>rfl⟩
 | none::fs,o::os,j,E,A,h,ho=>by
  obtain ⟨E',h1,h2,h3,h4⟩:=Uk h (ho.tail (fun _ _=>rfl) rfl fun _ _ _=>rfl)
  refine ⟨E',h1,h2,fun i f v e1 e2=>?_,fun b hb=>h4 b fun i=>by have:=hb (i+1); simpa using this⟩
  cases i with
  | zero=>simp at e1
  | succ i=>
   rw [h3 i f v (by simpa using e1) (by simpa using e2)]
   congr 1
   omega
 | some f0::fs,o::os,j,E,A,h,ho=>by
  have anC:∀ i:Nat,fs[i]?≠some (some f0):=fun i e=>by have:=ho.nodup (i+1) 0 f0 (by simpa using e) (by simp); omega
  have step:∀ {E1:Env} {A1:ax},fK P E1 A1 B→Sw E A B E1 A1→akq A f0 j o=A1→(∀ b,b≠f0→E1.α b=E.α b)→(∀ v,o = .arr v→E1.α f0=E.α j)→acE E1 A1 fs (Nat.succ j) os→
    ∃ E',fK P E' (CG A (some f0::fs) j (o::os)) B∧Sw E A B E' (CG A (some f0::fs) j (o::os))∧(∀ (i:Nat) f v,(some f0::fs)[i]? = some (some f)→(o::os)[i]? = some (.arr v)→E'.α f=E.α (j+i))∧(∀ b,(∀ i:Nat,(some f0::fs)[i]?≠some (some b))→E'.α b=E.α b):=by
   intro E1 A1 k1 k2 k3 k4 k5 k6
   obtain ⟨E',h1,h2,h3,h4⟩:=Uk k1 k6
   have e0:CG A (some f0::fs) j (o::os)=CG A1 fs (Nat.succ j) os:=by rw [← k3]; rfl
   rw [e0]
   refine ⟨E',h1,k2.trans h2,fun i f v e1 e2=>?_,fun b hb=>?_⟩
   ·cases i with
    | zero=>
     simp at e1 e2
     subst e1
     rw [h4 f0 anC]
     exact k5 v e2
    | succ i=>
     rw [h3 i f v (by simpa using e1) (by simpa using e2),k4 _ fun e=>by have:=ho.lt 0 f0 (by simp); omega]
     congr 1
     omega
   ·rw [h4 b fun i=>by have:=hb (i+1); simpa using this]
    exact k4 b fun e=>hb 0 (by simp [e])
  cases o with
  | arr v=>
   obtain ⟨h1,h2,h3,h4⟩:=ho.one 0 f0 v (by simp) (by simp)
   obtain ⟨q1,q2,q3⟩:=h.swap (n:=j) h1 h3 h2 h4
   have nf:∀ b,some f0≠some b→b≠j→((A.put f0 (.arr v)).put j .dead).get b=A.get b:=fun b e1 e2=>by
    rw [ax.cd,if_neg e2,ax.cd,if_neg fun e=>e1 (by rw [e])]
   exact step q1 ⟨Env.akp h4,rfl,rfl,rfl,by rw [ax.rE,ax.rE],q2,q3⟩ rfl (fun b hb=>Env.Aw hb) (fun _ _=>Env.ag8) (ho.tail (fun b hb=>Env.Aw fun e=>hb (by rw [e])) rfl nf)
  | _=>exact step h .refl rfl (fun _ _=>rfl) (fun v e=>by simp at e) (ho.tail (fun _ _=>rfl) rfl fun _ _ _=>rfl)
def rnB (fs:List (Option Nat)) (nx b:Nat):Nat:=cond (Nat.ble nx b) (match acg (b - nx) fs with
 | some (some f)=>f
 | _=>b) b
def rn1 (fs:List (Option Nat)) (nx:Nat) (v:KV):KV:=
 match v with
 | .al t b o n=>.al t (rnB fs nx b) o n
 | v=>v
def akr (fs:List (Option Nat)) (nx:Nat):List KV→List KV
 | []=>[]
 | v::vs=>rn1 fs nx v::akr fs nx vs
def rnV (fs:List (Option Nat)) (nx:Nat) (v:KV):KV:=
 match v with
 | .agg cs=>.agg (akr fs nx cs)
 | v=>rn1 fs nx v
def aks (fs:List (Option Nat)) (nx:Nat):List (Nat×KV)→List (Nat×KV)
 | []=>[]
 | q::qs=>(q.1,rnV fs nx q.2)::aks fs nx qs
def afH (E1 E2:Env) (fs:List (Option Nat)) (nx:Nat):Prop:=E1.le E2∧∀ (i f:Nat),fs[i]? = some (some f)→∀ p,E1.α (nx+i)=some p→E2.α f=some p
theorem alG {E1 E2:Env} {fs:List (Option Nat)} {nx b:Nat} (h:afH E1 E2 fs nx) {p:Nat×Nat×Nat} (e:E1.α b=some p):E2.α (rnB fs nx b)=some p:=by
 unfold rnB
 cases hb:Nat.ble nx b with
 | false=>exact h.1.α b p e
 | true=>
  simp only [cond_true]
  have hb:=Nat.le_of_ble_eq_true hb
  rw [Y1]
  split
  ·rename_i f hf
   exact h.2 _ f hf p (by rw [show nx+(b - nx)=b by omega]; exact e)
  ·exact h.1.α b p e
theorem aif {E1 E2:Env} {fs:List (Option Nat)} {nx:Nat} (h:afH E1 E2 fs nx) {v:KV} {u:Value} (hv:VK P E1 v u):VK P E2 (rn1 fs nx v) u:=by
 unfold rn1
 split
 ·rename_i t b o n
  refine .NH ?_
  rcases hv.vo with q | ⟨x,L,N,c,q1,q2⟩
  ·exact .inl q
  ·exact .inr ⟨x,L,N,c,alG h q1,q2⟩
 ·exact hv.mono h.1
theorem afI {E1 E2:Env} {fs:List (Option Nat)} {nx:Nat} (h:afH E1 E2 fs nx):∀ {vs:List KV} {us:List Value},bb P E1 vs us→bb P E2 (akr fs nx vs) us
 | [],us,hv=>by rw [hv.cl]; exact .nil
 | v::vs,us,hv=>by
  obtain ⟨u,us',rfl,h1,h2⟩:=hv.cons_inv
  exact .cons (aif h h1) (afI h h2)
theorem alH {E1 E2:Env} {fs:List (Option Nat)} {nx:Nat} (h:afH E1 E2 fs nx) {v:KV} {u:Value} (hv:VK P E1 v u):VK P E2 (rnV fs nx v) u:=by
 unfold rnV
 split
 ·obtain ⟨m,rfl,h1⟩:=hv.mD
  exact .pd (afI h h1)
 ·exact aif h hv
theorem Wh {E1 E2:Env} {fs:List (Option Nat)} {nx:Nat} (h:afH E1 E2 fs nx):∀ (l:List (Nat×KV)),tS P E1 E2 l (aks fs nx l)
 | []=>trivial
 | _::qs=>⟨rfl,fun _ hv=>alH h hv,Wh h qs⟩
end
end Go.K
end
section
namespace Go.K
open Go Go.aE
variable {P:Program} {E:Env}
noncomputable section
def Ro:List CD→Bool
 | []=>true
 | .bc _::_=>false
 | _::ds=>Ro ds
def X4:List (Tmp×VD)→Bool
 | []=>true
 | p::ps=>Ro p.2.ks&&X4 ps
def X5:List (Tmp×List CD×Nat)→Bool
 | []=>true
 | p::ps=>Ro p.2.1&&X5 ps
def aU.stays (S:aU):Bool:=X4 S.dW&&X5 S.rows
theorem Ax:∀ {ds:List CD} {vs:List KV},Ro ds=true→∀ q∈oG P ds vs,∃ v,q = .arr v
 | [],_,_,q,hq=>by simp [oG] at hq
 | d::ds,[],_,q,hq=>by cases d <;> simp [oG] at hq
 | d::ds,v::vs,h,q,hq=>by
  cases d <;> simp only [Ro,oG,List.mem_cons] at h hq
  ·exact Ax h q hq
  ·exact Ax h q hq
  ·simp at h
  ·rcases hq with rfl | hq
   ·exact ⟨_,rfl⟩
   ·exact Ax h q hq
  ·exact Ax h q hq
theorem ZN:∀ {ps:List (Tmp×VD)} {vs:List KV},X4 ps=true→∀ q∈wg P ps vs,∃ v,q = .arr v
 | [],_,_,q,hq=>by simp [wg] at hq
 | p::ps,[],_,q,hq=>by simp [wg] at hq
 | p::ps,v::vs,h,q,hq=>by
  simp only [X4,Bool.and_eq_true,wg,List.mem_append] at h hq
  exact hq.elim (Ax h.1 q) (ZN h.2 q)
theorem ZO:∀ {ps:List (Tmp×List CD×Nat)} {rs:List (List KV)},X5 ps=true→∀ q∈xH P ps rs,∃ v,q = .arr v
 | [],_,_,q,hq=>by simp [xH] at hq
 | p::ps,[],_,q,hq=>by simp [xH] at hq
 | p::ps,r::rs,h,q,hq=>by
  simp only [X5,Bool.and_eq_true,xH,List.mem_append] at h hq
  exact hq.elim (Ax h.1 q) (ZO h.2 q)
theorem acF {S:aU} (h:S.stays=true) {vs:List KV} {rs:List (List KV)} {i:Nat} {q:jA} (hq:(S.lens P vs rs)[i]? = some q):∃ v,q = .arr v:=by
 simp only [aU.stays,Bool.and_eq_true] at h
 have:=List.mem_of_getElem? hq
 simp only [aU.lens,List.mem_append] at this
 exact this.elim (ZN h.1 q) (ZO h.2 q)
theorem MM {S:aU} {vs:List KV} {rs:List (List KV)} (hv:iv S.dW vs=true) (hl:rs.length=S.rows.length) (hg:∀ (k:Nat) p r,S.rows[k]? = some p→rs[k]? = some r→dN p.2.1 r=true):(S.lens P vs rs).length=nu S.dW+(S.rows.map fun p=>qq p.2.1).sum:=by
 rw [aU.lens,List.length_append,A4 hv,Fu hl hg rfl]
def aU.iY (S:aU) (nx:Nat) (bs:List Nat) (fs:List (Option Nat)) (vs:List KV):bz:=lX (aks fs nx (V9 nx bs S.dW vs++yg bs S.V7))
def aU.ZP (S:aU) (P:Program) (bs:List Nat) (fs:List (Option Nat)) (vs:List KV) (rs:List (List KV)) (A:ax):ax:=CG (S.back P bs fs vs rs A) fs A.next (S.lens P vs rs)
def aih (S:aU) (E E' : Env):Prop:=∀ (i:Nat) p,E.α (S.nr+i)=some p→E'.α (S.nr+i)=some p
theorem acG {S:aU} {t:bz} {A:ax} {B B1:St} {g:GR} {ρ mX:aW} {base N:Nat} {w w1:World} {a1:Act} {vs:List KV} {rs:List (List KV)} {E1:Env} (iX:S.stays=true) (hG:dP P S t A g) (hk:fK P E A B)
  (ht:ln P E1 mX (S.tm S.nr S.ids vs) N a1) (hs:fK P E1 (S.mem P vs rs) B1) (wh:Co base (E.sub A g.bs g.fs S.nr) (S.mem P g.vs g.rs) B ρ w E1 (S.mem P vs rs) B1 mX w1) (D8:∀ k,k < S.rows.length→E1.κ k=(E.sub A g.bs g.fs S.nr).κ k)
  (hpl:aih S (E.sub A g.bs g.fs S.nr) E1)
  (hv:iv S.dW vs=true) (M6:rs.length=S.rows.length) (hrg:∀ (k:Nat) p r,S.rows[k]? = some p→rs[k]? = some r→dN p.2.1 r=true) :
  ∃ E',ln P E' mX (S.iY A.next g.bs g.fs vs) N a1∧Ev P base E A B ρ w E' (S.ZP P g.bs g.fs vs rs A) B1 mX w1:=by
 obtain ⟨ht0,pn⟩:=acC hG hk ht hs wh D8 hv M6 hrg
 have jf:(xI (n5 A g.bs S.rows (S.Dy A.next g.bs rs)) g.fs).next=A.next:=by rw [Ew,Pn]
 have hlen:(S.lens P vs rs).length=g.fs.length:=by
  rw [MM hv M6 hrg,hG.fs,qU,← hG.lens,MM hG.dW hG.rS hG.vZ]
 have hold:∀ (i:Nat) f,g.fs[i]? = some (some f)→∃ u,A.get f=some (.arr u):=by
  intro i f hi
  have bV:i < (S.lens P g.vs g.rs).length:=by rw [hG.lens,← qU,← hG.fs]; exact (List.getElem?_eq_some_iff.1 hi).1
  obtain ⟨fi,_,h2,h3⟩:=hG.fact (List.getElem?_eq_getElem bV)
  rw [hi] at h2; simp at h2
  obtain ⟨u0,hu0⟩:=acF iX (List.getElem?_eq_getElem bV)
  rcases h3 with ⟨n,sz,e,_⟩ | ⟨T,v,_,⟨h3,_⟩ | ⟨f',m,N,es,acc,h3,h4,_⟩⟩
  ·rw [hu0] at e; simp at e
  ·rw [h3] at h2; simp at h2
  ·rw [h3] at h2; simp at h2; subst h2; exact ⟨_,h4⟩
 have ng:∀ (i f:Nat),g.fs[i]? = some (some f)→∀ p,(E.up E1 S.nr A.next).α f=some p→(E.up E1 S.nr A.next).α (A.next+i)=some p:=fun i f hi p e=>by
  obtain ⟨u,hu⟩:=hold i f hi
  rw [Env.GJ (hk.live f _ hu)] at e
  rw [Env.GI]
  exact hpl i p (by rw [Env.DA,hi]; exact e)
 have hsw:acE (E.up E1 S.nr A.next) (S.back P g.bs g.fs vs rs A) g.fs A.next (S.lens P vs rs):=by
  refine ⟨fun i f v hi hv=>?_,fun i f hi=>?_,fun i k f h1 h2=>vr hG.X3 i k f h1 h2⟩
  ·obtain ⟨u,hu⟩:=hold i f hi
   refine ⟨?_,(hk.ar.nk f u hu).2,?_,ng i f hi⟩
   ·rw [aU.back,CC (by rw [jf]; exact hk.live f _ hu),Dz,if_pos (uR.2 (List.mem_of_getElem? hi))]
   ·have:=K8 (A:=xI (n5 A g.bs S.rows (S.Dy A.next g.bs rs)) g.fs) hv
    rw [jf] at this
    exact this
  ·obtain ⟨u,hu⟩:=hold i f hi
   exact hk.live f _ hu
 obtain ⟨E',q1,q2,q3,_⟩:=Uk pn.jy hsw
 refine ⟨E',?_,pn.sw q1 q2⟩
 refine ln.akh ht0 (Wh ⟨q2.le,fun i f hi p e=>?_⟩ _)
 have bV:i < (S.lens P vs rs).length:=by rw [hlen]; exact (List.getElem?_eq_some_iff.1 hi).1
 obtain ⟨v,QF⟩:=acF iX (List.getElem?_eq_getElem bV)
 rw [q3 i f v hi (by rw [List.getElem?_eq_getElem bV,QF])]
 exact e
def aU.acH (S:aU) (P:Program) (t:bz) (A:ax):Bool:=cond (uQ (S.fL P t A).bs S.ids) (cond (CF (S.fL P t A).fs S.nr) (S.fL P t A).ok false) false
theorem afJ {S:aU} {t:bz} {A:ax} (h:S.acH P t A=true):uQ (S.fL P t A).bs S.ids=true∧CF (S.fL P t A).fs S.nr=true∧(S.fL P t A).ok=true:=by
 unfold aU.acH at h
 cases h1:uQ (S.fL P t A).bs S.ids with
 | false=>rw [h1] at h; simp at h
 | true=>
  cases h2:CF (S.fL P t A).fs S.nr with
  | false=>rw [h1,h2] at h; simp at h
  | true=>rw [h1,h2] at h; exact ⟨rfl,rfl,h⟩
def pM (P:Program) (cfg:eJ) (L n:Nat) (f:FuncId) (p:Nat) (body:Code) (S:aU) (vs:List KV) (rs:List (List KV)):Option (ak×List KV×List (List KV)):=
 pZ P cfg (El P cfg L n) L f body (2 * p) (fun e t A=>
  Bool.rec (motive:=fun _=>Option (ak×List KV×List (List KV))) none (some (e,(S.fL P t A).vs,(S.fL P t A).rs)) (S.acH P t A)) (S.tm S.nr S.ids vs) (S.mem P vs rs)
theorem afK {S:aU} {t:bz} {A:ax} {B0:St} {E1:Env} {g:GR} {vs:List KV} {rs:List (List KV)} (hG:dP P S t A g) (hf:CF g.fs S.nr=true) (b9:zU P S vs rs) (hs:fK P E (S.mem P vs rs) B0) (hle:E.le E1):aih S E (E1.sub A g.bs g.fs S.nr):=fun i p e=>by
 have hd:=hs.ar.lQ _ p e
 rw [aU.mem,gK,oe b9.rS,MM b9.v b9.rS b9.vZ] at hd
 have bV:i < g.fs.length:=by
  rw [hG.fs,qU,← hG.lens,MM hG.dW hG.rS hG.vZ]
  omega
 have h1:=List.getElem?_eq_getElem bV
 rw [Env.DA,h1,Wg hf h1]
 exact hle.α _ p e
section
variable {cfg:eJ} {L n:Nat} {f:FuncId} {S:aU} {root body:Code} {p N:Nat}
theorem acI {t' : bz} {A1:ax} {B B1:St} {ρ mX:aW} {base:Nat} {w w1:World} {E1:Env} {vs:List KV} {rs:List (List KV)} (b9:zU P S vs rs) (hj:KJ P E (S.mem P vs rs) B ρ base w) (h4:Ev P base E (S.mem P vs rs) B ρ w E1 A1 B1 mX w1) (_:dP P S t' A1 (S.fL P t' A1)) (hi:uQ (S.fL P t' A1).bs S.ids=true) :
  ∀ k,k < S.rows.length→(E1.sub A1 (S.fL P t' A1).bs (S.fL P t' A1).fs S.nr).κ k=E.κ k:=fun k hk=>by
 have ako:=Lb hi
 have hp:=List.getElem?_eq_getElem hk
 have hr':=List.getElem?_eq_getElem (show k < rs.length by rw [b9.rS]; exact hk)
 obtain ⟨x,_,hx,_⟩:=hj.k.row k _ _ (mem_row b9.rS hp hr')
 have e1:(E1.sub A1 (S.fL P t' A1).bs (S.fL P t' A1).fs S.nr).κ k=E1.κ k:=by
  simp only [Env.sub]
  rw [ako,GF S k hk,Option.bind_some]
 rw [e1,hx]
 exact h4.le.κ k x hx
theorem afL (hP:P.funcs.toList.all m9=true) (hm:P.follows .mixedOrders=true) (iu:ra P cfg.pc) (mu:uN P cfg) {fn:Func} (hf:P.funcs[f]? = some fn) (hb:fn.body=some root) (hs:Sub root p (.loop body)) (hc:codeOk N body=true)
  {vs cS:List KV} {rs mK:List (List KV)} {e:ak} (hr:pM P cfg L n f p body S vs rs=some (e,cS,mK)) {B:St} {ρ:aW} {base:Nat} {a:Act} {w:World} {Q:Exit→Act→World→Prop} (b9:zU P S vs rs)
  (ht:ln P E ρ (S.tm S.nr S.ids vs) N a) (hj:KJ P E (S.mem P vs rs) B ρ base w)
  (hq:∀ E' B' aX a' w',ln P E' aX (S.tm S.nr S.ids cS) N a'→a'.defers=a.defers→KJ P E' (S.mem P cS mK) B' aX base w'→Co base E (S.mem P vs rs) B ρ w E' (S.mem P cS mK) B' aX w'→(∀ k,k < S.rows.length→E'.κ k=E.κ k)→zU P S cS mK→aih S E E'→Q e.out a' w'):body.wp P Q a w:=by
 have uu:=tC (R:=ak×List KV×List (List KV)) hP hm iu mu L n
 refine mJ iu uu hm (mu.2 f fn root hf hb) body (2 * p) hs.loop hc _ _ _ _ E B ρ base a w Q hr ht hj fun e' t' E1 A1 B1 mX a1 w1 h1 h2 h3 h4=>?_
 cases hi:S.acH P t' A1 with
 | false=>simp only [hi] at h1; exact absurd h1 (by simp)
 | true=>
  simp only [hi,Option.some.injEq,Prod.mk.injEq] at h1
  obtain ⟨rfl,rfl,rfl⟩:=h1
  obtain ⟨i1,i2,i3⟩:=afJ hi
  have hG:=GG i3
  exact hq _ B1 mX a1 w1 (hG.tkr h2) h3 ⟨hG.jy h4.jy,h4.fP.jy⟩ (h4.co hG) (acI b9 hj h4 hG i1) hG.Jq (afK hG i2 b9 hj.k h4.le)
theorem ZQ (hP:P.funcs.toList.all m9=true) (hm:P.follows .mixedOrders=true) (iu:ra P cfg.pc) (mu:uN P cfg) {fn:Func} (hf:P.funcs[f]? = some fn) (hb:fn.body=some root) (hs:Sub root p (.loop body)) (hc:codeOk N body=true)
  {e:ak} {cS:List KV} {mK:List (List KV)} : ∀ (m:Nat) {vs:List KV} {rs:List (List KV)},xJ (pM P cfg L n f p body S) m vs rs=some (e,cS,mK)→∀ {E:Env} {B:St} {ρ:aW} {base:Nat} {a:Act} {w:World} {Q:Exit→Act→World→Prop},zU P S vs rs→
  ln P E ρ (S.tm S.nr S.ids vs) N a→KJ P E (S.mem P vs rs) B ρ base w→
  (∀ E' B' aX a' w',ln P E' aX (S.tm S.nr S.ids cS) N a'→a'.defers=a.defers→KJ P E' (S.mem P cS mK) B' aX base w'→Co base E (S.mem P vs rs) B ρ w E' (S.mem P cS mK) B' aX w'→(∀ k,k < S.rows.length→E'.κ k=E.κ k)→zU P S cS mK→aih S E E'→Q e.out a' w')→Code.rounds P body Q m a w
 | 0,vs,rs,h,E,B,ρ,base,a,w,Q,b9,ht,hj,hq=>by simp [xJ] at h
 | m+1,vs,rs,h,E,B,ρ,base,a,w,Q,b9,ht,hj,hq=>by
  unfold xJ at h
  split at h
  ·rename_i e1 vs1 rs1 hr
   rw [rounds_succ]
   refine afL hP hm iu mu hf hb hs hc hr b9 ht hj fun E' B' aX a' w' h1 h2 h3 h4 h5 h6 h7=>?_
   have fin:yh e1=false→some (e1,vs1,rs1)=some (e,cS,mK)→Q e1.out a' w':=by
    intro _ h
    simp only [Option.some.injEq,Prod.mk.injEq] at h
    obtain ⟨rfl,rfl,rfl⟩:=h
    exact hq E' B' aX a' w' h1 h2 h3 h4 h5 h6 h7
   cases e1 with
   | normal=>
    have h:xJ (pM P cfg L n f p body S) m vs1 rs1=some (e,cS,mK):=h
    exact ZQ hP hm iu mu hf hb hs hc m h h6 h1 h3 fun GB Ix uC Zq Ga q1 q2 q3 q4 q5 q6 q7=>hq GB Ix uC Zq Ga q1 (q2.trans h2) q3 (h4.trans q4) (fun k hk=>(q5 k hk).trans (h5 k hk)) q6 fun i p e=>q7 i p (h7 i p e)
   | exit id=>exact fin rfl h
   | goto l=>exact fin rfl h
   | ret=>exact fin rfl h
  ·simp at h
def rR.Le (P:Program) (S:aU) (bs:List Nat) (fs:List (Option Nat)) (A:ax):rR→Ek
 | .no=>.no
 | .out e vs rs=>.out e (S.iY A.next bs fs vs) (S.ZP P bs fs vs rs A)
 | .br c x y=>.br c (x.Le P S bs fs A) (y.Le P S bs fs A)
def akt (P:Program) (S:aU) (F:LFn):bz→ax→Ek:=fun t A=>
 .br (cond S.stays (S.fL P t A).ok false) ((F (S.fL P t A).vs (S.fL P t A).rs).Le P S (S.fL P t A).bs (S.fL P t A).fs A) .no
theorem Pr {R:Type} {bs:List Nat} {fs:List (Option Nat)} {A:ax} {k:KE R} {r:R} : ∀ (x:rR),(x.Le P S bs fs A).run k=some r→∃ e cS mK,x.ev=some (e,cS,mK)∧k e (S.iY A.next bs fs cS) (S.ZP P bs fs cS mK A)=some r
 | .no,h=>absurd h (by simp [rR.Le,Ek.run])
 | .out e vs rs,h=>⟨e,vs,rs,rfl,h⟩
 | .br c x y,h=>by
  have h:Bool.rec (motive:=fun _=>Option R) ((y.Le P S bs fs A).run k) ((x.Le P S bs fs A).run k) c=some r:=h
  cases c with
  | true=>exact Pr x h
  | false=>exact Pr y h
theorem afM (hP:P.funcs.toList.all m9=true) (hm:P.follows .mixedOrders=true) (iu:ra P cfg.pc) (mu:uN P cfg) {fn:Func} (hf:P.funcs[f]? = some fn) (hb:fn.body=some root) (hs:Sub root p (.loop body)) (hc:codeOk N body=true) {F:LFn}
  (hF:∀ vs rs e cS mK,zU P S vs rs→(F vs rs).ev=some (e,cS,mK)→∃ m,xJ (pM P cfg L n f p body S) m vs rs=some (e,cS,mK)):Ue P N body (akt P S F):=by
 intro R k r t A E B ρ base a w Q h ht hj hq
 have h:Bool.rec (motive:=fun _=>Option R) none (((F (S.fL P t A).vs (S.fL P t A).rs).Le P S (S.fL P t A).bs (S.fL P t A).fs A).run k) (cond S.stays (S.fL P t A).ok false)=some r:=h
 cases iX:S.stays with
 | false=>rw [iX] at h; exact absurd h (by simp)
 | true=>
  rw [iX,cond_true] at h
  cases ho:(S.fL P t A).ok with
  | false=>rw [ho] at h; exact absurd h (by simp)
  | true=>
   rw [ho] at h
   have hG:=GG ho
   obtain ⟨e,cS,mK,h9,sJ⟩:=Pr _ h
   obtain ⟨m,hm'⟩:=hF _ _ e cS mK hG.Jq h9
   refine wp_loop_rounds m (ZQ hP hm iu mu hf hb hs hc m hm' hG.Jq (hG.tkr ht) ⟨hG.jy hj.k,hj.s⟩ fun E' B' aX a' w' q1 q2 q3 q4 q5 q6 q7=>?_)
   obtain ⟨E2,r1,r2⟩:=acG iX hG hj.k q1 q3.k q4 q5 q7 q6.v q6.rS q6.vZ
   exact hq e _ E2 _ B' aX a' w' sJ r1 q2 r2
end
def adP:ak→Bool
 | .normal=>true
 | .ret=>true
 | _=>false
def Fv (P:Program) (cfg:eJ) (L n:Nat) (g:FuncId) (S:aU) (vs:List KV) (rs:List (List KV)):Option (ak×List KV×List (List KV)):=
 match P.funcs.toList[g]? with
 | some fn=>match fn.body with
  | some c=>cond fn.results.toList.isEmpty (pZ P cfg (El P cfg L n) L g c 1 (fun e t A=>
    Bool.rec (motive:=fun _=>Option (ak×List KV×List (List KV))) none (some (.ret,(S.fL P t A).vs,(S.fL P t A).rs)) (cond (adP e) (S.acH P t A) false)) (S.tm S.nr S.ids vs) (S.mem P vs rs)) none
  | none=>none
 | none=>none
def rR.Lf (P:Program) (S:aU) (bs:List Nat) (fs:List (Option Nat)) (A:ax):rR→tI
 | .no=>.no
 | .out _ vs rs=>.out (.kk []) (S.ZP P bs fs vs rs A)
 | .br c x y=>.br c (x.Lf P S bs fs A) (y.Lf P S bs fs A)
def amf (P:Program) (S:aU) (F:LFn):List KV→ax→tI:=fun args A=>
 .br (cond S.stays (S.fL P (nQ args 0 .leaf) A).ok false) ((F (S.fL P (nQ args 0 .leaf) A).vs (S.fL P (nQ args 0 .leaf) A).rs).Lf P S (S.fL P (nQ args 0 .leaf) A).bs (S.fL P (nQ args 0 .leaf) A).fs A) .no
theorem Ps {R:Type} {S:aU} {bs:List Nat} {fs:List (Option Nat)} {A:ax} {k:KV→ax→Option R} {r:R} : ∀ (x:rR),tI.run k (x.Lf P S bs fs A)=some r→∃ e cS mK,x.ev=some (e,cS,mK)∧k (.kk []) (S.ZP P bs fs cS mK A)=some r
 | .no,h=>absurd h (by simp [rR.Lf,tI.run])
 | .out e vs rs,h=>⟨e,vs,rs,rfl,h⟩
 | .br c x y,h=>by
  have h:Bool.rec (motive:=fun _=>Option R) (tI.run k (y.Lf P S bs fs A)) (tI.run k (x.Lf P S bs fs A)) c=some r:=h
  cases c with
  | true=>exact Ps x h
  | false=>exact Ps y h
theorem aiU {ρ:aW} {args:List KV} {kv:List Value} (hv:BQ P E ρ args kv) (m:Nat):ln P E ρ (nQ args 0 .leaf) (max m args.length) { tmps:=kv.toArray++Array.replicate (m - kv.toArray.size) undef,defers:=[] }:=by
 obtain ⟨ag1,QC,OX⟩:=hv
 have hlen:kv.length=args.length:=by rw [OX.length,QC.length]
 have fv:(kv.toArray++Array.replicate (m - kv.toArray.size) undef).size=max m args.length:=by
  simp [hlen]
  omega
 refine ⟨fv,fun i=>?_,fun i hi=>?_⟩
 ·rw [Dv]
  simp only [Nat.zero_le,true_and,Nat.zero_add,Nat.sub_zero,Trie.Mq]
  by_cases hi:i < args.length
  ·rw [if_pos hi]
   obtain ⟨u,hu⟩:∃ u,args[i]? = some u:=⟨_,List.getElem?_eq_getElem hi⟩
   obtain ⟨m',h1,h2⟩:=QC.get hu
   obtain ⟨u',h3,h4⟩:=OX.get h1
   rw [hu]
   have:(kv.toArray++Array.replicate (m - kv.toArray.size) undef).getD i undef=u':=by
    rw [Array.getD_eq_getD_getElem?,Array.getElem?_append_left (by simpa [hlen] using hi)]
    simp [h3]
   rw [this]
   exact ⟨m',h2,h4⟩
  ·rw [if_neg hi]
   exact VC.aw
 ·rw [Dv,if_neg,Trie.Mq]
  simp only [Nat.zero_le,true_and,Nat.zero_add]
  have:=Nat.le_max_right m args.length
  omega
theorem ag9 {cfg:eJ} {L n:Nat} {g:FuncId} {S:aU} {F:LFn} (hP:P.funcs.toList.all m9=true) (hm:P.follows .mixedOrders=true) (iu:ra P cfg.pc) (mu:uN P cfg) (hy:Nat.blt g yB=true)
  (hF:∀ vs rs e cS mK,zU P S vs rs→(F vs rs).ev=some (e,cS,mK)→Fv P cfg L n g S vs rs=some (e,cS,mK)) {R:Type} {args:List KV} {A:ax} {k:KV→ax→Option R} {r:R} (h:tI.run k (amf P S F args A)=some r):Gz P g∧
  ∀ (E:Env) (B:St) (ρ:aW) (base:Nat) (w:World) (kv:List Value),BQ P E ρ args kv→KJ P E A B ρ base w→
   Calls P g kv.toArray w fun e w'=>∃ v v' E' A' B' aX,e = .returned v'∧VC P E' aX v v'∧Ev P base E A B ρ w E' A' B' aX w'∧k v A' = some r:=by
 have h:Bool.rec (motive:=fun _=>Option R) none (tI.run k ((F (S.fL P (nQ args 0 .leaf) A).vs (S.fL P (nQ args 0 .leaf) A).rs).Lf P S (S.fL P (nQ args 0 .leaf) A).bs (S.fL P (nQ args 0 .leaf) A).fs A)) (cond S.stays (S.fL P (nQ args 0 .leaf) A).ok false)=some r:=h
 cases iX:S.stays with
 | false=>rw [iX] at h; exact absurd h (by simp)
 | true=>
 rw [iX,cond_true] at h
 cases ho:(S.fL P (nQ args 0 .leaf) A).ok with
 | false=>rw [ho] at h; exact absurd h (by simp)
 | true=>
 rw [ho] at h
 have hG:=GG ho
 obtain ⟨e0,cS,mK,h9,sJ⟩:=Ps _ h
 have mZ:=hF _ _ e0 cS mK hG.Jq h9
 unfold Fv at mZ
 split at mZ
 ·rename_i fn hf
  split at mZ
  ·rename_i c hc
   cases hre:fn.results.toList.isEmpty with
   | false=>rw [hre] at mZ; exact absurd mZ (by simp)
   | true=>
   rw [hre,cond_true] at mZ
   have hf' : P.funcs[g]? = some fn:=by simpa using hf
   have b9:=List.all_eq_true.1 hP fn (List.mem_of_getElem? hf)
   unfold m9 at b9
   rw [hc] at b9
   simp only [Bool.and_eq_true,Bool.not_eq_true'] at b9
   refine ⟨⟨hy,fn,hf',by simp [hc],b9.2⟩,fun E B ρ base w kv hv hj=>?_⟩
   refine calls_of_wp hf' hc ?_
   have ht:=aiU hv fn.ntmps
   have VY:codeOk (max fn.ntmps args.length) c=true:=mF (Nat.le_max_left _ _) c b9.1
   have uu:=tC (R:=ak×List KV×List (List KV)) hP hm iu mu L n
   refine mJ (L:=L) (f:=g) (N:=max fn.ntmps args.length) iu uu hm (mu.2 g fn c hf' hc) c 1 .root VY _ _ _ _ (E.sub A (S.fL P (nQ args 0 .leaf) A).bs (S.fL P (nQ args 0 .leaf) A).fs S.nr) B ρ base _ w _ mZ (hG.tkr ht) ⟨hG.jy hj.k,hj.s⟩ fun e t' E1 A1 B1 mX a1 w1 h1 h2 h3 h4=>?_
   cases he:adP e with
   | false=>simp only [he,cond_false] at h1; exact absurd h1 (by simp)
   | true=>
   simp only [he,cond_true] at h1
   cases hi:S.acH P t' A1 with
   | false=>simp only [hi] at h1; exact absurd h1 (by simp)
   | true=>
   simp only [hi,Option.some.injEq,Prod.mk.injEq] at h1
   obtain ⟨_,rfl,rfl⟩:=h1
   obtain ⟨i1,i2,i3⟩:=afJ hi
   have hG1:=GG i3
   have hj0:KJ P (E.sub A (S.fL P (nQ args 0 .leaf) A).bs (S.fL P (nQ args 0 .leaf) A).fs S.nr) (S.mem P (S.fL P (nQ args 0 .leaf) A).vs (S.fL P (nQ args 0 .leaf) A).rs) B ρ base w:=⟨hG.jy hj.k,hj.s⟩
   obtain ⟨E2,_,r2⟩:=acG iX hG hj.k (hG1.tkr h2) (hG1.jy h4.jy) (h4.co hG1) (acI hG.Jq hj0 h4 hG1 i1) (afK hG1 i2 hG.Jq hj0.k h4.le) hG1.Jq.v hG1.Jq.rS hG1.Jq.vZ
   have ajC:fn.results.toList = []:=List.isEmpty_iff.1 hre
   have afw:(results fn a1.tmps).run P w1 = .ok (.tuple #[]) w1:=by
    rw [VJ,Sem.run_bind,Array.mapM_eq_mapM_toList,Sem.run_map,ajC]
    rfl
   have ZC:bodyPost P fn (fun e w'=>∃ v v' E' A' B' aX,e = .returned v'∧VC P E' aX v v'∧Ev P base E A B ρ w E' A' B' aX w'∧k v A' = some r) .ret a1 w1:=
    ⟨h3,_,afw,_,_,E2,_,B1,mX,rfl,⟨_,.YU .nil,VR.mkTuple .nil⟩,r2,sJ⟩
   cases e with
   | normal=>exact ZC
   | ret=>exact ZC
   | exit id=>simp [adP] at he
   | goto l=>simp [adP] at he
  ·simp at mZ
 ·simp at mZ
end
end Go.K
end
section
namespace Go.K
open Go Go.aE
variable {P:Program} {E:Env}
def adQ:Code→Bool→Option Code
 | .seq a _,false=>some a
 | .seq _ b,true=>some b
 | .cond _ a _,false=>some a
 | .cond _ _ b,true=>some b
 | .block _ a,false=>some a
 | .loop a,false=>some a
 | .scope a,false=>some a
 | _,_=>none
def qu:Nat→Code→Nat→Option Code
 | 0,_,_=>none
 | n+1,root,p=>cond (Nat.ble p 1) (cond (Nat.beq p 1) (some root) none) ((qu n root (p / 2)).bind fun c=>adQ c (Nat.beq (p % 2) 1))
theorem Rp:∀ {n:Nat} {root c:Code} {p:Nat},qu n root p=some c→qu (n+1) root p=some c
 | 0,_,_,_,h=>by simp [qu] at h
 | n+1,root,c,p,h=>by
  unfold qu at h ⊢
  cases hp:Nat.ble p 1 with
  | true=>rw [hp] at h; exact h
  | false=>
   rw [hp] at h
   simp only [cond_false] at h ⊢
   obtain ⟨d,h1,h2⟩:=Option.bind_eq_some_iff.1 h
   exact Option.bind_eq_some_iff.2 ⟨d,Rp h1,h2⟩
theorem Pt {root c:Code} {p n:Nat} (h:qu n root p=some c):∀ k,qu (n+k) root p=some c
 | 0=>h
 | k+1=>Rp (Pt h k)
theorem Sub.pos {root c:Code} {p:Nat} (h:Sub root p c):1≤p:=by induction h <;> omega
theorem Sub.at {root c:Code} {p:Nat} (h:Sub root p c):∃ n,qu n root p=some c:=by
 have left:∀ {q n:Nat} {d:Code},1≤q→qu n root q=some d→qu (n+1) root (2 * q)=adQ d false:=by
  intro q n d hq hd
  unfold qu
  have:Nat.ble (2 * q) 1=false:=by
   cases hb:Nat.ble (2 * q) 1 with
   | false=>rfl
   | true=>have:=Nat.le_of_ble_eq_true hb; omega
  rw [this,cond_false,show 2 * q / 2=q by omega,hd,show 2 * q % 2=0 by omega]
  rfl
 have right:∀ {q n:Nat} {d:Code},1≤q→qu n root q=some d→qu (n+1) root (2 * q+1)=adQ d true:=by
  intro q n d hq hd
  unfold qu
  have:Nat.ble (2 * q+1) 1=false:=by
   cases hb:Nat.ble (2 * q+1) 1 with
   | false=>rfl
   | true=>have:=Nat.le_of_ble_eq_true hb; omega
  rw [this,cond_false,show (2 * q+1) / 2=q by omega,hd,show (2 * q+1) % 2=1 by omega]
  rfl
 induction h with
 | root=>exact ⟨1,rfl⟩
 | al6 hs ih=>obtain ⟨n,hn⟩:=ih; exact ⟨n+1,left hs.pos hn⟩
 | al7 hs ih=>obtain ⟨n,hn⟩:=ih; exact ⟨n+1,right hs.pos hn⟩
 | aj7 hs ih=>obtain ⟨n,hn⟩:=ih; exact ⟨n+1,left hs.pos hn⟩
 | aj8 hs ih=>obtain ⟨n,hn⟩:=ih; exact ⟨n+1,right hs.pos hn⟩
 | block hs ih=>obtain ⟨n,hn⟩:=ih; exact ⟨n+1,left hs.pos hn⟩
 | loop hs ih=>obtain ⟨n,hn⟩:=ih; exact ⟨n+1,left hs.pos hn⟩
 | scope hs ih=>obtain ⟨n,hn⟩:=ih; exact ⟨n+1,left hs.pos hn⟩
theorem Sub.uniq {root c d:Code} {p n:Nat} (h:Sub root p c) (k:qu n root p=some d):c=d:=by
 obtain ⟨m,hm⟩:=h.at
 have h1:=Pt hm n
 have h2:=Pt k m
 rw [Nat.add_comm] at h1
 rw [h1] at h2
 simpa using h2
def eZ (P:Program) (f p:Nat):Code:=
 match P.funcs.toList[f]? with
 | some fn=>match fn.body with
  | some c=>match qu 200 c p with
   | some (.loop b)=>b
   | _=>.skip
  | none=>.skip
 | none=>.skip
structure Lp where
 f:Nat
 p:Nat
 S:aU
 F:LFn
 st:Bool
noncomputable def aii (st:Bool) (P:Program) (cfg:eJ) (L n:Nat) (f:FuncId) (p:Nat) (body:Code) (S:aU) (vs:List KV) (rs:List (List KV)):Option (ak×List KV×List (List KV)):=
 cond st (pM P cfg L n f p body S vs rs) (jh P cfg L n f p body S vs rs)
noncomputable def ZR (P:Program):List Lp→FuncId→Nat→Option (bz→ax→Ek)
 | [],_,_=>none
 | l::ls,f,p=>cond (Nat.beq l.f f&&Nat.beq l.p p) (some (cond l.st (akt P l.S l.F) (ama P l.S l.F))) (ZR P ls f p)
def Lp.Ok (P:Program) (l:Lp):Prop:=∃ cfg L n,ra P cfg.pc∧uN P cfg∧
 ∀ vs rs e cS mK,zU P l.S vs rs→(l.F vs rs).ev=some (e,cS,mK)→∃ m,xJ (aii l.st P cfg L n l.f l.p (eZ P l.f l.p) l.S) m vs rs=some (e,cS,mK)
def cA (P:Program) (f p:Nat):Bool:=
 match P.funcs.toList[f]? with
 | some fn=>match fn.body with
  | some c=>match qu 200 c p with
   | some (.loop _)=>true
   | _=>false
  | none=>false
 | none=>false
theorem aij (hP:P.funcs.toList.all m9=true) (hm:P.follows .mixedOrders=true) {pc:FuncId→Option (List KV→KR KV)} {x:aeP} : ∀ {ls:List Lp},(∀ l∈ls,Lp.Ok P l∧cA P l.f l.p=true)→∀ f fn c,P.funcs[f]? = some fn→fn.body=some c→ah7 P ⟨pc,ZR P ls,x⟩ f c
 | [],_=>fun f fn c hf hb p F body h=>by simp [ZR] at h
 | l::ls,hl=>fun f fn c hf hb p F body h hs N hc=>by
  have h:ZR P (l::ls) f p=some F:=h
  unfold ZR at h
  cases hk:(Nat.beq l.f f&&Nat.beq l.p p) with
  | false=>
   rw [hk] at h
   exact aij hP hm (pc:=pc) (x:=x) (fun l' sv=>hl l' (List.mem_cons_of_mem _ sv)) f fn c hf hb p F body h hs N hc
  | true=>
   rw [hk] at h
   simp only [cond_true,Option.some.injEq] at h
   subst h
   simp only [Bool.and_eq_true] at hk
   have e1:=Nat.eq_of_beq_eq_true hk.1
   have e2:=Nat.eq_of_beq_eq_true hk.2
   obtain ⟨⟨cfg,L,n,iu,mu,hF⟩,hth⟩:=hl l (by simp)
   rw [e1,e2] at hF hth
   have hf' : P.funcs.toList[f]? = some fn:=by simpa using hf
   have amG:eZ P f p=body:=by
    unfold cA at hth
    unfold eZ
    simp only [hf',hb] at hth ⊢
    split at hth
    ·rename_i b yM
     have:=hs.uniq yM
     simp at this
     exact this.symm
    ·simp at hth
   rw [amG] at hF
   cases iX:l.st with
   | true=>
    rw [iX] at hF
    exact afM hP hm iu mu hf hb hs hc hF
   | false=>
    rw [iX] at hF
    exact ag7 hP hm iu mu hf hb hs hc hF
theorem MN (hP:P.funcs.toList.all m9=true) (hm:P.follows .mixedOrders=true) {pc:FuncId→Option (List KV→KR KV)} {x:aeP} (hx:acv P x.ac) {ls:List Lp} (hl:∀ l∈ls,Lp.Ok P l∧cA P l.f l.p=true):uN P ⟨pc,ZR P ls,x⟩:=
 ⟨hx,aij hP hm hl⟩
structure Fc where
 g:Nat
 S:aU
 F:LFn
noncomputable def acJ (P:Program):List Fc→FuncId→Option (List KV→ax→tI)
 | [],_=>none
 | c::cs,g=>cond (Nat.beq c.g g) (some (amf P c.S c.F)) (acJ P cs g)
def Fc.Ok (P:Program) (c:Fc):Prop:=Nat.blt c.g yB=true∧∃ cfg L n,ra P cfg.pc∧uN P cfg∧
 ∀ vs rs e cS mK,zU P c.S vs rs→(c.F vs rs).ev=some (e,cS,mK)→Fv P cfg L n c.g c.S vs rs=some (e,cS,mK)
theorem MO (hP:P.funcs.toList.all m9=true) (hm:P.follows .mixedOrders=true):∀ {cs:List Fc},(∀ c∈cs,Fc.Ok P c)→acv P (acJ P cs)
 | [],_=>fun g F h=>by simp [acJ] at h
 | c::cs,hc=>fun g F h=>by
  have h:acJ P (c::cs) g=some F:=h
  unfold acJ at h
  cases hk:Nat.beq c.g g with
  | false=>
   rw [hk] at h
   intro R args A k r hr
   exact MO hP hm (fun c' hc'=>hc c' (List.mem_cons_of_mem _ hc')) g F h args A k r hr
  | true=>
   rw [hk] at h
   simp only [cond_true,Option.some.injEq] at h
   subst h
   have e1:=Nat.eq_of_beq_eq_true hk
   subst e1
   obtain ⟨hy,cfg,L,n,iu,mu,hF⟩:=hc c (by simp)
   intro R args A k r hr
   exact ag9 hP hm iu mu hy hF hr
end Go.K
end
