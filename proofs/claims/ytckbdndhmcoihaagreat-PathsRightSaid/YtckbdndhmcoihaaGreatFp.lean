/- Part of the proof of PathsRight: the machine, shown to be the model's, and plain models. No conditions. -/
import Derived.Test.YtckbdndhmcoihaaGreatEp
set_option linter.unusedSimpArgs false
set_option linter.unusedVariables false
section
namespace Go.K
open Go Go.az
variable {P:Program} {E:Env}
theorem cF.afM {A A1:ai} {B:St} {T:TypeId} {acc:Nat->KV} (h:du P E A B) (qp:A1.next=A.next) (zM:∀ c o,A1.get c=some o->A.get c=some o\/(o = .dead/\c < A.next)) (cT:1<=aI P T) :
  cF P E A B E (A1.new (.arr (.ts T .any 0 [] acc))) B:=by
 have ai1:E.α A.next=none:=by
  cases hq:E.α A.next with
  | none=>rfl
  | some p=>have:=h.ar.fT _ p hq; omega
 have fY:∀ c o,(A1.new (.arr (.ts T .any 0 [] acc))).get c=some o->(c=A.next/\o = .arr (.ts T .any 0 [] acc))\/(o = .dead/\c < A.next)\/A.get c=some o:=fun c o hc=>by
  rw [ai.cV,qp] at hc;split at hc
  ·rename_i e; simp at hc; exact .inl ⟨e,hc.symm⟩
  ·rcases zM c o hc with e | e
   ·exact .inr (.inr e)
   ·exact .inr (.inl e)
 have iL:∀ c v,(A1.new (.arr (.ts T .any 0 [] acc))).get c=some (.arr v)->E.α c=none\/A.get c=some (.arr v):=fun c v hc=>by
  rcases fY c _ hc with ⟨e,_⟩ | ⟨e,_⟩ | e
  ·exact .inl (by rw [e]; exact ai1)
  ·simp at e
  ·exact .inr e
 have hA:∀ c v y L N,(A1.new (.arr (.ts T .any 0 [] acc))).get c=some (.arr v)->E.α c=some (y,L,N)->A.get c=some (.arr v):=fun c v y L N hc hy=>by
  rcases iL c v hc with e | e
  ·rw [e] at hy; simp at hy
  ·exact e
 have po:∀ y,AR (A1.new (.arr (.ts T .any 0 [] acc))) E y->AR A E y:=fun y ⟨c,v,L,N,h1,h2⟩=>⟨c,v,L,N,hA c v _ _ _ h1 h2,h2⟩
 have IX:∀ g,AF (A1.new (.arr (.ts T .any 0 [] acc))) E B g->AF A E B g:=fun g ⟨c,v,x,L,N,cs,e,own,k,h1,h2,h3⟩=>⟨c,v,x,L,N,cs,e,own,k,hA c v _ _ _ h1 h2,h2,h3⟩
 refine ⟨⟨fun c cs aQ hc=>?_,fun c top sz hc=>?_,h.z,h.apart,h.inj,?_,fun b x e=>by rw [ai.cv,qp]; have:=h.fT b x e; omega,fun b g e=>by rw [ai.cv,qp]; have:=h.ll b g e; omega,fun c o hc=>?_,h.eB,h.lT,h.iQ,h.fresh,h.mem,?_⟩,Env.le_refl _,by rw [ai.cv,qp]; omega,fun _ _ _ _=>rfl,fun _ _ e=>.inl e,fun _ _ e=>.inl e,fun _ _ e=>.inl e,fun _ _ _ _=>rfl,fun x q=>.inl (po x q),fun g q=>.inl (IX g q),fun _ _ q=>.inl q,fun y q=>.inl (q.imp (po y) fun ⟨g,q1,q2⟩=>⟨g,IX g q1,q2⟩),ln fun _ _=>rfl⟩
 ·rcases fY c _ hc with ⟨_,e⟩ | ⟨e,_⟩ | e
  ·simp at e
  ·simp at e
  ·exact h.row c cs aQ e
 ·rcases fY c _ hc with ⟨_,e⟩ | ⟨e,_⟩ | e
  ·simp at e
  ·simp at e
  ·exact h.aF c top sz e
 ·intro b c g tb sb tc sc hb hc e1 e2
  rcases fY b _ hb with ⟨_,e⟩ | ⟨e,_⟩ | hb
  ·simp at e
  ·simp at e
  rcases fY c _ hc with ⟨_,e⟩ | ⟨e,_⟩ | hc
  ·simp at e
  ·simp at e
  exact h.iA b c g _ _ _ _ hb hc e1 e2
 ·rw [ai.cv,qp]
  rcases fY c _ hc with ⟨e,_⟩ | ⟨_,e⟩ | e
  ·omega
  ·omega
  ·have:=h.live c o e; omega
 ·refine ⟨fun c v hc=>?_,fun c v hc=>?_,fun x q=>h.ar.z x (po x q),fun b c v u x L N L' N' h1 h2 h3 h4=>h.ar.inj b c v u x L N L' N' (hA b v _ _ _ h1 h3) (hA c u _ _ _ h2 h4) h3 h4,fun b c v u x y L N L' N' cs e own g k bX e' nN k' h1 h2 h3 h4=>h.ar.rD b c v u x y L N L' N' cs e own g k bX e' nN k' (hA b v _ _ _ h1 h3) (hA c u _ _ _ h2 h4) h3 h4,h.ar.Xg,fun b p e=>by rw [ai.cv,qp]; have:=h.ar.fT b p e; omega,h.ar.eB,fun b v x L N cs e own g k h1 h2 h3=>?_,fun c v hc=>?_⟩
  ·rcases fY c _ hc with ⟨e,e2⟩ | ⟨e,_⟩ | e
   ·simp at e2
    subst e2;exact ⟨T,0,[],acc,rfl,⟨rfl,fun i hi=>by omega,rfl⟩,cT,.inl ⟨rfl,by rw [e]; exact ai1⟩⟩
   ·simp at e
   ·exact h.ar.arr c v e
  ·rcases fY c _ hc with ⟨_,e⟩ | ⟨e,_⟩ | e
   ·simp at e
   ·simp at e
   ·exact h.ar.iG c v e
  ·obtain ⟨q1,q2,q3⟩:=h.ar.p0 b v x L N cs e own g k (hA b v _ _ _ h1 h2) h2 h3
   exact ⟨q1,q2,fun y hy bx=>⟨(q3 y hy bx).1,fun q=>(q3 y hy bx).2.1 (po y q),(q3 y hy bx).2.2⟩⟩
  ·rw [ai.cv,qp]
   rcases fY c _ hc with ⟨e,_⟩ | ⟨e,_⟩ | e
   ·rw [e]
    refine ⟨AB _,?_⟩;cases hk:E.κ A.next with
    | none=>rfl
    | some x=>have:=h.fT _ x hk; omega
   ·simp at e
   ·obtain ⟨q1,q2⟩:=h.ar.nk c v e
    exact ⟨by omega,q2⟩
theorem Vj {E:Env} {T:TypeId} {b x L N n c:Nat} (oS:E.α b=some (x,L,N)) (h1:n<=c) (h2:n<=N) (h3:c * aI P T=L):VK P E (.al T b 0 n) (.slice (some ⟨x,0,none⟩) n c):=
 .IE (.inr ⟨x,L,N,c,oS,by simp,h1,by omega,by rw [bG]; exact h3⟩)
theorem abL {T b n:Nat} {z:Value} (hn:aI P T=n) (h1n:1<=n) (hz:z.cells.size=n) (he:ca (aH P T) (K.dv (aH P T) (fw z))=true):U5 P (QT T b (K.dv (aH P T) (fw z))) (yV n b z):=by
 intro E A A' B vs us v h hv hg;unfold QT at hg;split at hg
 ·rename_i k l k' c
  obtain ⟨x,y,rfl,h1,h2⟩:=hv.iZ;have:=h1.bQ; subst this;have:=h2.bQ; subst this;obtain ⟨hc,hg⟩:=aA.iH hg;simp only [bH] at hg;obtain ⟨rfl,rfl⟩:=hg;simp only [aj,jP] at hc;obtain ⟨⟨h3,h4⟩,h5⟩:=hc;obtain ⟨l',rfl⟩:=Int.eq_ofNat_of_zero_le h3;obtain ⟨c',rfl⟩:=Int.eq_ofNat_of_zero_le (Int.le_trans h3 h4);have h6:Nat.ble l' c' = true:=Nat.ble_eq_true_of_le (by omega);have hs:∀ v∈List.replicate c' z,v.cells.size=n:=fun v hv=>by rw [List.eq_of_mem_replicate hv]; exact hz
  have hlen:(bj (List.replicate c' z)).length=c' * n:=by rw [fQ hs,List.length_replicate]
  have Gn:∀ m,cN [K.dv (aH P T) (fw z)] m=List.replicate m (K.dv (aH P T) (fw z)):=fun m=>by
   induction m with
   | zero=>rfl
   | succ m ih=>simp [cN,ih,List.replicate_succ]
  have eU:=cF.Gk (P:=P) (X:=fun _=>False) (G:=fun _=>False) (y2:=B.next) (N2:=c') (T:=T) (mu:=cN [K.dv (aH P T) (fw z)] c') (fa:=fun _=>K.dv (aH P T) (fw z)) (y8:=List.replicate c' z) (iv:=bj (List.replicate c' z)) (oq:=none) (A1:=A) (B':=B.new (.row (bj (List.replicate c' z)) n true none)) h rfl (fun _ _ e=>.inl e) (fun _ _ _ _ _ _ _=>⟨id,fun _ _ _ _ _ _=>id⟩) (fun _ e=>e.elim) (fun _ e=>e.elim) (.inr (ao _)) (by simp) (by simp [hn]) (fun _ _ e=>by simp at e)
   (fun y hy _=>.inl (by rw [St.cV,ae (by omega)])) (fun _ e=>e.elim) (fun q y hy=>.inl (by simpa using hy)) (fun q _=>by simp) (by simp) (fun g hg=>by rw [St.jX]; exact h.fresh g (by rw [St.cv] at hg; omega)) (fun g y hy=>by rw [St.jX] at hy; rw [St.cv]; have:=h.mem g y hy; omega)
   (by omega) ⟨by rw [Gn]; simp,fun i hi=>by rw [Gn,eN,List.getElem?_replicate,ax hi]; rfl,by
    rw [Gn];exact lV fun i x hx=>by rw [List.getElem?_replicate] at hx; split at hx <;> simp at hx; subst hx; exact he⟩ (by
    rw [Gn];generalize c' = m
    induction m with
    | zero=>exact .nil
    | succ m ih=>exact .cons (VK.fw z).dv ih) (by rw [hn]; exact jI hs)
  refine ⟨.row (eK z.cells.toList c') n true none,fun k=>.slice (some ⟨k,0,none⟩) l' c',E.xB A.next (B.next,(bj (List.replicate c' z)).length,c'),?_,?_,?_⟩
  ·have h5:Nat.ble (b * c') 281474976710656=true:=h5
   show cond (Nat.ble l' c'&&Nat.ble (b * c') 281474976710656) _ _=_;rw [h6,h5];rfl
  ·exact Vj Env.sR (by omega) (by show l'<=c'; omega) (by rw [hn,hlen])
  ·rw [wB]; exact eU
 ·exact hg.elim
theorem ZQ {e:TypeId} {n len:Nat} {z:Value} {is:List Nat} (hn:(aH P e).ks.length=n) (h1n:1<=n) (hz:z.cells.size=n) (hb:xZ len is=true) :
  U5 P (MA (aH P e) e (K.dv (aH P e) (fw z)) len is) (oi n z len is):=by
 intro E A A' B vs us v h hv hg;unfold MA at hg;obtain ⟨hc,hg⟩:=aA.cond hg;simp only [aj] at hc;obtain ⟨⟨hk,Ug⟩,wA⟩:=hc;have hg:(KV.al e A.next 0 len,A.new (.arr (.ts e .any len _ _)))=(v,A'):=hg;simp only [bH] at hg;obtain ⟨rfl,rfl⟩:=hg;have IU:VK P E (K.dv (aH P e) (fw z)) z:=(VK.fw z).dv;have hrel:=MS (l:=aH P e) (is:=is) hv (Gi IU len);have hlen:(zL (cN [K.dv (aH P e) (fw z)] len) ((tz is vs).map fun p=>(p.1,K.dv (aH P e) p.2))).length=len:=by
  rw [DV,uw]; simp
 have ZI:∀ p∈zipIdx is us,p.2.cells.size=n/\p.1 < (List.replicate len z).length:=by
  intro p hp;obtain ⟨h5,h6⟩:=ZH us hb p hp;have hm:aK P E (vs.map (K.dv (aH P e))) us:=Q3 hv;exact ⟨by rw [<- hn]; exact (j7 Ug hm p.2 h6).1,by simpa using h5⟩
 obtain ⟨h3,h4⟩:=MQ h1n (ps:=zipIdx is us) (es:=List.replicate len z) (fun u hu=>by rw [(List.mem_replicate.1 hu).2]; exact hz) ZI;have uq:=j7 wA hrel;have gU:(bj (nS (List.replicate len z) (zipIdx is us))).all scalar=true:=dU.2 (ua fun u hu=>(uq u hu).2);have iK:(nS (List.replicate len z) (zipIdx is us)).length=len:=by rw [DU]; simp
 have eU:=cF.Gk (P:=P) (X:=fun _=>False) (G:=fun _=>False) (y2:=B.next) (N2:=len) (T:=e) (mu:=zL (cN [K.dv (aH P e) (fw z)] len) ((tz is vs).map fun p=>(p.1,K.dv (aH P e) p.2))) (fa:=qj _) (y8:=nS (List.replicate len z) (zipIdx is us)) (iv:=bj (nS (List.replicate len z) (zipIdx is us))) (oq:=none) (A1:=A) (B':=B.new (.row (bj (nS (List.replicate len z) (zipIdx is us))) n true none)) h rfl (fun _ _ e=>.inl e) (fun _ _ _ _ _ _ _=>⟨id,fun _ _ _ _ _ _=>id⟩) (fun _ e=>e.elim) (fun _ e=>e.elim) (.inr (ao _)) (by simp) (by simp [aI,hn]) (fun _ _ e=>by simp at e)
  (fun y hy _=>.inl (by rw [St.cV,ae (by omega)])) (fun _ e=>e.elim) (fun q y hy=>.inl (by simpa using hy)) (fun q _=>by simp) (by simp) (fun g hg=>by rw [St.jX]; exact h.fresh g (by rw [St.cv] at hg; omega)) (fun g y hy=>by rw [St.jX] at hy; rw [St.cv]; have:=h.mem g y hy; omega)
  (by unfold aI; omega) ⟨hlen.symm,fun i _=>rfl,wA⟩ hrel (by unfold aI; rw [hn]; exact jI h4)
 refine ⟨.row (bj (nS (List.replicate len z) (zipIdx is us))) n true none,fun b=>.slice (some ⟨b,0,none⟩) len len,E.xB A.next (B.next,(bj (nS (List.replicate len z) (zipIdx is us))).length,len),?_,?_,eU⟩
 ·unfold oi
  rw [wB,h3];simp only [cD];rw [gU,BI hv hk];rfl
 ·exact Vj Env.sR (ao _) (ao _) (by unfold aI; rw [hn,fQ h4,iK])
theorem ahh {T b n:Nat} {z:Value} (hn:aI P T=n) (_:1<=n) (hz:z.cells.size=n) (he:ca (aH P T) (K.dv (aH P T) (fw z))=true):aiX P (Zw T b (K.dv (aH P T) (fw z))) (yV n b z):=by
 intro E A B vs us v h hv hg;unfold Zw at hg;split at hg
 ·rename_i k l k' c
  obtain ⟨x,y,rfl,h1,h2⟩:=hv.iZ;have:=h1.bQ; subst this;have:=h2.bQ; subst this;obtain ⟨hc,hg⟩:=aA.iH hg;subst hg;simp only [aj,jP] at hc;obtain ⟨⟨h3,h4⟩,h5⟩:=hc;obtain ⟨l',rfl⟩:=Int.eq_ofNat_of_zero_le h3;obtain ⟨c',rfl⟩:=Int.eq_ofNat_of_zero_le (Int.le_trans h3 h4);have AE:l'<=c':=by omega
  have h6:Nat.ble l' c' = true:=Nat.ble_eq_true_of_le AE;have hs:∀ v∈List.replicate c' z,v.cells.size=n:=fun v hv=>by rw [List.eq_of_mem_replicate hv]; exact hz
  have Gn:∀ m,cN [K.dv (aH P T) (fw z)] m=List.replicate m (K.dv (aH P T) (fw z)):=fun m=>by
   induction m with
   | zero=>rfl
   | succ m ih=>simp [cN,ih,List.replicate_succ]
  have hrel:∀ m,aK P E (List.replicate m (K.dv (aH P T) (fw z))) (List.replicate m z):=fun m=>by
   induction m with
   | zero=>exact .nil
   | succ m ih=>exact .cons (VK.fw z).dv ih
  refine ⟨.row (eK z.cells.toList c') n true none,fun k=>.slice (some ⟨k,0,none⟩) l' c',E.dW B.next ⟨bj (List.replicate c' z),n,true,none⟩,?_,?_,?_⟩
  ·have h5:Nat.ble (b * c') 281474976710656=true:=h5
   show cond (Nat.ble l' c'&&Nat.ble (b * c') 281474976710656) _ _=_;rw [h6,h5];rfl
  ·have adY:=(hrel l').mono (cF.U7 (bX:=bj (List.replicate c' z)) (aQ:=n) h).le
   simp only [VK];refine ⟨⟨by rw [Gn]; simp,fun i hi=>by rw [Gn,eN,List.getElem?_replicate,ax hi]; rfl,by
    rw [Gn];exact lV fun i x hx=>by rw [List.getElem?_replicate] at hx; split at hx <;> simp at hx; subst hx; exact he⟩,List.replicate l' z,by rw [Gn]; exact adY,some ⟨B.next,0,none⟩,c',rfl,AE,.inr ⟨B.next,0,⟨bj (List.replicate c' z),n,true,none⟩,rfl,by simp [Env.dW],hn.symm,?_⟩,trivial⟩
   rw [hn];intro i x hx;rw [List.getElem?_replicate] at hx;split at hx
   ·rename_i hi
    refine jI hs i x ?_;rw [List.getElem?_replicate,ax (by have hi:i < l':=hi; omega)];exact hx
   ·simp at hx
  ·rw [wB]; exact cF.U7 h
 ·exact hg.elim
theorem Q6 {sz:Nat} {cs:List Value} {xs ys:List Value} (h:mK sz 0 cs xs) (k:mK sz (xs.length * sz) cs ys):mK sz 0 cs (xs++ys):=fun i x hi=>by
 by_cases aJ:i < xs.length
 ·rw [nE aJ] at hi; exact h i x hi
 ·rw [o3 (by omega)] at hi
  obtain ⟨h1,h2⟩:=k _ x hi;refine ⟨h1,fun j y hy=>?_⟩;rw [<- h2 j y hy];congr 1;have:i * sz=xs.length * sz+(i - xs.length) * sz:=by rw [<- Nat.add_mul]; congr 1; omega
  omega
theorem Sk {sz o:Nat} {cs r news:List Value} (hs:∀ v∈news,v.cells.size=sz) (hw:eY (o * sz) cs (bj news)=some r):mK sz (o * sz) r news:=fun i x hi=>by
 have CG:=jI hs i x hi;have hlen:=fQ hs;obtain ⟨_,_,h3⟩:=fB hw;refine ⟨CG.1,fun k y hy=>?_⟩;have h4:=CG.2 k y hy;rw [bG] at h4;rw [h3,ax ⟨by omega,by have:=(cw.1 h4).1; omega⟩,<- h4];congr 1;omega
theorem Vk {sz o:Nat} {cs r vs es:List Value} (hl:mK sz 0 cs es) (ho:es.length<=o) (hw:eY (o * sz) cs vs=some r) (_:1<=sz):mK sz 0 r es:=fun i x hi=>by
 obtain ⟨h1,h2⟩:=hl i x hi;obtain ⟨_,_,h3⟩:=fB hw;refine ⟨h1,fun k y hy=>?_⟩;have hk:k < sz:=by have:=(jg.1 hy).1; omega
 have KK:=(cw.1 hi).1;have aJ:0+i * sz+k < o * sz:=by
  have:(i+1) * sz<=o * sz:=Nat.mul_le_mul_right _ (by omega);rw [Nat.add_mul] at this;omega
 rw [h3,ae (by omega)];exact h2 k y hy
theorem Vl {A:ai} {B:St} {f:Nat} {o0:gG} (h:du P E A B) (hA:A.get f=some o0):∀ c o,(A.put f .dead).get c=some o->A.get c=some o\/(o = .dead/\c < A.next):=fun c o hc=>by
 rw [ai.bZ] at hc;split at hc
 ·rename_i e; simp at hc; subst hc e; exact .inr ⟨rfl,h.live _ _ hA⟩
 ·exact .inl hc
theorem O3 {B:St} {g k:Nat} {c:List Value} {n:Nat} (_:g<=B.next):(∀ x,(B.grow g k c n).get x=if x=B.next then some (.row c n true (some (g,k))) else B.get x)/\(∀ q,(B.grow g k c n).members q=if q=g then B.next::B.members g else B.members q)/\(B.grow g k c n).next=B.next+1:=
 ⟨fun x=>by simp [St.grow],fun q=>by simp [St.grow,St.yG],rfl⟩
theorem Vm {e b:Nat} {E:Env} {A A' : ai} {B:St} {x v:KV} {u w:Value} {e' : TypeId} {mk:Mk} {k:Nat} {new:List KV} {acc:Nat->KV} (rK:1<=aI P e) (h:du P E A B) (h1:VK P E x u)
  (Xl:Nat.beq e e' = true->∃ aP,Src P E B e' k new acc w aP) (hg:aA (Bg e b A [x,.ts e' mk k new acc]) (v,A')):∃ r B' E',iC (aI P e) b B [u,w] = some (r,B')/\VK P E' v r/\cF P E A B E' A' B':=by
 have put:∀ (A1:ai) (m:Nat) (base:List KV) (ab:Nat->KV) (more:Bool) (A2:ai) (v:KV),aA (TE e b m base ab A1 k new acc more) (v,A2)->
   (more=true/\Nat.ble ((m+k) * b) 140737488355328=true/\Nat.ble (m+k) 17592186044416=true)/\v = .al e A1.next 0 (m+k)/\A2=A1.new (.arr (.ts e .any (m+k) (base++new) (dV m ab acc))):=by
  intro A1 m base ab more A2 v hp;obtain ⟨hc,hp⟩:=aA.iH hp;simp only [afy,aj] at hc;simp only [bH] at hp;exact ⟨⟨hc.1,hc.2.1,hc.2.2⟩,hp.1.symm,hp.2.symm⟩
 have nil:∀ (A1:ai) (base:List KV) (ab:Nat->KV),base = []->A1.next=A.next->(∀ c o,A1.get c=some o->A.get c=some o\/(o = .dead/\c < A.next))->(∃ aP,Src P E B e k new acc w aP)->Nat.ble ((0+k) * b) 140737488355328=true->Nat.ble (0+k) 17592186044416=true->
   ∃ r B' E',iC (aI P e) b B [.slice none 0 0,w] = some (r,B')/\VK P E' (.al e A.next 0 (0+k)) r/\cF P E A B E' (A1.new (.arr (.ts e .any (0+k) (base++new) (dV 0 ab acc)))) B':=by
  intro A1 base ab Gm Qz hr1 ⟨bK,iw⟩ uN qf;subst Gm;have hj:fP P e (0+k) ([]++new) (dV 0 ab acc):=(fP.none (P:=P) (T:=e) (g:=ab)).join iw.tree;cases k with
  | zero=>
   have mh:new = []:=lE.1 iw.tree.len.symm;subst mh;refine ⟨.slice none 0 0,B,E,?_,.IE (.inl ⟨rfl,rfl,rfl⟩),cF.afM h Qz hr1 rK⟩;simp only [iC,iw.len,cD,iw.all];rfl
  | succ k=>
   obtain ⟨g1,g2,g3⟩:=O3 (B:=B) (g:=B.next) (k:=0) (c:=bj bK) (n:=aI P e) (ao _);have hlen:(bj bK).length=(k+1) * aI P e:=by rw [fQ iw.size,iw.length]
   refine ⟨.slice (some ⟨B.next,0,none⟩) (k+1) (k+1),B.grow B.next 0 (bj bK) (aI P e),E.xB A.next (B.next,(bj bK).length,0+(k+1)),?_,?_,?_⟩
   ·simp only [bG] at uN qf
    simp only [iC,iw.len,cD,bG];rw [show Nat.ble (k+1) 0=false from rfl,ay,uN,qf,iw.all];rfl
   ·rw [bG]; exact Vj Env.sR (ao _) (by omega) (by rw [hlen])
   ·generalize B.grow B.next 0 (bj bK) (aI P e)=B' at g1 g2 g3
    exact cF.Gk (X:=fun _=>False) (G:=fun _=>False) (y2:=B.next) (oq:=some (B.next,0)) h Qz hr1 (fun _ _ _ _ _ _ _=>⟨id,fun _ _ _ _ _ _=>id⟩) (fun _ e=>e.elim) (fun _ e=>e.elim) (.inr (ao _)) (by omega) (by rw [g1,ax rfl]) (fun g k e=>by simp at e; exact .inr (by omega))
     (fun y hy _=>.inl (by rw [g1,ae (by omega)])) (fun _ e=>e.elim) (fun q y hy=>by
      rw [g2] at hy;split at hy
      ·rename_i e
       subst e;rcases bd.1 hy with hy | hy
       ·exact .inr ⟨hy,ao _,0,rfl⟩
       ·exact .inl hy
      ·exact .inl hy) (fun q hq=>by rw [g2,ae (fun e=>hq 0 (by rw [e]))]) (by omega) (fun g hg=>by rw [g2,ae (by omega)]; exact h.fresh g (by omega)) (fun g y hy=>by
      rw [g2] at hy;split at hy
      ·rcases bd.1 hy with hy | hy
       ·omega
       ·have:=h.mem _ y hy; omega
      ·have:=h.mem g y hy; omega) rK hj (by simpa using iw.rel) (jI iw.size)
 unfold Bg at hg;split at hg
 ·rename_i e9 mk9 k9 afK afL heq
  simp only [List.cons.injEq,KV.ts.injEq,and_true] at heq;obtain ⟨rfl,rfl,rfl,rfl,rfl,rfl⟩:=heq;have:=h1.mw; subst this;obtain ⟨he,IU⟩:=hg.cond;have iw:=Xl he;have:=aD he;subst this;obtain ⟨⟨_,uN,qf⟩,rfl,rfl⟩:=put _ _ _ _ _ _ _ IU;exact nil A [] mJ rfl rfl (fun _ _ e=>.inl e) iw uN qf
 ·rename_i e1 f o n e9 mk9 k9 afK afL heq
  simp only [List.cons.injEq,KV.ts.injEq,and_true] at heq;obtain ⟨rfl,rfl,rfl,rfl,rfl,rfl⟩:=heq;split at hg
  ·rename_i e2 mk2 N es ac hf
   obtain ⟨he,IU⟩:=hg.cond;simp only [aj] at he;obtain ⟨bK,iw⟩:=Xl he.1.1;have:=aD he.1.1;subst this;have:=aD he.1.2;subst this;have:=aD he.2;subst this;obtain ⟨⟨ho,uN,qf⟩,rfl,rfl⟩:=put _ _ _ _ _ _ _ IU;have:=aD ho;subst this;have zM:=Vl h hf;rcases h1.rI with ⟨rfl,_,rfl⟩ | ⟨x,L,N0,c,h2,rfl,h3,h4,h5⟩
   ·exact nil (A.put f .dead) (es.take 0) ac (by simp) rfl zM ⟨bK,iw⟩ uN qf
   ·obtain ⟨T2,N2,mu,fa,e2,ht,_,rp⟩:=h.ar.arr f _ hf
    simp only [KV.ts.injEq] at e2;obtain ⟨rfl,rfl,rfl,rfl,rfl⟩:=e2;rcases rp with ⟨_,e2⟩ | ⟨x2,cs,aZ,aP,e2,h6,h7,h8⟩
    ·rw [h2] at e2; simp at e2
    rw [h2] at e2;simp only [aR,bH] at e2;obtain ⟨rfl,rfl,rfl⟩:=e2;have po:AR A E x:=⟨f,_,_,_,hf,h2⟩
    have alK:x < B.next:=h.C7 po;have MW:aP.length=N0:=by rw [h7.length]; exact ht.len.symm
    have hs:=j7 ht.typed h7;have htk:fP P e n (es.take n) ac:=⟨by rw [ju,<- ht.len]; omega,fun i hi=>by rw [ht.acc i (by omega),eN,eN,kS,ax hi],lV fun i x hi=>by
     rw [kS] at hi;split at hi
     ·exact fD ht.typed hi
     ·simp at hi⟩
    have hj:=htk.join iw.tree;have EL:(aP.take n).length=n:=by rw [ju]; omega
    have anK:∀ v∈aP.take n,v.cells.size=aI P e:=fun v hv=>(hs v (List.mem_of_mem_take hv)).1;have hrel:=(h7.take n).append iw.rel;have h5:c * aI P e=cs.length:=by simpa using h5
    have mg:∀ c v,(A.put f .dead).get c=some (.arr v)->c≠f/\A.get c=some (.arr v):=fun c v hc=>by
     rw [ai.bZ] at hc;split at hc
     ·simp at hc
     ·rename_i e; exact ⟨e,hc⟩
    have hf1:∀ c v,(A.put f .dead).get c=some (.arr v)->∀ y L N,E.α c=some (y,L,N)->¬ (y=x)/\∀ ma e1 own g k1,B.get y=some (.row ma e1 own (some (g,k1)))->¬ (∃ k,aZ=some (g,k)):=fun c v hc y L N hy=>by
     obtain ⟨bx,hc⟩:=mg c v hc;refine ⟨fun e=>bx (h.ar.inj c f v _ x L N _ _ hc hf (by rw [<- e]; exact hy) h2),fun ma e1 own g k1 hr ⟨k2,hk⟩=>?_⟩;rw [hk] at h6;exact bx (h.ar.rD c f v _ y x L N _ _ _ _ _ g k1 _ _ _ k2 hc hf hy h2 hr h6)
    have hf3:∀ g,(∃ k,aZ=some (g,k))->AF A E B g/\g < B.next/\(∀ f,E.φ f≠some g)/\∀ y∈B.members g,¬ (y=x)->E.z y=none/\¬ AR A E y/\∀ c,E.κ c≠some y:=fun g ⟨k2,hk⟩=>by
     rw [hk] at h6;obtain ⟨q1,q2,q3⟩:=h.ar.p0 f _ x _ _ _ _ _ g k2 hf h2 h6;exact ⟨⟨f,_,x,_,_,_,_,_,k2,hf,h2,h6⟩,q1,q2,fun y hy bx=>q3 y hy bx⟩
    have afN:bI (⟨x,0 * aI P e,none⟩:Addr)=true:=rfl;by_cases jG:n+k<=c
    ·
     have hle:n * aI P e+(bj bK).length<=cs.length:=by
      rw [fQ iw.size,iw.length,<- h5,<- Nat.add_mul];exact Nat.mul_le_mul_right _ jG
     obtain ⟨iv,hw⟩:=wC (n * aI P e) cs (bj bK) hle;have BA:iv.length=cs.length:=(fB hw).1;have yY:(bj bK).all scalar=true:=dU.2 (ua fun v hv=>(j7 iw.tree.typed iw.rel v hv).2);have hb:Nat.ble (n+k) c=true:=Nat.ble_eq_true_of_le jG;have key:∃ B' : St,iC (aI P e) b B [.slice (some ⟨x,0 * aI P e,none⟩) n c,w] = some (.slice (some ⟨x,0 * aI P e,none⟩) (n+k) c,B')/\B'.get x=some (.row iv (aI P e) true aZ)/\
       (∀ y,y≠x->B'.get y=B.get y\/(B'.get y=some .dead/\∃ g,(∃ k,aZ=some (g,k))/\y∈B.members g))/\B'.members=B.members/\B'.next=B.next:=by
      cases oP:Nat.beq k 0 with
      | true=>
       have ED:bK = []:=lE.1 (by rw [iw.length]; exact aD oP);have AD:iv=cs:=by
        rw [ED] at hw;refine List.ext_getElem? fun i=>?_;rw [(fB hw).2.2 i,ae (by simp [bj])]
       refine ⟨B,?_,by rw [AD]; exact h6,fun _ _=>.inl rfl,rfl,rfl⟩;simp only [iC,iw.len,cD,hb,ah,iw.all,afN,oP]
      | false=>
       refine ⟨(B.put x (.row iv (aI P e) true aZ)).eF x aZ (n * aI P e) (n * aI P e+(bj bK).length),?_,?_,?_,by rw [EX]; simp,by rw [LB]; simp⟩
       ·simp only [iC,iw.len,cD,hb,ah,ay,iw.all,afN,oP]
        simp only [St.rE,bI,Option.isNone_none,uh,yY,ah,Nat.zero_mul,bG,h6,hw,Option.map_some]
       ·rcases AP (B:=B.put x (.row iv (aI P e) true aZ)) (x:=x) (y:=x) (lo:=n * aI P e) (hi:=n * aI P e+(bj bK).length) (aZ:=aZ) with e | ⟨g,k,_,_,h3,_⟩
        ·rw [e]; simp
        ·exact absurd rfl h3
       ·intro y hy
        rcases AP (B:=B.put x (.row iv (aI P e) true aZ)) (x:=x) (y:=y) (lo:=n * aI P e) (hi:=n * aI P e+(bj bK).length) (aZ:=aZ) with e | ⟨g,k,h1,h2,_,h4,_⟩
        ·exact .inl (by rw [e,St.bZ,ae hy])
        ·exact .inr ⟨h4,g,⟨k,h1⟩,by simpa using h2⟩
     obtain ⟨B',ky,eR,hgy,kx,fU⟩:=key;refine ⟨_,B',E.xB A.next (x,iv.length,n+k),ky,?_,?_⟩
     ·rw [Nat.zero_mul]; exact Vj Env.sR jG (ao _) (by rw [BA]; exact h5)
     ·
      have hli:mK (aI P e) 0 iv (aP.take n++bK):=Q6 (Vk (h8.take n) (by omega) hw rK) (by rw [EL]; exact Sk iw.size hw);exact cF.Gk (A1:=A.put f .dead) (X:=fun y=>y=x) (G:=fun g=>∃ k,aZ=some (g,k)) (y2:=x) (oq:=aZ) h rfl zM hf1 (fun y hy=>by rw [hy]; exact po) hf3 (.inl rfl) (by omega) eR (fun g k hk=>.inl ⟨k,hk⟩)
       (fun y _ bx=>hgy y bx) (fun y hy ma e1 own LC hr=>by
        rw [hy,eR] at hr;simp at hr;obtain ⟨rfl,rfl,rfl,rfl⟩:=hr;rw [hy];exact ⟨cs,h6,BA.symm⟩) (fun q y hy=>.inl (by rw [kx] at hy; exact hy)) (fun q _=>by rw [kx]) (by omega) (fun g hg=>by rw [kx]; exact h.fresh g (by omega)) (fun g y hy=>by rw [kx] at hy; rw [fU]; exact h.mem g y hy) rK hj hrel hli
    ·
     have hb:Nat.ble (n+k) c=false:=by
      cases hq:Nat.ble (n+k) c with
      | false=>rfl
      | true=>exact absurd (cM hq) jG
     have hex:nf B (aI P e) c (some ⟨x,0 * aI P e,none⟩)=true:=by
      simp only [nf,h6];cases aZ with
      | none=>simp [h5]
      | some p=>rfl
     have hold:B.nP ⟨x,0 * aI P e,none⟩ (n * aI P e)=some (bj (aP.take n)):=by
      have:=Gl (B:=B) (b:=x) (off:=0) (n:=n) (sz:=aI P e) (r:=⟨cs,aI P e,true,aZ⟩) (aP:=aP.take n) h6 (h8.take n) EL rK;simpa using this
     have ad4:∀ v∈aP.take n++bK,v.cells.size=aI P e:=fun v hv=>by
      rcases eX.1 hv with hv | hv
      ·exact anK v hv
      ·exact iw.size v hv
     have hlen:(bj (aP.take n++bK)).length=(n+k) * aI P e:=by rw [fQ ad4,gd,EL,iw.length]
     cases aZ with
     | none=>
      obtain ⟨g1,g2,g3⟩:=O3 (B:=B) (g:=B.next) (k:=0) (c:=bj (aP.take n++bK)) (n:=aI P e) (ao _);refine ⟨.slice (some ⟨B.next,0,none⟩) (n+k) (n+k),B.grow B.next 0 (bj (aP.take n++bK)) (aI P e),E.xB A.next (B.next,(bj (aP.take n++bK)).length,n+k),?_,?_,?_⟩
      ·simp only [iC,iw.len,cD,hb,ay,uN,qf,hex,cY,ah,iw.all]
       simp only [Bq,bI,Option.isNone_none,ah,hold,cD,h6,p8,<- tZ]
      ·exact Vj Env.sR (ao _) (ao _) (by rw [hlen])
      ·generalize B.grow B.next 0 (bj (aP.take n++bK)) (aI P e)=B' at g1 g2 g3
       exact cF.Gk (A1:=A.put f .dead) (X:=fun _=>False) (G:=fun _=>False) (y2:=B.next) (oq:=some (B.next,0)) h rfl zM (fun _ _ _ _ _ _ _=>⟨id,fun _ _ _ _ _ _=>id⟩) (fun _ e=>e.elim) (fun _ e=>e.elim) (.inr (ao _)) (by omega) (by rw [g1,ax rfl]) (fun g k e=>by simp at e; exact .inr (by omega))
        (fun y hy _=>.inl (by rw [g1,ae (by omega)])) (fun _ e=>e.elim) (fun q y hy=>by
         rw [g2] at hy;split at hy
         ·rename_i e
          subst e;rcases bd.1 hy with hy | hy
          ·exact .inr ⟨hy,ao _,0,rfl⟩
          ·exact .inl hy
         ·exact .inl hy) (fun q hq=>by rw [g2,ae (fun e=>hq 0 (by rw [e]))]) (by omega) (fun g hg=>by rw [g2,ae (by omega)]; exact h.fresh g (by omega)) (fun g y hy=>by
         rw [g2] at hy;split at hy
         ·rcases bd.1 hy with hy | hy
          ·omega
          ·have:=h.mem _ y hy; omega
         ·have:=h.mem g y hy; omega) rK hj hrel (jI ad4)
     | some p=>
      obtain ⟨g,k0⟩:=p;have hgB:g < B.next:=(hf3 g ⟨k0,rfl⟩).2.1;have kg:∀ y,(B.kill B.next (k0+(0+n * aI P e)) (k0+(0+n * aI P e)+(bj bK).length) (B.members g)).get y=B.get y\/((B.kill B.next (k0+(0+n * aI P e)) (k0+(0+n * aI P e)+(bj bK).length) (B.members g)).get y=some .dead/\y∈B.members g):=fun y=>by
       rw [xQ];by_cases hc:y∈B.members g/\y≠B.next/\nm (B.get y) (k0+(0+n * aI P e)) (k0+(0+n * aI P e)+(bj bK).length)=true
       ·exact .inr ⟨by rw [ax hc],hc.1⟩
       ·exact .inl (by rw [ae hc])
      have km:(B.kill B.next (k0+(0+n * aI P e)) (k0+(0+n * aI P e)+(bj bK).length) (B.members g)).members=B.members:=by simp
      have kn:(B.kill B.next (k0+(0+n * aI P e)) (k0+(0+n * aI P e)+(bj bK).length) (B.members g)).next=B.next:=by simp
      obtain ⟨g1,g2,g3⟩:=O3 (B:=B.kill B.next (k0+(0+n * aI P e)) (k0+(0+n * aI P e)+(bj bK).length) (B.members g)) (g:=g) (k:=k0+0) (c:=bj (aP.take n++bK)) (n:=aI P e) (by omega);rw [kn] at g3;have g1:∀ y,y≠B.next->_:=fun y hy=>(g1 y).trans (ae (by rw [kn]; exact hy));have g1':=(O3 (B:=B.kill B.next (k0+(0+n * aI P e)) (k0+(0+n * aI P e)+(bj bK).length) (B.members g)) (g:=g) (k:=k0+0) (c:=bj (aP.take n++bK)) (n:=aI P e) (by omega)).1 B.next;rw [kn,ax rfl] at g1';simp only [km,kn] at g2;refine ⟨.slice (some ⟨B.next,0,none⟩) (n+k) (n+k),(B.kill B.next (k0+(0+n * aI P e)) (k0+(0+n * aI P e)+(bj bK).length) (B.members g)).grow g (k0+0) (bj (aP.take n++bK)) (aI P e),E.xB A.next (B.next,(bj (aP.take n++bK)).length,n+k),?_,?_,?_⟩
      ·simp only [iC,iw.len,cD,hb,ay,uN,qf,hex,cY,ah,iw.all]
       have ZO:=hold;rw [Nat.zero_mul] at ZO;simp only [Bq,bI,Option.isNone_none,ah,Nat.zero_mul,ZO,cD,h6,p8,<- tZ]
      ·exact Vj Env.sR (ao _) (ao _) (by rw [hlen])
      ·generalize (B.kill B.next (k0+(0+n * aI P e)) (k0+(0+n * aI P e)+(bj bK).length) (B.members g)).grow g (k0+0) (bj (aP.take n++bK)) (aI P e)=B' at g1 g1' g2 g3
       have gy:∀ y,y≠B.next->B'.get y=B.get y\/(B'.get y=some .dead/\y∈B.members g):=fun y hy=>by
        rw [g1 y hy]; exact kg y
       exact cF.Gk (A1:=A.put f .dead) (X:=fun y=>y=x) (G:=fun q=>∃ k,some (g,k0)=some (q,k)) (y2:=B.next) (oq:=some (g,k0+0)) h rfl zM hf1 (fun y hy=>by rw [hy]; exact po) hf3 (.inr (ao _)) (by omega) g1' (fun q k e=>by simp at e; exact .inl ⟨k0,by rw [e.1]⟩)
        (fun y hy _=>(gy y (by omega)).imp id fun ⟨q1,q2⟩=>⟨q1,g,⟨k0,rfl⟩,q2⟩) (fun y hy ma e1 own LC hr=>by
         have hy:y=x:=hy;rcases gy y (by omega) with q | ⟨q,_⟩
         ·rw [q] at hr; exact ⟨ma,hr,rfl⟩
         ·rw [q] at hr; simp at hr) (fun q y hy=>by
         rw [g2] at hy;split at hy
         ·rename_i e
          subst e;rcases bd.1 hy with hy | hy
          ·exact .inr ⟨hy,ao _,k0+0,rfl⟩
          ·exact .inl hy
         ·exact .inl hy) (fun q hq=>by rw [g2,ae (fun e=>hq (k0+0) (by rw [e]))]) (by omega) (fun q hq=>by rw [g2,ae (by omega)]; exact h.fresh q (by omega)) (fun q y hy=>by
         rw [g2] at hy;split at hy
         ·rcases bd.1 hy with hy | hy
          ·omega
          ·have:=h.mem _ y hy; omega
         ·have:=h.mem q y hy; omega) rK hj hrel (jI ad4)
  ·exact hg.elim
 ·exact hg.elim
def alL (P:Program) (f:FA) (g:St->List Value->Option Value):Prop:=
 ∀ (E:Env) (A A' : ai) (B:St) (vs:List KV) (us:List Value) (v:KV),du P E A B->aK P E vs us->aA (f A vs) (v,A')->∃ u E',g B us=some u/\VK P E' v u/\cF P E A B E' A' B
theorem ad5 {o:Oper} {f:FA} {g:St->List Value->Option Value} {xs:List Operand} (hc:compile P o.op = .read g xs) (hs:alL P f g):BM P o (.act f xs):=by
 intro E A A' B ρ base w ev cj v hj hv hg;obtain ⟨em,h1,h2⟩:=ZF hv;obtain ⟨u,E',h3,h4,h5⟩:=hs E A A' B _ _ v hj.k h1 hg;have bM:=nb P o;rw [hc] at bM;obtain ⟨v',h6,h7⟩:=bM ρ B base w em cj u hj.s.rel h2 h3;exact ⟨E',B,ρ,v',.value v',w,h7,rfl,⟨u,h4,h6⟩,h5.ev (.refl hj.s)⟩
theorem abM {n:Nat} {lo hi:Bool} (h1n:1<=n):alL P (QR P n lo hi) (o8 n lo hi false):=by
 intro E A A' B vs us v h hv hg;unfold QR at hg;split at hg
 ·rename_i T f o m r
  split at hg
  ·rename_i T' mk N es ac hf
   split at hg
   ·rename_i x y hb
    obtain ⟨he,xX⟩:=hg.cond;simp only [aj,jP] at he;obtain ⟨⟨⟨cT,hT⟩,ho⟩,rfl⟩:=he;have cT:aI P T=n:=aD cT;have:=aD hT;subst this;have:=aD ho;subst this;obtain ⟨hc,hg3⟩:=aA.iH xX;simp only [aj,jP] at hc;obtain ⟨h0,h1⟩:=hc;simp only [bH] at hg3;obtain ⟨rfl,rfl⟩:=hg3;obtain ⟨u,r',rfl,hu,h4⟩:=hv.cons_inv;have zM:=Vl h hf;rcases hu.rI with ⟨rfl,_,rfl⟩ | ⟨x,L,N0,c,h2,rfl,h3,ZP,h5⟩
    ·have DG:=zi (cap:=0) hb h4 (Int.le_refl _) h0 h1 (ao _)
     have hy:y.toNat=0:=by omega
     refine ⟨.slice none 0 0,E,by simp [o8,DG,hy],?_,?_⟩
     ·rw [hy]; exact .IE (.inl ⟨rfl,rfl,rfl⟩)
     ·rw [hy]; exact cF.afM h rfl zM (by omega)
    ·obtain ⟨T2,N2,mu,fa,e2,ht,_,rp⟩:=h.ar.arr f _ hf
     simp only [KV.ts.injEq] at e2;obtain ⟨rfl,rfl,rfl,rfl,rfl⟩:=e2;rcases rp with ⟨_,e2⟩ | ⟨x2,cs,aZ,aP,e2,h6,h7,h8⟩
     ·rw [h2] at e2; simp at e2
     rw [h2] at e2;simp only [aR,bH] at e2;obtain ⟨rfl,rfl,rfl⟩:=e2;have po:AR A E x:=⟨f,_,_,_,hf,h2⟩
     have alK:x < B.next:=h.C7 po;have MW:aP.length=N0:=by rw [h7.length]; exact ht.len.symm
     have hym:y.toNat<=N0:=by omega
     have htk:fP P T y.toNat (es.take y.toNat) ac:=⟨by rw [ju,<- ht.len]; omega,fun i hi=>by rw [ht.acc i (by omega),eN,eN,kS,ax hi],lV fun i x hi=>by
      rw [kS] at hi;split at hi
      ·exact fD ht.typed hi
      ·simp at hi⟩
     have mg:∀ c v,(A.put f .dead).get c=some (.arr v)->c≠f/\A.get c=some (.arr v):=fun c v hc=>by
      rw [ai.bZ] at hc;split at hc
      ·simp at hc
      ·rename_i e; exact ⟨e,hc⟩
     have hf1:∀ c v,(A.put f .dead).get c=some (.arr v)->∀ y L N,E.α c=some (y,L,N)->¬ (y=x)/\∀ ma e1 own g k1,B.get y=some (.row ma e1 own (some (g,k1)))->¬ (∃ k,aZ=some (g,k)):=fun c v hc y L N hy=>by
      obtain ⟨bx,hc⟩:=mg c v hc;refine ⟨fun e=>bx (h.ar.inj c f v _ x L N _ _ hc hf (by rw [<- e]; exact hy) h2),fun ma e1 own g k1 hr ⟨k2,hk⟩=>?_⟩;rw [hk] at h6;exact bx (h.ar.rD c f v _ y x L N _ _ _ _ _ g k1 _ _ _ k2 hc hf hy h2 hr h6)
     have hf3:∀ g,(∃ k,aZ=some (g,k))->AF A E B g/\g < B.next/\(∀ f,E.φ f≠some g)/\∀ y∈B.members g,¬ (y=x)->E.z y=none/\¬ AR A E y/\∀ c,E.κ c≠some y:=fun g ⟨k2,hk⟩=>by
      rw [hk] at h6;obtain ⟨q1,q2,q3⟩:=h.ar.p0 f _ x _ _ _ _ _ g k2 hf h2 h6;exact ⟨⟨f,_,x,_,_,_,_,_,k2,hf,h2,h6⟩,q1,q2,fun y hy bx=>q3 y hy bx⟩
     have h5:c * aI P T=cs.length:=by simpa using h5
     have DG:=zi (cap:=c) hb h4 (Int.le_refl _) h0 h1 (by omega);refine ⟨.slice (some ⟨x,0,none⟩) y.toNat c,E.xB A.next (x,cs.length,y.toNat),?_,Vj Env.sR (by omega) (ao _) h5,?_⟩
     ·simp [o8,DG,bI,sH,h6,cT]
     ·exact cF.Gk (A1:=A.put f .dead) (X:=fun y=>y=x) (G:=fun g=>∃ k,aZ=some (g,k)) (y2:=x) (oq:=aZ) h rfl zM hf1 (fun y hy=>by rw [hy]; exact po) hf3 (.inl rfl) alK h6 (fun g k hk=>.inl ⟨k,hk⟩)
       (fun y _ _=>.inl rfl) (fun y hy ma e1 own LC hr=>⟨ma,hr,rfl⟩) (fun q y hy=>.inl hy) (fun q _=>rfl) (ao _) h.fresh h.mem (by omega) htk (h7.take _) (h8.take _)
   ·exact hg.elim
  ·exact hg.elim
 ·exact hg.elim
theorem cF.amz {A:ai} {B:St} {b:Nat} {v2:KV} (h:du P E A B) (hb:∃ v,A.get b=some (.arr v)) (bM:UU P E B b v2):cF P E A B E (A.put b (.arr v2)) B:=by
 obtain ⟨v0,hb⟩:=hb;have fY:∀ c o,(A.put b (.arr v2)).get c=some o->(c=b/\o = .arr v2)\/A.get c=some o:=fun c o hc=>by
  rw [ai.bZ] at hc;split at hc
  ·rename_i e; simp at hc; exact .inl ⟨e,hc.symm⟩
  ·exact .inr hc
 have hA:∀ c v,(A.put b (.arr v2)).get c=some (.arr v)->∃ u,A.get c=some (.arr u):=fun c v hc=>by
  rcases fY c _ hc with ⟨e,_⟩ | e
  ·exact ⟨v0,by rw [e]; exact hb⟩
  ·exact ⟨v,e⟩
 have po:∀ y,AR (A.put b (.arr v2)) E y->AR A E y:=fun y ⟨c,v,L,N,h1,h2⟩=>by
  obtain ⟨u,hu⟩:=hA c v h1;exact ⟨c,u,L,N,hu,h2⟩
 have IX:∀ g,AF (A.put b (.arr v2)) E B g->AF A E B g:=fun g ⟨c,v,x,L,N,cs,e,own,k,h1,h2,h3⟩=>by
  obtain ⟨u,hu⟩:=hA c v h1;exact ⟨c,u,x,L,N,cs,e,own,k,hu,h2,h3⟩
 refine ⟨⟨fun c cs aQ hc=>?_,fun c top sz hc=>?_,h.z,h.apart,h.inj,?_,h.fT,h.ll,fun c o hc=>?_,h.eB,h.lT,h.iQ,h.fresh,h.mem,?_⟩,Env.le_refl _,ao _,fun _ _ _ _=>rfl,fun _ _ e=>.inl e,fun _ _ e=>.inl e,fun _ _ e=>.inl e,fun _ _ _ _=>rfl,fun x q=>.inl (po x q),fun g q=>.inl (IX g q),fun _ _ q=>.inl q,fun y q=>.inl (q.imp (po y) fun ⟨g,q1,q2⟩=>⟨g,IX g q1,q2⟩),ln fun _ _=>rfl⟩
 ·rcases fY c _ hc with ⟨_,e⟩ | e
  ·simp at e
  ·exact h.row c cs aQ e
 ·rcases fY c _ hc with ⟨_,e⟩ | e
  ·simp at e
  ·exact h.aF c top sz e
 ·exact h.iA.put (.inl fun t s=>by simp)
 ·rw [ai.o9]
  rcases fY c _ hc with ⟨e,_⟩ | e
  ·rw [e]; exact h.live b _ hb
  ·exact h.live c o e
 ·refine ⟨fun c v hc=>?_,fun c v hc=>?_,fun x q=>h.ar.z x (po x q),fun c d v u x L N L' N' h1 h2 h3 h4=>?_,fun c d v u x y L N L' N' cs e own g k bX e' nN k' h1 h2 h3 h4=>?_,h.ar.Xg,h.ar.fT,h.ar.eB,fun c v x L N cs e own g k h1 h2 h3=>?_,fun c v hc=>?_⟩
  ·rcases fY c _ hc with ⟨e,e2⟩ | e
   ·simp at e2; rw [e2,e]; exact bM
   ·exact h.ar.arr c v e
  ·rcases fY c _ hc with ⟨_,e⟩ | e
   ·simp at e
   ·exact h.ar.iG c v e
  ·obtain ⟨v',h1⟩:=hA c v h1
   obtain ⟨u',h2⟩:=hA d u h2;exact h.ar.inj c d v' u' x L N L' N' h1 h2 h3 h4
  ·obtain ⟨v',h1⟩:=hA c v h1
   obtain ⟨u',h2⟩:=hA d u h2;exact h.ar.rD c d v' u' x y L N L' N' cs e own g k bX e' nN k' h1 h2 h3 h4
  ·obtain ⟨v',h1⟩:=hA c v h1
   obtain ⟨q1,q2,q3⟩:=h.ar.p0 c v' x L N cs e own g k h1 h2 h3;exact ⟨q1,q2,fun y hy bx=>⟨(q3 y hy bx).1,fun q=>(q3 y hy bx).2.1 (po y q),(q3 y hy bx).2.2⟩⟩
  ·obtain ⟨v',h1⟩:=hA c v hc
   rw [ai.o9];exact h.ar.nk c v' h1
theorem Vn {es new:List KV} {o:Nat} (h:o+new.length<=es.length):(wo es o new).length=es.length:=by
 simp only [wo,gd,ju,List.length_drop];omega
theorem abN {es new:List KV} {o i:Nat} (h:o+new.length<=es.length):(wo es o new)[i]? = if i < o then es[i]? else if i < o+new.length then new[i - o]? else es[i]?:=by
 unfold wo;by_cases h1:i < o
 ·rw [ax h1,JT,nE (by rw [ju]; omega),kS,ax h1]
 ·rw [ae h1]
  by_cases h2:i < o+new.length
  ·rw [ax h2,nE (by rw [gd,ju]; omega),o3 (by rw [ju]; omega),ju]
   congr 1;omega
  ·rw [ae h2,o3 (by rw [gd,ju]; omega),lF,gd,ju]
   congr 1;omega
theorem Yd {T:TypeId} {N m o k:Nat} {es new:List KV} {acc an:Nat->KV} (ht:fP P T N es acc) (hn:fP P T m new an) (hk:k<=m) (ho:o+k<=N):fP P T N (wo es o (new.take k)) (Ka o k acc an):=by
 have hl:(new.take k).length=k:=by rw [ju,<- hn.len]; omega
 have jG:o+(new.take k).length<=es.length:=by rw [hl,<- ht.len]; exact ho
 have fv:=fun i=>abN (i:=i) jG;rw [hl] at fv;refine ⟨by rw [Vn jG]; exact ht.len,fun i hi=>?_,lV fun i x hx=>?_⟩
 ·rw [eN,fv]
  unfold Ka;by_cases h1:i < o
  ·rw [ax h1,show Nat.blt i o=true from b7 ▸ h1,ah,ht.acc i hi,eN]
  ·have e1:Nat.blt i o=false:=by
    cases hb:Nat.blt i o with
    | false=>rfl
    | true=>exact absurd (b7 ▸ hb) h1
   rw [ae h1,e1,ay];by_cases h2:i < o+k
   ·rw [ax h2,show Nat.blt i (o+k)=true from b7 ▸ h2,ah,kS,ax (by omega),hn.acc (i - o) (by omega),eN]
   ·have e2:Nat.blt i (o+k)=false:=by
     cases hb:Nat.blt i (o+k) with
     | false=>rfl
     | true=>exact absurd (b7 ▸ hb) h2
    rw [ae h2,e2,ay,ht.acc i hi,eN]
 ·rw [fv] at hx
  split at hx
  ·exact fD ht.typed hx
  ·split at hx
   ·rw [kS] at hx
    split at hx
    ·exact fD hn.typed hx
    ·simp at hx
   ·exact fD ht.typed hx
theorem abO {sz o:Nat} {cs r vs es:List Value} (hl:mK sz (o * sz+vs.length) cs es) (hw:eY (o * sz) cs vs=some r):mK sz (o * sz+vs.length) r es:=fun i x hi=>by
 obtain ⟨h1,h2⟩:=hl i x hi;obtain ⟨_,_,h3⟩:=fB hw;exact ⟨h1,fun k y hy=>by rw [h3,ae (by omega)]; exact h2 k y hy⟩
theorem ai7 {e n:Nat} (hn:aI P e=n) (h1n:1<=n):afE P (adT e) (T0 n):=by
 intro E A A' B vs us v h hv hg;unfold adT at hg;split at hg
 ·rename_i e1 b o q y
  obtain ⟨u,w,rfl,h1,h2⟩:=hv.iZ;split at hg
  ·rename_i e' mk m new an e2 mk2 N es acc hy hb
   obtain ⟨he,xX⟩:=hg.cond;clear hg;simp only [aj] at he;have:=aD he.1.1;subst this;have:=aD he.1.2;subst this;have:=aD he.2;subst this;have rK:1<=aI P e:=by omega
   obtain ⟨bK,iw⟩:=afJ h h2 hy rK;have xX:(KV.int .i64 (Nat.min m q:Nat),A.put b (.arr (.ts e .any N (wo es o (new.take (Nat.min m q))) (Ka o (Nat.min m q) acc an))))=(v,A'):=xX;simp only [bH] at xX;obtain ⟨rfl,rfl⟩:=xX;obtain ⟨T2,N2,mu,fa,e2,ht,_,rp⟩:=h.ar.arr b _ hb;simp only [KV.ts.injEq] at e2;obtain ⟨rfl,rfl,rfl,rfl,rfl⟩:=e2;have Ql:Nat.min m q<=m:=Nat.min_le_left _ _;have hkq:Nat.min m q<=q:=Nat.min_le_right _ _;have hf:=iw.first _ Ql
   rw [hn] at hf;rcases h1.rI with ⟨rfl,rfl,rfl⟩ | ⟨x,L,N0,c,p2,rfl,p3,p4,p5⟩
   ·
    have oP:Nat.min m 0=0:=Nat.min_zero m;refine ⟨.int .i64 (Int.ofNat (Nat.min m 0)),B,E,?_,.mkInt,cF.amz h ⟨_,hb⟩ ?_⟩
    ·simp only [T0,iw.len,cD,hf]
    ·have hp:=Yd (o:=0) ht iw.tree Ql (by rw [oP]; omega)
     refine ⟨_,_,_,_,rfl,hp,rK,?_⟩;have MV:wo es 0 (new.take (Nat.min m 0))=es:=by rw [oP]; simp [wo]
     rw [MV];exact rp
   ·rcases rp with ⟨_,e2⟩ | ⟨x2,cs,aZ,aP,e2,h6,h7,h8⟩
    ·rw [p2] at e2; simp at e2
    rw [p2] at e2;simp only [aR,bH] at e2;obtain ⟨rfl,rfl,rfl⟩:=e2;have MW:aP.length=N0:=by rw [h7.length]; exact ht.len.symm
    have eU:∀ v∈bK.take (Nat.min m q),v.cells.size=aI P e:=fun v hv=>iw.size v (List.mem_of_mem_take hv);have alM:(bK.take (Nat.min m q)).length=Nat.min m q:=by rw [ju,iw.length]; exact Nat.min_eq_left Ql
    have CG:(bj (bK.take (Nat.min m q))).length=Nat.min m q * aI P e:=by rw [fQ eU,alM]
    have hle:o * aI P e+(bj (bK.take (Nat.min m q))).length<=cs.length:=by
     rw [CG,<- p5,<- Nat.add_mul];exact Nat.mul_le_mul_right _ (by omega)
    obtain ⟨iv,hw⟩:=wC (o * aI P e) cs (bj (bK.take (Nat.min m q))) hle;have BA:iv.length=cs.length:=(fB hw).1;have yY:(bj (bK.take (Nat.min m q))).all scalar=true:=dU.2 (ua fun v hv=>(j7 iw.tree.typed iw.rel v (List.mem_of_mem_take hv)).2);have hp:=Yd (o:=o) ht iw.tree Ql (by omega);have hon:(aP.take o).length=o:=by rw [ju]; omega
    have hrel:aK P E (wo es o (new.take (Nat.min m q))) (aP.take o++bK.take (Nat.min m q)++aP.drop (o+Nat.min m q)):=by
     unfold wo;have hlk:(new.take (Nat.min m q)).length=Nat.min m q:=by rw [ju,<- iw.tree.len]; exact Nat.min_eq_left Ql
     rw [hlk];exact ((h7.take o).append (iw.rel.take _)).append (h7.drop _)
    have hli:mK (aI P e) 0 iv (aP.take o++bK.take (Nat.min m q)++aP.drop (o+Nat.min m q)):=by
     refine Q6 (Q6 (Vk (h8.take o) (by omega) hw rK) (by rw [hon]; exact Sk eU hw)) ?_;have e3:(aP.take o++bK.take (Nat.min m q)).length * aI P e=o * aI P e+(bj (bK.take (Nat.min m q))).length:=by rw [gd,hon,alM,CG,Nat.add_mul]
     rw [e3];refine abO ?_ hw;have:=h8.drop (o+Nat.min m q);rw [bG,Nat.add_mul] at this;rw [CG];exact this
    have eU:=cF.afG (lo:=o * aI P e) (hi:=o * aI P e+(bj (bK.take (Nat.min m q))).length) h ⟨_,hb⟩ p2 h6 BA rK hp hrel hli;refine ⟨.int .i64 (Int.ofNat (Nat.min m q)),_,E,?_,.mkInt,eU⟩;subst hn;simp only [T0,iw.len,cD,hf,St.rE,bI,Option.isNone_none,uh,yY,ah,h6,hw,Option.map_some]
  ·exact hg.elim
 ·exact hg.elim
theorem abP {e n b:Nat} {mt:Bool} (hn:aI P e=n) (h1n:1<=n):afE P (EP e n b mt) (iC n b):=by
 intro E A A' B vs us v h hv hg;unfold EP at hg;split at hg
 ·rename_i x y
  obtain ⟨u,w,rfl,h1,h2⟩:=hv.iZ;split at hg
  ·rename_i y' hy
   have rK:1<=aI P e:=by omega
   have hts:∃ T m k es acc,y' = .ts T m k es acc:=by
    unfold Iz at hy;split at hy
    ·unfold Zv at hy
     split at hy
     ·rename_i T' b' o' n' _ T2 _ _ mu fa _
      cases hb:Nat.beq T' T2 with
      | false=>rw [hb] at hy; simp at hy
      | true=>rw [hb,ah] at hy; simp only [aR] at hy; exact ⟨_,_,_,_,_,hy.symm⟩
     ·simp at hy
    ·simp only [aR] at hy; exact ⟨_,_,_,_,_,hy.symm⟩
    ·simp at hy
   obtain ⟨T,m,k,es,acc,rfl⟩:=hts;have Xl:Nat.beq e T=true->∃ aP,Src P E B T k es acc w aP:=fun he=>by
    have:=aD he;subst this;exact afJ h h2 hy rK
   subst hn;cases hx:aiT x with
   | true=>rw [hx,ah] at hg; exact Vm rK h h1 Xl hg
   | false=>
    rw [hx,ay] at hg;cases mt with
    | true=>rw [ah] at hg; exact Vm rK h h1 Xl hg
    | false=>rw [ay] at hg; exact ad3 rfl rK h h1 Xl hg
  ·exact hg.elim
 ·exact hg.elim
end Go.K
end
section
namespace Go.K
open Go Go.az
variable {P:Program} {E:Env}
theorem cF.afO {E1 E2:Env} {A A1 A2:ai} {B:St} (h:cF P E A B E1 A1 B) (k:cF P E1 A1 B E2 A2 B):cF P E A B E2 A2 B where
 dI:=k.dI
 le:=Env.le_trans h.le k.le
 next:=dA h.next k.next
 dj _ _ _ _:=rfl
 new b x e:=(k.new b x e).elim (h.new b x) .inr
 qN b r e:=by
  rcases k.qN b r e with e | e | e
  ·exact h.qN b r e
  ·exact .inr (h.jR b e)
  ·exact .inr (.inr e)
 pk b g e:=(k.pk b g e).elim (h.pk b g) .inr
 nw _ _ _ _:=rfl
 jR x q:=(k.jR x q).elim (h.jR x) .inr
 j6 g q:=(k.j6 g q).elim (h.j6 g) .inr
 rJ _ _ q:=.inl q
 lU y q:=(k.lU y q).elim (h.lU y) .inr
 rows:=ln fun _ _=>rfl
theorem cF.refl {A:ai} {B:St} (h:du P E A B):cF P E A B E A B:=
 ⟨h,Env.le_refl _,ao _,fun _ _ _ _=>rfl,fun _ _ e=>.inl e,fun _ _ e=>.inl e,fun _ _ e=>.inl e,fun _ _ _ _=>rfl,fun _ q=>.inl q,fun _ q=>.inl q,fun _ _ q=>.inl q,fun _ q=>.inl q,ln fun _ _=>rfl⟩
theorem Env.ai8 {A:ai} {B:St} {x:Nat} {r:abt} (h:du P E A B) (hx:AR A E x):E.le (E.dW x r):=⟨fun _ _ e=>e,fun _ _ e=>e,fun b q e=>by
 simp only [Env.dW];rw [ae]
 ·exact e
 ·intro e2; subst e2
  have:=(h.ar.z b hx).1;rw [e] at this; simp at this,fun _ _ e=>e⟩
theorem cF.iG {A:ai} {B:St} {b x N:Nat} {T:TypeId} {m:Mk} {es:List KV} {acc:Nat->KV} {cs:List Value} {aZ:Option (Nat×Nat)} {aP:List Value} (h:du P E A B) (hb:A.get b=some (.arr (.ts T m N es acc))) (hx:E.α b=some (x,cs.length,N))
  (dC:B.get x=some (.row cs (aI P T) true aZ)) (ht:fP P T N es acc) (hm:m = .any) (cT:1<=aI P T) (MV:aK P E es aP) (hl:mK (aI P T) 0 cs aP) :
  cF P E A B (E.dW x ⟨cs,aI P T,true,aZ⟩) (A.put b (.iG (.ts T m N es acc))) B:=by
 subst hm;have po:AR A E x:=⟨b,_,_,_,hb,hx⟩
 have hle:=Env.ai8 (r:=⟨cs,aI P T,true,aZ⟩) h po;have hzx:(E.dW x ⟨cs,aI P T,true,aZ⟩).z x=some ⟨cs,aI P T,true,aZ⟩:=by simp [Env.dW]
 have IM:∀ c r,(E.dW x ⟨cs,aI P T,true,aZ⟩).z c=some r->E.z c=some r\/(c=x/\r=⟨cs,aI P T,true,aZ⟩):=fun c r e=>by
  simp only [Env.dW] at e;split at e
  ·rename_i e2; simp at e; exact .inr ⟨e2,e.symm⟩
  ·exact .inl e
 have fY:∀ c o,(A.put b (.iG (.ts T .any N es acc))).get c=some o->(c=b/\o = .iG (.ts T .any N es acc))\/(c≠b/\A.get c=some o):=fun c o hc=>by
  rw [ai.bZ] at hc;split at hc
  ·rename_i e; simp at hc; exact .inl ⟨e,hc.symm⟩
  ·rename_i e; exact .inr ⟨e,hc⟩
 have hA:∀ c v,(A.put b (.iG (.ts T .any N es acc))).get c=some (.arr v)->c≠b/\A.get c=some (.arr v):=fun c v hc=>by
  rcases fY c _ hc with ⟨_,e⟩ | e
  ·simp at e
  ·exact e
 have afP:∀ y,AR (A.put b (.iG (.ts T .any N es acc))) E y->AR A E y/\y≠x:=fun y ⟨c,v,L,M,h1,h2⟩=>by
  obtain ⟨h3,h4⟩:=hA c v h1;refine ⟨⟨c,v,L,M,h4,h2⟩,fun e=>h3 ?_⟩;subst e;exact h.ar.inj c b v _ y L M _ _ h4 hb h2 hx
 have IX:∀ g,AF (A.put b (.iG (.ts T .any N es acc))) E B g->AF A E B g:=fun g ⟨c,v,y,L,M,cs,e,own,k,h1,h2,h3⟩=>⟨c,v,y,L,M,cs,e,own,k,(hA c v h1).2,h2,h3⟩
 refine ⟨⟨fun c ma aQ hc=>?_,fun c top sz hc=>?_,fun y r hy=>?_,fun c y hc=>?_,h.inj,?_,h.fT,h.ll,fun c o hc=>?_,h.eB,fun y r hy=>?_,h.iQ,h.fresh,h.mem,?_⟩,hle,ao _,fun _ _ _ _=>rfl,fun _ _ e=>.inl e,fun y r e=>?_,fun _ _ e=>.inl e,fun _ _ _ _=>rfl,fun y q=>.inl (afP y q).1,fun g q=>.inl (IX g q),fun _ _ q=>.inl q,fun y q=>.inl (q.imp (fun q=>(afP y q).1) fun ⟨g,q1,q2⟩=>⟨g,IX g q1,q2⟩),ln fun _ _=>rfl⟩
 ·rcases fY c _ hc with ⟨_,e⟩ | ⟨_,e⟩
  ·simp at e
  ·obtain ⟨y,d,h1,h2,h3⟩:=h.row c ma aQ e
   exact ⟨y,d,h1,h2,h3.mono hle⟩
 ·rcases fY c _ hc with ⟨_,e⟩ | ⟨_,e⟩
  ·simp at e
  ·exact h.aF c top sz e
 ·rcases IM y r hy with e | ⟨rfl,rfl⟩
  ·exact h.z y r e
  ·exact dC
 ·have hc:E.κ c=some y:=hc
  cases hz:(E.dW x ⟨cs,aI P T,true,aZ⟩).z y with
  | none=>rfl
  | some r=>
   rcases IM y r hz with e | ⟨rfl,_⟩
   ·rw [h.apart c y hc] at e; simp at e
   ·exact absurd hc ((h.ar.z y po).2 c)
 ·exact h.iA.put (.inl fun t s=>by simp)
 ·rw [ai.o9]
  rcases fY c _ hc with ⟨e,_⟩ | ⟨_,e⟩
  ·rw [e]; exact h.live b _ hb
  ·exact h.live c o e
 ·rcases IM y r hy with e | ⟨rfl,_⟩
  ·exact h.lT y r e
  ·exact h.C7 po
 ·refine ⟨fun c v hc=>?_,fun c v hc=>?_,fun y q=>?_,fun c d v u y L M L' M' h1 h2 h3 h4=>h.ar.inj c d v u y L M L' M' (hA c v h1).2 (hA d u h2).2 h3 h4,fun c d v u y w L M L' M' ma e own g k bX e' nN k' h1 h2 h3 h4=>h.ar.rD c d v u y w L M L' M' ma e own g k bX e' nN k' (hA c v h1).2 (hA d u h2).2 h3 h4,h.ar.Xg,h.ar.fT,h.ar.eB,fun c v y L M ma e own g k h1 h2 h3=>?_,fun c v hc=>h.ar.nk c v (hA c v hc).2⟩
  ·exact (h.ar.arr c v (hA c v hc).2).mono hle rfl fun _ _ _ _=>rfl
  ·rcases fY c _ hc with ⟨e,e2⟩ | ⟨_,e⟩
   ·simp at e2
    subst e2;exact ⟨T,N,es,acc,rfl,ht,cT,.inr ⟨x,⟨cs,aI P T,true,aZ⟩,aP,by rw [e]; exact hx,hzx,rfl,MV.mono hle,hl⟩⟩
   ·exact (h.ar.iG c v e).mono hle rfl
  ·obtain ⟨q1,q2⟩:=afP y q
   refine ⟨?_,(h.ar.z y q1).2⟩;simp only [Env.dW];rw [ae q2];exact (h.ar.z y q1).1
  ·obtain ⟨bx,h1⟩:=hA c v h1
   obtain ⟨q1,q2,q3⟩:=h.ar.p0 c v y L M ma e own g k h1 h2 h3;refine ⟨q1,q2,fun z hz hzy=>?_⟩;obtain ⟨q4,q5,q6⟩:=q3 z hz hzy;refine ⟨?_,fun q=>q5 (afP z q).1,q6⟩;simp only [Env.dW];rw [ae]
   ·exact q4
   ·intro e2
    subst e2;exact q5 po
 ·rcases IM y r e with e | ⟨rfl,_⟩
  ·exact .inl e
  ·exact .inr (.inl po)
theorem cF.amA {A:ai} {B:St} {b:Nat} {T:TypeId} {m:Mk} {N:Nat} {es:List KV} {acc:Nat->KV} (h:du P E A B) (hb:A.get b=some (.arr (.ts T m N es acc))) (bM:OX P E b (.ts T m N es acc)) (oS:E.α b=none):cF P E A B E (A.put b (.iG (.ts T m N es acc))) B:=by
 have fY:∀ c o,(A.put b (.iG (.ts T m N es acc))).get c=some o->(c=b/\o = .iG (.ts T m N es acc))\/A.get c=some o:=fun c o hc=>by
  rw [ai.bZ] at hc;split at hc
  ·rename_i e; simp at hc; exact .inl ⟨e,hc.symm⟩
  ·exact .inr hc
 have hA:∀ c v,(A.put b (.iG (.ts T m N es acc))).get c=some (.arr v)->A.get c=some (.arr v):=fun c v hc=>by
  rcases fY c _ hc with ⟨_,e⟩ | e
  ·simp at e
  ·exact e
 have po:∀ y,AR (A.put b (.iG (.ts T m N es acc))) E y->AR A E y:=fun y ⟨c,v,L,M,h1,h2⟩=>⟨c,v,L,M,hA c v h1,h2⟩
 have IX:∀ g,AF (A.put b (.iG (.ts T m N es acc))) E B g->AF A E B g:=fun g ⟨c,v,y,L,M,cs,e,own,k,h1,h2,h3⟩=>⟨c,v,y,L,M,cs,e,own,k,hA c v h1,h2,h3⟩
 have _:=oS;refine ⟨⟨fun c ma aQ hc=>?_,fun c top sz hc=>?_,h.z,h.apart,h.inj,?_,h.fT,h.ll,fun c o hc=>?_,h.eB,h.lT,h.iQ,h.fresh,h.mem,?_⟩,Env.le_refl _,ao _,fun _ _ _ _=>rfl,fun _ _ e=>.inl e,fun y r e=>.inl e,fun _ _ e=>.inl e,fun _ _ _ _=>rfl,fun y q=>.inl (po y q),fun g q=>.inl (IX g q),fun _ _ q=>.inl q,fun y q=>.inl (q.imp (po y) fun ⟨g,q1,q2⟩=>⟨g,IX g q1,q2⟩),ln fun _ _=>rfl⟩
 ·rcases fY c _ hc with ⟨_,e⟩ | e
  ·simp at e
  ·exact h.row c ma aQ e
 ·rcases fY c _ hc with ⟨_,e⟩ | e
  ·simp at e
  ·exact h.aF c top sz e
 ·exact h.iA.put (.inl fun t s=>by simp)
 ·rw [ai.o9]
  rcases fY c _ hc with ⟨e,_⟩ | e
  ·rw [e]; exact h.live b _ hb
  ·exact h.live c o e
 ·refine ⟨fun c v hc=>h.ar.arr c v (hA c v hc),fun c v hc=>?_,fun y q=>h.ar.z y (po y q),fun c d v u y L M L' M' h1 h2 h3 h4=>h.ar.inj c d v u y L M L' M' (hA c v h1) (hA d u h2) h3 h4,fun c d v u y w L M L' M' ma e own g k bX e' nN k' h1 h2 h3 h4=>h.ar.rD c d v u y w L M L' M' ma e own g k bX e' nN k' (hA c v h1) (hA d u h2) h3 h4,h.ar.Xg,h.ar.fT,h.ar.eB,fun c v y L M ma e own g k h1 h2 h3=>?_,fun c v hc=>h.ar.nk c v (hA c v hc)⟩
  ·rcases fY c _ hc with ⟨e,e2⟩ | e
   ·simp at e2; rw [e2,e]; exact bM
   ·exact h.ar.iG c v e
  ·obtain ⟨q1,q2,q3⟩:=h.ar.p0 c v y L M ma e own g k (hA c v h1) h2 h3
   exact ⟨q1,q2,fun z hz hzy=>⟨(q3 z hz hzy).1,fun q=>(q3 z hz hzy).2.1 (po z q),(q3 z hz hzy).2.2⟩⟩
theorem Q7 {T:TypeId} {m:Mk} {b o n N:Nat} {es:List KV} {acc:Nat->KV} {u:Value} {A:ai} {B:St} (h:du P E A B) (hv:VK P E (.al T b o n) u) (ha:A.get b=some (.iG (.ts T m N es acc))) :
  VK P E (.ts T .any n ((es.drop o).take n) (fun i=>acc (o+i))) u:=by
 obtain ⟨T2,N2,mu,fa,e,ht,cT,rp⟩:=h.ar.iG b _ ha;simp only [KV.ts.injEq] at e;obtain ⟨rfl,rfl,rfl,rfl,rfl⟩:=e;simp only [VK];rcases hv.rI with ⟨rfl,rfl,rfl⟩ | ⟨x,L,N0,c,h1,rfl,h3,h4,h5⟩
 ·exact ⟨⟨by simp,fun i hi=>by omega,rfl⟩,[],by simpa using aK.nil,none,0,rfl,ao _,.inl ⟨rfl,rfl⟩,trivial⟩
 ·rcases rp with ⟨_,e⟩ | ⟨x2,r,aP,e,h6,h6',h7,h8⟩
  ·rw [h1] at e; simp at e
  rw [h1] at e;simp only [aR,bH] at e;obtain ⟨rfl,rfl,rfl⟩:=e;have ad2:((es.drop o).take n).length=n:=by rw [ju,List.length_drop,<- ht.len]; omega
  refine ⟨⟨ad2.symm,fun i hi=>?_,lV fun i x hi=>?_⟩,(aP.drop o).take n,(h7.drop o).take n,_,c,rfl,h3,.inr ⟨x,o * aI P T,r,rfl,h6,h6',?_⟩,trivial⟩
  ·rw [ht.acc (o+i) (by omega),eN,eN,kS,ax hi,lF]
  ·rw [kS] at hi
   split at hi
   ·rw [lF] at hi; exact fD ht.typed hi
   ·simp at hi
  ·have:=(h8.drop o).take n
   rw [bG] at this;exact this
theorem Sm {A:ai} {B:St} {v:KV} {u:Value} (h:du P E A B) (hv:VK P E v u):∃ E',cF P E A B E' (UQ A v).2 B/\VK P E' (UQ A v).1 u:=by
 unfold UQ;split
 ·rename_i T b o n
  split
  ·rename_i T' m N es acc hb
   cases ht:Nat.beq T T' with
   | false=>exact ⟨E,.refl h,.qo⟩
   | true=>
    have:=aD ht;subst this;rw [ah];have bM:=h.ar.arr b _ hb;obtain ⟨T2,N2,mu,fa,e,DJ,cT,rp⟩:=bM;simp only [KV.ts.injEq] at e;obtain ⟨rfl,rfl,rfl,rfl,rfl⟩:=e;rcases rp with ⟨h1,h2⟩ | ⟨x,cs,aZ,aP,h2,h3,h4,h5⟩
    ·have eU:=cF.amA h hb ⟨_,_,_,_,rfl,DJ,cT,.inl ⟨h1,h2⟩⟩ h2
     exact ⟨E,eU,Q7 eU.dI hv ((ai.bZ _ _ _ _).trans (ax rfl))⟩
    ·have eU:=cF.iG h hb h2 h3 DJ rfl cT h4 h5
     exact ⟨_,eU,Q7 eU.dI (hv.mono eU.le) ((ai.bZ _ _ _ _).trans (ax rfl))⟩
  ·rename_i T' m N es acc hb
   cases ht:Nat.beq T T' with
   | false=>exact ⟨E,.refl h,.qo⟩
   | true=>
    have:=aD ht;subst this;rw [ah];exact ⟨E,.refl h,Q7 h hv hb⟩
  ·exact ⟨E,.refl h,.qo⟩
 ·exact ⟨E,.refl h,hv⟩
theorem aA.map {α β:Type} {r:KR α} {f:α->β} {v:β} (h:aA (r.map f) v):∃ u,aA r u/\f u=v:=by
 cases r with
 | no=>exact h.elim
 | ok u=>exact ⟨u,rfl,h⟩
 | iH c u=>exact ⟨u,⟨h.1,rfl⟩,h.2⟩
 | br c x y=>
  rcases h with ⟨h1,h2⟩ | ⟨h1,h2⟩
  ·obtain ⟨u,h3,h4⟩:=aA.map (r:=x) h2; exact ⟨u,.inl ⟨h1,h3⟩,h4⟩
  ·obtain ⟨u,h3,h4⟩:=aA.map (r:=y) h2; exact ⟨u,.inr ⟨h1,h3⟩,h4⟩
theorem O4 {B:St} : ∀ {vs:List KV} {us:List Value} {E:Env} {A:ai},du P E A B->aK P E vs us->∃ E',cF P E A B E' (QS A vs).2 B/\aK P E' (QS A vs).1 us
 | [],us,E,A,h,hv=>⟨E,.refl h,hv⟩
 | v::vs,us,E,A,h,hv=>by
  obtain ⟨u,Xd,rfl,h1,h2⟩:=hv.cons_inv;obtain ⟨E1,h3,h4⟩:=Sm h h1;obtain ⟨E2,h5,h6⟩:=O4 h3.dI (h2.mono h3.le);exact ⟨E2,h3.afO h5,.cons (h4.mono h5.le) h6⟩
theorem abQ {A:ai} {B:St} {v:KV} {u:Value} (h:du P E A B) (hv:VK P E v u):∃ E',cF P E A B E' (X6 A v).2 B/\VK P E' (X6 A v).1 u:=by
 unfold X6;split
 ·rename_i cs
  obtain ⟨l,rfl,h1⟩:=hv.jr;obtain ⟨E1,h2,h3⟩:=O4 h h1;exact ⟨E1,h2,.ns h3⟩
 ·exact Sm h hv
theorem Gp:∀ (A:ai) (vs:List KV),(xz A vs).1.length=vs.length
 | _,[]=>rfl
 | A,v::vs=>by simp [xz,Gp]
theorem C8 {B:St} : ∀ {vs:List KV} {us:List Value} {E:Env} {A:ai},du P E A B->aK P E vs us->∃ E',cF P E A B E' (xz A vs).2 B/\aK P E' (xz A vs).1 us
 | [],us,E,A,h,hv=>⟨E,.refl h,hv⟩
 | v::vs,us,E,A,h,hv=>by
  obtain ⟨u,Xd,rfl,h1,h2⟩:=hv.cons_inv;obtain ⟨E1,h3,h4⟩:=abQ h h1;obtain ⟨E2,h5,h6⟩:=C8 h3.dI (h2.mono h3.le);exact ⟨E2,h3.afO h5,.cons (h4.mono h5.le) h6⟩
end Go.K
end
section
namespace Go.K
open Go Go.az
variable {P:Program}
theorem cG {o:Oper} : BM P o .bad:=trivial
theorem ahi (P:Program) (cfg:fV) (o:Oper):BM P o (dq P cfg o.op):=by
 cases ho:o.op with
 | move x=>exact lift_pure (by rw [ho]; rfl) abx
 | assign x=>exact lift_pure (by rw [ho]; rfl) ag8
 | pick c a b=>exact lift_pure (by rw [ho]; rfl) aiW
 | alloc t=>
  show BM P o (pe P t);unfold pe;split
  ·rename_i z hz
   cases hc:(flat z&&z.cells.toList.all scalar&&ji (fw z).cells) with
   | false=>exact cG
   | true=>
    simp only [aj] at hc;exact ya (by rw [ho]; rfl) (ahd hz hc.1.1 hc.1.2 hc.2)
  ·exact cG
 | box t x=>exact ya (by rw [ho]; rfl) akL
 | build t parts=>
  show BM P o (qi P t (parts.toList.map (·.1)) (parts.toList.map (·.2)));have aG:compile P o.op=Ee P t (parts.toList.map (·.1)) (parts.toList.map (·.2)):=by rw [ho]; rfl
  unfold qi;unfold Ee at aG;split
  ·rename_i z fields hz hu
   rw [hz,hu] at aG;simp only at aG;split
   ·rename_i l hl
    rw [hl] at aG;cases hc:(flat z&&ji (fw z).cells) with
    | false=>exact cG
    | true=>
     simp only [aj] at hc;exact lift_pure aG (X9 hc.1 hc.2)
   ·exact cG
  ·rename_i z len e hz hu
   rw [hz,hu] at aG;simp only at aG;split
   ·rename_i n hn
    rw [hn] at aG;cases hc:(flat z&&ji (fw z).cells) with
    | false=>exact cG
    | true=>
     simp only [aj] at hc;exact lift_pure aG (X9 hc.1 hc.2)
   ·exact cG
  ·exact cG
 | buildSlice t len parts=>
  show BM P o (jy P cfg.x.mt t len (parts.toList.map (·.1)) (parts.toList.map (·.2)));have aG:compile P o.op=rU P t len (parts.toList.map (·.1)) (parts.toList.map (·.2)):=by rw [ho]; rfl
  unfold jy;unfold rU at aG;split
  ·rename_i e hu
   rw [hu] at aG;simp only at aG;split
   ·rename_i i z hi hz
    have cT:size? P e=some i.size:=by simp [size?,hi]
    rw [cT,hz] at aG;simp only at aG;cases hc:(Nat.ble (len * i.size) 16777216&&Nat.beq z.cells.size i.size&&Nat.ble 1 i.size&&flat z&&Nat.beq (aH P e).ks.length i.size&&xZ len (parts.toList.map (·.1))) with
    | false=>exact cG
    | true=>
     simp only [aj] at hc;obtain ⟨⟨⟨⟨⟨h1,h2⟩,h3⟩,h4⟩,h5⟩,h6⟩:=hc;rw [h1,h2,h3,h4] at aG;cases F5 (aH P e).ks with
     | true=>
      cases cfg.x.mt (e+3000000) with
      | true=>exact ya aG (ZQ (aD h5) (cM h3) (aD h2) h6)
      | false=>exact Yc aG (Xk (aD h5) (cM h3) (aD h2) h6)
     | false=>
      cases h7:ji (fw z).cells with
      | true=>exact ya aG (ZJ h7)
      | false=>exact cG
   ·exact cG
  ·exact cG
 | load t a=>exact Gg (by rw [ho]; rfl) abE
 | store t a x=>exact Q2 (by rw [ho]; rfl) ahg
 | nilCheck x=>exact lift_pure (by rw [ho]; rfl) akJ
 | binOp op t x y yt=>exact lift_pure (by rw [ho]; rfl) akK
 | unOp op t x=>exact lift_pure (by rw [ho]; rfl) amt
 | convert src dst x=>
  show BM P o (mP P src dst x);have aG:compile P o.op=yW P src dst x:=by rw [ho]; rfl
  unfold mP;unfold yW at aG;split
  ·rename_i k k' hs hd
   rw [hs,hd] at aG;exact lift_pure aG (ahc hd hs)
  ·rename_i hs hd
   rw [hs,hd] at aG;exact lift_pure aG ahb
  ·rename_i e hs hd
   rw [hs,hd] at aG;simp only at aG;cases hb:isByte P e with
   | false=>exact cG
   | true=>rw [hb] at aG; exact Gg aG ZM
  ·rename_i e hs hd
   rw [hs,hd] at aG;simp only at aG;cases hb:isByte P e with
   | false=>exact cG
   | true=>rw [hb] at aG; exact adW aG (ZN hb)
  ·exact cG
 | makeFunc fn first cap=>
  show BM P o (cond (tY fn) .bad (.pure (F7 fn first.size) (first.toList++cap.toList)));cases hy:tY fn with
  | true=>exact cG
  | false=>
   have hn:Bc fn=true:=by cases fn <;> first | rfl | simp [tY] at hy
   exact lift_pure (by rw [ho]; show cond (Bc fn) _ _=_; rw [hn]; rfl) ZD
 | fieldAddr s x f=>
  show BM P o (j4 P s x f);have aG:compile P o.op=q9 P s x f:=by rw [ho]; rfl
  unfold j4;unfold q9 at aG;split
  ·rename_i fd hf
   rw [hf] at aG;simp only at aG;split
   ·rename_i m hm
    rw [hm] at aG;exact lift_pure aG (Xh rfl)
   ·exact cG
  ·exact cG
 | field t x f=>
  show BM P o (qk P t x f);have aG:compile P o.op=Ek P t x f:=by rw [ho]; rfl
  unfold qk;unfold Ek at aG;split
  ·rename_i fd hf
   rw [hf] at aG;exact lift_pure aG ag9
  ·exact cG
 | indexAddr t x ix=>
  show BM P o (j5 P t x ix);have aG:compile P o.op=ra P t x ix:=by rw [ho]; rfl
  unfold j5;unfold ra at aG;split
  ·rename_i len e hu
   rw [hu] at aG;simp only at aG;split
   ·rename_i n hn
    rw [hn] at aG;exact lift_pure aG ZA
   ·exact cG
  ·rename_i e hu
   rw [hu] at aG;simp only at aG;split
   ·rename_i n hn
    rw [hn] at aG;exact lift_pure aG (abz rfl)
   ·exact cG
  ·exact cG
 | index t x ix=>
  show BM P o (ql P t x ix);have aG:compile P o.op=El P t x ix:=by rw [ho]; rfl
  unfold ql;unfold El at aG;split
  ·rename_i len e hu
   rw [hu] at aG;simp only at aG;split
   ·rename_i n hn
    rw [hn] at aG;exact lift_pure aG ZB
   ·exact cG
  ·rename_i hu
   rw [hu] at aG;exact lift_pure aG ZC
  ·exact cG
 | extract t i=>exact lift_pure (by rw [ho]; rfl) abA
 | slice t x lo hi mx=>
  show BM P o (qm P cfg.x.mt t x lo hi mx);have aG:compile P o.op=Eh P t x lo hi mx:=by rw [ho]; rfl
  unfold qm;unfold Eh at aG;split
  ·rename_i e hu
   rw [hu] at aG;simp only at aG;split
   ·rename_i n hn
    rw [hn] at aG;simp only at aG;cases hc:(Nat.ble 1 n&&mx.isNone) with
    | false=>exact cG
    | true=>
     simp only [aj] at hc;rw [hc.1] at aG;have S7:mx=none:=Option.isNone_iff_eq_none.1 hc.2;subst S7;simp only [ah,eh,og,Option.isSome_none] at aG;show BM P o (cond (cfg.x.mt (e+4000000)) _ _);cases cfg.x.mt (e+4000000) with
     | true=>exact ad5 aG (abM (cM hc.1))
     | false=>exact Gg aG (abH (cM hc.1))
   ·exact cG
  ·rename_i len e hu
   rw [hu] at aG;simp only at aG;split
   ·rename_i n hn
    rw [hn] at aG;simp only at aG;cases hc:(Nat.ble 1 n&&mx.isNone) with
    | false=>exact cG
    | true=>
     simp only [aj] at hc;rw [hc.1] at aG;have S7:mx=none:=Option.isNone_iff_eq_none.1 hc.2;subst S7;simp only [ah,eh,og,Option.isSome_none] at aG;exact Gg aG ZK
   ·exact cG
  ·rename_i hu
   rw [hu] at aG;simp only at aG;cases hc:mx.isNone with
   | false=>exact cG
   | true=>rw [hc] at aG; exact lift_pure aG ZL
  ·exact cG
 | makeSlice t l c=>
  show BM P o (r7 P cfg.x.mt t l c);have aG:compile P o.op=tP P t l c:=by rw [ho]; rfl
  unfold r7;unfold tP at aG;split
  ·rename_i e hu
   rw [hu] at aG;simp only at aG;split
   ·rename_i i hi
    rw [hi] at aG;simp only at aG;split
    ·rename_i z hz
     rw [hz] at aG;simp only at aG;cases hmz:cfg.x.mt (e+1000000) with
     | true=>
      rw [ah];cases hc:(Nat.ble 1 i.size&&Nat.ble 1 i.bytes&&Nat.beq z.cells.size i.size&&flat z&&z.cells.toList.all scalar&&Nat.beq (aH P e).ks.length i.size&&ca (aH P e) (dv (aH P e) (fw z))) with
      | false=>exact cG
      | true=>
       simp only [aj] at hc;obtain ⟨⟨⟨⟨⟨⟨h1,h2⟩,h3⟩,h4⟩,h5⟩,h6⟩,h7⟩:=hc;rw [h1,h2,h3,h4,h5] at aG;exact Yc aG (ahh (aD h6) (cM h1) (aD h3) h7)
     | false=>
     rw [ay];cases hmt:cfg.x.mt e with
     | true=>
      rw [ah];cases hc:(Nat.ble 1 i.size&&Nat.ble 1 i.bytes&&Nat.beq z.cells.size i.size&&flat z&&z.cells.toList.all scalar&&Nat.beq (aH P e).ks.length i.size&&ca (aH P e) (dv (aH P e) (fw z))) with
      | false=>exact cG
      | true=>
       simp only [aj] at hc;obtain ⟨⟨⟨⟨⟨⟨h1,h2⟩,h3⟩,h4⟩,h5⟩,h6⟩,h7⟩:=hc;rw [h1,h2,h3,h4,h5] at aG;exact ya aG (abL (aD h6) (cM h1) (aD h3) h7)
     | false=>
     rw [ay];cases hc:(Nat.ble 1 i.size&&Nat.ble 1 i.bytes&&Nat.beq z.cells.size i.size&&flat z&&z.cells.toList.all scalar&&ji (fw z).cells) with
     | false=>exact cG
     | true=>
      simp only [aj] at hc;obtain ⟨⟨⟨⟨⟨h1,h2⟩,h3⟩,h4⟩,h5⟩,h6⟩:=hc;rw [h1,h2,h3,h4,h5] at aG;exact ya aG (Xi h6)
    ·exact cG
   ·exact cG
  ·exact cG
 | call c=>
  show BM P o (pg P cfg c);unfold pg;split
  ·split
   ·cases cfg.abo _ <;> trivial
   ·trivial
  ·trivial
  ·rename_i b hb
   obtain ⟨callee,args,argTypes⟩:=c;simp only at hb;subst hb;have aG:compile P o.op=yX P b argTypes.toList args.toList:=by rw [ho]; rfl
   unfold wq;unfold yX at aG;split
   ·
    simp only at aG;unfold UO;unfold N3 at aG;split
    ·rename_i t ht
     rw [ht] at aG;simp only at aG;split
     ·rename_i e hu
      rw [hu] at aG;exact lift_pure aG aha
     ·rename_i hu
      rw [hu] at aG;exact lift_pure aG adU
     ·exact cG
    ·exact cG
   ·simp only at aG
    exact lift_pure (f:=EO false) aG U4
   ·simp only at aG
    exact lift_pure (f:=EO true) aG U4
   ·
    simp only at aG;unfold C2;unfold FG at aG;split
    ·rename_i t u ht
     rw [ht] at aG;simp only at aG;split
     ·rename_i e eu hu huu
      rw [hu] at aG;simp only at aG;split
      ·rename_i i hi
       rw [hi] at aG;simp only at aG;split
       ·rename_i z hz
        rw [hz] at aG;simp only at aG;cases hc:(Nat.ble 1 i.size&&Nat.beq z.cells.size i.size&&Nat.beq (aH P e).ks.length i.size) with
        | false=>exact cG
        | true=>
         simp only [aj] at hc;have abR:Br P u=true:=by unfold Br; rw [huu]
         rw [hc.1.1,hc.1.2,abR] at aG;exact Q2 aG (abP (aD hc.2) (cM hc.1.1))
       ·exact cG
      ·exact cG
     ·exact cG
    ·exact cG
   ·
    simp only at aG;show BM P o (Kb P argTypes.toList args.toList);unfold Kb;unfold NZ at aG;split
    ·rename_i t u ht
     rw [ht] at aG;simp only at aG;split
     ·rename_i e eu hu huu
      rw [hu] at aG;simp only at aG;split
      ·rename_i n hn
       rw [hn] at aG;simp only at aG;cases hc:(Nat.ble 1 n&&Nat.beq (aH P e).ks.length n) with
       | false=>exact cG
       | true=>
        simp only [aj] at hc;rw [hc.1] at aG;exact Q2 aG (ai7 (aD hc.2) (cM hc.1))
      ·exact cG
     ·exact cG
    ·exact cG
   ·trivial
  ·trivial
 | _=>trivial
end Go.K
end
section
namespace Go.K
open Go Go.az
variable {P:Program} {E:Env}
theorem vD (t:bJ):∀ xs,rH t xs=xs.map (nR t)
 | []=>rfl
 | x::xs=>by rw [rH,vD t xs]; rfl
structure jB (P:Program) (E:Env) (ρ:Ren) (t:bJ) (N:Nat) (a:Act):Prop where
 size:a.tmps.size=N
 val:∀ i,VC P E ρ ((t.get i).getD .bz) (a.tmps.getD i undef)
 none:∀ i,N<=i->t.get i=Option.none
theorem jB.ev {ρ:Ren} {t:bJ} {N:Nat} {a:Act} (h:jB P E ρ t N a) (x:Operand):VC P E ρ (nR t x) (a.eval x):=by
 cases x with
 | tmp i=>exact h.val i
 | const v=>
  simp only [nR,Act.eval];cases hf:flat v with
  | true=>exact ⟨v,.fw v,VR.of_flat hf⟩
  | false=>exact .bz
 | global g=>exact .bz
 | func f=>exact ⟨.func (.func f) ⟨[]⟩ ⟨[]⟩,.abw .nil .nil,VR.J2 (l:=[]) (m:=[]) (.func f) rfl .nil .nil⟩
theorem jB.mono {E' : Env} {ρ ak:Ren} {t:bJ} {N:Nat} {a:Act} (h:jB P E ρ t N a) (k:E.le E') (m:ρ.le ak):jB P E' ak t N a:=⟨h.size,fun i=>(h.val i).mono k m,h.none⟩
theorem jB.put {ρ:Ren} {t:bJ} {N:Nat} {a:Act} {dst:Option Tmp} {v:KV} {v' : Value} (h:jB P E ρ t N a) (hd:∀ d,dst=some d->d < N) (hv:VC P E ρ v v'):jB P E ρ (xA t dst v) N (a.put dst v'):=by
 cases dst with
 | none=>exact h
 | some d=>
  have hd:=hd d rfl;refine ⟨by simp [Act.put,h.size],fun i=>?_,fun i hi=>?_⟩
  ·simp only [xA,Trie.iX,Act.put]
   by_cases e:i=d
   ·subst e
    have:i < a.tmps.size:=by rw [h.size]; exact hd
    simp [dF,this,hv]
   ·have:=h.val i
    simp only [ae e];simpa [dF,Array.getElem?_setIfInBounds_ne (Ne.symm e)] using this
  ·simp only [xA,Trie.iX]
   have bx:i≠d:=fun e=>absurd hi (by rw [e]; exact Nat.not_le_of_lt hd);rw [ae bx];exact h.none i hi
theorem jB.same {ρ:Ren} {t t' : bJ} {N:Nat} {a:Act} (h:jB P E ρ t N a) (hs:∀ i,t'.get i=t.get i):jB P E ρ t' N a:=
 ⟨h.size,fun i=>by rw [hs]; exact h.val i,fun i hi=>by rw [hs]; exact h.none i hi⟩
theorem zk {v:KV} {b:Bool} (h:rl v = .bool b):v = .bool b:=by cases v <;> simp [rl] at h; rw [h]
theorem Vo {v:KV} (h:rl v = .ng):∃ l,v = .ng l:=by cases v <;> simp [rl] at h; exact ⟨_,rfl⟩
theorem Gq {t:bJ} {d:Tmp} {b:Bool} (h:rl ((t.get d).getD .bz) = .bool b):∀ i,(Trie.set (.bool b) t d).get i=t.get i:=by
 intro i;have:=zk h;rw [Trie.iX];split
 ·rename_i e
  subst e;cases ht:t.get i with
  | none=>rw [ht] at this; simp at this
  | some v=>rw [ht] at this; simp at this; rw [this]
 ·rfl
theorem VC.dr {ρ:Ren} {b:Bool} {v:Value} (h:VC P E ρ (.bool b) v):v = .bool b:=by
 obtain ⟨u,h1,h2⟩:=h;have:=h1.dr; subst this;exact h2.dr
theorem ZR {R:Type} {ρ:Ren} {t:bJ} {N:Nat} {a:Act} {all:List Oper} {o:Oper} {j:Nat} {want:Bool} {yes no:bJ->Option R} {r:R} (hg:o.guard=some (j,want)) (ht:jB P E ρ t N a)
  (h:abp t ((all[j]?).bind (·.dst)) want yes no=some r) :
  ∃ t',(∀ i,t'.get i=t.get i)/\((Region.wanted o (yielded ⟨all⟩ a.tmps)=true/\yes t' = some r)\/(Region.wanted o (yielded ⟨all⟩ a.tmps)=false/\no t' = some r)):=by
 unfold abp at h;cases hd:(all[j]?).bind (·.dst) with
 | none=>rw [hd] at h; exact absurd h (by simp)
 | some d=>
  rw [hd] at h;have hw:∀ u,a.tmps[d]? = some u->Region.wanted o (yielded ⟨all⟩ a.tmps)=(match u with
    | .bool b=>b==want
    | _=>false):=by
   intro u hu;unfold Region.wanted;rw [hg];simp only;unfold yielded;have e:(⟨all⟩:Array Oper)[j]? = all[j]?:=by simp
   rw [e,hd];simp only [cD,hu];cases u <;> rfl
  have tX:=ht.val d;have h:BK.rec (motive:=fun _=>Option R)
   (fun b=>Bool.rec (motive:=fun _=>Option R)
    (Bool.rec (motive:=fun _=>Option R) (yes (t.set (.bool false) d)) (no (t.set (.bool false) d)) want)
    (Bool.rec (motive:=fun _=>Option R) (no (t.set (.bool true) d)) (yes (t.set (.bool true) d)) want) b)
   (no t) none (rl ((t.get d).getD .bz))=some r:=h
  cases hb:rl ((t.get d).getD .bz) with
  | no=>rw [hb] at h; exact absurd h (by simp)
  | ng=>
   rw [hb] at h;obtain ⟨l,hl⟩:=Vo hb;rw [hl] at tX;obtain ⟨u,h1,h2⟩:=tX;obtain ⟨m,rfl,_⟩:=h1.ID;obtain ⟨m',h3,_⟩:=h2.Bu;refine ⟨t,fun _=>rfl,.inr ⟨?_,h⟩⟩;cases hc:a.tmps[d]? with
   | none=>
    unfold Region.wanted;rw [hg];simp only;unfold yielded;have e:(⟨all⟩:Array Oper)[j]? = all[j]?:=by simp
    rw [e,hd];simp [hc]
   | some u=>
    have:u = .tuple m':=by rw [<- h3]; simp [dF,hc]
    rw [hw u hc,this]
  | bool b=>
   rw [hb] at h;have hbv:=zk hb;rw [hbv] at tX;have hcv:=tX.dr;have hc:a.tmps[d]? = some (.bool b):=by
    cases hc:a.tmps[d]? with
    | none=>simp [dF,hc,undef] at hcv
    | some u=>have:u = .bool b:=by rw [<- hcv]; simp [dF,hc]
              rw [this]
   have HF:=hw _ hc;refine ⟨t.set (.bool b) d,Gq hb,?_⟩;cases b <;> cases want
   ·exact .inl ⟨HF,h⟩
   ·exact .inr ⟨HF,h⟩
   ·exact .inr ⟨HF,h⟩
   ·exact .inl ⟨HF,h⟩
def ny (P:Program) (E:Env) (ρ:Ren) (l:List KV) (l' : List Value):Prop:=∃ m,aK P E l m/\cz ρ m l'
def pq (P : Program) (g : FuncId) : Prop := Nat.blt g yB = true ∧ ∃ fn, P.funcs[g]? = some fn ∧ fn.body.isSome = true ∧ (fn.name == "runtime.NumGoroutine") = false
def IY {R:Type} (P:Program) (cU:rm R):Prop:=
 ∀ f args A k r,cU f args A k=some r->pq P f/\∀ (E:Env) (B:St) (ρ:Ren) (base:Nat) (w:World) (bN:List Value),ny P E ρ args bN->KJ P E A B ρ base w->
  Calls P f bN.toArray w fun e w'=>∃ v v' E' A' B' ak,e = .returned v'/\VC P E' ak v v'/\Ev P base E A B ρ w E' A' B' ak w'/\k v A' = some r
def cA (P:Program) (g:FuncId) (F:List KV->KR KV):Prop:=
 ∀ args v,aA (F (normArgs P (bL P g) args)) v->args.length=(bL P g).length->pq P g/\∀ (E:Env) (A:ai) (B:St) (ρ:Ren) (base:Nat) (w:World) (bN:List Value),ny P E ρ args bN->KJ P E A B ρ base w->
  Calls P g bN.toArray w fun e w'=>∃ v' E' B' ak,e = .returned v'/\VC P E' ak v v'/\Ev P base E A B ρ w E' A B' ak w'
def oX (P:Program) (pc:FuncId->Option (List KV->KR KV)):Prop:=∀ g F,pc g=some F->cA P g F
theorem ZS {o:Oper} {f:Operand} {args:List Operand} (aG:compile P o.op = .call f args) {ρ:Ren} {t:bJ} {N:Nat} {a:Act} (ht:jB P E ρ t N a) {g:FuncId} {vs:List KV} (hc:IB (rH t args) (nR t f)=some (g,vs)) (hg:pq P g) :
  ∃ bw,ny P E ρ vs bw/\∀ w,(execOp a.eval o).run P w = .ok (.enter g bw.toArray) w:=by
 have bM:=nb P o;rw [aG] at bM;obtain ⟨em,h1,h2⟩:=ZF (xs:=f::args) (ev:=nR t) (cj:=a.eval) fun x _=>ht.ev x;obtain ⟨y,ys,e,h3,h4⟩:=h1.cons_inv;simp only [List.map_cons,List.cons.injEq] at e;obtain ⟨rfl,rfl⟩:=e;have hv:∃ us,jc (args.map em) (em f)=some (g,us)/\aK P E vs us:=by
  unfold IB at hc;split at hc
  ·rename_i g' first cap e
   simp only [aR,bH] at hc;obtain ⟨rfl,rfl⟩:=hc;rw [e] at h3;obtain ⟨l,m,e2,h5,h6⟩:=h3.Ga;rw [e2];refine ⟨l++args.map em++m,by simp only [jc]; rw [hg.1]; rfl,?_⟩;rw [vD];exact (h5.append h4).append h6
  ·simp at hc
 obtain ⟨us,h5,h6⟩:=hv;obtain ⟨bw,h7,h8⟩:=bM.2 ρ em a.eval g us h2 hg.1 h5 hg.2;exact ⟨bw,⟨us,h6,h7⟩,h8⟩
def cH:oW->Bool
 | .call _ _=>false
 | .DL _ _ _=>false
 | .DM _ _ _=>false
 | _=>true
theorem cL {c:Bool} {x:oW} (h:cH x=true):cH (cond c x .bad)=true:=by
 cases c with
 | false=>rfl
 | true=>exact h
theorem BP {c:Bool} {x y:oW} (h:cH x=true) (k:cH y=true):cH (cond c x y)=true:=by
 cases c with
 | false=>exact k
 | true=>exact h
theorem yb (mt:TypeId->Bool) (b:Builtin) (ts:List TypeId) (args:List Operand):cH (wq P mt b ts args)=true:=by
 unfold wq UO C2 Kb
 repeat' split
 all_goals first | rfl | exact cL rfl
theorem uU (mt:TypeId->Bool) (t:TypeId) (l c:Operand):cH (r7 P mt t l c)=true:=by
 unfold r7;split
 ·rename_i e he
  split
  ·split
   ·cases mt (e+1000000)
    ·cases mt e <;> exact cL rfl
    ·exact cL rfl
   ·rfl
  ·rfl
 ·rfl
theorem abS {cfg:fV} {op:Op} {f:Operand} {args:List Operand} (h:dq P cfg op = .call f args):compile P op = .call f args:=by
 have key:cH (dq P cfg op)=true->compile P op = .call f args:=fun hn=>by rw [h] at hn; simp [cH] at hn
 cases op with
 | call c=>
  have h:pg P cfg c = .call f args:=h;show tQ P c=_;unfold pg at h;unfold tQ;split at h
  ·rename_i g hc
   split at h
   ·cases hz:cfg.abo g <;> rw [hz] at h <;> simp at h
   ·simp at h; obtain ⟨rfl,rfl⟩:=h; rw [hc]
  ·rename_i f' bx hc; simp at h; obtain ⟨rfl,rfl⟩:=h; rw [hc]
  ·rename_i b hc
   have:=yb (P:=P) cfg.x.mt b c.argTypes.toList c.args.toList;rw [h] at this;simp [cH] at this
  ·simp at h
 | alloc t=>exact key (by show cH (pe P t)=true; unfold pe; split <;> first | rfl | exact cL rfl)
 | build t ps=>exact key (by show cH (qi P t _ _)=true; unfold qi; (repeat' split); all_goals first | rfl | exact cL rfl)
 | buildSlice t n ps=>exact key (by show cH (jy P cfg.x.mt t n _ _)=true; unfold jy; (repeat' split); all_goals first | rfl | exact cL (by cases F5 _ <;> first | exact cL rfl | (cases cfg.x.mt _ <;> rfl) | rfl))
 | convert s d x=>exact key (by show cH (mP P s d x)=true; unfold mP; (repeat' split); all_goals first | rfl | exact cL rfl)
 | makeFunc fn a b=>exact key (by show cH (cond (tY fn) .bad _)=true; cases tY fn <;> rfl)
 | fieldAddr s x i=>exact key (by show cH (j4 P s x i)=true; unfold j4; (repeat' split); all_goals rfl)
 | field s x i=>exact key (by show cH (qk P s x i)=true; unfold qk; (repeat' split); all_goals rfl)
 | indexAddr s x i=>exact key (by show cH (j5 P s x i)=true; unfold j5; (repeat' split); all_goals rfl)
 | index s x i=>exact key (by show cH (ql P s x i)=true; unfold ql; (repeat' split); all_goals rfl)
 | slice t x lo hi mx=>exact key (by show cH (qm P cfg.x.mt t x lo hi mx)=true; unfold qm; (repeat' split); all_goals first | rfl | exact cL rfl | exact cL (BP rfl rfl))
 | makeSlice t l c=>exact key (uU _ t l c)
 | _=>exact key rfl
theorem ZT {cfg:fV} {op:Op} {g:FuncId} {F:List KV->KR KV} {args:List Operand} (h:dq P cfg op = .DL g F args):compile P op = .call (.func g) args/\∃ F0,cfg.pc g=some F0/\F=fun vs=>cond (Nat.beq vs.length (bL P g).length) (F0 (normArgs P (bL P g) vs)) .no:=by
 have key:cH (dq P cfg op)=true->compile P op = .call (.func g) args/\∃ F0,cfg.pc g=some F0/\F=fun vs=>cond (Nat.beq vs.length (bL P g).length) (F0 (normArgs P (bL P g) vs)) .no:=fun hn=>by rw [h] at hn; simp [cH] at hn
 cases op with
 | call c=>
  have h:pg P cfg c = .DL g F args:=h;show tQ P c=_/\_;unfold pg at h;unfold tQ;split at h
  ·rename_i g' hc
   split at h
   ·rename_i F0 hF
    cases hz:cfg.abo g' with
    | true=>rw [hz] at h; simp at h
    | false=>
     rw [hz] at h;simp at h; obtain ⟨rfl,rfl,rfl⟩:=h; rw [hc];exact ⟨rfl,F0,hF,rfl⟩
   ·simp at h
  ·simp at h
  ·rename_i b hc
   have:=yb (P:=P) cfg.x.mt b c.argTypes.toList c.args.toList;rw [h] at this;simp [cH] at this
  ·simp at h
 | alloc t=>exact key (by show cH (pe P t)=true; unfold pe; split <;> first | rfl | exact cL rfl)
 | build t ps=>exact key (by show cH (qi P t _ _)=true; unfold qi; (repeat' split); all_goals first | rfl | exact cL rfl)
 | buildSlice t n ps=>exact key (by show cH (jy P cfg.x.mt t n _ _)=true; unfold jy; (repeat' split); all_goals first | rfl | exact cL (by cases F5 _ <;> first | exact cL rfl | (cases cfg.x.mt _ <;> rfl) | rfl))
 | convert s d x=>exact key (by show cH (mP P s d x)=true; unfold mP; (repeat' split); all_goals first | rfl | exact cL rfl)
 | makeFunc fn a b=>exact key (by show cH (cond (tY fn) .bad _)=true; cases tY fn <;> rfl)
 | fieldAddr s x i=>exact key (by show cH (j4 P s x i)=true; unfold j4; (repeat' split); all_goals rfl)
 | field s x i=>exact key (by show cH (qk P s x i)=true; unfold qk; (repeat' split); all_goals rfl)
 | indexAddr s x i=>exact key (by show cH (j5 P s x i)=true; unfold j5; (repeat' split); all_goals rfl)
 | index s x i=>exact key (by show cH (ql P s x i)=true; unfold ql; (repeat' split); all_goals rfl)
 | slice t x lo hi mx=>exact key (by show cH (qm P cfg.x.mt t x lo hi mx)=true; unfold qm; (repeat' split); all_goals first | rfl | exact cL rfl | exact cL (BP rfl rfl))
 | makeSlice t l c=>exact key (uU _ t l c)
 | _=>exact key rfl
theorem ZU {cfg:fV} {op:Op} {g:FuncId} {F:List KV->KR KV} {args:List Operand} (h:dq P cfg op = .DM g F args):compile P op = .call (.func g) args/\∃ F0,cfg.pc g=some F0/\F=fun vs=>cond (Nat.beq vs.length (bL P g).length) (F0 (normArgs P (bL P g) vs)) .no:=by
 have key:cH (dq P cfg op)=true->compile P op = .call (.func g) args/\∃ F0,cfg.pc g=some F0/\F=fun vs=>cond (Nat.beq vs.length (bL P g).length) (F0 (normArgs P (bL P g) vs)) .no:=fun hn=>by rw [h] at hn; simp [cH] at hn
 cases op with
 | call c=>
  have h:pg P cfg c = .DM g F args:=h;show tQ P c=_/\_;unfold pg at h;unfold tQ;split at h
  ·rename_i g' hc
   split at h
   ·rename_i F0 hF
    cases hz:cfg.abo g' with
    | false=>rw [hz] at h; simp at h
    | true=>
     rw [hz] at h;simp at h; obtain ⟨rfl,rfl,rfl⟩:=h; rw [hc];exact ⟨rfl,F0,hF,rfl⟩
   ·simp at h
  ·simp at h
  ·rename_i b hc
   have:=yb (P:=P) cfg.x.mt b c.argTypes.toList c.args.toList;rw [h] at this;simp [cH] at this
  ·simp at h
 | alloc t=>exact key (by show cH (pe P t)=true; unfold pe; split <;> first | rfl | exact cL rfl)
 | build t ps=>exact key (by show cH (qi P t _ _)=true; unfold qi; (repeat' split); all_goals first | rfl | exact cL rfl)
 | buildSlice t n ps=>exact key (by show cH (jy P cfg.x.mt t n _ _)=true; unfold jy; (repeat' split); all_goals first | rfl | exact cL (by cases F5 _ <;> first | exact cL rfl | (cases cfg.x.mt _ <;> rfl) | rfl))
 | convert s d x=>exact key (by show cH (mP P s d x)=true; unfold mP; (repeat' split); all_goals first | rfl | exact cL rfl)
 | makeFunc fn a b=>exact key (by show cH (cond (tY fn) .bad _)=true; cases tY fn <;> rfl)
 | fieldAddr s x i=>exact key (by show cH (j4 P s x i)=true; unfold j4; (repeat' split); all_goals rfl)
 | field s x i=>exact key (by show cH (qk P s x i)=true; unfold qk; (repeat' split); all_goals rfl)
 | indexAddr s x i=>exact key (by show cH (j5 P s x i)=true; unfold j5; (repeat' split); all_goals rfl)
 | index s x i=>exact key (by show cH (ql P s x i)=true; unfold ql; (repeat' split); all_goals rfl)
 | slice t x lo hi mx=>exact key (by show cH (qm P cfg.x.mt t x lo hi mx)=true; unfold qm; (repeat' split); all_goals first | rfl | exact cL rfl | exact cL (BP rfl rfl))
 | makeSlice t l c=>exact key (uU _ t l c)
 | _=>exact key rfl
noncomputable def xC (ins:oW) (t:bJ) (A:ai):KR (KV×ai):=
 match ins with
 | .pure f xs=>(f (rH t xs)).map fun v=>(v,A)
 | .read f xs=>(f A (rH t xs)).map fun v=>(v,A)
 | .act f xs=>f A (rH t xs)
 | .look f xs=>(f (rH t xs)).map fun v=>(v,A)
 | .DL _ f xs=>(f (rH t xs)).map fun v=>(v,A)
 | .DM _ f xs=>(f (xz A (rH t xs)).1).map fun v=>(v,(xz A (rH t xs)).2)
 | .call _ _=>.no
 | .bad=>.no
theorem aA.wD {α β:Type} {r:KR α} {f:α->β} {u:α} (h:aA r u):aA (r.map f) (f u):=by
 cases r with
 | no=>exact h.elim
 | ok x=>have h:x=u:=h; subst h; exact rfl
 | iH c x=>obtain ⟨h1,rfl⟩:=h; exact ⟨h1,rfl⟩
 | br c x y=>exact h.imp (fun h=>⟨h.1,aA.wD (r:=x) h.2⟩) (fun h=>⟨h.1,aA.wD (r:=y) h.2⟩)
theorem ZV {R:Type} {cU:rm R} {t:bJ} {A:ai} {k:KV->ai->Option R} {ins:oW} {r:R} (hn:∀ f args,ins≠.call f args) (h:X7 cU t A k ins=some r):∃ v A',aA (xC ins t A) (v,A')/\k v A' = some r:=by
 cases ins with
 | pure f xs=>obtain ⟨v,h1,h2⟩:=KR.vA h; exact ⟨v,A,h1.wD,h2⟩
 | read f xs=>obtain ⟨v,h1,h2⟩:=KR.vA h; exact ⟨v,A,h1.wD,h2⟩
 | act f xs=>obtain ⟨v,h1,h2⟩:=KR.vA h; exact ⟨v.1,v.2,h1,h2⟩
 | look f xs=>obtain ⟨v,h1,h2⟩:=KR.vA h; exact ⟨v,A,h1.wD,h2⟩
 | DL g f xs=>obtain ⟨v,h1,h2⟩:=KR.vA h; exact ⟨v,A,h1.wD,h2⟩
 | DM g f xs=>obtain ⟨v,h1,h2⟩:=KR.vA h; exact ⟨v,(xz A (rH t xs)).2,h1.wD (f:=fun v=>(v,(xz A (rH t xs)).2)),h2⟩
 | call f args=>exact absurd rfl (hn f args)
 | bad=>exact absurd h (by simp [X7])
theorem Sn {cfg:fV} (eV:oX P cfg.pc) {o:Oper} {g:FuncId} {xs:List Operand} (aG:compile P o.op = .call (.func g) xs) {F0:List KV->KR KV} (hF0:cfg.pc g=some F0) {t:bJ} {vs0:List KV} {v:KV}
  (hf:aA (F0 (normArgs P (bL P g) vs0)) v) (hlen:vs0.length=(bL P g).length) {E:Env} {ρ:Ren} {a:Act} (hv:∀ x∈xs,VC P E ρ (nR t x) (a.eval x)) {A A1:ai} {B:St} {base:Nat} {w:World}
  (anL:∀ us,aK P E (xs.map (nR t)) us->∃ E1,Ev P base E A B ρ w E1 A1 B ρ w/\aK P E1 vs0 us) {next:Act->World->Prop} {Q:Exit->Act->World->Prop}
  (hk:∀ E' B' ak v' w',VC P E' ak v v'->Ev P base E A B ρ w E' A1 B' ak w'->next (a.put o.dst v') w'):o.upon P a next Q ((execOp a.eval o).run P w):=by
 obtain ⟨hg,ky⟩:=eV g F0 hF0 _ _ hf hlen;have R9:=nb P o;rw [aG] at R9;obtain ⟨em,h3,h4⟩:=ZF (xs:=xs) hv
 let ZW:Operand->Value:=fun x=>match x with
  | .func f=>.func (.func f) #[] #[]
  | x=>em x
 have e3:∀ x∈xs,VK P E (nR t x) (ZW x)/\VR ρ (ZW x) (a.eval x):=by
  intro x hx;have key:∀ (l:List Operand),aK P E (l.map (nR t)) (l.map em)->x∈l->VK P E (nR t x) (em x):=by
   intro l
   induction l with
   | nil=>intro _ h; simp at h
   | cons y l ih=>
    intro h hm;obtain ⟨z,zs,e,q1,q2⟩:=h.cons_inv;simp only [List.map_cons,List.cons.injEq] at e;obtain ⟨rfl,rfl⟩:=e;rcases bd.1 hm with rfl | hm
    ·exact q1
    ·exact ih q2 hm
  cases x with
  | func f=>exact ⟨.abw .nil .nil,VR.J2 (l:=[]) (m:=[]) (.func f) rfl .nil .nil⟩
  | tmp i=>exact ⟨key xs h3 hx,h4 _ hx⟩
  | const c=>exact ⟨key xs h3 hx,h4 _ hx⟩
  | global q=>exact ⟨key xs h3 hx,h4 _ hx⟩
 have e4:aK P E (xs.map (nR t)) (xs.map ZW):=by
  have:∀ (l:List Operand),(∀ x∈l,VK P E (nR t x) (ZW x))->aK P E (l.map (nR t)) (l.map ZW):=by
   intro l
   induction l with
   | nil=>intro _; exact .nil
   | cons y l ih=>intro h; exact .cons (h y (by simp)) (ih fun z hz=>h z (by simp [hz]))
  exact this xs fun x hx=>(e3 x hx).1
 obtain ⟨bw,h5,h6⟩:=R9.2 ρ ZW a.eval g (xs.map ZW) (fun x hx=>by
   rcases bd.1 hx with rfl | hx
   ·exact VR.J2 (l:=[]) (m:=[]) (.func g) rfl .nil .nil
   ·exact (e3 x hx).2) hg.1 (by simp only [ZW,jc]; rw [hg.1]; simp) hg.2
 rw [h6 w];obtain ⟨E1,q1,q2⟩:=anL _ e4;refine (ky E1 A1 B ρ base w bw ⟨xs.map ZW,q2,h5⟩ q1.kj).mono ?_;rintro e w' ⟨v',E',B',ak,rfl,h7,h8⟩;exact hk E' B' ak v' w' h7 (q1.trans h8)
theorem Vp {cfg:fV} (eV:oX P cfg.pc) {o:Oper} {t:bJ} {A A' : ai} {v:KV} {base:Nat} {B:St} {ρ:Ren} {a:Act} {w:World} {next:Act->World->Prop} {Q:Exit->Act->World->Prop}
  (h:aA (xC (dq P cfg o.op) t A) (v,A')) (hv:∀ x∈afz (dq P cfg o.op),VC P E ρ (nR t x) (a.eval x)) (hj:KJ P E A B ρ base w)
  (hk:∀ E' B' ak v' w',VC P E' ak v v'->Ev P base E A B ρ w E' A' B' ak w'->next (a.put o.dst v') w'):o.wp P a w next Q:=by
 have bM:=ahi P cfg o;have afQ:=@ZT P cfg o.op;have afR:=@ZU P cfg o.op;generalize dq P cfg o.op=ins at h bM hv afQ afR;unfold Oper.wp;cases ins with
 | pure f xs=>
  obtain ⟨u,h1,h2⟩:=aA.map h;simp only [bH] at h2;obtain ⟨rfl,rfl⟩:=h2;rw [vD] at h1;obtain ⟨v',h3,h4⟩:=bM E ρ (nR t) a.eval u hv h1;rw [h4 w];exact hk E B ρ v' w h3 (.refl hj.k hj.s)
 | read f xs=>
  obtain ⟨u,h1,h2⟩:=aA.map h;simp only [bH] at h2;obtain ⟨rfl,rfl⟩:=h2;rw [vD] at h1;obtain ⟨v',h3,h4⟩:=bM E A B ρ base w (nR t) a.eval u hj hv h1;rw [h4];exact hk E B ρ v' w h3 (.refl hj.k hj.s)
 | act f xs=>
  have h:aA (f A (rH t xs)) (v,A'):=h;rw [vD] at h;obtain ⟨E',B',ak,v',nx,w',h1,h2,h3,h4⟩:=bM E A A' B ρ base w (nR t) a.eval v hj hv h;rw [h1];have hd:=hk E' B' ak v' w' h3 h4;cases nx with
  | value u=>have:u=v':=h2; subst this; exact hd
  | skip=>have:v' = undef:=h2; subst this; exact hd
  | _=>exact h2.elim
 | look f xs=>
  obtain ⟨u,h1,h2⟩:=aA.map h;simp only [bH] at h2;obtain ⟨rfl,rfl⟩:=h2;rw [vD] at h1;obtain ⟨E',B',ak,v',nx,w',h3,h4,h5,h6⟩:=bM E A B ρ base w (nR t) a.eval u hj hv h1;rw [h3];have hd:=hk E' B' ak v' w' h5 h6;cases nx with
  | value u=>have:u=v':=h4; subst this; exact hd
  | skip=>have:v' = undef:=h4; subst this; exact hd
  | _=>exact h4.elim
 | DL g f xs=>
  obtain ⟨u,h1,h2⟩:=aA.map h;simp only [bH] at h2;obtain ⟨rfl,rfl⟩:=h2;obtain ⟨aG,F0,hF0,rfl⟩:=afQ rfl;obtain ⟨hlen,hf⟩:=aA.cond h1;exact Sn eV aG hF0 hf (aD hlen) hv (fun us q=>⟨E,.refl hj.k hj.s,by rw [vD]; exact q⟩) hk
 | DM g f xs=>
  obtain ⟨u,h1,h2⟩:=aA.map h;simp only [bH] at h2;obtain ⟨rfl,rfl⟩:=h2;obtain ⟨aG,F0,hF0,rfl⟩:=afR rfl;obtain ⟨hlen,hf⟩:=aA.cond h1;refine Sn eV aG hF0 hf (aD hlen) hv (fun us q=>?_) hk;obtain ⟨E1,p1,p2⟩:=C8 hj.k q;rw [vD];exact ⟨E1,p1.ev (.refl hj.s),p2⟩
 | call f args=>exact h.elim
 | bad=>exact h.elim
end Go.K
end
section
namespace Go.K
open Go Go.az
variable {P:Program} {E:Env}
theorem abT {R:Type} {cfg:fV} {cU:rm R} (eV:oX P cfg.pc) (uW:IY P cU) {o:Oper} {t:bJ} {A:ai} {k:KV->ai->Option R} {r:R} {N base:Nat} {B:St} {ρ:Ren} {a:Act} {w:World} {next:Act->World->Prop} {Q:Exit->Act->World->Prop}
  (h:X7 cU t A k (dq P cfg o.op)=some r) (ht:jB P E ρ t N a) (hj:KJ P E A B ρ base w)
  (hk:∀ E' A' B' ak v v' w',k v A' = some r->VC P E' ak v v'->Ev P base E A B ρ w E' A' B' ak w'->next (a.put o.dst v') w'):o.wp P a w next Q:=by
 by_cases hc:∃ f args,dq P cfg o.op = .call f args
 ·obtain ⟨f,args,hc⟩:=hc
  rw [hc] at h;have h:Option.rec (motive:=fun _=>Option R) none (fun p=>cU p.1 p.2 A k) (IB (rH t args) (nR t f))=some r:=h;cases G9:IB (rH t args) (nR t f) with
  | none=>rw [G9] at h; exact absurd h (by simp)
  | some p=>
   obtain ⟨g,vs⟩:=p;rw [G9] at h;have h:cU g vs A k=some r:=h;obtain ⟨hg,ky⟩:=uW g vs A k r h;obtain ⟨bw,h1,h2⟩:=ZS (abS hc) ht G9 hg;unfold Oper.wp;rw [h2 w];refine (ky E B ρ base w bw h1 hj).mono ?_;rintro e w' ⟨v,v',E',A',B',ak,rfl,h3,h4,h5⟩;exact hk E' A' B' ak v v' w' h5 h3 h4
 ·obtain ⟨v,A',h1,h2⟩:=ZV (fun f args e=>hc ⟨f,args,e⟩) h
  exact Vp eV h1 (fun x _=>ht.ev x) hj fun E' B' ak v' w' h3 h4=>hk E' A' B' ak v v' w' h2 h3 h4
theorem abU {R:Type} {cfg:fV} {cU:rm R} {all:List Oper} {o:Oper} {k:bJ->ai->Option R} {t:bJ} {A:ai} {r:R} {N:Nat} {ρ:Ren} {a:Act} (ht:jB P E ρ t N a) (h:QU P cfg cU all o k t A=some r) :
  ∃ t1,(∀ i,t1.get i=t.get i)/\((Region.wanted o (yielded ⟨all⟩ a.tmps)=true/\X7 cU t1 A (fun v A=>k (xA t1 o.dst v) A) (dq P cfg o.op)=some r)\/
   (Region.wanted o (yielded ⟨all⟩ a.tmps)=false/\k (xA t1 o.dst uu) A=some r)):=by
 unfold QU at h;cases hg:o.guard with
 | none=>
  rw [hg] at h;refine ⟨t,fun _=>rfl,.inl ⟨?_,h⟩⟩;unfold Region.wanted;rw [hg]
 | some p=>
  obtain ⟨j,want⟩:=p;rw [hg] at h;exact ZR hg ht h
theorem IZ {R:Type} {cfg:fV} {cU:rm R} (eV:oX P cfg.pc) (uW:IY P cU) {N base:Nat} {Q:Exit->Act->World->Prop} {all:List Oper} (hd:all.all (tC N)=true) {k:bJ->ai->Option R} {r:R} :
  ∀ (os:List Oper) (j:Nat) (t:bJ) (E:Env) (A:ai) (B:St) (ρ:Ren) (a:Act) (w:World),all.drop j=os->Sd P cfg cU all k os t A=some r->jB P E ρ t N a->KJ P E A B ρ base w->
   (∀ t' E' A' B' ak a' w',k t' A' = some r->jB P E' ak t' N a'->a'.defers=a.defers->Ev P base E A B ρ w E' A' B' ak w'->Q .normal a' w')->wpOps P ⟨all⟩ Q (List.range' j os.length) a w
 | [],j,t,E,A,B,ρ,a,w,_,h,ht,hj,hq=>hq t E A B ρ a w h ht rfl (.refl hj.k hj.s)
 | o::os,j,t,E,A,B,ρ,a,w,hk,h,ht,hj,hq=>by
  have ho:(⟨all⟩:Array Oper)[j]? = some o:=by
   have:(all.drop j)[0]? = some o:=by rw [hk]; rfl
   rw [lF] at this;simpa using this
  have pd:all.drop (j+1)=os:=by rw [<- List.drop_drop,hk]; rfl
  have pX:∀ d,o.dst=some d->d < N:=by
   intro d e;have hm:o∈all:=eS (by simpa using ho);have:=dU.1 hd o hm;unfold tC at this;rw [e] at this;simp only at this;rw [b7] at this;exact this
  rw [lG,List.range'_succ];simp only [wpOps,ho];have h:QU P cfg cU all o (Sd P cfg cU all k os) t A=some r:=h;obtain ⟨t1,zF,h⟩:=abU ht h;have AK:=ht.same zF;rcases h with ⟨hw,h⟩ | ⟨hw,h⟩
  ·rw [hw]
   refine .inl (abT eV uW h AK hj fun E' A' B' ak v v' w' h1 h2 h3=>?_);refine IZ eV uW hd os (j+1) _ E' A' B' ak _ w' pd h1 ((AK.mono h3.le (h3.gD.le hj.s)).put pX h2) h3.kj fun t' I0 ZX I1 mG BB xP h4 h5 h6 h7=>?_;exact hq t' I0 ZX I1 mG BB xP h4 h5 (by rw [h6,put_defers]) (h3.trans h7)
  ·rw [hw]
   refine IZ eV uW hd os (j+1) _ E A B ρ _ w pd h (AK.put pX .undef) hj fun t' I0 ZX I1 mG BB xP h4 h5 h6 h7=>?_;exact hq t' I0 ZX I1 mG BB xP h4 h5 (by rw [h6,put_defers]) h7
abbrev Out:=Bool×KV×ai
inductive Run (P:Program) (cfg:fV) (all:List Oper):List Oper->bJ->ai->List Out->bJ->ai->Prop where
 | nil {t:bJ} {A:ai} : Run P cfg all [] t A [] t A
 | cons {o:Oper} {os:List Oper} {t t1 t' : bJ} {A A1 A' : ai} {wd:Bool} {v:KV} {L:List Out}
   (same:∀ i,t1.get i=t.get i)
   (want:(o.guard=none/\wd=true)\/∃ j want d,o.guard=some (j,want)/\(all[j]?).bind (·.dst)=some d/\((∃ b,t.get d=some (.bool b)/\wd=(b==want))\/(∃ l,t.get d=some (.ng l)/\wd=false)))
   (yes:wd=true->aA (xC (dq P cfg o.op) t1 A) (v,A1)) (no:wd=false->v=uu/\A1=A)
   (rest:Run P cfg all os (xA t1 o.dst v) A1 L t' A'):Run P cfg all (o::os) t A ((wd,v,A1)::L) t' A'
theorem ad6 {R:Type} {t:bJ} {d:Option Tmp} {want:Bool} {yes no:bJ->Option R} {r:R} (h:abp t d want yes no=some r) :
  ∃ d',d=some d'/\((∃ b t',t.get d' = some (.bool b)/\(∀ i,t'.get i=t.get i)/\((b==want)=true/\yes t' = some r\/(b==want)=false/\no t' = some r))\/∃ l,t.get d' = some (.ng l)/\no t=some r):=by
 unfold abp at h;cases d with
 | none=>exact absurd h (by simp)
 | some d=>
  refine ⟨d,rfl,?_⟩;have h:BK.rec (motive:=fun _=>Option R)
   (fun b=>Bool.rec (motive:=fun _=>Option R)
    (Bool.rec (motive:=fun _=>Option R) (yes (t.set (.bool false) d)) (no (t.set (.bool false) d)) want)
    (Bool.rec (motive:=fun _=>Option R) (no (t.set (.bool true) d)) (yes (t.set (.bool true) d)) want) b)
   (no t) none (rl ((t.get d).getD .bz))=some r:=h
  have fv:∀ v,(t.get d).getD .bz=v->v≠.bz->t.get d=some v:=by
   intro v e bx;cases hg:t.get d with
   | none=>rw [hg] at e; exact absurd e.symm bx
   | some u=>rw [hg] at e; simp at e; rw [e]
  cases hb:rl ((t.get d).getD .bz) with
  | no=>rw [hb] at h; exact absurd h (by simp)
  | ng=>
   rw [hb] at h;obtain ⟨l,hl⟩:=Vo hb;exact .inr ⟨l,fv _ hl (by simp),h⟩
  | bool b=>
   rw [hb] at h;refine .inl ⟨b,t.set (.bool b) d,fv _ (zk hb) (by simp),Gq hb,?_⟩;cases b <;> cases want
   ·exact .inl ⟨rfl,h⟩
   ·exact .inr ⟨rfl,h⟩
   ·exact .inr ⟨rfl,h⟩
   ·exact .inl ⟨rfl,h⟩
theorem O5 {R:Type} {cfg:fV} {cU:rm R} {all:List Oper} {k:bJ->ai->Option R} {r:R} : ∀ {os:List Oper} {t:bJ} {A:ai},(∀ o∈os,∀ f args,dq P cfg o.op≠.call f args)->Sd P cfg cU all k os t A=some r->
  ∃ L t' A',Run P cfg all os t A L t' A'/\k t' A' = some r
 | [],t,A,_,h=>⟨[],t,A,.nil,h⟩
 | o::os,t,A,hn,h=>by
  have h:QU P cfg cU all o (Sd P cfg cU all k os) t A=some r:=h;have hn':=fun q hq=>hn q (rB o hq);unfold QU at h;cases hg:o.guard with
  | none=>
   rw [hg] at h;obtain ⟨v,A1,h1,h2⟩:=ZV (hn o (by simp)) h;obtain ⟨L,t',A',h3,h4⟩:=O5 hn' h2;exact ⟨_,t',A',.cons (fun _=>rfl) (.inl ⟨hg,rfl⟩) (fun _=>h1) (fun e=>by simp at e) h3,h4⟩
  | some p=>
   obtain ⟨j,want⟩:=p;rw [hg] at h;obtain ⟨d,hd,h⟩:=ad6 h;rcases h with ⟨b,t1,h1,h2,h3⟩ | ⟨l,h1,h2⟩
   ·rcases h3 with ⟨h3,h4⟩ | ⟨h3,h4⟩
    ·obtain ⟨v,A1,h5,h6⟩:=ZV (hn o (by simp)) h4
     obtain ⟨L,t',A',h7,h8⟩:=O5 hn' h6;exact ⟨_,t',A',.cons h2 (.inr ⟨j,want,d,hg,hd,.inl ⟨b,h1,h3.symm⟩⟩) (fun _=>h5) (fun e=>by simp at e) h7,h8⟩
    ·obtain ⟨L,t',A',h7,h8⟩:=O5 hn' h4
     exact ⟨_,t',A',.cons h2 (.inr ⟨j,want,d,hg,hd,.inl ⟨b,h1,h3.symm⟩⟩) (fun e=>by simp at e) (fun _=>⟨rfl,rfl⟩) h7,h8⟩
   ·obtain ⟨L,t',A',h7,h8⟩:=O5 hn' h2
    exact ⟨_,t',A',.cons (fun _=>rfl) (.inr ⟨j,want,d,hg,hd,.inr ⟨l,h1,rfl⟩⟩) (fun e=>by simp at e) (fun _=>⟨rfl,rfl⟩) h7,h8⟩
noncomputable def turns (P:Program) (cfg:fV) (o:Oper) (x:Out):Bool:=x.1&&Nat.ble 3 (je (dq P cfg o.op))
noncomputable def se (S:Nat->Bool):List Oper->List Out->Nat->bJ->bJ
 | o::os,x::L,i,t=>se S os L (i+1) (cond (S i) (xA t o.dst x.2.1) t)
 | _,_,_,t=>t
noncomputable def kV (P:Program) (cfg:fV) (S:Nat->Bool):List Oper->List Out->Nat->ai->ai
 | o::os,x::L,i,A=>kV P cfg S os L (i+1) (cond (S i&&turns P cfg o x) x.2.2 A)
 | _,_,_,A=>A
theorem Bh (t:bJ) (dst:Option Tmp) (v:KV) (x:Tmp):(xA t dst v).get x=if dst=some x then some v else t.get x:=by
 cases dst with
 | none=>rfl
 | some d=>
  simp only [xA,Trie.iX,aR];by_cases h:x=d
  ·rw [ax h,ax h.symm]
  ·rw [ae h,ae (Ne.symm h)]
theorem M0 (S:Nat->Bool):∀ (os:List Oper) (L:List Out) (k:Nat) (t:bJ),se S os L (k+1) t=se (fun i=>S (i+1)) os L k t
 | [],L,k,t=>by cases L <;> rfl
 | o::os,[],k,t=>rfl
 | o::os,x::L,k,t=>by simp only [se]; exact M0 S os L (k+1) _
theorem M1 {cfg:fV} (S:Nat->Bool):∀ (os:List Oper) (L:List Out) (k:Nat) (A:ai),kV P cfg S os L (k+1) A=kV P cfg (fun i=>S (i+1)) os L k A
 | [],L,k,t=>by cases L <;> rfl
 | o::os,[],k,t=>rfl
 | o::os,x::L,k,t=>by simp only [kV]; exact M1 S os L (k+1) _
theorem wF {S S' : Nat->Bool} {y:Tmp} : ∀ {os:List Oper} {L:List Out} {k:Nat} {t t' : bJ},t.get y=t'.get y->(∀ i o,os[i]? = some o->o.dst=some y->S (k+i)=S' (k+i))->(se S os L k t).get y=(se S' os L k t').get y
 | [],L,k,t,t',h,_=>by cases L <;> exact h
 | o::os,[],k,t,t',h,_=>h
 | o::os,x::L,k,t,t',h,hs=>by
  simp only [se];refine wF ?_ fun i o' ho hd=>by have:=hs (i+1) o' (by simpa using ho) hd; rwa [show k+(i+1)=k+1+i by omega] at this
  by_cases hd:o.dst=some y
  ·have:=hs 0 o rfl hd
   rw [p7] at this;rw [this];cases S' k with
   | true=>simp only [ah,Bh,ax hd]
   | false=>exact h
  ·have e:∀ (b:Bool) (u:bJ),(cond b (xA u o.dst x.2.1) u).get y=u.get y:=by
    intro b u;cases b with
    | true=>rw [ah,Bh,ae hd]
    | false=>rfl
   rw [e,e]; exact h
theorem abV {S:Nat->Bool} {y:Tmp} : ∀ {os:List Oper} {L:List Out} {k i:Nat} {t:bJ} {o:Oper} {x:Out},os[i]? = some o->L[i]? = some x->o.dst=some y->(∀ j q,os[j]? = some q->q.dst=some y->i < j->S (k+j)=false)->
  (se (b8 S (k+i)) os L k t).get y=some x.2.1
 | [],L,k,i,t,o,x,ho,_,_,_=>by simp at ho
 | q::os,[],k,i,t,o,x,_,hx,_,_=>by simp at hx
 | q::os,u::L,k,0,t,o,x,ho,hx,hd,hs=>by
  simp at ho hx;subst ho hx;simp only [se,p7];have hk:b8 S k k=true:=by simp [b8]
  rw [hk,ah];have:=wF (S:=b8 S k) (S':=fun _=>false) (y:=y) (os:=os) (L:=L) (k:=k+1) (t:=xA t q.dst u.2.1) (t':=xA t q.dst u.2.1) rfl (fun j q' hq hqd=>by
   have h1:=hs (j+1) q' (by simpa using hq) hqd (by omega);rw [show k+(j+1)=k+1+j by omega] at h1;simp only [b8,h1,Bool.false_or];cases hb:Nat.beq (k+1+j) k with
   | false=>rfl
   | true=>have:=aD hb; omega)
  rw [this];have Im:∀ (os:List Oper) (L:List Out) (k:Nat) (t:bJ),se (fun _=>false) os L k t=t:=by
   intro os
   induction os with
   | nil=>intro L k t; cases L <;> rfl
   | cons o os ih=>intro L k t; cases L with
    | nil=>rfl
    | cons x L=>simp only [se,ay]; exact ih L _ t
  rw [Im,Bh,ax hd]
 | q::os,u::L,k,i+1,t,o,x,ho,hx,hd,hs=>by
  simp only [se];rw [show k+(i+1)=k+1+i by omega];exact abV (by simpa using ho) (by simpa using hx) hd fun j q' hq hqd aJ=>by
   have:=hs (j+1) q' (by simpa using hq) hqd (by omega);rwa [show k+(j+1)=k+1+j by omega] at this
theorem C9 {cfg:fV} {S S' : Nat->Bool} : ∀ {os:List Oper} {L:List Out} {k:Nat} {A:ai},(∀ i o x,os[i]? = some o->L[i]? = some x->turns P cfg o x=true->S (k+i)=S' (k+i))->kV P cfg S os L k A=kV P cfg S' os L k A
 | [],L,k,A,_=>by cases L <;> rfl
 | o::os,[],k,A,_=>rfl
 | o::os,x::L,k,A,h=>by
  simp only [kV];have h0:(S k&&turns P cfg o x)=(S' k&&turns P cfg o x):=by
   cases ht:turns P cfg o x with
   | false=>simp
   | true=>have:=h 0 o x rfl rfl ht; rw [p7] at this; rw [this]
  rw [h0];exact C9 fun i o' x' ho hx ht=>by have:=h (i+1) o' x' (by simpa using ho) (by simpa using hx) ht; rwa [show k+(i+1)=k+1+i by omega] at this
def afS (all:List Oper) (o:Oper) (t:bJ) (wd:Bool):Prop:=(o.guard=none/\wd=true)\/∃ j want d,o.guard=some (j,want)/\(all[j]?).bind (·.dst)=some d/\((∃ b,t.get d=some (.bool b)/\wd=(b==want))\/(∃ l,t.get d=some (.ng l)/\wd=false))
theorem Vq {cfg:fV} {o:Oper} {t:bJ} {A A1:ai} {v:KV} (h:aA (xC (dq P cfg o.op) t A) (v,A1)) (hk:Nat.ble 3 (je (dq P cfg o.op))=false):A1=A:=by
 generalize dq P cfg o.op=ins at h hk;cases ins with
 | pure f xs=>obtain ⟨u,_,h2⟩:=aA.map h; simp at h2; exact h2.2.symm
 | read f xs=>obtain ⟨u,_,h2⟩:=aA.map h; simp at h2; exact h2.2.symm
 | act f xs=>exact absurd hk (by simp [je])
 | look f xs=>obtain ⟨u,_,h2⟩:=aA.map h; simp at h2; exact h2.2.symm
 | DL g f xs=>obtain ⟨u,_,h2⟩:=aA.map h; simp at h2; exact h2.2.symm
 | DM g f xs=>exact absurd hk (by simp [je])
 | call f xs=>exact h.elim
 | bad=>exact h.elim
theorem Run.at {cfg:fV} {all:List Oper} : ∀ {os:List Oper} {t t' : bJ} {A A' : ai} {L:List Out},Run P cfg all os t A L t' A'->
  L.length=os.length/\(∀ y,t'.get y=(se (fun _=>true) os L 0 t).get y)/\A' = kV P cfg (fun _=>true) os L 0 A/\
  ∀ i o x,os[i]? = some o->L[i]? = some x->∃ t1,(∀ y,t1.get y=(se (fun j=>Nat.blt j i) os L 0 t).get y)/\afS all o t1 x.1/\(x.1=true->aA (xC (dq P cfg o.op) t1 (kV P cfg (fun j=>Nat.blt j i) os L 0 A)) (x.2.1,x.2.2))/\(x.1=false->x.2.1=uu)
 | _,_,_,_,_,_,.nil=>⟨rfl,fun _=>rfl,rfl,fun i o x ho=>by simp at ho⟩
 | o::os,t,t',A,A',(wd,v,A1)::L,.cons (t1:=t1) same want yes no rest=>by
  obtain ⟨h1,h2,h3,h4⟩:=rest.at;have hA1:cond (turns P cfg o (wd,v,A1)) A1 A=A1:=by
   cases ht:turns P cfg o (wd,v,A1) with
   | true=>rfl
   | false=>
    rw [ay];cases wd with
    | false=>exact (no rfl).2.symm
    | true=>exact (Vq (yes rfl) (by simpa [turns] using ht)).symm
  have Lg:∀ y,(xA t1 o.dst v).get y=(xA t o.dst v).get y:=fun y=>by rw [Bh,Bh,same]
  refine ⟨by simp [h1],fun y=>?_,?_,fun i q x hq hx=>?_⟩
  ·rw [h2 y]
   simp only [se,ah];rw [M0];exact wF (Lg y) fun _ _ _ _=>rfl
  ·rw [h3]
   simp only [kV,uh];rw [M1,hA1]
  ·cases i with
   | zero=>
    simp at hq hx;subst hq hx;have e0:∀ (os:List Oper) (L:List Out) (k:Nat) (t:bJ),se (fun j=>Nat.blt j 0) os L k t=t:=by
     intro os
     induction os with
     | nil=>intro L k t; cases L <;> rfl
     | cons o os ih=>intro L k t; cases L with
      | nil=>rfl
      | cons x L=>simp only [se]; exact ih L _ t
    have e1:∀ (os:List Oper) (L:List Out) (k:Nat) (A:ai),kV P cfg (fun j=>Nat.blt j 0) os L k A=A:=by
     intro os
     induction os with
     | nil=>intro L k t; cases L <;> rfl
     | cons o os ih=>intro L k t; cases L with
      | nil=>rfl
      | cons x L=>simp only [kV]; exact ih L _ t
    refine ⟨t1,fun y=>by rw [e0]; exact same y,?_,fun e=>by rw [e1]; exact yes e,fun e=>(no e).1⟩;rcases want with h | ⟨j,wt,d,e2,e3,e4⟩
    ·exact .inl h
    ·exact .inr ⟨j,wt,d,e2,e3,by rw [same]; exact e4⟩
   | succ i=>
    obtain ⟨t2,h5,h6,h7,h8⟩:=h4 i q x (by simpa using hq) (by simpa using hx);have hsh:(fun j=>Nat.blt (j+1) (i+1))=fun j=>Nat.blt j i:=by
     funext j;cases hb:Nat.blt j i with
     | true=>rw [b7] at hb ⊢; omega
     | false=>
      cases hc:Nat.blt (j+1) (i+1) with
      | false=>rfl
      | true=>rw [b7] at hc; rw [show Nat.blt j i=true from by rw [b7]; omega] at hb; simp at hb
    have h01:Nat.blt 0 (i+1)=true:=by rw [b7]; omega
    have eU:kV P cfg (fun j=>Nat.blt j (i+1)) (o::os) ((wd,v,A1)::L) 0 A=kV P cfg (fun j=>Nat.blt j i) os L 0 A1:=by
     simp only [kV,h01,uh];rw [M1,hA1,hsh]
    refine ⟨t2,fun y=>?_,h6,fun e=>by rw [eU]; exact h7 e,h8⟩;rw [h5 y];simp only [se,h01,ah];rw [M0,hsh];exact wF (Lg y) fun _ _ _ _=>rfl
end Go.K
end
section
namespace Go.K
open Go Go.az
variable {P:Program} {E:Env}
theorem O6 {cfg:fV} {all:List Oper} {b:List Nat} {i:Nat} {y:Oper} : ∀ (xs:List Oper) (k:Nat),Ke P cfg all b i y xs k=true->∀ (j:Nat) (x:Oper),xs[j]? = some x->k+j < i->DP P cfg all x y=true->eT b i (k+j)=true\/(C3 P cfg all x y=false/\(Se all (k+j) x i y).isSome=true)
 | [],k,_,j,x,hx,_,_=>by simp at hx
 | x0::xs,k,h,0,x,hx,aJ,hc=>by
  simp at hx;subst hx;simp only [Ke,aj,oh,iy] at h;rcases h.1 with ((h1 | h1) | h1) | h1
  ·have:=cM h1; omega
  ·rw [hc] at h1; simp at h1
  ·exact .inl h1
  ·exact .inr h1
 | x0::xs,k,h,j+1,x,hx,aJ,hc=>by
  simp only [Ke,aj] at h;have:=O6 xs (k+1) h.2 j x (by simpa using hx) (by omega) hc;rwa [show k+1+j=k+(j+1) by omega] at this
theorem I2 {cfg:fV} {all:List Oper} {b:List Nat} : ∀ (os:List Oper) (k:Nat),ET P cfg all b os k=true->∀ (i:Nat) (o:Oper),os[i]? = some o->Ke P cfg all b (k+i) o all 0=true
 | [],k,_,i,o,ho=>by simp at ho
 | o0::os,k,h,0,o,ho=>by
  simp at ho;subst ho;simp only [ET,aj] at h;exact h.1
 | o0::os,k,h,i+1,o,ho=>by
  simp only [ET,aj] at h;have:=I2 os (k+1) h.2 i o (by simpa using ho);rwa [show k+1+i=k+(i+1) by omega] at this
theorem O7 {cfg:fV} {all:List Oper} {b:List Nat} {i:Nat} {y:Oper} {p:Option Operand×Operand} : ∀ (xs:List Oper) (k j:Nat) (x:Oper),xs[j]? = some x->k+j < i->DP P cfg all x y=true->eT b i (k+j)=false->Se all (k+j) x i y=some p->p∈zh P cfg all b i y xs k
 | [],k,j,x,hx,_,_,_,_=>by simp at hx
 | x0::xs,k,0,x,hx,aJ,hm,hb,he=>by
  simp at hx;subst hx;have h1:(Nat.ble i k||!DP P cfg all x0 y||eT b i k)=false:=by
   rw [hm,show eT b i k=false from hb];cases h:Nat.ble i k with
   | false=>rfl
   | true=>have:=cM h; omega
  simp only [zh];rw [h1,ay,show Se all k x0 i y=some p from he];exact List.mem_cons_self
 | x0::xs,k,j+1,x,hx,aJ,hm,hb,he=>by
  have e:k+(j+1)=k+1+j:=by omega
  have:=O7 (b:=b) (p:=p) xs (k+1) j x (by simpa using hx) (show k+1+j < i by omega) hm (by rw [<- e]; exact hb) (by rw [<- e]; exact he);simp only [zh];cases (Nat.ble i k||!DP P cfg all x0 y||eT b i k) with
  | true=>exact this
  | false=>
   rw [ay];split
   ·exact rB _ this
   ·exact this
theorem LD {cfg:fV} {all:List Oper} {b:List Nat} {p:Option Operand×Operand} : ∀ (os:List Oper) (k i:Nat) (y:Oper),os[i]? = some y->p∈zh P cfg all b (k+i) y all 0->p∈QV P cfg all b os k
 | [],k,i,y,hy,_=>by simp at hy
 | o::os,k,0,y,hy,h=>by
  simp at hy;subst hy;exact List.mem_append_left _ h
 | o::os,k,i+1,y,hy,h=>by
  refine List.mem_append_right _ (LD os (k+1) i y (by simpa using hy) ?_);rwa [show k+1+i=k+(i+1) by omega]
structure LF (P:Program) (cfg:fV) (all:List Oper):Prop where
 UD:iP P all
 kind:∀ o∈all,je (dq P cfg o.op)<=3
 ord:∀ i j x y,all[i]? = some y->all[j]? = some x->j < i->DP P cfg all x y=true->eT (aC [] all) i j=true\/(C3 P cfg all x y=false/\∃ p,Se all j x i y=some p/\p∈DQ P cfg all)
 plain:∀ p,p∈DQ P cfg all->MI P cfg all=true
theorem abW {cfg:fV} {all:List Oper} (h:abq P cfg all=true):LF P cfg all:=by
 unfold abq at h;simp only [aj] at h;refine ⟨zI h.1.1.1,fun o ho=>cM (dU.1 h.1.1.2 o ho),fun i j x y hy hx aJ hm=>?_,fun p hp=>?_⟩
 ·have:=I2 all 0 h.1.2 i y hy
  rw [bG] at this;have:=O6 all 0 this j x hx (by omega) hm;rw [bG] at this;cases hb:eT (aC [] all) i j with
  | true=>exact .inl rfl
  | false=>
   rcases this with h1 | ⟨h1,h2⟩
   ·rw [hb] at h1; simp at h1
   ·obtain ⟨p,hp⟩:=NT.1 h2
    refine .inr ⟨h1,p,hp,LD all 0 i y hy ?_⟩;rw [bG];exact O7 all 0 j x hx (by omega) hm (by rw [bG]; exact hb) (by rw [bG]; exact hp)
 ·have h2:=h.2
  simp only [oh] at h2;rcases h2 with h2 | h2
  ·rw [List.isEmpty_iff] at h2
   rw [h2] at hp;simp at hp
  ·exact h2
structure ai9 (P:Program) (cfg:fV) (all:List Oper):Prop where
 UD:iP P all
 xN:∀ {i j:Nat} {x y:Oper},all[i]? = some y->all[j]? = some x->j < i->C3 P cfg all x y=true->eT (aC [] all) i j=true
theorem LF.toT {cfg:fV} {all:List Oper} (hf:LF P cfg all):ai9 P cfg all:=⟨hf.UD,fun {i j x y} hy hx aJ hc=>by
 rcases hf.ord i j x y hy hx aJ (by unfold DP; rw [hc]; rfl) with h | ⟨h,_⟩
 ·exact h
 ·rw [hc] at h; simp at h⟩
def O8 (P:Program) (cfg:fV) (all:List Oper) (i:Nat):Prop:=∀ j q,all[j]? = some q->Nat.ble 3 (je (dq P cfg q.op))=true->(j < i->eT (aC [] all) i j=true)/\(i < j->eT (aC [] all) j i=true)
theorem wG {x y:Oper} {p:Option Operand×Operand} (h:F9 x y=some p):(∃ T,y.op = .load T p.2)/\((p.1=none/\Kd x.op=true)\/∃ T a v,p.1=some a/\x.op = .store T a v):=by
 unfold F9 at h;split at h
 ·rename_i a ha
  have hl:∃ T,y.op = .load T a:=by
   unfold afA at ha;split at ha
   ·rename_i T a' e; simp at ha; subst ha; exact ⟨T,e⟩
   ·simp at ha
  cases hs:Kd x.op with
  | true=>
   rw [hs,ah] at h;simp at h;subst h;exact ⟨hl,.inl ⟨rfl,rfl⟩⟩
  | false=>
   rw [hs,ay] at h;split at h
   ·rename_i a2 Oi
    simp at h;subst h;refine ⟨hl,.inr ?_⟩;unfold OV at Oi;split at Oi
    ·rename_i T a3 v e; simp at Oi; subst Oi; exact ⟨T,_,v,rfl,e⟩
    ·simp at Oi
   ·simp at h
 ·simp at h
theorem Vr {all:List Oper} {i j:Nat} {x y:Oper} {p:Option Operand×Operand} (h:Se all j x i y=some p) :
  (F9 x y=some p/\wu i p.2 all 0=true/\F8 j p.1 all=true)\/(F9 y x=some p/\wu j p.2 all 0=true/\F8 i p.1 all=true):=by
 unfold Se at h;split at h
 ·rename_i q hq
  cases hb:(wu i q.2 all 0&&F8 j q.1 all) with
  | false=>rw [hb] at h; simp at h
  | true=>
   rw [hb,ah] at h;simp at h;subst h;simp only [aj] at hb;exact .inl ⟨hq,hb.1,hb.2⟩
 ·split at h
  ·rename_i q hq
   cases hb:(wu j q.2 all 0&&F8 i q.1 all) with
   | false=>rw [hb] at h; simp at h
   | true=>
    rw [hb,ah] at h;simp at h;subst h;simp only [aj] at hb;exact .inr ⟨hq,hb.1,hb.2⟩
  ·simp at h
theorem BQ {cfg:fV} {o:Oper} {T:TypeId} {a:Operand} (h:o.op = .load T a):je (dq P cfg o.op)=1:=by rw [h]; rfl
theorem unordered {cfg:fV} {all:List Oper} (hf:LF P cfg all) {i j:Nat} {o q:Oper} (ho:all[i]? = some o) (hq:all[j]? = some q) (hk:je (dq P cfg o.op)≠0) (h3:Nat.ble 3 (je (dq P cfg q.op))=true) :
  ((j < i->eT (aC [] all) i j=true)/\(i < j->eT (aC [] all) j i=true))\/∃ p,p∈DQ P cfg all/\F9 q o=some p/\wu i p.2 all 0=true/\F8 j p.1 all=true:=by
 have pd:Nat.beq (je (dq P cfg o.op)) 0=false:=by
  cases hb:Nat.beq (je (dq P cfg o.op)) 0 with
  | false=>rfl
  | true=>exact absurd (aD hb) hk
 have Th:∀ T a,q.op≠.load T a:=fun T a e=>by rw [BQ e] at h3; simp at h3
 rcases Nat.lt_trichotomy j i with h | h | h
 ·rcases hf.ord i j q o ho hq h (by unfold DP; rw [h3,pd]; simp) with h1 | ⟨_,p,h1,h2⟩
  ·exact .inl ⟨fun _=>h1,fun h'=>by omega⟩
  ·rcases Vr h1 with ⟨e1,e2,e3⟩ | ⟨e1,e2,e3⟩
   ·exact .inr ⟨p,h2,e1,e2,e3⟩
   ·obtain ⟨⟨T,e⟩,_⟩:=wG e1
    exact absurd e (Th _ _)
 ·exact .inl ⟨fun h'=>by omega,fun h'=>by omega⟩
 ·rcases hf.ord j i o q hq ho h (by unfold DP; rw [h3,pd]; simp) with h1 | ⟨_,p,h1,h2⟩
  ·exact .inl ⟨fun h'=>by omega,fun _=>h1⟩
  ·rcases Vr h1 with ⟨e1,e2,e3⟩ | ⟨e1,e2,e3⟩
   ·obtain ⟨⟨T,e⟩,_⟩:=wG e1
    exact absurd e (Th _ _)
   ·exact .inr ⟨p,h2,e1,e2,e3⟩
theorem I3 {cfg:fV} {all:List Oper} (hf:LF P cfg all) {i:Nat} {o:Oper} (ho:all[i]? = some o) (hk:je (dq P cfg o.op)≠0) (hn:∀ T a,o.op≠.load T a):O8 P cfg all i:=fun j q hq h3=>by
 rcases unordered hf ho hq hk h3 with h | ⟨p,_,h,_⟩
 ·exact h
 ·obtain ⟨⟨T,e⟩,_⟩:=wG h
  exact absurd e (hn _ _)
theorem Q8 {cfg:fV} {o:Oper} (h:je (dq P cfg o.op)<=3):∀ f args,dq P cfg o.op≠.call f args:=by
 intro f args e;rw [e] at h;simp [je] at h
theorem Vs {d:Tmp} {l:List Tmp} (h:d∈l):N7 (some d) l=true:=by
 simp only [N7,List.any_eq_true];exact ⟨d,h,by simp⟩
theorem pW {x:Tmp} : ∀ {xs:List Operand},Operand.tmp x∈xs->x∈p9 xs
 | [],h=>by simp at h
 | y::ys,h=>by
  rcases bd.1 h with h | h
  ·subst h; simp [p9]
  ·have:=pW h
   cases y <;> simp [p9,this]
section
variable {cfg:fV} {all:List Oper} {L:List Out} {t0:bJ} {A0:ai}
theorem ad7 (hf:ai9 P cfg all) {S:Nat->Bool} (hc:jh all S) {i:Nat} {o:Oper} (ho:all[i]? = some o) (jD:S i=false) (jZ:lj all S i) {y:Tmp} (hy:y∈Kc P cfg all o) :
  (se S all L 0 t0).get y=(se (fun j=>Nat.blt j i) all L 0 t0).get y:=by
 refine wF rfl fun j q hq hd=>?_;rw [bG];rcases Nat.lt_trichotomy j i with h | h | h
 ·have:eT (aC [] all) i j=true:=hf.xN ho hq h (by
   unfold C3;rw [hd,Vs hy];rfl)
  rw [hc.ready hf.UD ho jZ j this]
  symm; rw [b7]; exact h
 ·subst h
  rw [jD]
  symm
  cases hb:Nat.blt j j with
  | false=>rfl
  | true=>rw [b7] at hb; omega
 ·have hb:eT (aC [] all) j i=true:=hf.xN hq ho h (by
   unfold C3;rw [hd,Vs hy];simp)
  have:S j=false:=by
   cases hs:S j with
   | false=>rfl
   | true=>have:=hc j i hs hb; rw [jD] at this; simp at this
  rw [this]
  symm
  cases hbb:Nat.blt j i with
  | false=>rfl
  | true=>rw [b7] at hbb; omega
theorem O9 (hf:LF P cfg all) {S:Nat->Bool} (hc:jh all S) {i:Nat} {o:Oper} (ho:all[i]? = some o) (jD:S i=false) (jZ:lj all S i) (eU:O8 P cfg all i) :
  kV P cfg S all L 0 A0=kV P cfg (fun j=>Nat.blt j i) all L 0 A0:=by
 refine C9 fun j q x hq hx ht=>?_;rw [bG];have h3:Nat.ble 3 (je (dq P cfg q.op))=true:=by unfold turns at ht; simp only [aj] at ht; exact ht.2
 rcases Nat.lt_trichotomy j i with h | h | h
 ·have:eT (aC [] all) i j=true:=(eU j q hq h3).1 h
  rw [hc.ready hf.UD ho jZ j this]
  symm; rw [b7]; exact h
 ·subst h
  rw [jD]
  symm
  cases hb:Nat.blt j j with
  | false=>rfl
  | true=>rw [b7] at hb; omega
 ·have hb:eT (aC [] all) j i=true:=(eU j q hq h3).2 h
  have:S j=false:=by
   cases hs:S j with
   | false=>rfl
   | true=>have:=hc j i hs hb; rw [jD] at this; simp at this
  rw [this]
  symm
  cases hbb:Nat.blt j i with
  | false=>rfl
  | true=>rw [b7] at hbb; omega
theorem abX (hf:ai9 P cfg all) {S:Nat->Bool} (hc:jh all S) {i:Nat} {o:Oper} {x:Out} (ho:all[i]? = some o) (hx:L[i]? = some x) (jD:S i=false) (y:Tmp) :
  (se (b8 S i) all L 0 t0).get y=(xA (se S all L 0 t0) o.dst x.2.1).get y:=by
 rw [Bh];by_cases hd:o.dst=some y
 ·rw [ax hd]
  have:=abV (S:=S) (y:=y) (os:=all) (L:=L) (k:=0) (i:=i) (t:=t0) ho hx hd (fun j q hq hqd aJ=>by
   rw [bG];have hb:eT (aC [] all) j i=true:=hf.xN hq ho aJ (by
    unfold C3;rw [hqd,hd];simp [yZ])
   cases hs:S j with
   | false=>rfl
   | true=>have:=hc j i hs hb; rw [jD] at this; simp at this)
  rw [bG] at this;exact this
 ·rw [ae hd]
  refine wF rfl fun j q hq hqd=>?_;rw [bG];have bx:j≠i:=by
   intro e;subst e;rw [ho] at hq;simp at hq;subst hq;exact hd hqd
  unfold b8;have:Nat.beq j i=false:=by
   cases hb:Nat.beq j i with
   | false=>rfl
   | true=>exact absurd (aD hb) bx
  rw [this,Bool.or_false]
theorem ux {S:Nat->Bool} {i:Nat} {o:Oper} {x:Out} (ho:all[i]? = some o) (hx:L[i]? = some x) (ht:turns P cfg o x=false):kV P cfg (b8 S i) all L 0 A0=kV P cfg S all L 0 A0:=by
 refine C9 fun j q y hq hy hty=>?_;rw [bG];have bx:j≠i:=by
  intro e;subst e;rw [ho] at hq; rw [hx] at hy;simp at hq hy;subst hq hy;rw [ht] at hty; simp at hty
 unfold b8;have:Nat.beq j i=false:=by
  cases hb:Nat.beq j i with
  | false=>rfl
  | true=>exact absurd (aD hb) bx
 rw [this,Bool.or_false]
theorem abY {i:Nat} {o:Oper} {x:Out} (ho:all[i]? = some o) (hx:L[i]? = some x) (ht:turns P cfg o x=true):kV P cfg (fun j=>Nat.blt j (i+1)) all L 0 A0=x.2.2:=by
 have key:∀ (os:List Oper) (L:List Out) (k i:Nat) (A:ai) (o:Oper) (x:Out),os[i]? = some o->L[i]? = some x->turns P cfg o x=true->kV P cfg (fun j=>Nat.blt j (k+i+1)) os L k A=x.2.2:=by
  intro os
  induction os with
  | nil=>intro L k i A o x ho; simp at ho
  | cons q os ih=>
   intro L k i A o x ho hx ht;cases L with
   | nil=>simp at hx
   | cons u L=>
    simp only [kV];have aJ:Nat.blt k (k+i+1)=true:=by rw [b7]; omega
    rw [aJ,uh];cases i with
    | zero=>
     simp at ho hx;subst ho hx;rw [ht,ah];have:∀ (os:List Oper) (L:List Out) (m:Nat) (A:ai),k+1<=m->kV P cfg (fun j=>Nat.blt j (k+0+1)) os L m A=A:=by
      intro os
      induction os with
      | nil=>intro L m A _; cases L <;> rfl
      | cons q os ih=>
       intro L m A hm;cases L with
       | nil=>rfl
       | cons u L=>
        simp only [kV];have:Nat.blt m (k+0+1)=false:=by
         cases hb:Nat.blt m (k+0+1) with
         | false=>rfl
         | true=>rw [b7] at hb; omega
        rw [this,Bool.false_and,ay];exact ih L _ A (by omega)
     exact this os L (k+1) _ (ao _)
    | succ i=>
     have:=ih L (k+1) i (cond (turns P cfg q u) u.2.2 A) o x (by simpa using ho) (by simpa using hx) ht;rwa [show k+1+i+1=k+(i+1)+1 by omega] at this
 have:=key all L 0 i A0 o x ho hx ht;rwa [bG] at this
theorem ad8 (hf:LF P cfg all) {S:Nat->Bool} (hc:jh all S) {i:Nat} {o:Oper} {x:Out} (ho:all[i]? = some o) (hx:L[i]? = some x) (jD:S i=false) (jZ:lj all S i) (ht:turns P cfg o x=true) :
  kV P cfg (b8 S i) all L 0 A0=x.2.2:=by
 have h3:Nat.ble 3 (je (dq P cfg o.op))=true:=by unfold turns at ht; simp only [aj] at ht; exact ht.2
 have hk:je (dq P cfg o.op)≠0:=by have:=cM h3; omega
 have h1:kV P cfg (b8 S i) all L 0 A0=kV P cfg (fun j=>Nat.blt j (i+1)) all L 0 A0:=by
  refine C9 fun j q y hq hy hty=>?_;rw [bG];have hq3:Nat.ble 3 (je (dq P cfg q.op))=true:=by unfold turns at hty; simp only [aj] at hty; exact hty.2
  have eU:O8 P cfg all i:=I3 hf ho hk fun T a e=>by rw [BQ e] at h3; simp at h3
  rcases Nat.lt_trichotomy j i with h | h | h
  ·have:eT (aC [] all) i j=true:=(eU j q hq hq3).1 h
   have:=hc.ready hf.UD ho jZ j this;unfold b8;rw [this,Bool.true_or]
   symm; rw [b7]; omega
  ·subst h
   have:b8 S j j=true:=by simp [b8]
   rw [this]
   symm; rw [b7]; omega
  ·have hb:eT (aC [] all) j i=true:=(eU j q hq hq3).2 h
   have:S j=false:=by
    cases hs:S j with
    | false=>rfl
    | true=>have:=hc j i hs hb; rw [jD] at this; simp at this
   unfold b8;have bx:Nat.beq j i=false:=by
    cases hb:Nat.beq j i with
    | false=>rfl
    | true=>have:=aD hb; omega
   rw [this,bx]
   symm
   cases hbb:Nat.blt j (i+1) with
   | false=>rfl
   | true=>rw [b7] at hbb; omega
 rw [h1];exact abY ho hx ht
end
theorem Xm {all:List Oper} {o:Oper} {j:Nat} {want:Bool} {d:Tmp} (hg:o.guard=some (j,want)) (hd:(all[j]?).bind (·.dst)=some d):d∈vw all o:=by
 unfold vw;rw [hg];simp [hd]
theorem abZ {all:List Oper} {o:Oper} {t t1:bJ} {wd:Bool} {N:Nat} {ρ:Ren} {a:Act} (ht:jB P E ρ t N a) (hl:∀ y∈vw all o,t1.get y=t.get y) (h:afS all o t1 wd):Region.wanted o (yielded ⟨all⟩ a.tmps)=wd:=by
 rcases h with ⟨hg,rfl⟩ | ⟨j,want,d,hg,hd,h⟩
 ·unfold Region.wanted
  rw [hg]
 ·have zF:=hl d (Xm hg hd)
  have tX:=ht.val d;unfold Region.wanted;rw [hg];simp only;unfold yielded;have e:(⟨all⟩:Array Oper)[j]? = all[j]?:=by simp
  rw [e,hd];simp only [cD];rcases h with ⟨b,h1,rfl⟩ | ⟨l,h1,rfl⟩
  ·rw [<- zF,h1] at tX
   have hcv:=tX.dr;cases hc:a.tmps[d]? with
   | none=>simp [dF,hc,undef] at hcv
   | some u=>
    have:u = .bool b:=by rw [<- hcv]; simp [dF,hc]
    subst this;rfl
  ·rw [<- zF,h1] at tX
   obtain ⟨u,h2,h3⟩:=tX;obtain ⟨m,rfl,_⟩:=h2.ID;obtain ⟨m',h4,_⟩:=h3.Bu;cases hc:a.tmps[d]? with
   | none=>rfl
   | some u=>
    have:u = .tuple m':=by rw [<- h4]; simp [dF,hc]
    subst this;rfl
theorem aja {t t1:bJ} {N:Nat} {ρ:Ren} {a:Act} (ht:jB P E ρ t N a) {x:Operand} (h:∀ y,x = .tmp y->t1.get y=t.get y):VC P E ρ (nR t1 x) (a.eval x):=by
 have:=ht.ev x;cases x with
 | tmp y=>simp only [nR] at this ⊢; rw [h y rfl]; exact this
 | const v=>exact this
 | global g=>exact this
 | func f=>exact this
theorem ajb {cfg:fV} {o:Oper} {t:bJ} {A A1 A' : ai} {v:KV} (h:aA (xC (dq P cfg o.op) t A) (v,A1)) (hk:je (dq P cfg o.op)=0):aA (xC (dq P cfg o.op) t A') (v,A'):=by
 generalize dq P cfg o.op=ins at h hk;cases ins with
 | pure f xs=>obtain ⟨u,h1,h2⟩:=aA.map h; simp at h2; obtain ⟨rfl,_⟩:=h2; exact h1.wD
 | read f xs=>simp [je] at hk
 | act f xs=>simp [je] at hk
 | look f xs=>obtain ⟨u,h1,h2⟩:=aA.map h; simp at h2; obtain ⟨rfl,_⟩:=h2; exact h1.wD
 | DL g f xs=>obtain ⟨u,h1,h2⟩:=aA.map h; simp at h2; obtain ⟨rfl,_⟩:=h2; exact h1.wD
 | DM g f xs=>simp [je] at hk
 | call f xs=>exact h.elim
 | bad=>exact h.elim
theorem M3 {cfg:fV} {S:Nat->Bool} (h:∀ i,S i=false):∀ {os:List Oper} {L:List Out} {k:Nat} {A:ai},kV P cfg S os L k A=A
 | [],L,k,A=>by cases L <;> rfl
 | o::os,[],k,A=>rfl
 | o::os,x::L,k,A=>by simp only [kV]; rw [h,Bool.false_and,ay]; exact M3 h
theorem Vt {S:Nat->Bool} (h:∀ i,S i=false):∀ {os:List Oper} {L:List Out} {k:Nat} {t:bJ},se S os L k t=t
 | [],L,k,A=>by cases L <;> rfl
 | o::os,[],k,A=>rfl
 | o::os,x::L,k,A=>by simp only [se]; rw [h,ay]; exact Vt h
theorem ajc {A:ai} {o:gG} {b:Nat} (hb:b < A.next) (cs:List KV) (e:Nat):A.get b=some (.row cs e)↔(A.new o).get b=some (.row cs e):=by
 rw [ai.cV,ae (by omega)]
theorem I4 {A:ai} {o:gG} {b c:Nat} (h:b≠c\/((∀ cs e,A.get b≠some (.row cs e))/\∀ cs e,o≠.row cs e)) (cs:List KV) (e:Nat):A.get b=some (.row cs e)↔(A.put c o).get b=some (.row cs e):=by
 rw [ai.bZ];by_cases S9:b=c
 ·rw [ax S9]
  rcases h with h | ⟨h1,h2⟩
  ·exact absurd S9 h
  ·exact ⟨fun q=>absurd q (h1 _ _),fun q=>absurd (by simpa using q) (h2 cs e)⟩
 ·rw [ae S9]
def LG (A A' : ai):Prop:=A.next<=A'.next/\∀ b,b < A.next->∀ cs e,A.get b=some (.row cs e)↔A'.get b=some (.row cs e)
theorem Bi {A:ai} {o:gG} : LG A (A.new o):=⟨by simp,fun _ hb cs e=>ajc hb cs e⟩
theorem Kj {A:ai} {c:Nat} {o o' : gG} (hc:A.get c=some o') (h' : ∀ cs e,o'≠.row cs e) (h:∀ cs e,o≠.row cs e):LG A (A.put c o):=⟨by simp,fun b _ cs e=>by
 by_cases S9:b=c
 ·subst S9
  exact I4 (.inr ⟨fun cs e q=>by rw [hc] at q; simp at q; exact h' cs e q,h⟩) cs e
 ·exact I4 (.inl S9) cs e⟩
theorem LG.trans {A B C:ai} (h:LG A B) (k:LG B C):LG A C:=⟨dA h.1 k.1,fun b hb cs e=>(h.2 b hb cs e).trans (k.2 b (dG hb h.1) cs e)⟩
theorem Gr {e sz b n f m:Nat} {base new:List KV} {ab an:Nat->KV} {A A' : ai} {v:KV} {more:Bool} (h:aA (OT e sz b n base ab A f m new an more) (v,A')):A' = A.put f (.aF (n+m) sz):=by
 obtain ⟨_,h⟩:=aA.iH h;simp only [bH] at h;exact h.2.symm
theorem Pa {e b n m:Nat} {base new:List KV} {ab an:Nat->KV} {A A' : ai} {v:KV} {more:Bool} (h:aA (TE e b n base ab A m new an more) (v,A')):∃ o,A' = A.new (.arr o):=by
 obtain ⟨_,h⟩:=aA.iH h;simp only [bH] at h;exact ⟨_,h.2.symm⟩
theorem ZY {e sz b:Nat} {A A' : ai} {xs:List KV} {v:KV} (h:aA (Iy e sz b A xs) (v,A')):LG A A':=by
 unfold Iy at h;split at h
 ·obtain ⟨_,h⟩:=aA.cond h
  rw [Gr h];exact Bi.trans (Kj (o':=.aF 0 sz) (by simp) (by simp) (by simp))
 ·obtain ⟨_,h⟩:=aA.cond h
  rw [Gr h];exact Bi.trans (Kj (o':=.aF 0 sz) (by simp) (by simp) (by simp))
 ·split at h
  ·rename_i hf
   obtain ⟨_,h⟩:=aA.cond h;rw [Gr h];exact Kj hf (by simp) (by simp)
  ·exact h.elim
 ·exact h.elim
theorem LH {e b:Nat} {A A' : ai} {xs:List KV} {v:KV} (h:aA (Bg e b A xs) (v,A')):LG A A':=by
 unfold Bg at h;split at h
 ·obtain ⟨_,h⟩:=aA.cond h
  obtain ⟨o,rfl⟩:=Pa h;exact Bi
 ·split at h
  ·rename_i hf
   obtain ⟨_,h⟩:=aA.cond h;obtain ⟨o,rfl⟩:=Pa h;exact (Kj hf (by simp) (by simp)).trans Bi
  ·exact h.elim
 ·exact h.elim
theorem Xn {e sz b:Nat} {mt:Bool} {A A' : ai} {xs:List KV} {v:KV} (h:aA (EP e sz b mt A xs) (v,A')):LG A A':=by
 unfold EP at h;split at h
 ·split at h
  ·rename_i y' _
   revert h
   cases aiT _ with
   | true=>exact fun h=>LH h
   | false=>
    cases mt with
    | true=>exact fun h=>LH h
    | false=>exact fun h=>ZY h
  ·exact h.elim
 ·exact h.elim
theorem ahj {c:Bool} {i:oW} {t:bJ} {A:ai} {x:KV×ai} (h:aA (xC (cond c i .bad) t A) x):aA (xC i t A) x:=by
 cases c with
 | true=>exact h
 | false=>exact h.elim
theorem Vu {cfg:fV} {o:Oper} {t:bJ} {A A' : ai} {v:KV} (hs:Kd o.op=true) (h:aA (xC (dq P cfg o.op) t A) (v,A')):LG A A':=by
 revert hs h
 cases YS:o.op <;> intro hs h <;> simp [Kd] at hs
 ·rename_i T
  have h:aA (xC (pe P T) t A) (v,A'):=h;unfold pe at h;split at h
  ·rename_i z _
   cases hb:(flat z&&z.cells.toList.all scalar&&ji (fw z).cells) with
   | false=>rw [hb] at h; exact h.elim
   | true=>
    rw [hb,ah] at h;have h:(KV.ptr A.next 0,A.new (.row (fw z).cells (uL P T)))=(v,A'):=h;simp only [bH] at h;rw [<- h.2];exact Bi
  ·exact h.elim
 ·rename_i T x
  have h:aA (abl (uL P T) A [nR t x]) (v,A'):=h;unfold abl at h;simp only at h;obtain ⟨_,h⟩:=aA.cond h;have h:(KV.ptr A.next 0,A.new (.row (nR t x).cells (uL P T)))=(v,A'):=h;simp only [bH] at h;rw [<- h.2];exact Bi
 ·rename_i c
  split at hs
  ·rename_i hc
   have h:aA (xC (pg P cfg c) t A) (v,A'):=h;unfold pg at h;rw [hc] at h;simp only [wq] at h;unfold C2 at h;split at h
   ·split at h
    ·split at h
     ·split at h
      ·exact Xn (ahj h)
      ·exact h.elim
     ·exact h.elim
    ·exact h.elim
   ·exact h.elim
  ·simp at hs
theorem Sp {cfg:fV} {o:Oper} {T:TypeId} {a x:Operand} {t:bJ} {A A' : ai} {v:KV} (ho:o.op = .store T a x) (h:aA (xC (dq P cfg o.op) t A) (v,A')) :
  A'.next=A.next/\∀ b,((∃ b2 off,nR t a = .ptr b2 off/\b≠b2)\/∃ U Tc c i k,nR t a = .ap U Tc c i k)->∀ cs e,A.get b=some (.row cs e)↔A'.get b=some (.row cs e):=by
 rw [ho] at h;have h:aA (OS P T A [nR t a,nR t x]) (v,A'):=h;unfold OS at h;split at h
 ·rename_i c off w heq
  simp only [List.cons.injEq,and_true] at heq;obtain ⟨_,h⟩:=aA.cond h;split at h
  ·split at h
   ·have h:(uu,_)=(v,A'):=h
    simp only [bH] at h;rw [<- h.2];refine ⟨rfl,fun b hb cs e=>I4 (.inl ?_) cs e⟩;rcases hb with ⟨b2,ai6,h1,h2⟩ | ⟨U,Tc,c',i,k,h1⟩
    ·rw [heq.1] at h1; simp at h1; rw [h1.1]; exact h2
    ·rw [heq.1] at h1; simp at h1
   ·exact h.elim
  ·exact h.elim
 ·rename_i U Tc c i k w heq
  split at h
  ·rename_i hA
   obtain ⟨_,h⟩:=aA.cond h;split at h
   ·have h:(uu,_)=(v,A'):=h
    simp only [bH] at h;rw [<- h.2];refine ⟨rfl,fun b _ cs e=>?_⟩;by_cases S9:b=c
    ·subst S9
     exact I4 (.inr ⟨fun cs e q=>by rw [hA] at q; simp at q,by simp⟩) cs e
    ·exact I4 (.inl S9) cs e
   ·exact h.elim
  ·exact h.elim
 ·exact h.elim
theorem M4 {t:bJ} {nx:Nat} : ∀ {l:List (Option Operand×Operand)},MH t nx l=true->∀ p∈l,ER t nx p=true
 | [],_,p,hp=>by simp at hp
 | q::l,h,p,hp=>by
  have h:Bool.rec (motive:=fun _=>Bool) false (MH t nx l) (ER t nx q)=true:=h;cases hq:ER t nx q with
  | false=>rw [hq] at h; simp at h
  | true=>
   rw [hq] at h;rcases bd.1 hp with rfl | hp
   ·exact hq
   ·exact M4 h p hp
theorem Sq {i:Nat} {x:Tmp} : ∀ (os:List Oper) (k:Nat),wu i (.tmp x) os k=true->∀ j o,os[j]? = some o->i<=k+j->o.dst≠some x
 | [],k,_,j,o,ho,_=>by simp at ho
 | q::os,k,h,0,o,ho,hle=>by
  simp at ho;subst ho;simp only [wu,aj,oh,iy] at h;rcases h.1 with h1 | h1
  ·rw [b7] at h1; omega
  ·intro e
   rw [e,Vs (by simp [p9])] at h1;simp at h1
 | q::os,k,h,j+1,o,ho,hle=>by
  simp only [wu,aj] at h;exact Sq os (k+1) h.2 j o (by simpa using ho) (by omega)
section
variable {cfg:fV} {all:List Oper} {L:List Out} {t0:bJ} {A0:ai}
theorem afT {tn t1:bJ} {i:Nat} {x:Operand} (MZ:∀ y,tn.get y=(se (fun _=>true) all L 0 t0).get y) (AK:∀ y,t1.get y=(se (fun j=>Nat.blt j i) all L 0 t0).get y) (h:wu i x all 0=true):nR tn x=nR t1 x:=by
 cases x with
 | tmp y=>
  simp only [nR];rw [MZ y,AK y,wF (S':=fun j=>Nat.blt j i) rfl fun j o ho hd=>?_];rw [bG]
  symm
  rw [b7];refine Nat.lt_of_not_le fun hle=>?_;exact Sq all 0 h j o ho (by omega) hd
 | const v=>rfl
 | global g=>rfl
 | func f=>rfl
theorem ab0 (j:Nat):(∃ q x,all[j]? = some q/\L[j]? = some x/\turns P cfg q x=true/\kV P cfg (fun k=>Nat.blt k (j+1)) all L 0 A0=x.2.2)\/
  ((∀ q x,all[j]? = some q->L[j]? = some x->turns P cfg q x=false)/\kV P cfg (fun k=>Nat.blt k (j+1)) all L 0 A0=kV P cfg (fun k=>Nat.blt k j) all L 0 A0):=by
 by_cases h:∃ q x,all[j]? = some q/\L[j]? = some x/\turns P cfg q x=true
 ·obtain ⟨q,x,h1,h2,h3⟩:=h
  refine .inl ⟨q,x,h1,h2,h3,?_⟩;have:=abY (A0:=A0) h1 h2 h3;exact this
 ·have hn:∀ q x,all[j]? = some q->L[j]? = some x->turns P cfg q x=false:=fun q x h1 h2=>by
   cases ht:turns P cfg q x with
   | false=>rfl
   | true=>exact absurd ⟨q,x,h1,h2,ht⟩ h
  refine .inr ⟨hn,C9 fun k q x hq hx ht=>?_⟩;rw [bG];have bx:k≠j:=fun e=>by subst e; rw [hn q x hq hx] at ht; simp at ht
  cases hb:Nat.blt k j with
  | true=>rw [b7] at hb ⊢; omega
  | false=>
   cases qf:Nat.blt k (j+1) with
   | false=>rfl
   | true=>
    rw [b7] at qf;have : ¬ k < j:=fun h=>by rw [<- b7,hb] at h; simp at h
    omega
theorem Sr (hf:LF P cfg all) {S:Nat->Bool} (hc:jh all S):∀ n,∃ m,m<=n/\∀ j q x,j < n->all[j]? = some q->L[j]? = some x->turns P cfg q x=true->S j=Nat.blt j m
 | 0=>⟨0,ao 0,fun j q x hj=>by omega⟩
 | n+1=>by
  obtain ⟨m,hm,h⟩:=Sr hf hc n;by_cases hn:∃ q x,all[n]? = some q/\L[n]? = some x/\turns P cfg q x=true/\S n=true
  ·obtain ⟨q,x,h1,h2,h3,h4⟩:=hn
   have hq3:Nat.ble 3 (je (dq P cfg q.op))=true:=by unfold turns at h3; simp only [aj] at h3; exact h3.2
   have hk:je (dq P cfg q.op)≠0:=by have:=cM hq3; omega
   have eU:=I3 hf h1 hk fun T a e=>by rw [BQ e] at hq3; simp at hq3
   refine ⟨n+1,ao _,fun j q' x' hj h5 h6 h7=>?_⟩;have hb:Nat.blt j (n+1)=true:=by rw [b7]; exact hj
   rw [hb];by_cases Vv:j=n
   ·subst Vv; exact h4
   ·have anM:Nat.ble 3 (je (dq P cfg q'.op))=true:=by unfold turns at h7; simp only [aj] at h7; exact h7.2
    exact hc n j h4 ((eU j q' h5 anM).1 (by omega))
  ·refine ⟨m,by omega,fun j q x hj h5 h6 h7=>?_⟩
   by_cases Vv:j=n
   ·subst Vv
    have hb:Nat.blt j m=false:=by
     cases hb:Nat.blt j m with
     | false=>rfl
     | true=>rw [b7] at hb; omega
    rw [hb];cases hs:S j with
    | false=>rfl
    | true=>exact absurd ⟨q,x,h5,h6,h7,hs⟩ hn
   ·exact h j q x (by omega) h5 h6 h7
theorem ahk (hf:LF P cfg all) {S:Nat->Bool} (hc:jh all S):∃ m,(∀ j q x,all[j]? = some q->L[j]? = some x->turns P cfg q x=true->S j=Nat.blt j m)/\kV P cfg S all L 0 A0=kV P cfg (fun j=>Nat.blt j m) all L 0 A0:=by
 obtain ⟨m,_,h⟩:=Sr (L:=L) hf hc all.length;have h' : ∀ j q x,all[j]? = some q->L[j]? = some x->turns P cfg q x=true->S j=Nat.blt j m:=fun j q x h1 h2 h3=>h j q x (cw.1 h1).1 h1 h2 h3;exact ⟨m,h',C9 fun j q x h1 h2 h3=>by rw [bG]; exact h' j q x h1 h2 h3⟩
def AtK (P:Program) (cfg:fV) (all:List Oper) (L:List Out) (t0:bJ) (A0:ai):Prop:=∀ i o x,all[i]? = some o->L[i]? = some x->∃ t1,(∀ y,t1.get y=(se (fun j=>Nat.blt j i) all L 0 t0).get y)/\(x.1=true->aA (xC (dq P cfg o.op) t1 (kV P cfg (fun j=>Nat.blt j i) all L 0 A0)) (x.2.1,x.2.2))
theorem ab1 (pP:AtK P cfg all L t0 A0) (hpl:MI P cfg all=true):∀ j,A0.next<=(kV P cfg (fun k=>Nat.blt k j) all L 0 A0).next
 | 0=>by rw [M3 (fun i=>by
   cases hb:Nat.blt i 0 with
   | false=>rfl
   | true=>rw [b7] at hb; omega)]; exact ao _
 | j+1=>by
  have ih:=ab1 pP hpl j;rcases ab0 (P:=P) (cfg:=cfg) (all:=all) (L:=L) (A0:=A0) j with ⟨q,x,h1,h2,h3,h4⟩ | ⟨_,h4⟩
  ·rw [h4]
   obtain ⟨t1,_,hg⟩:=pP j q x h1 h2;unfold turns at h3;simp only [aj] at h3;have hg:=hg h3.1;have hp:=dU.1 hpl q (eS h1);simp only [oh,h3.2,Bool.not_true,CN,false_or] at hp;rcases hp with hp | hp
   ·exact dA ih (Vu hp hg).1
   ·obtain ⟨a2,Oi⟩:=NT.1 hp
    unfold OV at Oi;split at Oi
    ·rename_i T a3 v e
     rw [(Sp e hg).1]; exact ih
    ·simp at Oi
  ·rw [h4]; exact ih
theorem ab2 (hf:LF P cfg all) {S:Nat->Bool} (hc:jh all S) {i:Nat} {o:Oper} {T:TypeId} {a:Operand} (ho:all[i]? = some o) (zH:o.op = .load T a) (jD:S i=false) (jZ:lj all S i) (hns : ¬ O8 P cfg all i)
  (pP:AtK P cfg all L t0 A0) {tn:bJ} (MZ:∀ y,tn.get y=(se (fun _=>true) all L 0 t0).get y) (afU:MH tn A0.next (DQ P cfg all)=true)
  {t1:bJ} (AK:∀ y,t1.get y=(se (fun j=>Nat.blt j i) all L 0 t0).get y) {v:KV} {A1:ai} (hg:aA (xC (dq P cfg o.op) t1 (kV P cfg (fun j=>Nat.blt j i) all L 0 A0)) (v,A1)) :
  aA (xC (dq P cfg o.op) t1 (kV P cfg S all L 0 A0)) (v,kV P cfg S all L 0 A0):=by
 have hk:je (dq P cfg o.op)≠0:=by rw [BQ zH]; simp
 have hex:∃ p,p∈DQ P cfg all/\p.2=a/\wu i a all 0=true:=by
  refine Classical.byContradiction fun bx=>hns fun j q hq h3=>?_;rcases unordered hf ho hq hk h3 with h | ⟨p,h1,h2,h3,_⟩
  ·exact h
  ·obtain ⟨⟨T',e⟩,_⟩:=wG h2
   rw [zH] at e;simp only [Op.load.injEq] at e;exact absurd ⟨p,h1,e.2.symm,by rw [e.2]; exact h3⟩ bx
 obtain ⟨p,hp,Tb,hnd⟩:=hex;have tX:=afT MZ AK hnd;have hpd:=M4 afU p hp;have hpl:=hf.plain p hp;rw [zH] at hg ⊢;have anN:∀ A,xC (dq P cfg (.load T a)) t1 A=(QO P T A [nR t1 a]).map fun v=>(v,A):=fun _=>rfl;rw [anN] at hg ⊢;obtain ⟨u,xX,he⟩:=aA.map hg;simp only [bH] at he;obtain ⟨rfl,_⟩:=he;clear hg;have hg:=xX;clear xX;refine aA.wD (f:=fun v=>(v,kV P cfg S all L 0 A0)) ?_;unfold ER at hpd;rw [Tb,tX] at hpd;cases hv:nR t1 a with
 | tp U Tc m k es acc=>rw [hv] at hg; exact hg
 | ptr b off=>
  rw [hv] at hg hpd;simp only [aj] at hpd;have hb:=hpd.1;rw [b7] at hb;have dC:∃ cs e,(kV P cfg (fun j=>Nat.blt j i) all L 0 A0).get b=some (.row cs e):=by
   have hg:aA (match HR P T,size? P T with
    | some ag,some n=>match (K.rowAt (kV P cfg (fun j=>Nat.blt j i) all L 0 A0) b).bind fun cs=>r6 n (xY off cs) with
     | some l=>cond ag (.ok (.agg l)) (match l with | [v]=>.ok v | _=>.no)
     | none=>.no
    | _,_=>.no) u:=hg
   split at hg
   ·split at hg
    ·rename_i l hl
     obtain ⟨cs,h1,_⟩:=aO.1 hl;unfold K.rowAt at h1;split at h1
     ·rename_i bX e h2; exact ⟨bX,e,h2⟩
     ·simp at h1
    ·exact hg.elim
   ·exact hg.elim
  obtain ⟨cs,e,dC⟩:=dC;obtain ⟨m,hm,eU⟩:=ahk (L:=L) (A0:=A0) hf hc;have step:∀ k,(∀ q x,all[k]? = some q->L[k]? = some x->turns P cfg q x=true->¬ ((k < i->eT (aC [] all) i k=true)/\(i < k->eT (aC [] all) k i=true)))->
    ((kV P cfg (fun j=>Nat.blt j k) all L 0 A0).get b=some (.row cs e)↔(kV P cfg (fun j=>Nat.blt j (k+1)) all L 0 A0).get b=some (.row cs e)):=by
   intro k OI;rcases ab0 (P:=P) (cfg:=cfg) (all:=all) (L:=L) (A0:=A0) k with ⟨q,x,h1,h2,h3,h4⟩ | ⟨_,h4⟩
   ·rw [h4]
    have ZP:=h3;unfold turns at ZP;simp only [aj] at ZP;rcases unordered hf ho h1 hk ZP.2 with h5 | ⟨p',h5,h6,h7,h8⟩
    ·exact absurd h5 (OI q x h1 h2 h3)
    ·obtain ⟨tk,htk,hgk⟩:=pP k q x h1 h2
     have hgk:=hgk ZP.1;obtain ⟨⟨T',e1⟩,e2⟩:=wG h6;rw [zH] at e1;simp only [Op.load.injEq] at e1;have ab3:=M4 afU p' h5;unfold ER at ab3;rw [<- e1.2,tX,hv] at ab3;simp only [aj] at ab3;rcases e2 with ⟨e2,e3⟩ | ⟨U,a2,v2,e2,e3⟩
     ·exact (Vu e3 hgk).2 b (dG hb (ab1 pP hpl k)) cs e
     ·refine (Sp e3 hgk).2 b ?_ cs e
      rw [e2] at ab3 h8;have Mo:=afT MZ htk h8;have h9:=ab3.2;simp only at h9;rw [Mo] at h9;split at h9
      ·rename_i b2 ai6 e4
       refine .inl ⟨b2,ai6,e4,fun e5=>?_⟩;subst e5;simp at h9
      ·rename_i U' Tc' c' i' k' e4; exact .inr ⟨_,_,_,_,_,e4⟩
      ·simp at h9
   ·rw [h4]
  have amB:(kV P cfg S all L 0 A0).get b=some (.row cs e):=by
   rw [eU];rcases Nat.le_total m i with hle | hle
   ·have down:∀ d k,k+d=i->m<=k->(kV P cfg (fun j=>Nat.blt j k) all L 0 A0).get b=some (.row cs e):=by
     intro d
     induction d with
     | zero=>intro k hk _; have:k=i:=by omega
             rw [this]; exact dC
     | succ d ih=>
      intro k hk KN;refine (step k fun q x h1 h2 h3 OM=>?_).2 (ih (k+1) (by omega) (by omega));have h4:=hm k q x h1 h2 h3;have h5:S k=true:=hc.ready hf.UD ho jZ k (OM.1 (by omega));rw [h5] at h4;have h4:=h4.symm;rw [b7] at h4;omega
    exact down (i - m) m (by omega) (ao m)
   ·have up:∀ d,i+d<=m->(kV P cfg (fun j=>Nat.blt j (i+d)) all L 0 A0).get b=some (.row cs e):=by
     intro d
     induction d with
     | zero=>intro _; exact dC
     | succ d ih=>
      intro hd;refine (step (i+d) fun q x h1 h2 h3 OM=>?_).1 (ih (by omega));have h4:=hm (i+d) q x h1 h2 h3;have h5:Nat.blt (i+d) m=true:=by rw [b7]; omega
      rw [h5] at h4;by_cases hd0:d=0
      ·subst hd0
       rw [p7] at h4;rw [jD] at h4; simp at h4
      ·have:=hc (i+d) i h4 (OM.2 (by omega))
       rw [jD] at this; simp at this
    have:=up (m - i) (by omega);rwa [show i+(m - i)=m by omega] at this
  have zF:K.rowAt (kV P cfg S all L 0 A0) b=K.rowAt (kV P cfg (fun j=>Nat.blt j i) all L 0 A0) b:=by
   unfold K.rowAt;rw [dC,amB]
  show aA (match HR P T,size? P T with
    | some ag,some n=>match (K.rowAt (kV P cfg S all L 0 A0) b).bind fun cs=>r6 n (xY off cs) with
     | some l=>cond ag (.ok (.agg l)) (match l with | [v]=>.ok v | _=>.no)
     | none=>.no
    | _,_=>.no) u
  rw [zF];exact hg
 | _=>rw [hv] at hpd; simp at hpd
end
theorem Xo {R:Type} {cfg:fV} {cU:rm R} (eV:oX P cfg.pc) (hm:P.follows .mixedOrders=true) {id:Nat} {all:List Oper} {N base:Nat} (QK:all.all (tC N)=true) {k:bJ->ai->Option R} {r:R} {t:bJ} {A:ai} {B:St} {ρ:Ren} {a:Act} {w:World} {Q:Exit->Act->World->Prop}
  (OM:abq P cfg all=true) (h:Sd P cfg cU all (fun t' A'=>Bool.rec (motive:=fun _=>Option R) none (k t' A') (MH t' A.next (DQ P cfg all))) all t A=some r) (ht:jB P E ρ t N a) (hj:KJ P E A B ρ base w)
  (hq:∀ t' E' A' B' ak a' w',k t' A' = some r->jB P E' ak t' N a'->a'.defers=a.defers->Ev P base E A B ρ w E' A' B' ak w'->Q .normal a' w'):(Code.region id ⟨all⟩ true).wp P Q a w:=by
 have hf:=abW OM;obtain ⟨L,tn,An,ky,hk⟩:=O5 (fun o ho f args=>Q8 (hf.kind o ho) f args) h;obtain ⟨hlen,MZ,hAn,pP⟩:=ky.at;have hdk:MH tn A.next (DQ P cfg all)=true/\k tn An=some r:=by
  cases hd:MH tn A.next (DQ P cfg all) with
  | false=>simp only [hd] at hk; exact absurd hk (by simp)
  | true=>simp only [hd] at hk; exact ⟨rfl,hk⟩
 obtain ⟨afU,hk⟩:=hdk;have anO:AtK P cfg all L t A:=fun i o x ho hx=>by obtain ⟨t1,q1,_,q3,_⟩:=pP i o x ho hx; exact ⟨t1,q1,q3⟩
 have ajd:Ev P base E A B ρ w E A B ρ w.drew:=(cF.refl hj.k).ev (cp.drew hj.s);refine wp_region_any hm ?_;show wpAny P .any ⟨all⟩ Q all.length (Array.replicate all.length false) a w.drew;have Im:∀ i,(Array.replicate all.length false).getD i false=false:=by
  intro i;rw [dF,Array.getElem?_replicate];split <;> rfl
 let Inv:(Nat->Bool)->Act->World->Prop:=fun S a' w'=>∃ E' B' ak,a'.defers=a.defers/\Ev P base E A B ρ w.drew E' (kV P cfg S all L 0 A) B' ak w'/\jB P E' ak (se S all L 0 t) N a'
 refine Oz hf.UD Inv ?_ ?_ ?_ all.length _ a w.drew (by simp) ?_ (fun i j hi _=>by
   have h2:(Array.replicate all.length false).getD i false=true:=hi;rw [Im] at h2; simp at h2) ⟨E,B,ρ,rfl,?_,?_⟩
 ·
  rintro S S' a' w' hSS ⟨E',B',ak,h1,h2,h3⟩;have e1:kV P cfg S all L 0 A=kV P cfg S' all L 0 A:=C9 fun i o x ho _ _=>by rw [bG]; exact hSS i (cw.1 ho).1
  refine ⟨E',B',ak,h1,by rw [<- e1]; exact h2,h3.same fun y=>?_⟩;exact wF rfl fun i o ho _=>by rw [bG]; exact (hSS i (cw.1 ho).1).symm
 ·
  rintro S a' w' i o ⟨E',B',ak,h1,h2,h3⟩ hc ho jD jZ _;have hi:i < L.length:=by rw [hlen]; exact (cw.1 ho).1
  have hx:L[i]? = some L[i]:=cl hi;obtain ⟨t1,AK,hw,anP,OI⟩:=pP i o L[i] ho hx;have aje:∀ y∈Kc P cfg all o,t1.get y=(se S all L 0 t).get y:=fun y hy=>by rw [AK y,ad7 hf.toT hc ho jD jZ hy]
  have adN:=abZ h3 (fun y hy=>aje y (by unfold Kc; exact List.mem_append_left _ hy)) hw;have pX:∀ d,o.dst=some d->d < N:=by
   intro d ed;have:=dU.1 QK o (eS ho);unfold tC at this;rw [ed] at this;simp only at this;rw [b7] at this;exact this
  have hoA:(⟨all⟩:Array Oper)[i]? = some o:=by simpa using ho
  unfold wpOp;rw [hoA];simp only [adN];cases MU:L[i].1 with
  | false=>
   simp only [CN,if_false];have hv:=OI MU;refine ⟨E',B',ak,by rw [put_defers]; exact h1,?_,?_⟩
   ·rw [ux ho hx (by unfold turns; rw [MU]; rfl)]
    exact h2
   ·refine (h3.put pX VC.undef).same fun y=>?_
    rw [abX hf.toT hc ho hx jD y,hv]
  | true=>
   simp only [if_true];refine .inl ?_;have hg:=anP MU;have hgS:∃ A1,aA (xC (dq P cfg o.op) t1 (kV P cfg S all L 0 A)) (L[i].2.1,A1)/\kV P cfg (b8 S i) all L 0 A=A1:=by
    by_cases oP:je (dq P cfg o.op)=0
    ·refine ⟨_,ajb hg oP,ux ho hx ?_⟩
     unfold turns;rw [oP,show Nat.ble 3 0=false from rfl,Bool.and_false]
    ·by_cases eU:O8 P cfg all i
     ·rw [O9 (L:=L) (A0:=A) hf hc ho jD jZ eU]
      refine ⟨_,hg,?_⟩;cases MZ:turns P cfg o L[i] with
      | true=>exact ad8 hf hc ho hx jD jZ MZ
      | false=>
       have h4:=Vq hg (by simpa [turns,MU] using MZ);rw [ux ho hx MZ,O9 (L:=L) (A0:=A) hf hc ho jD jZ eU,h4]
     ·have hex:∃ T a,o.op = .load T a:=Classical.byContradiction fun bx=>eU (I3 hf ho oP fun T a e=>bx ⟨T,a,e⟩)
      obtain ⟨T,a',zH⟩:=hex;refine ⟨_,ab2 hf hc ho zH jD jZ eU anO MZ afU AK hg,ux ho hx ?_⟩;unfold turns;rw [BQ zH,show Nat.ble 3 1=false from rfl,Bool.and_false]
   obtain ⟨A1,OQ,hA1⟩:=hgS;refine Vp eV OQ (fun x hxm=>aja h3 fun y e=>aje y ?_) h2.kj fun I0 I1 mG v' xP h4 h5=>?_
   ·unfold Kc
    subst e;exact List.mem_append_right _ (pW hxm)
   ·refine ⟨I0,I1,mG,by rw [put_defers]; exact h1,?_,?_⟩
    ·rw [hA1]; exact h2.trans h5
    ·refine ((h3.mono h5.le (h5.gD.le h2.gD.dI)).put pX h4).same fun y=>?_
     rw [abX hf.toT hc ho hx jD y]
 ·
  rintro S a' w' gU ⟨E',B',ak,h1,h2,h3⟩;have e1:kV P cfg S all L 0 A=An:=by rw [hAn]; exact C9 fun i o x ho _ _=>by rw [bG]; exact gU i (cw.1 ho).1
  rw [e1] at h2;refine hq tn E' An B' ak a' w' hk (h3.same fun y=>?_) h1 (ajd.trans h2);rw [MZ y];exact wF rfl fun i o ho _=>by rw [bG]; exact (gU i (cw.1 ho).1).symm
 ·simp
 ·rw [M3 Im]
  exact .refl hj.k ajd.gD.dI
 ·refine ht.same fun y=>?_
  rw [Vt Im]
end Go.K
end
section
namespace Go.K
open Go Go.az
variable {P:Program} {E:Env}
structure Fr (E:Env) (A:ai) (B:St) (b0 y:Nat):Prop where
 lo:b0<=y
 hi:y < B.next
 un:∀ b,E.κ b≠some y
 z:E.z y=none
 xw : ¬ AT A E B y
end Go.K
end
section
namespace Go.K
open Go Go.az
variable {P:Program} {E:Env}
theorem ZZ {a:Act} {d:Tmp} {v:Value} (h:d < a.tmps.size):(a.put (some d) v).tmps.getD d undef=v:=by
 simp [Act.put,dF,h]
theorem afV {a:Act} {dst:Option Tmp} {d:Tmp} {v:Value} (h:dst≠some d):(a.put dst v).tmps.getD d undef=a.tmps.getD d undef:=by
 cases dst with
 | none=>rfl
 | some e=>
  have bx:e≠d:=fun q=>h (by rw [q]);simp [Act.put,dF,Array.getElem?_setIfInBounds_ne bx]
end Go.K
end
section
namespace Go.K
open Go Go.az
variable {P:Program} {E:Env}
section
variable {cfg:fV} {all os:List Oper} {L:List Out} {t0:bJ} {m:Nat}
end
end Go.K
end
