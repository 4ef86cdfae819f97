/- Part of the proof of ImageColors: a machine that runs the program's code over open terms, shown to be the model's, and the plain models of its functions. No conditions. -/
import Derived.Test.YtahhdndhkgbcjaaDp
section
namespace Go.K
open Go Go.aE
variable {P:Program} {E:Env}
theorem ef.akz {A A1:ax} {B:St} {T:TypeId} {acc:Nat→KV} (h:fK P E A B) (sk:A1.next=A.next) (HL:∀ c o,A1.get c=some o→A.get c=some o∨(o = .dead∧c < A.next)) (fq:1≤bg P T) :
  ef P E A B E (A1.new (.arr (.ts T .any 0 [] acc))) B:=by
 have aiZ:E.α A.next=none:=by
  cases hq:E.α A.next with
  | none=>rfl
  | some p=>have:=h.ar.lE _ p hq; omega
 have jV:∀ c o,(A1.new (.arr (.ts T .any 0 [] acc))).get c=some o→(c=A.next∧o = .arr (.ts T .any 0 [] acc))∨(o = .dead∧c < A.next)∨A.get c=some o:=fun c o hc=>by
  rw [ax.du,sk] at hc
  split at hc
  ·rename_i e; simp at hc; exact .inl ⟨e,hc.symm⟩
  ·rcases HL c o hc with e | e
   ·exact .inr (.inr e)
   ·exact .inr (.inl e)
 have uy:∀ c v,(A1.new (.arr (.ts T .any 0 [] acc))).get c=some (.arr v)→E.α c=none∨A.get c=some (.arr v):=fun c v hc=>by
  rcases jV c _ hc with ⟨e,_⟩ | ⟨e,_⟩ | e
  ·exact .inl (by rw [e]; exact aiZ)
  ·simp at e
  ·exact .inr e
 have hA:∀ c v y L N,(A1.new (.arr (.ts T .any 0 [] acc))).get c=some (.arr v)→E.α c=some (y,L,N)→A.get c=some (.arr v):=fun c v y L N hc hy=>by
  rcases uy c v hc with e | e
  ·rw [e] at hy; simp at hy
  ·exact e
 have qC:∀ y,AR (A1.new (.arr (.ts T .any 0 [] acc))) E y→AR A E y:=fun y ⟨c,v,L,N,h1,h2⟩=>⟨c,v,L,N,hA c v _ _ _ h1 h2,h2⟩
 have ET:∀ g,AF (A1.new (.arr (.ts T .any 0 [] acc))) E B g→AF A E B g:=fun g ⟨c,v,x,L,N,cs,e,own,k,h1,h2,h3⟩=>⟨c,v,x,L,N,cs,e,own,k,hA c v _ _ _ h1 h2,h2,h3⟩
 refine ⟨⟨fun c cs bW hc=>?_,fun c top sz hc=>?_,h.z,h.apart,h.inj,?_,fun b x e=>by rw [ax.cq,sk]; have:=h.lE b x e; omega,fun b g e=>by rw [ax.cq,sk]; have:=h.na b g e; omega,fun c o hc=>?_,h.gV,h.nm,h.kd,h.fresh,h.mem,?_⟩,Env.le_refl _,by rw [ax.cq,sk]; omega,fun _ _ _ _=>rfl,fun _ _ e=>.inl e,fun _ _ e=>.inl e,fun _ _ e=>.inl e,fun _ _ _ _=>rfl,fun x q=>.inl (qC x q),fun g q=>.inl (ET g q),fun _ _ q=>.inl q,fun y q=>.inl (q.imp (qC y) fun ⟨g,q1,q2⟩=>⟨g,ET g q1,q2⟩),nc fun _ _=>rfl⟩
 ·rcases jV c _ hc with ⟨_,e⟩ | ⟨e,_⟩ | e
  ·simp at e
  ·simp at e
  ·exact h.row c cs bW e
 ·rcases jV c _ hc with ⟨_,e⟩ | ⟨e,_⟩ | e
  ·simp at e
  ·simp at e
  ·exact h.bf c top sz e
 ·intro b c g tb sb tc sc hb hc e1 e2
  rcases jV b _ hb with ⟨_,e⟩ | ⟨e,_⟩ | hb
  ·simp at e
  ·simp at e
  rcases jV c _ hc with ⟨_,e⟩ | ⟨e,_⟩ | hc
  ·simp at e
  ·simp at e
  exact h.jJ b c g _ _ _ _ hb hc e1 e2
 ·rw [ax.cq,sk]
  rcases jV c _ hc with ⟨e,_⟩ | ⟨_,e⟩ | e
  ·omega
  ·omega
  ·have:=h.live c o e; omega
 ·refine ⟨fun c v hc=>?_,fun c v hc=>?_,fun x q=>h.ar.z x (qC x q),fun b c v u x L N L' N' h1 h2 h3 h4=>h.ar.inj b c v u x L N L' N' (hA b v _ _ _ h1 h3) (hA c u _ _ _ h2 h4) h3 h4,fun b c v u x y L N L' N' cs e own g k b8 e' o6 k' h1 h2 h3 h4=>h.ar.tu b c v u x y L N L' N' cs e own g k b8 e' o6 k' (hA b v _ _ _ h1 h3) (hA c u _ _ _ h2 h4) h3 h4,h.ar.X6,fun b p e=>by rw [ax.cq,sk]; have:=h.ar.lE b p e; omega,h.ar.gV,fun b v x L N cs e own g k h1 h2 h3=>?_,fun c v hc=>?_⟩
  ·rcases jV c _ hc with ⟨e,e2⟩ | ⟨e,_⟩ | e
   ·simp at e2
    subst e2
    exact ⟨T,0,[],acc,rfl,⟨rfl,fun i hi=>by omega,rfl⟩,fq,.inl ⟨rfl,by rw [e]; exact aiZ⟩⟩
   ·simp at e
   ·exact h.ar.arr c v e
  ·rcases jV c _ hc with ⟨_,e⟩ | ⟨e,_⟩ | e
   ·simp at e
   ·simp at e
   ·exact h.ar.jH c v e
  ·obtain ⟨q1,q2,q3⟩:=h.ar.rV b v x L N cs e own g k (hA b v _ _ _ h1 h2) h2 h3
   exact ⟨q1,q2,fun y hy en=>⟨(q3 y hy en).1,fun q=>(q3 y hy en).2.1 (qC y q),(q3 y hy en).2.2⟩⟩
  ·rw [ax.cq,sk]
   rcases jV c _ hc with ⟨e,_⟩ | ⟨e,_⟩ | e
   ·rw [e]
    refine ⟨Nat.lt_succ_self _,?_⟩
    cases hk:E.κ A.next with
    | none=>rfl
    | some x=>have:=h.lE _ x hk; omega
   ·simp at e
   ·obtain ⟨q1,q2⟩:=h.ar.nk c v e
    exact ⟨by omega,q2⟩
theorem aef {E:Env} {T:TypeId} {b x L N n c:Nat} (qa:E.α b=some (x,L,N)) (h1:n≤c) (h2:n≤N) (h3:c * bg P T=L):VK P E (.al T b 0 n) (.slice (some ⟨x,0,none⟩) n c):=
 .MW (.inr ⟨x,L,N,c,qa,by simp,h1,by omega,by rw [Nat.zero_add]; exact h3⟩)
theorem aeg {T b n:Nat} {z:Value} (hn:bg P T=n) (h1n:1≤n) (hz:z.cells.size=n) (he:dx (bw P T) (K.gm (bw P T) (gP z))=true):abx P (SS T b (K.gm (bw P T) (gP z))) (A4 n b z):=by
 intro E A A' B vs us v h hv hg
 unfold SS at hg
 split at hg
 ·rename_i k l k' c
  obtain ⟨x,y,rfl,h1,h2⟩:=hv.kS
  have:=h1.dv; subst this
  have:=h2.dv; subst this
  obtain ⟨hc,hg⟩:=aZ.lZ hg
  simp only [Prod.mk.injEq] at hg
  obtain ⟨rfl,rfl⟩:=hg
  simp only [Bool.and_eq_true,decide_eq_true_eq] at hc
  obtain ⟨⟨h3,h4⟩,h5⟩:=hc
  obtain ⟨l',rfl⟩:=Int.eq_ofNat_of_zero_le h3
  obtain ⟨c',rfl⟩:=Int.eq_ofNat_of_zero_le (Int.le_trans h3 h4)
  have h6:Nat.ble l' c' = true:=Nat.ble_eq_true_of_le (by omega)
  have hs:∀ v∈List.replicate c' z,v.cells.size=n:=fun v hv=>by rw [List.eq_of_mem_replicate hv]; exact hz
  have hlen:(bH (List.replicate c' z)).length=c' * n:=by rw [js hs,List.length_replicate]
  have HO:∀ m,dW [K.gm (bw P T) (gP z)] m=List.replicate m (K.gm (bw P T) (gP z)):=fun m=>by
   induction m with
   | zero=>rfl
   | succ m ih=>simp [dW,ih,List.replicate_succ]
  have iM:=ef.Qf (P:=P) (X:=fun _=>False) (G:=fun _=>False) (y2:=B.next) (N2:=c') (T:=T) (o4:=dW [K.gm (bw P T) (gP z)] c') (fT:=fun _=>K.gm (bw P T) (gP z)) (BZ:=List.replicate c' z) (lF:=bH (List.replicate c' z)) (ra:=none) (A1:=A) (B':=B.new (.row (bH (List.replicate c' z)) n true none)) h rfl (fun _ _ e=>.inl e) (fun _ _ _ _ _ _ _=>⟨id,fun _ _ _ _ _ _=>id⟩) (fun _ e=>e.elim) (fun _ e=>e.elim) (.inr (Nat.le_refl _)) (by simp) (by simp [hn]) (fun _ _ e=>by simp at e)
   (fun y hy _=>.inl (by rw [St.du,if_neg (by omega)])) (fun _ e=>e.elim) (fun q y hy=>.inl (by simpa using hy)) (fun q _=>by simp) (by simp) (fun g hg=>by rw [St.la]; exact h.fresh g (by rw [St.cq] at hg; omega)) (fun g y hy=>by rw [St.la] at hy; rw [St.cq]; have:=h.mem g y hy; omega)
   (by omega) ⟨by rw [HO]; simp,fun i hi=>by rw [HO,List.getD_eq_getElem?_getD,List.getElem?_replicate,if_pos hi]; rfl,by
    rw [HO]
    exact oD fun i x hx=>by rw [List.getElem?_replicate] at hx; split at hx <;> simp at hx; subst hx; exact he⟩ (by
    rw [HO]
    generalize c' = m
    induction m with
    | zero=>exact .nil
    | succ m ih=>exact .cons (VK.gP z).gm ih) (by rw [hn]; exact mK hs)
  refine ⟨.row (gk z.cells.toList c') n true none,fun k=>.slice (some ⟨k,0,none⟩) l' c',E.B6 A.next (B.next,(bH (List.replicate c' z)).length,c'),?_,?_,?_⟩
  ·have h5:Nat.ble (b * c') 281474976710656=true:=h5
   show cond (Nat.ble l' c'&&Nat.ble (b * c') 281474976710656) _ _=_
   rw [h6,h5]
   rfl
  ·exact aef Env.zZ (by omega) (by show l'≤c'; omega) (by rw [hn,hlen])
  ·rw [Cj]; exact iM
 ·exact hg.elim
theorem ahL {T b n:Nat} {z:Value} (hn:bg P T=n) (_:1≤n) (hz:z.cells.size=n) (he:dx (bw P T) (K.gm (bw P T) (gP z))=true):aiV P (acs T b (K.gm (bw P T) (gP z))) (A4 n b z):=by
 intro E A B vs us v h hv hg
 unfold acs at hg
 split at hg
 ·rename_i k l k' c
  obtain ⟨x,y,rfl,h1,h2⟩:=hv.kS
  have:=h1.dv; subst this
  have:=h2.dv; subst this
  obtain ⟨hc,hg⟩:=aZ.lZ hg
  subst hg
  simp only [Bool.and_eq_true,decide_eq_true_eq] at hc
  obtain ⟨⟨h3,h4⟩,h5⟩:=hc
  obtain ⟨l',rfl⟩:=Int.eq_ofNat_of_zero_le h3
  obtain ⟨c',rfl⟩:=Int.eq_ofNat_of_zero_le (Int.le_trans h3 h4)
  have DL:l'≤c':=by omega
  have h6:Nat.ble l' c' = true:=Nat.ble_eq_true_of_le DL
  have hs:∀ v∈List.replicate c' z,v.cells.size=n:=fun v hv=>by rw [List.eq_of_mem_replicate hv]; exact hz
  have HO:∀ m,dW [K.gm (bw P T) (gP z)] m=List.replicate m (K.gm (bw P T) (gP z)):=fun m=>by
   induction m with
   | zero=>rfl
   | succ m ih=>simp [dW,ih,List.replicate_succ]
  have zD:∀ m,bd P E (List.replicate m (K.gm (bw P T) (gP z))) (List.replicate m z):=fun m=>by
   induction m with
   | zero=>exact .nil
   | succ m ih=>exact .cons (VK.gP z).gm ih
  refine ⟨.row (gk z.cells.toList c') n true none,fun k=>.slice (some ⟨k,0,none⟩) l' c',E.gx B.next ⟨bH (List.replicate c' z),n,true,none⟩,?_,?_,?_⟩
  ·have h5:Nat.ble (b * c') 281474976710656=true:=h5
   show cond (Nat.ble l' c'&&Nat.ble (b * c') 281474976710656) _ _=_
   rw [h6,h5]
   rfl
  ·have afQ:=(zD l').mono (ef.agO (b8:=bH (List.replicate c' z)) (bW:=n) h).le
   simp only [VK]
   refine ⟨⟨by rw [HO]; simp,fun i hi=>by rw [HO,List.getD_eq_getElem?_getD,List.getElem?_replicate,if_pos hi]; rfl,by
    rw [HO]
    exact oD fun i x hx=>by rw [List.getElem?_replicate] at hx; split at hx <;> simp at hx; subst hx; exact he⟩,List.replicate l' z,by rw [HO]; exact afQ,some ⟨B.next,0,none⟩,c',rfl,DL,.inr ⟨B.next,0,⟨bH (List.replicate c' z),n,true,none⟩,rfl,by simp [Env.gx],hn.symm,?_⟩,trivial⟩
   rw [hn]
   intro i x hx
   rw [List.getElem?_replicate] at hx
   split at hx
   ·rename_i hi
    refine mK hs i x ?_
    rw [List.getElem?_replicate,if_pos (by have hi:i < l':=hi; omega)]
    exact hx
   ·simp at hx
  ·rw [Cj]; exact ef.agO h
 ·exact hg.elim
theorem Tb {sz:Nat} {cs:List Value} {xs ys:List Value} (h:od sz 0 cs xs) (k:od sz (xs.length * sz) cs ys):od sz 0 cs (xs++ys):=fun i x hi=>by
 by_cases bU:i < xs.length
 ·rw [List.getElem?_append_left bU] at hi; exact h i x hi
 ·rw [List.getElem?_append_right (by omega)] at hi
  obtain ⟨h1,h2⟩:=k _ x hi
  refine ⟨h1,fun j y hy=>?_⟩
  rw [← h2 j y hy]
  congr 1
  have:i * sz=xs.length * sz+(i - xs.length) * sz:=by rw [← Nat.add_mul]; congr 1; omega
  omega
theorem U6 {sz o:Nat} {cs r news:List Value} (hs:∀ v∈news,v.cells.size=sz) (hw:hX (o * sz) cs (bH news)=some r):od sz (o * sz) r news:=fun i x hi=>by
 have FE:=mK hs i x hi
 have hlen:=js hs
 obtain ⟨_,_,h3⟩:=iV hw
 refine ⟨FE.1,fun k y hy=>?_⟩
 have h4:=FE.2 k y hy
 rw [Nat.zero_add] at h4
 rw [h3,if_pos ⟨by omega,by have:=(List.getElem?_eq_some_iff.1 h4).1; omega⟩,← h4]
 congr 1
 omega
theorem Yw {sz o:Nat} {cs r vs es:List Value} (hl:od sz 0 cs es) (ho:es.length≤o) (hw:hX (o * sz) cs vs=some r) (_:1≤sz):od sz 0 r es:=fun i x hi=>by
 obtain ⟨h1,h2⟩:=hl i x hi
 obtain ⟨_,_,h3⟩:=iV hw
 refine ⟨h1,fun k y hy=>?_⟩
 have hk:k < sz:=by have:=(Array.getElem?_eq_some_iff.1 hy).1; omega
 have Pu:=(List.getElem?_eq_some_iff.1 hi).1
 have bU:0+i * sz+k < o * sz:=by
  have:(i+1) * sz≤o * sz:=Nat.mul_le_mul_right _ (by omega)
  rw [Nat.add_mul] at this
  omega
 rw [h3,if_neg (by omega)]
 exact h2 k y hy
theorem afY {A:ax} {B:St} {f:Nat} {o0:jt} (h:fK P E A B) (hA:A.get f=some o0):∀ c o,(A.put f .dead).get c=some o→A.get c=some o∨(o = .dead∧c < A.next):=fun c o hc=>by
 rw [ax.b9] at hc
 split at hc
 ·rename_i e; simp at hc; subst hc e; exact .inr ⟨rfl,h.live _ _ hA⟩
 ·exact .inl hc
theorem Qg {B:St} {g k:Nat} {c:List Value} {n:Nat} (_:g≤B.next):(∀ x,(B.grow g k c n).get x=if x=B.next then some (.row c n true (some (g,k))) else B.get x)∧(∀ q,(B.grow g k c n).members q=if q=g then B.next::B.members g else B.members q)∧(B.grow g k c n).next=B.next+1:=
 ⟨fun x=>by simp [St.grow],fun q=>by simp [St.grow,St.Aw],rfl⟩
theorem Yx {e b:Nat} {E:Env} {A A' : ax} {B:St} {x v:KV} {u w:Value} {e' : TypeId} {mk:Mk} {k:Nat} {new:List KV} {acc:Nat→KV} (tv:1≤bg P e) (h:fK P E A B) (h1:VK P E x u)
  (hsr:Nat.beq e e' = true→∃ bq,Src P E B e' k new acc w bq) (hg:aZ (CG e b A [x,.ts e' mk k new acc]) (v,A')):∃ r B' E',ma (bg P e) b B [u,w] = some (r,B')∧VK P E' v r∧ef P E A B E' A' B':=by
 have put:∀ (A1:ax) (m:Nat) (base:List KV) (ab:Nat→KV) (more:Bool) (A2:ax) (v:KV),aZ (Xa e b m base ab A1 k new acc more) (v,A2)→
   (more=true∧Nat.ble ((m+k+512) * b) 17592186044416=true∧Nat.ble (m+k) 17592186044416=true)∧v = .al e A1.next 0 (m+k)∧A2=A1.new (.arr (.ts e .any (m+k) (base++new) (fw m ab acc))):=by
  intro A1 m base ab more A2 v hp
  obtain ⟨hc,hp⟩:=aZ.lZ hp
  simp only [agI,Bool.and_eq_true] at hc
  simp only [Prod.mk.injEq] at hp
  exact ⟨⟨hc.1,hc.2.1,hc.2.2⟩,hp.1.symm,hp.2.symm⟩
 have nil:∀ (A1:ax) (base:List KV) (ab:Nat→KV),base = []→A1.next=A.next→(∀ c o,A1.get c=some o→A.get c=some o∨(o = .dead∧c < A.next))→(∃ bq,Src P E B e k new acc w bq)→Nat.ble ((0+k+512) * b) 17592186044416=true→Nat.ble (0+k) 17592186044416=true→
   ∃ r B' E',ma (bg P e) b B [.slice none 0 0,w] = some (r,B')∧VK P E' (.al e A.next 0 (0+k)) r∧ef P E A B E' (A1.new (.arr (.ts e .any (0+k) (base++new) (fw 0 ab acc)))) B':=by
  intro A1 base ab Yu hn1 hr1 ⟨cJ,kf⟩ zR rb
  subst Yu
  have hj:iX P e (0+k) ([]++new) (fw 0 ab acc):=(iX.none (P:=P) (T:=e) (g:=ab)).join kf.tree
  cases k with
  | zero=>
   have m4:new = []:=List.length_eq_zero_iff.1 kf.tree.len.symm
   subst m4
   refine ⟨.slice none 0 0,B,E,?_,.MW (.inl ⟨rfl,rfl,rfl⟩),ef.akz h hn1 hr1 tv⟩
   simp only [ma,kf.len,Option.bind_some,kf.all]
   rfl
  | succ k=>
   obtain ⟨g1,g2,g3⟩:=Qg (B:=B) (g:=B.next) (k:=0) (c:=bH cJ) (n:=bg P e) (Nat.le_refl _)
   have hlen:(bH cJ).length=(k+1) * bg P e:=by rw [js kf.size,kf.length]
   refine ⟨.slice (some ⟨B.next,0,none⟩) (k+1) (k+1),B.grow B.next 0 (bH cJ) (bg P e),E.B6 A.next (B.next,(bH cJ).length,0+(k+1)),?_,?_,?_⟩
   ·simp only [Nat.zero_add] at zR rb
    simp only [ma,kf.len,Option.bind_some,Nat.zero_add]
    rw [show Nat.ble (k+1) 0=false from rfl,cond_false,zR,rb,kf.all]
    rfl
   ·rw [Nat.zero_add]; exact aef Env.zZ (Nat.le_refl _) (by omega) (by rw [hlen])
   ·generalize B.grow B.next 0 (bH cJ) (bg P e)=B' at g1 g2 g3
    exact ef.Qf (X:=fun _=>False) (G:=fun _=>False) (y2:=B.next) (ra:=some (B.next,0)) h hn1 hr1 (fun _ _ _ _ _ _ _=>⟨id,fun _ _ _ _ _ _=>id⟩) (fun _ e=>e.elim) (fun _ e=>e.elim) (.inr (Nat.le_refl _)) (by omega) (by rw [g1,if_pos rfl]) (fun g k e=>by simp at e; exact .inr (by omega))
     (fun y hy _=>.inl (by rw [g1,if_neg (by omega)])) (fun _ e=>e.elim) (fun q y hy=>by
      rw [g2] at hy
      split at hy
      ·rename_i e
       subst e
       rcases List.mem_cons.1 hy with hy | hy
       ·exact .inr ⟨hy,Nat.le_refl _,0,rfl⟩
       ·exact .inl hy
      ·exact .inl hy) (fun q hq=>by rw [g2,if_neg (fun e=>hq 0 (by rw [e]))]) (by omega) (fun g hg=>by rw [g2,if_neg (by omega)]; exact h.fresh g (by omega)) (fun g y hy=>by
      rw [g2] at hy
      split at hy
      ·rcases List.mem_cons.1 hy with hy | hy
       ·omega
       ·have:=h.mem _ y hy; omega
      ·have:=h.mem g y hy; omega) tv hj (by simpa using kf.rel) (mK kf.size)
 unfold CG at hg
 split at hg
 ·rename_i e9 mk9 k9 agV agW heq
  simp only [List.cons.injEq,KV.ts.injEq,and_true] at heq
  obtain ⟨rfl,rfl,rfl,rfl,rfl,rfl⟩:=heq
  have:=h1.nX; subst this
  obtain ⟨he,HJ⟩:=hg.cond
  have kf:=hsr he
  have:=Nat.eq_of_beq_eq_true he
  subst this
  obtain ⟨⟨_,zR,rb⟩,rfl,rfl⟩:=put _ _ _ _ _ _ _ HJ
  exact nil A [] ob rfl rfl (fun _ _ e=>.inl e) kf zR rb
 ·rename_i e1 f o n e9 mk9 k9 agV agW heq
  simp only [List.cons.injEq,KV.ts.injEq,and_true] at heq
  obtain ⟨rfl,rfl,rfl,rfl,rfl,rfl⟩:=heq
  split at hg
  ·rename_i e2 mk2 N es ac hf
   obtain ⟨he,HJ⟩:=hg.cond
   simp only [Bool.and_eq_true] at he
   obtain ⟨cJ,kf⟩:=hsr he.1.1
   have:=Nat.eq_of_beq_eq_true he.1.1
   subst this
   have:=Nat.eq_of_beq_eq_true he.1.2
   subst this
   have:=Nat.eq_of_beq_eq_true he.2
   subst this
   obtain ⟨⟨ho,zR,rb⟩,rfl,rfl⟩:=put _ _ _ _ _ _ _ HJ
   have:=Nat.eq_of_beq_eq_true ho
   subst this
   have HL:=afY h hf
   rcases h1.vc with ⟨rfl,_,rfl⟩ | ⟨x,L,N0,c,h2,rfl,h3,h4,h5⟩
   ·exact nil (A.put f .dead) (es.take 0) ac (by simp) rfl HL ⟨cJ,kf⟩ zR rb
   ·obtain ⟨T2,N2,o4,fT,e2,ht,_,vW⟩:=h.ar.arr f _ hf
    simp only [KV.ts.injEq] at e2
    obtain ⟨rfl,rfl,rfl,rfl,rfl⟩:=e2
    rcases vW with ⟨_,e2⟩ | ⟨x2,cs,bQ,bq,e2,h6,h7,h8⟩
    ·rw [h2] at e2; simp at e2
    rw [h2] at e2
    simp only [Option.some.injEq,Prod.mk.injEq] at e2
    obtain ⟨rfl,rfl,rfl⟩:=e2
    have qC:AR A E x:=⟨f,_,_,_,hf,h2⟩
    have hxlt:x < B.next:=h.D9 qC
    have afU:bq.length=N0:=by rw [h7.length]; exact ht.len.symm
    have hs:=ou ht.typed h7
    have htk:iX P e n (es.take n) ac:=⟨by rw [List.length_take,← ht.len]; omega,fun i hi=>by rw [ht.acc i (by omega),List.getD_eq_getElem?_getD,List.getD_eq_getElem?_getD,List.getElem?_take,if_pos hi],oD fun i x hi=>by
     rw [List.getElem?_take] at hi
     split at hi
     ·exact ke ht.typed hi
     ·simp at hi⟩
    have hj:=htk.join kf.tree
    have JS:(bq.take n).length=n:=by rw [List.length_take]; omega
    have amb:∀ v∈bq.take n,v.cells.size=bg P e:=fun v hv=>(hs v (List.mem_of_mem_take hv)).1
    have zD:=(h7.take n).append kf.rel
    have h5:c * bg P e=cs.length:=by simpa using h5
    have pw:∀ c v,(A.put f .dead).get c=some (.arr v)→c≠f∧A.get c=some (.arr v):=fun c v hc=>by
     rw [ax.b9] at hc
     split at hc
     ·simp at hc
     ·rename_i e; exact ⟨e,hc⟩
    have hf1:∀ c v,(A.put f .dead).get c=some (.arr v)→∀ y L N,E.α c=some (y,L,N)→¬ (y=x)∧∀ oq e1 own g k1,B.get y=some (.row oq e1 own (some (g,k1)))→¬ (∃ k,bQ=some (g,k)):=fun c v hc y L N hy=>by
     obtain ⟨en,hc⟩:=pw c v hc
     refine ⟨fun e=>en (h.ar.inj c f v _ x L N _ _ hc hf (by rw [← e]; exact hy) h2),fun oq e1 own g k1 hr ⟨k2,hk⟩=>?_⟩
     rw [hk] at h6
     exact en (h.ar.tu c f v _ y x L N _ _ _ _ _ g k1 _ _ _ k2 hc hf hy h2 hr h6)
    have hf3:∀ g,(∃ k,bQ=some (g,k))→AF A E B g∧g < B.next∧(∀ f,E.φ f≠some g)∧∀ y∈B.members g,¬ (y=x)→E.z y=none∧¬ AR A E y∧∀ c,E.κ c≠some y:=fun g ⟨k2,hk⟩=>by
     rw [hk] at h6
     obtain ⟨q1,q2,q3⟩:=h.ar.rV f _ x _ _ _ _ _ g k2 hf h2 h6
     exact ⟨⟨f,_,x,_,_,_,_,_,k2,hf,h2,h6⟩,q1,q2,fun y hy en=>q3 y hy en⟩
    have akA:dm (⟨x,0 * bg P e,none⟩:Addr)=true:=rfl
    by_cases oB:n+k≤c
    ·
     have hle:n * bg P e+(bH cJ).length≤cs.length:=by
      rw [js kf.size,kf.length,← h5,← Nat.add_mul]
      exact Nat.mul_le_mul_right _ oB
     obtain ⟨lF,hw⟩:=yI (n * bg P e) cs (bH cJ) hle
     have hcl:lF.length=cs.length:=(iV hw).1
     have VW:(bH cJ).all scalar=true:=List.all_eq_true.2 (AA fun v hv=>(ou kf.tree.typed kf.rel v hv).2)
     have hb:Nat.ble (n+k) c=true:=Nat.ble_eq_true_of_le oB
     refine ⟨.slice (some ⟨x,0 * bg P e,none⟩) (n+k) c,(B.put x (.row lF (bg P e) true bQ)).eH x bQ (n * bg P e) (n * bg P e+(bH cJ).length),E.B6 A.next (x,lF.length,n+k),?_,?_,?_⟩
     ·simp only [ma,kf.len,Option.bind_some,hb,cond_true,kf.all,akA]
      simp only [St.wY,dm,Option.isNone_none,Bool.true_and,VW,cond_true,Nat.zero_mul,Nat.zero_add,h6,hw,Option.map_some]
     ·rw [Nat.zero_mul]; exact aef Env.zZ oB (Nat.le_refl _) (by rw [hcl]; exact h5)
     ·have jx:((B.put x (.row lF (bg P e) true bQ)).eH x bQ (n * bg P e) (n * bg P e+(bH cJ).length)).get x=some (.row lF (bg P e) true bQ):=by
       rcases Cl (B:=B.put x (.row lF (bg P e) true bQ)) (x:=x) (y:=x) (lo:=n * bg P e) (hi:=n * bg P e+(bH cJ).length) (bQ:=bQ) with e | ⟨g,k,_,_,h3,_⟩
       ·rw [e]; simp
       ·exact absurd rfl h3
      have hgy:∀ y,y≠x→((B.put x (.row lF (bg P e) true bQ)).eH x bQ (n * bg P e) (n * bg P e+(bH cJ).length)).get y=B.get y∨(((B.put x (.row lF (bg P e) true bQ)).eH x bQ (n * bg P e) (n * bg P e+(bH cJ).length)).get y=some .dead∧∃ g,(∃ k,bQ=some (g,k))∧y∈B.members g):=by
       intro y hy
       rcases Cl (B:=B.put x (.row lF (bg P e) true bQ)) (x:=x) (y:=y) (lo:=n * bg P e) (hi:=n * bg P e+(bH cJ).length) (bQ:=bQ) with e | ⟨g,k,h1,h2,_,h4,_⟩
       ·exact .inl (by rw [e,St.b9,if_neg hy])
       ·exact .inr ⟨h4,g,⟨k,h1⟩,by simpa using h2⟩
      have kJ:((B.put x (.row lF (bg P e) true bQ)).eH x bQ (n * bg P e) (n * bg P e+(bH cJ).length)).members=B.members:=by rw [F2]; simp
      have iW:((B.put x (.row lF (bg P e) true bQ)).eH x bQ (n * bg P e) (n * bg P e+(bH cJ).length)).next=B.next:=by rw [M5]; simp
      generalize (B.put x (.row lF (bg P e) true bQ)).eH x bQ (n * bg P e) (n * bg P e+(bH cJ).length)=B' at jx hgy kJ iW
      have hli:od (bg P e) 0 lF (bq.take n++cJ):=Tb (Yw (h8.take n) (by omega) hw tv) (by rw [JS]; exact U6 kf.size hw)
      exact ef.Qf (A1:=A.put f .dead) (X:=fun y=>y=x) (G:=fun g=>∃ k,bQ=some (g,k)) (y2:=x) (ra:=bQ) h rfl HL hf1 (fun y hy=>by rw [hy]; exact qC) hf3 (.inl rfl) (by omega) jx (fun g k hk=>.inl ⟨k,hk⟩)
       (fun y _ en=>hgy y en) (fun y hy oq e1 own Qe hr=>by
        rw [hy,jx] at hr
        simp at hr
        obtain ⟨rfl,rfl,rfl,rfl⟩:=hr
        rw [hy]
        exact ⟨cs,h6,hcl.symm⟩) (fun q y hy=>.inl (by rw [kJ] at hy; exact hy)) (fun q _=>by rw [kJ]) (by omega) (fun g hg=>by rw [kJ]; exact h.fresh g (by omega)) (fun g y hy=>by rw [kJ] at hy; rw [iW]; exact h.mem g y hy) tv hj zD hli
    ·
     have hb:Nat.ble (n+k) c=false:=by
      cases hq:Nat.ble (n+k) c with
      | false=>rfl
      | true=>exact absurd (Nat.le_of_ble_eq_true hq) oB
     have hex:s6 B (bg P e) c (some ⟨x,0 * bg P e,none⟩)=true:=by
      simp only [s6,h6]
      cases bQ with
      | none=>simp [h5]
      | some p=>rfl
     have hold:B.vT ⟨x,0 * bg P e,none⟩ (n * bg P e)=some (bH (bq.take n)):=by
      have:=HM (B:=B) (b:=x) (off:=0) (n:=n) (sz:=bg P e) (r:=⟨cs,bg P e,true,bQ⟩) (bq:=bq.take n) h6 (h8.take n) JS tv
      simpa using this
     have afZ:∀ v∈bq.take n++cJ,v.cells.size=bg P e:=fun v hv=>by
      rcases List.mem_append.1 hv with hv | hv
      ·exact amb v hv
      ·exact kf.size v hv
     have hlen:(bH (bq.take n++cJ)).length=(n+k) * bg P e:=by rw [js afZ,List.length_append,JS,kf.length]
     cases bQ with
     | none=>
      obtain ⟨g1,g2,g3⟩:=Qg (B:=B) (g:=B.next) (k:=0) (c:=bH (bq.take n++cJ)) (n:=bg P e) (Nat.le_refl _)
      refine ⟨.slice (some ⟨B.next,0,none⟩) (n+k) (n+k),B.grow B.next 0 (bH (bq.take n++cJ)) (bg P e),E.B6 A.next (B.next,(bH (bq.take n++cJ)).length,n+k),?_,?_,?_⟩
      ·simp only [ma,kf.len,Option.bind_some,hb,cond_false,zR,rb,hex,Bool.and_self,cond_true,kf.all]
       simp only [CS,dm,Option.isNone_none,cond_true,hold,Option.bind_some,h6,Nat.beq_refl,← wH]
      ·exact aef Env.zZ (Nat.le_refl _) (Nat.le_refl _) (by rw [hlen])
      ·generalize B.grow B.next 0 (bH (bq.take n++cJ)) (bg P e)=B' at g1 g2 g3
       exact ef.Qf (A1:=A.put f .dead) (X:=fun _=>False) (G:=fun _=>False) (y2:=B.next) (ra:=some (B.next,0)) h rfl HL (fun _ _ _ _ _ _ _=>⟨id,fun _ _ _ _ _ _=>id⟩) (fun _ e=>e.elim) (fun _ e=>e.elim) (.inr (Nat.le_refl _)) (by omega) (by rw [g1,if_pos rfl]) (fun g k e=>by simp at e; exact .inr (by omega))
        (fun y hy _=>.inl (by rw [g1,if_neg (by omega)])) (fun _ e=>e.elim) (fun q y hy=>by
         rw [g2] at hy
         split at hy
         ·rename_i e
          subst e
          rcases List.mem_cons.1 hy with hy | hy
          ·exact .inr ⟨hy,Nat.le_refl _,0,rfl⟩
          ·exact .inl hy
         ·exact .inl hy) (fun q hq=>by rw [g2,if_neg (fun e=>hq 0 (by rw [e]))]) (by omega) (fun g hg=>by rw [g2,if_neg (by omega)]; exact h.fresh g (by omega)) (fun g y hy=>by
         rw [g2] at hy
         split at hy
         ·rcases List.mem_cons.1 hy with hy | hy
          ·omega
          ·have:=h.mem _ y hy; omega
         ·have:=h.mem g y hy; omega) tv hj zD (mK afZ)
     | some p=>
      obtain ⟨g,k0⟩:=p
      have hgB:g < B.next:=(hf3 g ⟨k0,rfl⟩).2.1
      have kg:∀ y,(B.kill B.next (k0+(0+n * bg P e)) (k0+(0+n * bg P e)+(bH cJ).length) (B.members g)).get y=B.get y∨((B.kill B.next (k0+(0+n * bg P e)) (k0+(0+n * bg P e)+(bH cJ).length) (B.members g)).get y=some .dead∧y∈B.members g):=fun y=>by
       rw [zP]
       by_cases hc:y∈B.members g∧y≠B.next∧qA (B.get y) (k0+(0+n * bg P e)) (k0+(0+n * bg P e)+(bH cJ).length)=true
       ·exact .inr ⟨by rw [if_pos hc],hc.1⟩
       ·exact .inl (by rw [if_neg hc])
      have km:(B.kill B.next (k0+(0+n * bg P e)) (k0+(0+n * bg P e)+(bH cJ).length) (B.members g)).members=B.members:=by simp
      have kn:(B.kill B.next (k0+(0+n * bg P e)) (k0+(0+n * bg P e)+(bH cJ).length) (B.members g)).next=B.next:=by simp
      obtain ⟨g1,g2,g3⟩:=Qg (B:=B.kill B.next (k0+(0+n * bg P e)) (k0+(0+n * bg P e)+(bH cJ).length) (B.members g)) (g:=g) (k:=k0+0) (c:=bH (bq.take n++cJ)) (n:=bg P e) (by omega)
      rw [kn] at g3
      have g1:∀ y,y≠B.next→_:=fun y hy=>(g1 y).trans (if_neg (by rw [kn]; exact hy))
      have g1':=(Qg (B:=B.kill B.next (k0+(0+n * bg P e)) (k0+(0+n * bg P e)+(bH cJ).length) (B.members g)) (g:=g) (k:=k0+0) (c:=bH (bq.take n++cJ)) (n:=bg P e) (by omega)).1 B.next
      rw [kn,if_pos rfl] at g1'
      simp only [km,kn] at g2
      refine ⟨.slice (some ⟨B.next,0,none⟩) (n+k) (n+k),(B.kill B.next (k0+(0+n * bg P e)) (k0+(0+n * bg P e)+(bH cJ).length) (B.members g)).grow g (k0+0) (bH (bq.take n++cJ)) (bg P e),E.B6 A.next (B.next,(bH (bq.take n++cJ)).length,n+k),?_,?_,?_⟩
      ·simp only [ma,kf.len,Option.bind_some,hb,cond_false,zR,rb,hex,Bool.and_self,cond_true,kf.all]
       have acG:=hold
       rw [Nat.zero_mul] at acG
       simp only [CS,dm,Option.isNone_none,cond_true,Nat.zero_mul,acG,Option.bind_some,h6,Nat.beq_refl,← wH]
      ·exact aef Env.zZ (Nat.le_refl _) (Nat.le_refl _) (by rw [hlen])
      ·generalize (B.kill B.next (k0+(0+n * bg P e)) (k0+(0+n * bg P e)+(bH cJ).length) (B.members g)).grow g (k0+0) (bH (bq.take n++cJ)) (bg P e)=B' at g1 g1' g2 g3
       have gy:∀ y,y≠B.next→B'.get y=B.get y∨(B'.get y=some .dead∧y∈B.members g):=fun y hy=>by
        rw [g1 y hy]; exact kg y
       exact ef.Qf (A1:=A.put f .dead) (X:=fun y=>y=x) (G:=fun q=>∃ k,some (g,k0)=some (q,k)) (y2:=B.next) (ra:=some (g,k0+0)) h rfl HL hf1 (fun y hy=>by rw [hy]; exact qC) hf3 (.inr (Nat.le_refl _)) (by omega) g1' (fun q k e=>by simp at e; exact .inl ⟨k0,by rw [e.1]⟩)
        (fun y hy _=>(gy y (by omega)).imp id fun ⟨q1,q2⟩=>⟨q1,g,⟨k0,rfl⟩,q2⟩) (fun y hy oq e1 own Qe hr=>by
         have hy:y=x:=hy
         rcases gy y (by omega) with q | ⟨q,_⟩
         ·rw [q] at hr; exact ⟨oq,hr,rfl⟩
         ·rw [q] at hr; simp at hr) (fun q y hy=>by
         rw [g2] at hy
         split at hy
         ·rename_i e
          subst e
          rcases List.mem_cons.1 hy with hy | hy
          ·exact .inr ⟨hy,Nat.le_refl _,k0+0,rfl⟩
          ·exact .inl hy
         ·exact .inl hy) (fun q hq=>by rw [g2,if_neg (fun e=>hq (k0+0) (by rw [e]))]) (by omega) (fun q hq=>by rw [g2,if_neg (by omega)]; exact h.fresh q (by omega)) (fun q y hy=>by
         rw [g2] at hy
         split at hy
         ·rcases List.mem_cons.1 hy with hy | hy
          ·omega
          ·have:=h.mem _ y hy; omega
         ·have:=h.mem q y hy; omega) tv hj zD (mK afZ)
  ·exact hg.elim
 ·exact hg.elim
theorem ef.alx {A:ax} {B:St} {b:Nat} {v2:KV} (h:fK P E A B) (hb:∃ v,A.get b=some (.arr v)) (cg:X5 P E B b v2):ef P E A B E (A.put b (.arr v2)) B:=by
 obtain ⟨v0,hb⟩:=hb
 have jV:∀ c o,(A.put b (.arr v2)).get c=some o→(c=b∧o = .arr v2)∨A.get c=some o:=fun c o hc=>by
  rw [ax.b9] at hc
  split at hc
  ·rename_i e; simp at hc; exact .inl ⟨e,hc.symm⟩
  ·exact .inr hc
 have hA:∀ c v,(A.put b (.arr v2)).get c=some (.arr v)→∃ u,A.get c=some (.arr u):=fun c v hc=>by
  rcases jV c _ hc with ⟨e,_⟩ | e
  ·exact ⟨v0,by rw [e]; exact hb⟩
  ·exact ⟨v,e⟩
 have qC:∀ y,AR (A.put b (.arr v2)) E y→AR A E y:=fun y ⟨c,v,L,N,h1,h2⟩=>by
  obtain ⟨u,hu⟩:=hA c v h1
  exact ⟨c,u,L,N,hu,h2⟩
 have ET:∀ g,AF (A.put b (.arr v2)) E B g→AF A E B g:=fun g ⟨c,v,x,L,N,cs,e,own,k,h1,h2,h3⟩=>by
  obtain ⟨u,hu⟩:=hA c v h1
  exact ⟨c,u,x,L,N,cs,e,own,k,hu,h2,h3⟩
 refine ⟨⟨fun c cs bW hc=>?_,fun c top sz hc=>?_,h.z,h.apart,h.inj,?_,h.lE,h.na,fun c o hc=>?_,h.gV,h.nm,h.kd,h.fresh,h.mem,?_⟩,Env.le_refl _,Nat.le_refl _,fun _ _ _ _=>rfl,fun _ _ e=>.inl e,fun _ _ e=>.inl e,fun _ _ e=>.inl e,fun _ _ _ _=>rfl,fun x q=>.inl (qC x q),fun g q=>.inl (ET g q),fun _ _ q=>.inl q,fun y q=>.inl (q.imp (qC y) fun ⟨g,q1,q2⟩=>⟨g,ET g q1,q2⟩),nc fun _ _=>rfl⟩
 ·rcases jV c _ hc with ⟨_,e⟩ | e
  ·simp at e
  ·exact h.row c cs bW e
 ·rcases jV c _ hc with ⟨_,e⟩ | e
  ·simp at e
  ·exact h.bf c top sz e
 ·exact h.jJ.put (.inl fun t s=>by simp)
 ·rw [ax.qZ]
  rcases jV c _ hc with ⟨e,_⟩ | e
  ·rw [e]; exact h.live b _ hb
  ·exact h.live c o e
 ·refine ⟨fun c v hc=>?_,fun c v hc=>?_,fun x q=>h.ar.z x (qC x q),fun c d v u x L N L' N' h1 h2 h3 h4=>?_,fun c d v u x y L N L' N' cs e own g k b8 e' o6 k' h1 h2 h3 h4=>?_,h.ar.X6,h.ar.lE,h.ar.gV,fun c v x L N cs e own g k h1 h2 h3=>?_,fun c v hc=>?_⟩
  ·rcases jV c _ hc with ⟨e,e2⟩ | e
   ·simp at e2; rw [e2,e]; exact cg
   ·exact h.ar.arr c v e
  ·rcases jV c _ hc with ⟨_,e⟩ | e
   ·simp at e
   ·exact h.ar.jH c v e
  ·obtain ⟨v',h1⟩:=hA c v h1
   obtain ⟨u',h2⟩:=hA d u h2
   exact h.ar.inj c d v' u' x L N L' N' h1 h2 h3 h4
  ·obtain ⟨v',h1⟩:=hA c v h1
   obtain ⟨u',h2⟩:=hA d u h2
   exact h.ar.tu c d v' u' x y L N L' N' cs e own g k b8 e' o6 k' h1 h2 h3 h4
  ·obtain ⟨v',h1⟩:=hA c v h1
   obtain ⟨q1,q2,q3⟩:=h.ar.rV c v' x L N cs e own g k h1 h2 h3
   exact ⟨q1,q2,fun y hy en=>⟨(q3 y hy en).1,fun q=>(q3 y hy en).2.1 (qC y q),(q3 y hy en).2.2⟩⟩
  ·obtain ⟨v',h1⟩:=hA c v hc
   rw [ax.qZ]
   exact h.ar.nk c v' h1
theorem Yy {es new:List KV} {o:Nat} (h:o+new.length≤es.length):(yF es o new).length=es.length:=by
 simp only [yF,List.length_append,List.length_take,List.length_drop]
 omega
theorem aeh {es new:List KV} {o i:Nat} (h:o+new.length≤es.length):(yF es o new)[i]? = if i < o then es[i]? else if i < o+new.length then new[i - o]? else es[i]?:=by
 unfold yF
 by_cases h1:i < o
 ·rw [if_pos h1,List.append_assoc,List.getElem?_append_left (by rw [List.length_take]; omega),List.getElem?_take,if_pos h1]
 ·rw [if_neg h1]
  by_cases h2:i < o+new.length
  ·rw [if_pos h2,List.getElem?_append_left (by rw [List.length_append,List.length_take]; omega),List.getElem?_append_right (by rw [List.length_take]; omega),List.length_take]
   congr 1
   omega
  ·rw [if_neg h2,List.getElem?_append_right (by rw [List.length_append,List.length_take]; omega),List.getElem?_drop,List.length_append,List.length_take]
   congr 1
   omega
theorem abA {T:TypeId} {N m o k:Nat} {es new:List KV} {acc an:Nat→KV} (ht:iX P T N es acc) (hn:iX P T m new an) (hk:k≤m) (ho:o+k≤N):iX P T N (yF es o (new.take k)) (kP o k acc an):=by
 have hl:(new.take k).length=k:=by rw [List.length_take,← hn.len]; omega
 have oB:o+(new.take k).length≤es.length:=by rw [hl,← ht.len]; exact ho
 have mZ:=fun i=>aeh (i:=i) oB
 rw [hl] at mZ
 refine ⟨by rw [Yy oB]; exact ht.len,fun i hi=>?_,oD fun i x hx=>?_⟩
 ·rw [List.getD_eq_getElem?_getD,mZ]
  unfold kP
  by_cases h1:i < o
  ·rw [if_pos h1,show Nat.blt i o=true from Nat.blt_eq ▸ h1,cond_true,ht.acc i hi,List.getD_eq_getElem?_getD]
  ·have e1:Nat.blt i o=false:=by
    cases hb:Nat.blt i o with
    | false=>rfl
    | true=>exact absurd (Nat.blt_eq ▸ hb) h1
   rw [if_neg h1,e1,cond_false]
   by_cases h2:i < o+k
   ·rw [if_pos h2,show Nat.blt i (o+k)=true from Nat.blt_eq ▸ h2,cond_true,List.getElem?_take,if_pos (by omega),hn.acc (i - o) (by omega),List.getD_eq_getElem?_getD]
   ·have e2:Nat.blt i (o+k)=false:=by
     cases hb:Nat.blt i (o+k) with
     | false=>rfl
     | true=>exact absurd (Nat.blt_eq ▸ hb) h2
    rw [if_neg h2,e2,cond_false,ht.acc i hi,List.getD_eq_getElem?_getD]
 ·rw [mZ] at hx
  split at hx
  ·exact ke ht.typed hx
  ·split at hx
   ·rw [List.getElem?_take] at hx
    split at hx
    ·exact ke hn.typed hx
    ·simp at hx
   ·exact ke ht.typed hx
theorem aei {sz o:Nat} {cs r vs es:List Value} (hl:od sz (o * sz+vs.length) cs es) (hw:hX (o * sz) cs vs=some r):od sz (o * sz+vs.length) r es:=fun i x hi=>by
 obtain ⟨h1,h2⟩:=hl i x hi
 obtain ⟨_,_,h3⟩:=iV hw
 exact ⟨h1,fun k y hy=>by rw [h3,if_neg (by omega)]; exact h2 k y hy⟩
theorem ai5 {e n:Nat} (hn:bg P e=n) (h1n:1≤n):agN P (afI e) (Xr n):=by
 intro E A A' B vs us v h hv hg
 unfold afI at hg
 split at hg
 ·rename_i e1 b o q y
  obtain ⟨u,w,rfl,h1,h2⟩:=hv.kS
  split at hg
  ·rename_i e' mk m new an e2 mk2 N es acc hy hb
   obtain ⟨he,Yr⟩:=hg.cond
   clear hg
   simp only [Bool.and_eq_true] at he
   have:=Nat.eq_of_beq_eq_true he.1.1
   subst this
   have:=Nat.eq_of_beq_eq_true he.1.2
   subst this
   have:=Nat.eq_of_beq_eq_true he.2
   subst this
   have tv:1≤bg P e:=by omega
   obtain ⟨cJ,kf⟩:=agU h h2 hy tv
   have Yr:(KV.int .i64 (Nat.min m q:Nat),A.put b (.arr (.ts e .any N (yF es o (new.take (Nat.min m q))) (kP o (Nat.min m q) acc an))))=(v,A'):=Yr
   simp only [Prod.mk.injEq] at Yr
   obtain ⟨rfl,rfl⟩:=Yr
   obtain ⟨T2,N2,o4,fT,e2,ht,_,vW⟩:=h.ar.arr b _ hb
   simp only [KV.ts.injEq] at e2
   obtain ⟨rfl,rfl,rfl,rfl,rfl⟩:=e2
   have Pt:Nat.min m q≤m:=Nat.min_le_left _ _
   have hkq:Nat.min m q≤q:=Nat.min_le_right _ _
   have hf:=kf.first _ Pt
   rw [hn] at hf
   rcases h1.vc with ⟨rfl,rfl,rfl⟩ | ⟨x,L,N0,c,p2,rfl,p3,p4,p5⟩
   ·
    have DJ:Nat.min m 0=0:=Nat.min_zero m
    refine ⟨.int .i64 (Int.ofNat (Nat.min m 0)),B,E,?_,.mkInt,ef.alx h ⟨_,hb⟩ ?_⟩
    ·simp only [Xr,kf.len,Option.bind_some,hf]
    ·have hp:=abA (o:=0) ht kf.tree Pt (by rw [DJ]; omega)
     refine ⟨_,_,_,_,rfl,hp,tv,?_⟩
     have J8:yF es 0 (new.take (Nat.min m 0))=es:=by rw [DJ]; simp [yF]
     rw [J8]
     exact vW
   ·rcases vW with ⟨_,e2⟩ | ⟨x2,cs,bQ,bq,e2,h6,h7,h8⟩
    ·rw [p2] at e2; simp at e2
    rw [p2] at e2
    simp only [Option.some.injEq,Prod.mk.injEq] at e2
    obtain ⟨rfl,rfl,rfl⟩:=e2
    have afU:bq.length=N0:=by rw [h7.length]; exact ht.len.symm
    have iM:∀ v∈cJ.take (Nat.min m q),v.cells.size=bg P e:=fun v hv=>kf.size v (List.mem_of_mem_take hv)
    have ak2:(cJ.take (Nat.min m q)).length=Nat.min m q:=by rw [List.length_take,kf.length]; exact Nat.min_eq_left Pt
    have FE:(bH (cJ.take (Nat.min m q))).length=Nat.min m q * bg P e:=by rw [js iM,ak2]
    have hle:o * bg P e+(bH (cJ.take (Nat.min m q))).length≤cs.length:=by
     rw [FE,← p5,← Nat.add_mul]
     exact Nat.mul_le_mul_right _ (by omega)
    obtain ⟨lF,hw⟩:=yI (o * bg P e) cs (bH (cJ.take (Nat.min m q))) hle
    have hcl:lF.length=cs.length:=(iV hw).1
    have VW:(bH (cJ.take (Nat.min m q))).all scalar=true:=List.all_eq_true.2 (AA fun v hv=>(ou kf.tree.typed kf.rel v (List.mem_of_mem_take hv)).2)
    have hp:=abA (o:=o) ht kf.tree Pt (by omega)
    have hon:(bq.take o).length=o:=by rw [List.length_take]; omega
    have zD:bd P E (yF es o (new.take (Nat.min m q))) (bq.take o++cJ.take (Nat.min m q)++bq.drop (o+Nat.min m q)):=by
     unfold yF
     have hlk:(new.take (Nat.min m q)).length=Nat.min m q:=by rw [List.length_take,← kf.tree.len]; exact Nat.min_eq_left Pt
     rw [hlk]
     exact ((h7.take o).append (kf.rel.take _)).append (h7.drop _)
    have hli:od (bg P e) 0 lF (bq.take o++cJ.take (Nat.min m q)++bq.drop (o+Nat.min m q)):=by
     refine Tb (Tb (Yw (h8.take o) (by omega) hw tv) (by rw [hon]; exact U6 iM hw)) ?_
     have e3:(bq.take o++cJ.take (Nat.min m q)).length * bg P e=o * bg P e+(bH (cJ.take (Nat.min m q))).length:=by rw [List.length_append,hon,ak2,FE,Nat.add_mul]
     rw [e3]
     refine aei ?_ hw
     have:=h8.drop (o+Nat.min m q)
     rw [Nat.zero_add,Nat.add_mul] at this
     rw [FE]
     exact this
    have iM:=ef.agR (lo:=o * bg P e) (hi:=o * bg P e+(bH (cJ.take (Nat.min m q))).length) h ⟨_,hb⟩ p2 h6 hcl tv hp zD hli
    refine ⟨.int .i64 (Int.ofNat (Nat.min m q)),_,E,?_,.mkInt,iM⟩
    subst hn
    simp only [Xr,kf.len,Option.bind_some,hf,St.wY,dm,Option.isNone_none,Bool.true_and,VW,cond_true,h6,hw,Option.map_some]
  ·exact hg.elim
 ·exact hg.elim
theorem aej {e n b:Nat} {mt:Bool} (hn:bg P e=n) (h1n:1≤n):agN P (FN e n b mt) (ma n b):=by
 intro E A A' B vs us v h hv hg
 unfold FN at hg
 split at hg
 ·rename_i x y
  obtain ⟨u,w,rfl,h1,h2⟩:=hv.kS
  split at hg
  ·rename_i y' hy
   have tv:1≤bg P e:=by omega
   have hts:∃ T m k es acc,y' = .ts T m k es acc:=by
    unfold JW at hy
    split at hy
    ·unfold acr at hy
     split at hy
     ·rename_i T' b' o' n' _ T2 _ _ o4 fT _
      cases hb:Nat.beq T' T2 with
      | false=>rw [hb] at hy; simp at hy
      | true=>rw [hb,cond_true] at hy; simp only [Option.some.injEq] at hy; exact ⟨_,_,_,_,_,hy.symm⟩
     ·simp at hy
    ·simp only [Option.some.injEq] at hy; exact ⟨_,_,_,_,_,hy.symm⟩
    ·simp at hy
   obtain ⟨T,m,k,es,acc,rfl⟩:=hts
   have hsr:Nat.beq e T=true→∃ bq,Src P E B T k es acc w bq:=fun he=>by
    have:=Nat.eq_of_beq_eq_true he
    subst this
    exact agU h h2 hy tv
   subst hn
   cases hx:aiR x with
   | true=>rw [hx,cond_true] at hg; exact Yx tv h h1 hsr hg
   | false=>
    rw [hx,cond_false] at hg
    cases mt with
    | true=>rw [cond_true] at hg; exact Yx tv h h1 hsr hg
    | false=>rw [cond_false] at hg; exact afW rfl tv h h1 hsr hg
  ·exact hg.elim
 ·exact hg.elim
end Go.K
end
section
namespace Go.K
open Go Go.aE
variable {P:Program} {E:Env}
theorem ef.agY {E1 E2:Env} {A A1 A2:ax} {B:St} (h:ef P E A B E1 A1 B) (k:ef P E1 A1 B E2 A2 B):ef P E A B E2 A2 B where
 jr:=k.jr
 le:=Env.le_trans h.le k.le
 next:=Nat.le_trans h.next k.next
 mg _ _ _ _:=rfl
 new b x e:=(k.new b x e).elim (h.new b x) .inr
 sR b r e:=by
  rcases k.sR b r e with e | e | e
  ·exact h.sR b r e
  ·exact .inr (h.mQ b e)
  ·exact .inr (.inr e)
 sS b g e:=(k.sS b g e).elim (h.sS b g) .inr
 pN _ _ _ _:=rfl
 mQ x q:=(k.mQ x q).elim (h.mQ x) .inr
 nb g q:=(k.nb g q).elim (h.nb g) .inr
 uv _ _ q:=.inl q
 nY y q:=(k.nY y q).elim (h.nY y) .inr
 rows:=nc fun _ _=>rfl
theorem ef.refl {A:ax} {B:St} (h:fK P E A B):ef P E A B E A B:=
 ⟨h,Env.le_refl _,Nat.le_refl _,fun _ _ _ _=>rfl,fun _ _ e=>.inl e,fun _ _ e=>.inl e,fun _ _ e=>.inl e,fun _ _ _ _=>rfl,fun _ q=>.inl q,fun _ q=>.inl q,fun _ _ q=>.inl q,fun _ q=>.inl q,nc fun _ _=>rfl⟩
theorem Env.ai6 {A:ax} {B:St} {x:Nat} {r:adY} (h:fK P E A B) (hx:AR A E x):E.le (E.gx x r):=⟨fun _ _ e=>e,fun _ _ e=>e,fun b q e=>by
 simp only [Env.gx]
 rw [if_neg]
 ·exact e
 ·intro e2; subst e2
  have:=(h.ar.z b hx).1
  rw [e] at this; simp at this,fun _ _ e=>e⟩
theorem ef.jH {A:ax} {B:St} {b x N:Nat} {T:TypeId} {m:Mk} {es:List KV} {acc:Nat→KV} {cs:List Value} {bQ:Option (Nat×Nat)} {bq:List Value} (h:fK P E A B) (hb:A.get b=some (.arr (.ts T m N es acc))) (hx:E.α b=some (x,cs.length,N))
  (jz:B.get x=some (.row cs (bg P T) true bQ)) (ht:iX P T N es acc) (hm:m = .any) (fq:1≤bg P T) (J8:bd P E es bq) (hl:od (bg P T) 0 cs bq) :
  ef P E A B (E.gx x ⟨cs,bg P T,true,bQ⟩) (A.put b (.jH (.ts T m N es acc))) B:=by
 subst hm
 have qC:AR A E x:=⟨b,_,_,_,hb,hx⟩
 have hle:=Env.ai6 (r:=⟨cs,bg P T,true,bQ⟩) h qC
 have hzx:(E.gx x ⟨cs,bg P T,true,bQ⟩).z x=some ⟨cs,bg P T,true,bQ⟩:=by simp [Env.gx]
 have HH:∀ c r,(E.gx x ⟨cs,bg P T,true,bQ⟩).z c=some r→E.z c=some r∨(c=x∧r=⟨cs,bg P T,true,bQ⟩):=fun c r e=>by
  simp only [Env.gx] at e
  split at e
  ·rename_i e2; simp at e; exact .inr ⟨e2,e.symm⟩
  ·exact .inl e
 have jV:∀ c o,(A.put b (.jH (.ts T .any N es acc))).get c=some o→(c=b∧o = .jH (.ts T .any N es acc))∨(c≠b∧A.get c=some o):=fun c o hc=>by
  rw [ax.b9] at hc
  split at hc
  ·rename_i e; simp at hc; exact .inl ⟨e,hc.symm⟩
  ·rename_i e; exact .inr ⟨e,hc⟩
 have hA:∀ c v,(A.put b (.jH (.ts T .any N es acc))).get c=some (.arr v)→c≠b∧A.get c=some (.arr v):=fun c v hc=>by
  rcases jV c _ hc with ⟨_,e⟩ | e
  ·simp at e
  ·exact e
 have agZ:∀ y,AR (A.put b (.jH (.ts T .any N es acc))) E y→AR A E y∧y≠x:=fun y ⟨c,v,L,M,h1,h2⟩=>by
  obtain ⟨h3,h4⟩:=hA c v h1
  refine ⟨⟨c,v,L,M,h4,h2⟩,fun e=>h3 ?_⟩
  subst e
  exact h.ar.inj c b v _ y L M _ _ h4 hb h2 hx
 have ET:∀ g,AF (A.put b (.jH (.ts T .any N es acc))) E B g→AF A E B g:=fun g ⟨c,v,y,L,M,cs,e,own,k,h1,h2,h3⟩=>⟨c,v,y,L,M,cs,e,own,k,(hA c v h1).2,h2,h3⟩
 refine ⟨⟨fun c oq bW hc=>?_,fun c top sz hc=>?_,fun y r hy=>?_,fun c y hc=>?_,h.inj,?_,h.lE,h.na,fun c o hc=>?_,h.gV,fun y r hy=>?_,h.kd,h.fresh,h.mem,?_⟩,hle,Nat.le_refl _,fun _ _ _ _=>rfl,fun _ _ e=>.inl e,fun y r e=>?_,fun _ _ e=>.inl e,fun _ _ _ _=>rfl,fun y q=>.inl (agZ y q).1,fun g q=>.inl (ET g q),fun _ _ q=>.inl q,fun y q=>.inl (q.imp (fun q=>(agZ y q).1) fun ⟨g,q1,q2⟩=>⟨g,ET g q1,q2⟩),nc fun _ _=>rfl⟩
 ·rcases jV c _ hc with ⟨_,e⟩ | ⟨_,e⟩
  ·simp at e
  ·obtain ⟨y,d,h1,h2,h3⟩:=h.row c oq bW e
   exact ⟨y,d,h1,h2,h3.mono hle⟩
 ·rcases jV c _ hc with ⟨_,e⟩ | ⟨_,e⟩
  ·simp at e
  ·exact h.bf c top sz e
 ·rcases HH y r hy with e | ⟨rfl,rfl⟩
  ·exact h.z y r e
  ·exact jz
 ·have hc:E.κ c=some y:=hc
  cases hz:(E.gx x ⟨cs,bg P T,true,bQ⟩).z y with
  | none=>rfl
  | some r=>
   rcases HH y r hz with e | ⟨rfl,_⟩
   ·rw [h.apart c y hc] at e; simp at e
   ·exact absurd hc ((h.ar.z y qC).2 c)
 ·exact h.jJ.put (.inl fun t s=>by simp)
 ·rw [ax.qZ]
  rcases jV c _ hc with ⟨e,_⟩ | ⟨_,e⟩
  ·rw [e]; exact h.live b _ hb
  ·exact h.live c o e
 ·rcases HH y r hy with e | ⟨rfl,_⟩
  ·exact h.nm y r e
  ·exact h.D9 qC
 ·refine ⟨fun c v hc=>?_,fun c v hc=>?_,fun y q=>?_,fun c d v u y L M L' M' h1 h2 h3 h4=>h.ar.inj c d v u y L M L' M' (hA c v h1).2 (hA d u h2).2 h3 h4,fun c d v u y w L M L' M' oq e own g k b8 e' o6 k' h1 h2 h3 h4=>h.ar.tu c d v u y w L M L' M' oq e own g k b8 e' o6 k' (hA c v h1).2 (hA d u h2).2 h3 h4,h.ar.X6,h.ar.lE,h.ar.gV,fun c v y L M oq e own g k h1 h2 h3=>?_,fun c v hc=>h.ar.nk c v (hA c v hc).2⟩
  ·exact (h.ar.arr c v (hA c v hc).2).mono hle rfl fun _ _ _ _=>rfl
  ·rcases jV c _ hc with ⟨e,e2⟩ | ⟨_,e⟩
   ·simp at e2
    subst e2
    exact ⟨T,N,es,acc,rfl,ht,fq,.inr ⟨x,⟨cs,bg P T,true,bQ⟩,bq,by rw [e]; exact hx,hzx,rfl,J8.mono hle,hl⟩⟩
   ·exact (h.ar.jH c v e).mono hle rfl
  ·obtain ⟨q1,q2⟩:=agZ y q
   refine ⟨?_,(h.ar.z y q1).2⟩
   simp only [Env.gx]
   rw [if_neg q2]
   exact (h.ar.z y q1).1
  ·obtain ⟨en,h1⟩:=hA c v h1
   obtain ⟨q1,q2,q3⟩:=h.ar.rV c v y L M oq e own g k h1 h2 h3
   refine ⟨q1,q2,fun z hz hzy=>?_⟩
   obtain ⟨q4,q5,q6⟩:=q3 z hz hzy
   refine ⟨?_,fun q=>q5 (agZ z q).1,q6⟩
   simp only [Env.gx]
   rw [if_neg]
   ·exact q4
   ·intro e2
    subst e2
    exact q5 qC
 ·rcases HH y r e with e | ⟨rfl,_⟩
  ·exact .inl e
  ·exact .inr (.inl qC)
theorem ef.aly {A:ax} {B:St} {b:Nat} {T:TypeId} {m:Mk} {N:Nat} {es:List KV} {acc:Nat→KV} (h:fK P E A B) (hb:A.get b=some (.arr (.ts T m N es acc))) (cg:PZ P E b (.ts T m N es acc)) (qa:E.α b=none):ef P E A B E (A.put b (.jH (.ts T m N es acc))) B:=by
 have jV:∀ c o,(A.put b (.jH (.ts T m N es acc))).get c=some o→(c=b∧o = .jH (.ts T m N es acc))∨A.get c=some o:=fun c o hc=>by
  rw [ax.b9] at hc
  split at hc
  ·rename_i e; simp at hc; exact .inl ⟨e,hc.symm⟩
  ·exact .inr hc
 have hA:∀ c v,(A.put b (.jH (.ts T m N es acc))).get c=some (.arr v)→A.get c=some (.arr v):=fun c v hc=>by
  rcases jV c _ hc with ⟨_,e⟩ | e
  ·simp at e
  ·exact e
 have qC:∀ y,AR (A.put b (.jH (.ts T m N es acc))) E y→AR A E y:=fun y ⟨c,v,L,M,h1,h2⟩=>⟨c,v,L,M,hA c v h1,h2⟩
 have ET:∀ g,AF (A.put b (.jH (.ts T m N es acc))) E B g→AF A E B g:=fun g ⟨c,v,y,L,M,cs,e,own,k,h1,h2,h3⟩=>⟨c,v,y,L,M,cs,e,own,k,hA c v h1,h2,h3⟩
 have _:=qa
 refine ⟨⟨fun c oq bW hc=>?_,fun c top sz hc=>?_,h.z,h.apart,h.inj,?_,h.lE,h.na,fun c o hc=>?_,h.gV,h.nm,h.kd,h.fresh,h.mem,?_⟩,Env.le_refl _,Nat.le_refl _,fun _ _ _ _=>rfl,fun _ _ e=>.inl e,fun y r e=>.inl e,fun _ _ e=>.inl e,fun _ _ _ _=>rfl,fun y q=>.inl (qC y q),fun g q=>.inl (ET g q),fun _ _ q=>.inl q,fun y q=>.inl (q.imp (qC y) fun ⟨g,q1,q2⟩=>⟨g,ET g q1,q2⟩),nc fun _ _=>rfl⟩
 ·rcases jV c _ hc with ⟨_,e⟩ | e
  ·simp at e
  ·exact h.row c oq bW e
 ·rcases jV c _ hc with ⟨_,e⟩ | e
  ·simp at e
  ·exact h.bf c top sz e
 ·exact h.jJ.put (.inl fun t s=>by simp)
 ·rw [ax.qZ]
  rcases jV c _ hc with ⟨e,_⟩ | e
  ·rw [e]; exact h.live b _ hb
  ·exact h.live c o e
 ·refine ⟨fun c v hc=>h.ar.arr c v (hA c v hc),fun c v hc=>?_,fun y q=>h.ar.z y (qC y q),fun c d v u y L M L' M' h1 h2 h3 h4=>h.ar.inj c d v u y L M L' M' (hA c v h1) (hA d u h2) h3 h4,fun c d v u y w L M L' M' oq e own g k b8 e' o6 k' h1 h2 h3 h4=>h.ar.tu c d v u y w L M L' M' oq e own g k b8 e' o6 k' (hA c v h1) (hA d u h2) h3 h4,h.ar.X6,h.ar.lE,h.ar.gV,fun c v y L M oq e own g k h1 h2 h3=>?_,fun c v hc=>h.ar.nk c v (hA c v hc)⟩
  ·rcases jV c _ hc with ⟨e,e2⟩ | e
   ·simp at e2; rw [e2,e]; exact cg
   ·exact h.ar.jH c v e
  ·obtain ⟨q1,q2,q3⟩:=h.ar.rV c v y L M oq e own g k (hA c v h1) h2 h3
   exact ⟨q1,q2,fun z hz hzy=>⟨(q3 z hz hzy).1,fun q=>(q3 z hz hzy).2.1 (qC z q),(q3 z hz hzy).2.2⟩⟩
theorem Td {T:TypeId} {m:Mk} {b o n N:Nat} {es:List KV} {acc:Nat→KV} {u:Value} {A:ax} {B:St} (h:fK P E A B) (hv:VK P E (.al T b o n) u) (ha:A.get b=some (.jH (.ts T m N es acc))) :
  VK P E (.ts T .any n ((es.drop o).take n) (fun i=>acc (o+i))) u:=by
 obtain ⟨T2,N2,o4,fT,e,ht,fq,vW⟩:=h.ar.jH b _ ha
 simp only [KV.ts.injEq] at e
 obtain ⟨rfl,rfl,rfl,rfl,rfl⟩:=e
 simp only [VK]
 rcases hv.vc with ⟨rfl,rfl,rfl⟩ | ⟨x,L,N0,c,h1,rfl,h3,h4,h5⟩
 ·exact ⟨⟨by simp,fun i hi=>by omega,rfl⟩,[],by simpa using bd.nil,none,0,rfl,Nat.le_refl _,.inl ⟨rfl,rfl⟩,trivial⟩
 ·rcases vW with ⟨_,e⟩ | ⟨x2,r,bq,e,h6,h6',h7,h8⟩
  ·rw [h1] at e; simp at e
  rw [h1] at e
  simp only [Option.some.injEq,Prod.mk.injEq] at e
  obtain ⟨rfl,rfl,rfl⟩:=e
  have afV:((es.drop o).take n).length=n:=by rw [List.length_take,List.length_drop,← ht.len]; omega
  refine ⟨⟨afV.symm,fun i hi=>?_,oD fun i x hi=>?_⟩,(bq.drop o).take n,(h7.drop o).take n,_,c,rfl,h3,.inr ⟨x,o * bg P T,r,rfl,h6,h6',?_⟩,trivial⟩
  ·rw [ht.acc (o+i) (by omega),List.getD_eq_getElem?_getD,List.getD_eq_getElem?_getD,List.getElem?_take,if_pos hi,List.getElem?_drop]
  ·rw [List.getElem?_take] at hi
   split at hi
   ·rw [List.getElem?_drop] at hi; exact ke ht.typed hi
   ·simp at hi
  ·have:=(h8.drop o).take n
   rw [Nat.zero_add] at this
   exact this
theorem U7 {A:ax} {B:St} {v:KV} {u:Value} (h:fK P E A B) (hv:VK P E v u):∃ E',ef P E A B E' (X0 A v).2 B∧VK P E' (X0 A v).1 u:=by
 unfold X0
 split
 ·rename_i T b o n
  split
  ·rename_i T' m N es acc hb
   cases ht:Nat.beq T T' with
   | false=>exact ⟨E,.refl h,.rm⟩
   | true=>
    have:=Nat.eq_of_beq_eq_true ht
    subst this
    rw [cond_true]
    have cg:=h.ar.arr b _ hb
    obtain ⟨T2,N2,o4,fT,e,F4,fq,vW⟩:=cg
    simp only [KV.ts.injEq] at e
    obtain ⟨rfl,rfl,rfl,rfl,rfl⟩:=e
    rcases vW with ⟨h1,h2⟩ | ⟨x,cs,bQ,bq,h2,h3,h4,h5⟩
    ·have iM:=ef.aly h hb ⟨_,_,_,_,rfl,F4,fq,.inl ⟨h1,h2⟩⟩ h2
     exact ⟨E,iM,Td iM.jr hv ((ax.b9 _ _ _ _).trans (if_pos rfl))⟩
    ·have iM:=ef.jH h hb h2 h3 F4 rfl fq h4 h5
     exact ⟨_,iM,Td iM.jr (hv.mono iM.le) ((ax.b9 _ _ _ _).trans (if_pos rfl))⟩
  ·rename_i T' m N es acc hb
   cases ht:Nat.beq T T' with
   | false=>exact ⟨E,.refl h,.rm⟩
   | true=>
    have:=Nat.eq_of_beq_eq_true ht
    subst this
    rw [cond_true]
    exact ⟨E,.refl h,Td h hv hb⟩
  ·exact ⟨E,.refl h,.rm⟩
 ·exact ⟨E,.refl h,hv⟩
theorem aZ.map {α β:Type} {r:KR α} {f:α→β} {v:β} (h:aZ (r.map f) v):∃ u,aZ r u∧f u=v:=by
 cases r with
 | no=>exact h.elim
 | ok u=>exact ⟨u,rfl,h⟩
 | lZ c u=>exact ⟨u,⟨h.1,rfl⟩,h.2⟩
 | br c x y=>
  rcases h with ⟨h1,h2⟩ | ⟨h1,h2⟩
  ·obtain ⟨u,h3,h4⟩:=aZ.map (r:=x) h2; exact ⟨u,.inl ⟨h1,h3⟩,h4⟩
  ·obtain ⟨u,h3,h4⟩:=aZ.map (r:=y) h2; exact ⟨u,.inr ⟨h1,h3⟩,h4⟩
theorem Qh {B:St} : ∀ {vs:List KV} {us:List Value} {E:Env} {A:ax},fK P E A B→bd P E vs us→∃ E',ef P E A B E' (SR A vs).2 B∧bd P E' (SR A vs).1 us
 | [],us,E,A,h,hv=>⟨E,.refl h,hv⟩
 | v::vs,us,E,A,h,hv=>by
  obtain ⟨u,us',rfl,h1,h2⟩:=hv.cons_inv
  obtain ⟨E1,h3,h4⟩:=U7 h h1
  obtain ⟨E2,h5,h6⟩:=Qh h3.jr (h2.mono h3.le)
  exact ⟨E2,h3.agY h5,.cons (h4.mono h5.le) h6⟩
theorem aek {A:ax} {B:St} {v:KV} {u:Value} (h:fK P E A B) (hv:VK P E v u):∃ E',ef P E A B E' (abr A v).2 B∧VK P E' (abr A v).1 u:=by
 unfold abr
 split
 ·rename_i cs
  obtain ⟨l,rfl,h1⟩:=hv.mh
  obtain ⟨E1,h2,h3⟩:=Qh h h1
  exact ⟨E1,h2,.oX h3⟩
 ·exact U7 h hv
theorem HP:∀ (A:ax) (vs:List KV),(vQ A vs).1.length=vs.length
 | _,[]=>rfl
 | A,v::vs=>by simp [vQ,HP]
theorem Ea {B:St} : ∀ {vs:List KV} {us:List Value} {E:Env} {A:ax},fK P E A B→bd P E vs us→∃ E',ef P E A B E' (vQ A vs).2 B∧bd P E' (vQ A vs).1 us
 | [],us,E,A,h,hv=>⟨E,.refl h,hv⟩
 | v::vs,us,E,A,h,hv=>by
  obtain ⟨u,us',rfl,h1,h2⟩:=hv.cons_inv
  obtain ⟨E1,h3,h4⟩:=aek h h1
  obtain ⟨E2,h5,h6⟩:=Ea h3.jr (h2.mono h3.le)
  exact ⟨E2,h3.agY h5,.cons (h4.mono h5.le) h6⟩
end Go.K
end
section
namespace Go.K
open Go Go.aE
variable {P:Program}
theorem dw {o:Oper} : ES P o .bad:=trivial
theorem ahM (P:Program) (cfg:eK) (o:Oper):ES P o (bX P cfg o.op):=by
 cases ho:o.op with
 | move x=>exact lift_pure (by rw [ho]; rfl) ad2
 | assign x=>exact lift_pure (by rw [ho]; rfl) ahC
 | pick c a b=>exact lift_pure (by rw [ho]; rfl) aiU
 | alloc t=>
  show ES P o (oP P t)
  unfold oP
  split
  ·rename_i z hz
   cases hc:(flat z&&z.cells.toList.all scalar&&hZ (gP z).cells) with
   | false=>exact dw
   | true=>
    simp only [Bool.and_eq_true] at hc
    exact C4 (by rw [ho]; rfl) (ahH hz hc.1.1 hc.1.2 hc.2)
  ·exact dw
 | box t x=>exact C4 (by rw [ho]; rfl) akt
 | build t parts=>
  show ES P o (r7 P t (parts.toList.map (·.1)) (parts.toList.map (·.2)))
  have a5:compile P o.op=Fs P t (parts.toList.map (·.1)) (parts.toList.map (·.2)):=by rw [ho]; rfl
  unfold r7
  unfold Fs at a5
  split
  ·rename_i z fields hz hu
   rw [hz,hu] at a5
   simp only at a5
   split
   ·rename_i l hl
    rw [hl] at a5
    cases hc:(flat z&&hZ (gP z).cells) with
    | false=>exact dw
    | true=>
     simp only [Bool.and_eq_true] at hc
     exact lift_pure a5 (abv hc.1 hc.2)
   ·exact dw
  ·rename_i z len e hz hu
   rw [hz,hu] at a5
   simp only at a5
   split
   ·rename_i n hn
    rw [hn] at a5
    cases hc:(flat z&&hZ (gP z).cells) with
    | false=>exact dw
    | true=>
     simp only [Bool.and_eq_true] at hc
     exact lift_pure a5 (abv hc.1 hc.2)
   ·exact dw
  ·exact dw
 | buildSlice t len parts=>
  show ES P o (lj P t len (parts.toList.map (·.1)) (parts.toList.map (·.2)))
  have a5:compile P o.op=uh P t len (parts.toList.map (·.1)) (parts.toList.map (·.2)):=by rw [ho]; rfl
  unfold lj
  unfold uh at a5
  split
  ·rename_i e hu
   rw [hu] at a5
   simp only at a5
   split
   ·rename_i i z hi hz
    have fq:size? P e=some i.size:=by simp [size?,hi]
    rw [fq,hz] at a5
    simp only at a5
    cases hc:(Nat.ble (len * i.size) 16777216&&Nat.beq z.cells.size i.size&&Nat.ble 1 i.size&&flat z&&Nat.beq (bw P e).ks.length i.size&&CF len (parts.toList.map (·.1))) with
    | false=>exact dw
    | true=>
     simp only [Bool.and_eq_true] at hc
     obtain ⟨⟨⟨⟨⟨h1,h2⟩,h3⟩,h4⟩,h5⟩,h6⟩:=hc
     rw [h1,h2,h3,h4] at a5
     cases Hu (bw P e).ks with
     | true=>exact aby a5 (aaM (Nat.eq_of_beq_eq_true h5) (Nat.le_of_ble_eq_true h3) (Nat.eq_of_beq_eq_true h2) h6)
     | false=>
      cases h7:hZ (gP z).cells with
      | true=>exact C4 a5 (acB h7)
      | false=>exact dw
   ·exact dw
  ·exact dw
 | load t a=>exact HG (by rw [ho]; rfl) ad9
 | store t a x=>exact SY (by rw [ho]; rfl) ahK
 | nilCheck x=>exact lift_pure (by rw [ho]; rfl) akq
 | binOp op t x y yt=>exact lift_pure (by rw [ho]; rfl) akr
 | unOp op t x=>exact lift_pure (by rw [ho]; rfl) alq
 | convert src dst x=>
  show ES P o (oo P src dst x)
  have a5:compile P o.op=A5 P src dst x:=by rw [ho]; rfl
  unfold oo
  unfold A5 at a5
  split
  ·rename_i k k' hs hd
   rw [hs,hd] at a5
   exact lift_pure a5 (ahG hd hs)
  ·rename_i hs hd
   rw [hs,hd] at a5
   exact lift_pure a5 ahF
  ·rename_i e hs hd
   rw [hs,hd] at a5
   simp only at a5
   cases hb:isByte P e with
   | false=>exact dw
   | true=>rw [hb] at a5; exact HG a5 acE
  ·rename_i e hs hd
   rw [hs,hd] at a5
   simp only at a5
   cases hb:isByte P e with
   | false=>exact dw
   | true=>rw [hb] at a5; exact afN a5 (acF hb)
  ·exact dw
 | makeFunc fn first cap=>
  show ES P o (cond (wF fn) .bad (.pure (Hx fn first.size) (first.toList++cap.toList)))
  cases hy:wF fn with
  | true=>exact dw
  | false=>
   have hn:CB fn=true:=by cases fn <;> first | rfl | simp [wF] at hy
   exact lift_pure (by rw [ho]; show cond (CB fn) _ _=_; rw [hn]; rfl) acz
 | fieldAddr s x f=>
  show ES P o (mj P s x f)
  have a5:compile P o.op=wz P s x f:=by rw [ho]; rfl
  unfold mj
  unfold wz at a5
  split
  ·rename_i fd hf
   rw [hf] at a5
   simp only at a5
   split
   ·rename_i m hm
    rw [hm] at a5
    exact lift_pure a5 (aaJ rfl)
   ·exact dw
  ·exact dw
 | field t x f=>
  show ES P o (sa P t x f)
  have a5:compile P o.op=Fx P t x f:=by rw [ho]; rfl
  unfold sa
  unfold Fx at a5
  split
  ·rename_i fd hf
   rw [hf] at a5
   exact lift_pure a5 ahD
  ·exact dw
 | indexAddr t x ix=>
  show ES P o (ml P t x ix)
  have a5:compile P o.op=wA P t x ix:=by rw [ho]; rfl
  unfold ml
  unfold wA at a5
  split
  ·rename_i len e hu
   rw [hu] at a5
   simp only at a5
   split
   ·rename_i n hn
    rw [hn] at a5
    exact lift_pure a5 acw
   ·exact dw
  ·rename_i e hu
   rw [hu] at a5
   simp only at a5
   split
   ·rename_i n hn
    rw [hn] at a5
    exact lift_pure a5 (ad4 rfl)
   ·exact dw
  ·exact dw
 | index t x ix=>
  show ES P o (se P t x ix)
  have a5:compile P o.op=Fy P t x ix:=by rw [ho]; rfl
  unfold se
  unfold Fy at a5
  split
  ·rename_i len e hu
   rw [hu] at a5
   simp only at a5
   split
   ·rename_i n hn
    rw [hn] at a5
    exact lift_pure a5 acx
   ·exact dw
  ·rename_i hu
   rw [hu] at a5
   exact lift_pure a5 acy
  ·exact dw
 | extract t i=>exact lift_pure (by rw [ho]; rfl) ad5
 | slice t x lo hi mx=>
  show ES P o (sf P t x lo hi mx)
  have a5:compile P o.op=Fv P t x lo hi mx:=by rw [ho]; rfl
  unfold sf
  unfold Fv at a5
  split
  ·rename_i e hu
   rw [hu] at a5
   simp only at a5
   split
   ·rename_i n hn
    rw [hn] at a5
    simp only at a5
    cases hc:(Nat.ble 1 n&&mx.isNone) with
    | false=>exact dw
    | true=>
     simp only [Bool.and_eq_true] at hc
     rw [hc.1] at a5
     have hmx:mx=none:=Option.isNone_iff_eq_none.1 hc.2
     subst hmx
     simp only [cond_true,fS,List.append_nil,Option.isSome_none] at a5
     exact HG a5 (aec (Nat.le_of_ble_eq_true hc.1))
   ·exact dw
  ·rename_i len e hu
   rw [hu] at a5
   simp only at a5
   split
   ·rename_i n hn
    rw [hn] at a5
    simp only at a5
    cases hc:(Nat.ble 1 n&&mx.isNone) with
    | false=>exact dw
    | true=>
     simp only [Bool.and_eq_true] at hc
     rw [hc.1] at a5
     have hmx:mx=none:=Option.isNone_iff_eq_none.1 hc.2
     subst hmx
     simp only [cond_true,fS,List.append_nil,Option.isSome_none] at a5
     exact HG a5 acC
   ·exact dw
  ·rename_i hu
   rw [hu] at a5
   simp only at a5
   cases hc:mx.isNone with
   | false=>exact dw
   | true=>rw [hc] at a5; exact lift_pure a5 acD
  ·exact dw
 | makeSlice t l c=>
  show ES P o (ur P cfg.x.mt t l c)
  have a5:compile P o.op=wy P t l c:=by rw [ho]; rfl
  unfold ur
  unfold wy at a5
  split
  ·rename_i e hu
   rw [hu] at a5
   simp only at a5
   split
   ·rename_i i hi
    rw [hi] at a5
    simp only at a5
    split
    ·rename_i z hz
     rw [hz] at a5
     simp only at a5
     cases hmz:cfg.x.mt (e+1000000) with
     | true=>
      rw [cond_true]
      cases hc:(Nat.ble 1 i.size&&Nat.ble 1 i.bytes&&Nat.beq z.cells.size i.size&&flat z&&z.cells.toList.all scalar&&Nat.beq (bw P e).ks.length i.size&&dx (bw P e) (gm (bw P e) (gP z))) with
      | false=>exact dw
      | true=>
       simp only [Bool.and_eq_true] at hc
       obtain ⟨⟨⟨⟨⟨⟨h1,h2⟩,h3⟩,h4⟩,h5⟩,h6⟩,h7⟩:=hc
       rw [h1,h2,h3,h4,h5] at a5
       exact aby a5 (ahL (Nat.eq_of_beq_eq_true h6) (Nat.le_of_ble_eq_true h1) (Nat.eq_of_beq_eq_true h3) h7)
     | false=>
     rw [cond_false]
     cases hmt:cfg.x.mt e with
     | true=>
      rw [cond_true]
      cases hc:(Nat.ble 1 i.size&&Nat.ble 1 i.bytes&&Nat.beq z.cells.size i.size&&flat z&&z.cells.toList.all scalar&&Nat.beq (bw P e).ks.length i.size&&dx (bw P e) (gm (bw P e) (gP z))) with
      | false=>exact dw
      | true=>
       simp only [Bool.and_eq_true] at hc
       obtain ⟨⟨⟨⟨⟨⟨h1,h2⟩,h3⟩,h4⟩,h5⟩,h6⟩,h7⟩:=hc
       rw [h1,h2,h3,h4,h5] at a5
       exact C4 a5 (aeg (Nat.eq_of_beq_eq_true h6) (Nat.le_of_ble_eq_true h1) (Nat.eq_of_beq_eq_true h3) h7)
     | false=>
     rw [cond_false]
     cases hc:(Nat.ble 1 i.size&&Nat.ble 1 i.bytes&&Nat.beq z.cells.size i.size&&flat z&&z.cells.toList.all scalar&&hZ (gP z).cells) with
     | false=>exact dw
     | true=>
      simp only [Bool.and_eq_true] at hc
      obtain ⟨⟨⟨⟨⟨h1,h2⟩,h3⟩,h4⟩,h5⟩,h6⟩:=hc
      rw [h1,h2,h3,h4,h5] at a5
      exact C4 a5 (aaK h6)
    ·exact dw
   ·exact dw
  ·exact dw
 | call c=>
  show ES P o (lM P cfg c)
  unfold lM
  split
  ·split
   ·cases cfg.adU _ <;> trivial
   ·trivial
  ·trivial
  ·rename_i b hb
   obtain ⟨callee,args,argTypes⟩:=c
   simp only at hb
   subst hb
   have a5:compile P o.op=DU P b argTypes.toList args.toList:=by rw [ho]; rfl
   unfold yG
   unfold DU at a5
   split
   ·
    simp only at a5
    unfold XZ
    unfold W3 at a5
    split
    ·rename_i t ht
     rw [ht] at a5
     simp only at a5
     split
     ·rename_i e hu
      rw [hu] at a5
      exact lift_pure a5 ahE
     ·rename_i hu
      rw [hu] at a5
      exact lift_pure a5 afL
     ·exact dw
    ·exact dw
   ·simp only at a5
    exact lift_pure (f:=FM false) a5 Yf
   ·simp only at a5
    exact lift_pure (f:=FM true) a5 Yf
   ·
    simp only at a5
    unfold D4
    unfold Hh at a5
    split
    ·rename_i t u ht
     rw [ht] at a5
     simp only at a5
     split
     ·rename_i e eu hu huu
      rw [hu] at a5
      simp only at a5
      split
      ·rename_i i hi
       rw [hi] at a5
       simp only at a5
       split
       ·rename_i z hz
        rw [hz] at a5
        simp only at a5
        cases hc:(Nat.ble 1 i.size&&Nat.beq z.cells.size i.size&&Nat.beq (bw P e).ks.length i.size) with
        | false=>exact dw
        | true=>
         simp only [Bool.and_eq_true] at hc
         have amc:Hg P u=true:=by unfold Hg; rw [huu]
         rw [hc.1.1,hc.1.2,amc] at a5
         exact SY a5 (aej (Nat.eq_of_beq_eq_true hc.2) (Nat.le_of_ble_eq_true hc.1.1))
       ·exact dw
      ·exact dw
     ·exact dw
    ·exact dw
   ·
    simp only at a5
    show ES P o (LO P argTypes.toList args.toList)
    unfold LO
    unfold PA at a5
    split
    ·rename_i t u ht
     rw [ht] at a5
     simp only at a5
     split
     ·rename_i e eu hu huu
      rw [hu] at a5
      simp only at a5
      split
      ·rename_i n hn
       rw [hn] at a5
       simp only at a5
       cases hc:(Nat.ble 1 n&&Nat.beq (bw P e).ks.length n) with
       | false=>exact dw
       | true=>
        simp only [Bool.and_eq_true] at hc
        rw [hc.1] at a5
        exact SY a5 (ai5 (Nat.eq_of_beq_eq_true hc.2) (Nat.le_of_ble_eq_true hc.1))
      ·exact dw
     ·exact dw
    ·exact dw
   ·trivial
  ·trivial
 | _=>trivial
end Go.K
end
section
namespace Go.K
open Go Go.aE
variable {P:Program} {E:Env}
theorem rq (t:bA):∀ xs,lz t xs=xs.map (kM t)
 | []=>rfl
 | x::xs=>by rw [lz,rq t xs]; rfl
structure kT (P:Program) (E:Env) (ρ:aW) (t:bA) (N:Nat) (a:Act):Prop where
 size:a.tmps.size=N
 val:∀ i,VC P E ρ ((t.get i).getD .aw) (a.tmps.getD i undef)
 none:∀ i,N≤i→t.get i=Option.none
theorem kT.ev {ρ:aW} {t:bA} {N:Nat} {a:Act} (h:kT P E ρ t N a) (x:Operand):VC P E ρ (kM t x) (a.eval x):=by
 cases x with
 | tmp i=>exact h.val i
 | const v=>
  simp only [kM,Act.eval]
  cases hf:flat v with
  | true=>exact ⟨v,.gP v,VR.of_flat hf⟩
  | false=>exact .aw
 | global g=>exact .aw
 | func f=>exact ⟨.func (.func f) ⟨[]⟩ ⟨[]⟩,.ad1 .nil .nil,VR.W5 (l:=[]) (m:=[]) (.func f) rfl .nil .nil⟩
theorem kT.mono {E' : Env} {ρ aX:aW} {t:bA} {N:Nat} {a:Act} (h:kT P E ρ t N a) (k:E.le E') (m:ρ.le aX):kT P E' aX t N a:=⟨h.size,fun i=>(h.val i).mono k m,h.none⟩
theorem kT.put {ρ:aW} {t:bA} {N:Nat} {a:Act} {dst:Option Tmp} {v:KV} {v' : Value} (h:kT P E ρ t N a) (hd:∀ d,dst=some d→d < N) (hv:VC P E ρ v v'):kT P E ρ (o5 t dst v) N (a.put dst v'):=by
 cases dst with
 | none=>exact h
 | some d=>
  have hd:=hd d rfl
  refine ⟨by simp [Act.put,h.size],fun i=>?_,fun i hi=>?_⟩
  ·simp only [o5,Trie.n8,Act.put]
   by_cases e:i=d
   ·subst e
    have:i < a.tmps.size:=by rw [h.size]; exact hd
    simp [Array.getD_eq_getD_getElem?,this,hv]
   ·have:=h.val i
    simp only [if_neg e]
    simpa [Array.getD_eq_getD_getElem?,Array.getElem?_setIfInBounds_ne (Ne.symm e)] using this
  ·simp only [o5,Trie.n8]
   have en:i≠d:=fun e=>absurd hi (by rw [e]; exact Nat.not_le_of_lt hd)
   rw [if_neg en]
   exact h.none i hi
theorem kT.same {ρ:aW} {t t' : bA} {N:Nat} {a:Act} (h:kT P E ρ t N a) (hs:∀ i,t'.get i=t.get i):kT P E ρ t' N a:=
 ⟨h.size,fun i=>by rw [hs]; exact h.val i,fun i hi=>by rw [hs]; exact h.none i hi⟩
theorem Ba {v:KV} {b:Bool} (h:tl v = .bool b):v = .bool b:=by cases v <;> simp [tl] at h; rw [h]
theorem Yz {v:KV} (h:tl v = .jI):∃ l,v = .jI l:=by cases v <;> simp [tl] at h; exact ⟨_,rfl⟩
theorem HQ {t:bA} {d:Tmp} {b:Bool} (h:tl ((t.get d).getD .aw) = .bool b):∀ i,(Trie.set (.bool b) t d).get i=t.get i:=by
 intro i
 have:=Ba h
 rw [Trie.n8]
 split
 ·rename_i e
  subst e
  cases ht:t.get i with
  | none=>rw [ht] at this; simp at this
  | some v=>rw [ht] at this; simp at this; rw [this]
 ·rfl
theorem VC.ga {ρ:aW} {b:Bool} {v:Value} (h:VC P E ρ (.bool b) v):v = .bool b:=by
 obtain ⟨u,h1,h2⟩:=h
 have:=h1.ga; subst this
 exact h2.ga
theorem acH {R:Type} {ρ:aW} {t:bA} {N:Nat} {a:Act} {all:List Oper} {o:Oper} {j:Nat} {want:Bool} {yes no:bA→Option R} {r:R} (hg:o.guard=some (j,want)) (ht:kT P E ρ t N a)
  (h:adV t ((all[j]?).bind (·.dst)) want yes no=some r) :
  ∃ t',(∀ i,t'.get i=t.get i)∧((Region.wanted o (yielded ⟨all⟩ a.tmps)=true∧yes t' = some r)∨(Region.wanted o (yielded ⟨all⟩ a.tmps)=false∧no t' = some r)):=by
 unfold adV at h
 cases hd:(all[j]?).bind (·.dst) with
 | none=>rw [hd] at h; exact absurd h (by simp)
 | some d=>
  rw [hd] at h
  have hw:∀ u,a.tmps[d]? = some u→Region.wanted o (yielded ⟨all⟩ a.tmps)=(match u with
    | .bool b=>b==want
    | _=>false):=by
   intro u hu
   unfold Region.wanted
   rw [hg]
   simp only
   unfold yielded
   have e:(⟨all⟩:Array Oper)[j]? = all[j]?:=by simp
   rw [e,hd]
   simp only [Option.bind_some,hu]
   cases u <;> rfl
  have wI:=ht.val d
  have h:BK.rec (motive:=fun _=>Option R)
   (fun b=>Bool.rec (motive:=fun _=>Option R)
    (Bool.rec (motive:=fun _=>Option R) (yes (t.set (.bool false) d)) (no (t.set (.bool false) d)) want)
    (Bool.rec (motive:=fun _=>Option R) (no (t.set (.bool true) d)) (yes (t.set (.bool true) d)) want) b)
   (no t) none (tl ((t.get d).getD .aw))=some r:=h
  cases hb:tl ((t.get d).getD .aw) with
  | no=>rw [hb] at h; exact absurd h (by simp)
  | jI=>
   rw [hb] at h
   obtain ⟨l,hl⟩:=Yz hb
   rw [hl] at wI
   obtain ⟨u,h1,h2⟩:=wI
   obtain ⟨m,rfl,_⟩:=h1.J0
   obtain ⟨m',h3,_⟩:=h2.Ob
   refine ⟨t,fun _=>rfl,.inr ⟨?_,h⟩⟩
   cases hc:a.tmps[d]? with
   | none=>
    unfold Region.wanted
    rw [hg]
    simp only
    unfold yielded
    have e:(⟨all⟩:Array Oper)[j]? = all[j]?:=by simp
    rw [e,hd]
    simp [hc]
   | some u=>
    have:u = .tuple m':=by rw [← h3]; simp [Array.getD_eq_getD_getElem?,hc]
    rw [hw u hc,this]
  | bool b=>
   rw [hb] at h
   have hbv:=Ba hb
   rw [hbv] at wI
   have hcv:=wI.ga
   have hc:a.tmps[d]? = some (.bool b):=by
    cases hc:a.tmps[d]? with
    | none=>simp [Array.getD_eq_getD_getElem?,hc,undef] at hcv
    | some u=>have:u = .bool b:=by rw [← hcv]; simp [Array.getD_eq_getD_getElem?,hc]
              rw [this]
   have hwd:=hw _ hc
   refine ⟨t.set (.bool b) d,HQ hb,?_⟩
   cases b <;> cases want
   ·exact .inl ⟨hwd,h⟩
   ·exact .inr ⟨hwd,h⟩
   ·exact .inr ⟨hwd,h⟩
   ·exact .inl ⟨hwd,h⟩
def BD (P:Program) (E:Env) (ρ:aW) (l:List KV) (l' : List Value):Prop:=∃ m,bd P E l m∧dV ρ m l'
def F5 (P : Program) (g : FuncId) : Prop := Nat.blt g yB = true ∧ ∃ fn, P.funcs[g]? = some fn ∧ fn.body.isSome = true ∧ (fn.name == "runtime.NumGoroutine") = false
def F6 {R:Type} (P:Program) (bz:m9 R):Prop:=
 ∀ f args A k r,bz f args A k=some r→F5 P f∧∀ (E:Env) (B:St) (ρ:aW) (base:Nat) (w:World) (kh:List Value),BD P E ρ args kh→KJ P E A B ρ base w→
  Calls P f kh.toArray w fun e w'=>∃ v v' E' A' B' aX,e = .returned v'∧VC P E' aX v v'∧Ev P base E A B ρ w E' A' B' aX w'∧k v A' = some r
def ca (P:Program) (g:FuncId) (F:List KV→KR KV):Prop:=
 ∀ args v,aZ (F (normArgs P (aJ P g) args)) v→args.length=(aJ P g).length→F5 P g∧∀ (E:Env) (A:ax) (B:St) (ρ:aW) (base:Nat) (w:World) (kh:List Value),BD P E ρ args kh→KJ P E A B ρ base w→
  Calls P g kh.toArray w fun e w'=>∃ v' E' B' aX,e = .returned v'∧VC P E' aX v v'∧Ev P base E A B ρ w E' A B' aX w'
def qK (P:Program) (pc:FuncId→Option (List KV→KR KV)):Prop:=∀ g F,pc g=some F→ca P g F
theorem acI {o:Oper} {f:Operand} {args:List Operand} (a5:compile P o.op = .call f args) {ρ:aW} {t:bA} {N:Nat} {a:Act} (ht:kT P E ρ t N a) {g:FuncId} {vs:List KV} (hc:C1 (lz t args) (kM t f)=some (g,vs)) (hg:F5 P g) :
  ∃ cR,BD P E ρ vs cR∧∀ w,(execOp a.eval o).run P w = .ok (.enter g cR.toArray) w:=by
 have cg:=p0 P o
 rw [a5] at cg
 obtain ⟨em,h1,h2⟩:=cl (xs:=f::args) (ev:=kM t) (cW:=a.eval) fun x _=>ht.ev x
 obtain ⟨y,ys,e,h3,h4⟩:=h1.cons_inv
 simp only [List.map_cons,List.cons.injEq] at e
 obtain ⟨rfl,rfl⟩:=e
 have hv:∃ us,ui (args.map em) (em f)=some (g,us)∧bd P E vs us:=by
  unfold C1 at hc
  split at hc
  ·rename_i g' first cap e
   simp only [Option.some.injEq,Prod.mk.injEq] at hc
   obtain ⟨rfl,rfl⟩:=hc
   rw [e] at h3
   obtain ⟨l,m,e2,h5,h6⟩:=h3.D7
   rw [e2]
   refine ⟨l++args.map em++m,by simp only [ui]; rw [hg.1]; rfl,?_⟩
   rw [rq]
   exact (h5.append h4).append h6
  ·simp at hc
 obtain ⟨us,h5,h6⟩:=hv
 obtain ⟨cR,h7,h8⟩:=cg.2 ρ em a.eval g us h2 hg.1 h5 hg.2
 exact ⟨cR,⟨us,h6,h7⟩,h8⟩
def dM:p9→Bool
 | .call _ _=>false
 | .zT _ _ _=>false
 | .C0 _ _ _=>false
 | _=>true
theorem eB {c:Bool} {x:p9} (h:dM x=true):dM (cond c x .bad)=true:=by
 cases c with
 | false=>rfl
 | true=>exact h
theorem z0 (mt:TypeId→Bool) (b:Builtin) (ts:List TypeId) (args:List Operand):dM (yG P mt b ts args)=true:=by
 unfold yG XZ D4 LO
 repeat' split
 all_goals first | rfl | exact eB rfl
theorem xw (mt:TypeId→Bool) (t:TypeId) (l c:Operand):dM (ur P mt t l c)=true:=by
 unfold ur
 split
 ·rename_i e he
  split
  ·split
   ·cases mt (e+1000000)
    ·cases mt e <;> exact eB rfl
    ·exact eB rfl
   ·rfl
  ·rfl
 ·rfl
theorem U8 {cfg:eK} {op:Op} {f:Operand} {args:List Operand} (h:bX P cfg op = .call f args):compile P op = .call f args:=by
 have key:dM (bX P cfg op)=true→compile P op = .call f args:=fun hn=>by rw [h] at hn; simp [dM] at hn
 cases op with
 | call c=>
  have h:lM P cfg c = .call f args:=h
  show yr P c=_
  unfold lM at h
  unfold yr
  split at h
  ·rename_i g hc
   split at h
   ·cases hz:cfg.adU g <;> rw [hz] at h <;> simp at h
   ·simp at h; obtain ⟨rfl,rfl⟩:=h; rw [hc]
  ·rename_i f' en hc; simp at h; obtain ⟨rfl,rfl⟩:=h; rw [hc]
  ·rename_i b hc
   have:=z0 (P:=P) cfg.x.mt b c.argTypes.toList c.args.toList
   rw [h] at this
   simp [dM] at this
  ·simp at h
 | alloc t=>exact key (by show dM (oP P t)=true; unfold oP; split <;> first | rfl | exact eB rfl)
 | build t ps=>exact key (by show dM (r7 P t _ _)=true; unfold r7; (repeat' split); all_goals first | rfl | exact eB rfl)
 | buildSlice t n ps=>exact key (by show dM (lj P t n _ _)=true; unfold lj; (repeat' split); all_goals first | rfl | exact eB (by cases Hu _ <;> first | rfl | exact eB rfl))
 | convert s d x=>exact key (by show dM (oo P s d x)=true; unfold oo; (repeat' split); all_goals first | rfl | exact eB rfl)
 | makeFunc fn a b=>exact key (by show dM (cond (wF fn) .bad _)=true; cases wF fn <;> rfl)
 | fieldAddr s x i=>exact key (by show dM (mj P s x i)=true; unfold mj; (repeat' split); all_goals rfl)
 | field s x i=>exact key (by show dM (sa P s x i)=true; unfold sa; (repeat' split); all_goals rfl)
 | indexAddr s x i=>exact key (by show dM (ml P s x i)=true; unfold ml; (repeat' split); all_goals rfl)
 | index s x i=>exact key (by show dM (se P s x i)=true; unfold se; (repeat' split); all_goals rfl)
 | slice t x lo hi mx=>exact key (by show dM (sf P t x lo hi mx)=true; unfold sf; (repeat' split); all_goals first | rfl | exact eB rfl)
 | makeSlice t l c=>exact key (xw _ t l c)
 | _=>exact key rfl
theorem acJ {cfg:eK} {op:Op} {g:FuncId} {F:List KV→KR KV} {args:List Operand} (h:bX P cfg op = .zT g F args):compile P op = .call (.func g) args∧∃ F0,cfg.pc g=some F0∧F=fun vs=>cond (Nat.beq vs.length (aJ P g).length) (F0 (normArgs P (aJ P g) vs)) .no:=by
 have key:dM (bX P cfg op)=true→compile P op = .call (.func g) args∧∃ F0,cfg.pc g=some F0∧F=fun vs=>cond (Nat.beq vs.length (aJ P g).length) (F0 (normArgs P (aJ P g) vs)) .no:=fun hn=>by rw [h] at hn; simp [dM] at hn
 cases op with
 | call c=>
  have h:lM P cfg c = .zT g F args:=h
  show yr P c=_∧_
  unfold lM at h
  unfold yr
  split at h
  ·rename_i g' hc
   split at h
   ·rename_i F0 hF
    cases hz:cfg.adU g' with
    | true=>rw [hz] at h; simp at h
    | false=>
     rw [hz] at h
     simp at h; obtain ⟨rfl,rfl,rfl⟩:=h; rw [hc]
     exact ⟨rfl,F0,hF,rfl⟩
   ·simp at h
  ·simp at h
  ·rename_i b hc
   have:=z0 (P:=P) cfg.x.mt b c.argTypes.toList c.args.toList
   rw [h] at this
   simp [dM] at this
  ·simp at h
 | alloc t=>exact key (by show dM (oP P t)=true; unfold oP; split <;> first | rfl | exact eB rfl)
 | build t ps=>exact key (by show dM (r7 P t _ _)=true; unfold r7; (repeat' split); all_goals first | rfl | exact eB rfl)
 | buildSlice t n ps=>exact key (by show dM (lj P t n _ _)=true; unfold lj; (repeat' split); all_goals first | rfl | exact eB (by cases Hu _ <;> first | rfl | exact eB rfl))
 | convert s d x=>exact key (by show dM (oo P s d x)=true; unfold oo; (repeat' split); all_goals first | rfl | exact eB rfl)
 | makeFunc fn a b=>exact key (by show dM (cond (wF fn) .bad _)=true; cases wF fn <;> rfl)
 | fieldAddr s x i=>exact key (by show dM (mj P s x i)=true; unfold mj; (repeat' split); all_goals rfl)
 | field s x i=>exact key (by show dM (sa P s x i)=true; unfold sa; (repeat' split); all_goals rfl)
 | indexAddr s x i=>exact key (by show dM (ml P s x i)=true; unfold ml; (repeat' split); all_goals rfl)
 | index s x i=>exact key (by show dM (se P s x i)=true; unfold se; (repeat' split); all_goals rfl)
 | slice t x lo hi mx=>exact key (by show dM (sf P t x lo hi mx)=true; unfold sf; (repeat' split); all_goals first | rfl | exact eB rfl)
 | makeSlice t l c=>exact key (xw _ t l c)
 | _=>exact key rfl
theorem acK {cfg:eK} {op:Op} {g:FuncId} {F:List KV→KR KV} {args:List Operand} (h:bX P cfg op = .C0 g F args):compile P op = .call (.func g) args∧∃ F0,cfg.pc g=some F0∧F=fun vs=>cond (Nat.beq vs.length (aJ P g).length) (F0 (normArgs P (aJ P g) vs)) .no:=by
 have key:dM (bX P cfg op)=true→compile P op = .call (.func g) args∧∃ F0,cfg.pc g=some F0∧F=fun vs=>cond (Nat.beq vs.length (aJ P g).length) (F0 (normArgs P (aJ P g) vs)) .no:=fun hn=>by rw [h] at hn; simp [dM] at hn
 cases op with
 | call c=>
  have h:lM P cfg c = .C0 g F args:=h
  show yr P c=_∧_
  unfold lM at h
  unfold yr
  split at h
  ·rename_i g' hc
   split at h
   ·rename_i F0 hF
    cases hz:cfg.adU g' with
    | false=>rw [hz] at h; simp at h
    | true=>
     rw [hz] at h
     simp at h; obtain ⟨rfl,rfl,rfl⟩:=h; rw [hc]
     exact ⟨rfl,F0,hF,rfl⟩
   ·simp at h
  ·simp at h
  ·rename_i b hc
   have:=z0 (P:=P) cfg.x.mt b c.argTypes.toList c.args.toList
   rw [h] at this
   simp [dM] at this
  ·simp at h
 | alloc t=>exact key (by show dM (oP P t)=true; unfold oP; split <;> first | rfl | exact eB rfl)
 | build t ps=>exact key (by show dM (r7 P t _ _)=true; unfold r7; (repeat' split); all_goals first | rfl | exact eB rfl)
 | buildSlice t n ps=>exact key (by show dM (lj P t n _ _)=true; unfold lj; (repeat' split); all_goals first | rfl | exact eB (by cases Hu _ <;> first | rfl | exact eB rfl))
 | convert s d x=>exact key (by show dM (oo P s d x)=true; unfold oo; (repeat' split); all_goals first | rfl | exact eB rfl)
 | makeFunc fn a b=>exact key (by show dM (cond (wF fn) .bad _)=true; cases wF fn <;> rfl)
 | fieldAddr s x i=>exact key (by show dM (mj P s x i)=true; unfold mj; (repeat' split); all_goals rfl)
 | field s x i=>exact key (by show dM (sa P s x i)=true; unfold sa; (repeat' split); all_goals rfl)
 | indexAddr s x i=>exact key (by show dM (ml P s x i)=true; unfold ml; (repeat' split); all_goals rfl)
 | index s x i=>exact key (by show dM (se P s x i)=true; unfold se; (repeat' split); all_goals rfl)
 | slice t x lo hi mx=>exact key (by show dM (sf P t x lo hi mx)=true; unfold sf; (repeat' split); all_goals first | rfl | exact eB rfl)
 | makeSlice t l c=>exact key (xw _ t l c)
 | _=>exact key rfl
noncomputable def tw (ins:p9) (t:bA) (A:ax):KR (KV×ax):=
 match ins with
 | .pure f xs=>(f (lz t xs)).map fun v=>(v,A)
 | .read f xs=>(f A (lz t xs)).map fun v=>(v,A)
 | .act f xs=>f A (lz t xs)
 | .look f xs=>(f (lz t xs)).map fun v=>(v,A)
 | .zT _ f xs=>(f (lz t xs)).map fun v=>(v,A)
 | .C0 _ f xs=>(f (vQ A (lz t xs)).1).map fun v=>(v,(vQ A (lz t xs)).2)
 | .call _ _=>.no
 | .bad=>.no
theorem aZ.yJ {α β:Type} {r:KR α} {f:α→β} {u:α} (h:aZ r u):aZ (r.map f) (f u):=by
 cases r with
 | no=>exact h.elim
 | ok x=>have h:x=u:=h; subst h; exact rfl
 | lZ c x=>obtain ⟨h1,rfl⟩:=h; exact ⟨h1,rfl⟩
 | br c x y=>exact h.imp (fun h=>⟨h.1,aZ.yJ (r:=x) h.2⟩) (fun h=>⟨h.1,aZ.yJ (r:=y) h.2⟩)
theorem Eb {R:Type} {bz:m9 R} {t:bA} {A:ax} {k:KV→ax→Option R} {ins:p9} {r:R} (hn:∀ f args,ins≠.call f args) (h:JY bz t A k ins=some r):∃ v A',aZ (tw ins t A) (v,A')∧k v A' = some r:=by
 cases ins with
 | pure f xs=>obtain ⟨v,h1,h2⟩:=KR.x3 h; exact ⟨v,A,h1.yJ,h2⟩
 | read f xs=>obtain ⟨v,h1,h2⟩:=KR.x3 h; exact ⟨v,A,h1.yJ,h2⟩
 | act f xs=>obtain ⟨v,h1,h2⟩:=KR.x3 h; exact ⟨v.1,v.2,h1,h2⟩
 | look f xs=>obtain ⟨v,h1,h2⟩:=KR.x3 h; exact ⟨v,A,h1.yJ,h2⟩
 | zT g f xs=>obtain ⟨v,h1,h2⟩:=KR.x3 h; exact ⟨v,A,h1.yJ,h2⟩
 | C0 g f xs=>obtain ⟨v,h1,h2⟩:=KR.x3 h; exact ⟨v,(vQ A (lz t xs)).2,h1.yJ (f:=fun v=>(v,(vQ A (lz t xs)).2)),h2⟩
 | call f args=>exact absurd rfl (hn f args)
 | bad=>exact absurd h (by simp [JY])
theorem U9 {cfg:eK} (ik:qK P cfg.pc) {o:Oper} {g:FuncId} {xs:List Operand} (a5:compile P o.op = .call (.func g) xs) {F0:List KV→KR KV} (hF0:cfg.pc g=some F0) {t:bA} {vs0:List KV} {v:KV}
  (hf:aZ (F0 (normArgs P (aJ P g) vs0)) v) (hlen:vs0.length=(aJ P g).length) {E:Env} {ρ:aW} {a:Act} (hv:∀ x∈xs,VC P E ρ (kM t x) (a.eval x)) {A A1:ax} {B:St} {base:Nat} {w:World}
  (amd:∀ us,bd P E (xs.map (kM t)) us→∃ E1,Ev P base E A B ρ w E1 A1 B ρ w∧bd P E1 vs0 us) {next:Act→World→Prop} {Q:Exit→Act→World→Prop}
  (hk:∀ E' B' aX v' w',VC P E' aX v v'→Ev P base E A B ρ w E' A1 B' aX w'→next (a.put o.dst v') w'):o.upon P a next Q ((execOp a.eval o).run P w):=by
 obtain ⟨hg,mJ⟩:=ik g F0 hF0 _ _ hf hlen
 have Va:=p0 P o
 rw [a5] at Va
 obtain ⟨em,h3,h4⟩:=cl (xs:=xs) hv
 let em2:Operand→Value:=fun x=>match x with
  | .func f=>.func (.func f) #[] #[]
  | x=>em x
 have e3:∀ x∈xs,VK P E (kM t x) (em2 x)∧VR ρ (em2 x) (a.eval x):=by
  intro x hx
  have key:∀ (l:List Operand),bd P E (l.map (kM t)) (l.map em)→x∈l→VK P E (kM t x) (em x):=by
   intro l
   induction l with
   | nil=>intro _ h; simp at h
   | cons y l ih=>
    intro h hm
    obtain ⟨z,zs,e,q1,q2⟩:=h.cons_inv
    simp only [List.map_cons,List.cons.injEq] at e
    obtain ⟨rfl,rfl⟩:=e
    rcases List.mem_cons.1 hm with rfl | hm
    ·exact q1
    ·exact ih q2 hm
  cases x with
  | func f=>exact ⟨.ad1 .nil .nil,VR.W5 (l:=[]) (m:=[]) (.func f) rfl .nil .nil⟩
  | tmp i=>exact ⟨key xs h3 hx,h4 _ hx⟩
  | const c=>exact ⟨key xs h3 hx,h4 _ hx⟩
  | global q=>exact ⟨key xs h3 hx,h4 _ hx⟩
 have e4:bd P E (xs.map (kM t)) (xs.map em2):=by
  have:∀ (l:List Operand),(∀ x∈l,VK P E (kM t x) (em2 x))→bd P E (l.map (kM t)) (l.map em2):=by
   intro l
   induction l with
   | nil=>intro _; exact .nil
   | cons y l ih=>intro h; exact .cons (h y (by simp)) (ih fun z hz=>h z (by simp [hz]))
  exact this xs fun x hx=>(e3 x hx).1
 obtain ⟨cR,h5,h6⟩:=Va.2 ρ em2 a.eval g (xs.map em2) (fun x hx=>by
   rcases List.mem_cons.1 hx with rfl | hx
   ·exact VR.W5 (l:=[]) (m:=[]) (.func g) rfl .nil .nil
   ·exact (e3 x hx).2) hg.1 (by simp only [em2,ui]; rw [hg.1]; simp) hg.2
 rw [h6 w]
 obtain ⟨E1,q1,q2⟩:=amd _ e4
 refine (mJ E1 A1 B ρ base w cR ⟨xs.map em2,q2,h5⟩ q1.kj).mono ?_
 rintro e w' ⟨v',E',B',aX,rfl,h7,h8⟩
 exact hk E' B' aX v' w' h7 (q1.trans h8)
theorem HR {cfg:eK} (ik:qK P cfg.pc) {o:Oper} {t:bA} {A A' : ax} {v:KV} {base:Nat} {B:St} {ρ:aW} {a:Act} {w:World} {next:Act→World→Prop} {Q:Exit→Act→World→Prop}
  (h:aZ (tw (bX P cfg o.op) t A) (v,A')) (hv:∀ x∈Xb (bX P cfg o.op),VC P E ρ (kM t x) (a.eval x)) (hj:KJ P E A B ρ base w)
  (hk:∀ E' B' aX v' w',VC P E' aX v v'→Ev P base E A B ρ w E' A' B' aX w'→next (a.put o.dst v') w'):o.wp P a w next Q:=by
 have cg:=ahM P cfg o
 have ag0:=@acJ P cfg o.op
 have ag1:=@acK P cfg o.op
 generalize bX P cfg o.op=ins at h cg hv ag0 ag1
 unfold Oper.wp
 cases ins with
 | pure f xs=>
  obtain ⟨u,h1,h2⟩:=aZ.map h
  simp only [Prod.mk.injEq] at h2
  obtain ⟨rfl,rfl⟩:=h2
  rw [rq] at h1
  obtain ⟨v',h3,h4⟩:=cg E ρ (kM t) a.eval u hv h1
  rw [h4 w]
  exact hk E B ρ v' w h3 (.refl hj.k hj.s)
 | read f xs=>
  obtain ⟨u,h1,h2⟩:=aZ.map h
  simp only [Prod.mk.injEq] at h2
  obtain ⟨rfl,rfl⟩:=h2
  rw [rq] at h1
  obtain ⟨v',h3,h4⟩:=cg E A B ρ base w (kM t) a.eval u hj hv h1
  rw [h4]
  exact hk E B ρ v' w h3 (.refl hj.k hj.s)
 | act f xs=>
  have h:aZ (f A (lz t xs)) (v,A'):=h
  rw [rq] at h
  obtain ⟨E',B',aX,v',nx,w',h1,h2,h3,h4⟩:=cg E A A' B ρ base w (kM t) a.eval v hj hv h
  rw [h1]
  have hd:=hk E' B' aX v' w' h3 h4
  cases nx with
  | value u=>have:u=v':=h2; subst this; exact hd
  | skip=>have:v' = undef:=h2; subst this; exact hd
  | _=>exact h2.elim
 | look f xs=>
  obtain ⟨u,h1,h2⟩:=aZ.map h
  simp only [Prod.mk.injEq] at h2
  obtain ⟨rfl,rfl⟩:=h2
  rw [rq] at h1
  obtain ⟨E',B',aX,v',nx,w',h3,h4,h5,h6⟩:=cg E A B ρ base w (kM t) a.eval u hj hv h1
  rw [h3]
  have hd:=hk E' B' aX v' w' h5 h6
  cases nx with
  | value u=>have:u=v':=h4; subst this; exact hd
  | skip=>have:v' = undef:=h4; subst this; exact hd
  | _=>exact h4.elim
 | zT g f xs=>
  obtain ⟨u,h1,h2⟩:=aZ.map h
  simp only [Prod.mk.injEq] at h2
  obtain ⟨rfl,rfl⟩:=h2
  obtain ⟨a5,F0,hF0,rfl⟩:=ag0 rfl
  obtain ⟨hlen,hf⟩:=aZ.cond h1
  exact U9 ik a5 hF0 hf (Nat.eq_of_beq_eq_true hlen) hv (fun us q=>⟨E,.refl hj.k hj.s,by rw [rq]; exact q⟩) hk
 | C0 g f xs=>
  obtain ⟨u,h1,h2⟩:=aZ.map h
  simp only [Prod.mk.injEq] at h2
  obtain ⟨rfl,rfl⟩:=h2
  obtain ⟨a5,F0,hF0,rfl⟩:=ag1 rfl
  obtain ⟨hlen,hf⟩:=aZ.cond h1
  refine U9 ik a5 hF0 hf (Nat.eq_of_beq_eq_true hlen) hv (fun us q=>?_) hk
  obtain ⟨E1,p1,p2⟩:=Ea hj.k q
  rw [rq]
  exact ⟨E1,p1.ev (.refl hj.s),p2⟩
 | call f args=>exact h.elim
 | bad=>exact h.elim
end Go.K
end
section
namespace Go.K
open Go Go.aE
variable {P:Program} {E:Env}
theorem Vb {R:Type} {cfg:eK} {bz:m9 R} (ik:qK P cfg.pc) (tZ:F6 P bz) {o:Oper} {t:bA} {A:ax} {k:KV→ax→Option R} {r:R} {N base:Nat} {B:St} {ρ:aW} {a:Act} {w:World} {next:Act→World→Prop} {Q:Exit→Act→World→Prop}
  (h:JY bz t A k (bX P cfg o.op)=some r) (ht:kT P E ρ t N a) (hj:KJ P E A B ρ base w)
  (hk:∀ E' A' B' aX v v' w',k v A' = some r→VC P E' aX v v'→Ev P base E A B ρ w E' A' B' aX w'→next (a.put o.dst v') w'):o.wp P a w next Q:=by
 by_cases hc:∃ f args,bX P cfg o.op = .call f args
 ·obtain ⟨f,args,hc⟩:=hc
  rw [hc] at h
  have h:Option.rec (motive:=fun _=>Option R) none (fun p=>bz p.1 p.2 A k) (C1 (lz t args) (kM t f))=some r:=h
  cases adM:C1 (lz t args) (kM t f) with
  | none=>rw [adM] at h; exact absurd h (by simp)
  | some p=>
   obtain ⟨g,vs⟩:=p
   rw [adM] at h
   have h:bz g vs A k=some r:=h
   obtain ⟨hg,mJ⟩:=tZ g vs A k r h
   obtain ⟨cR,h1,h2⟩:=acI (U8 hc) ht adM hg
   unfold Oper.wp
   rw [h2 w]
   refine (mJ E B ρ base w cR h1 hj).mono ?_
   rintro e w' ⟨v,v',E',A',B',aX,rfl,h3,h4,h5⟩
   exact hk E' A' B' aX v v' w' h5 h3 h4
 ·obtain ⟨v,A',h1,h2⟩:=Eb (fun f args e=>hc ⟨f,args,e⟩) h
  exact HR ik h1 (fun x _=>ht.ev x) hj fun E' B' aX v' w' h3 h4=>hk E' A' B' aX v v' w' h2 h3 h4
theorem ael {R:Type} {cfg:eK} {bz:m9 R} {all:List Oper} {o:Oper} {k:bA→ax→Option R} {t:bA} {A:ax} {r:R} {N:Nat} {ρ:aW} {a:Act} (ht:kT P E ρ t N a) (h:xt P cfg bz all o k t A=some r) :
  ∃ t1,(∀ i,t1.get i=t.get i)∧((Region.wanted o (yielded ⟨all⟩ a.tmps)=true∧JY bz t1 A (fun v A=>k (o5 t1 o.dst v) A) (bX P cfg o.op)=some r)∨
   (Region.wanted o (yielded ⟨all⟩ a.tmps)=false∧k (o5 t1 o.dst qS) A=some r)):=by
 unfold xt at h
 cases hg:o.guard with
 | none=>
  rw [hg] at h
  refine ⟨t,fun _=>rfl,.inl ⟨?_,h⟩⟩
  unfold Region.wanted
  rw [hg]
 | some p=>
  obtain ⟨j,want⟩:=p
  rw [hg] at h
  exact acH hg ht h
theorem Kb {R:Type} {cfg:eK} {bz:m9 R} (ik:qK P cfg.pc) (tZ:F6 P bz) {N base:Nat} {Q:Exit→Act→World→Prop} {all:List Oper} (hd:all.all (EI N)=true) {k:bA→ax→Option R} {r:R} :
  ∀ (os:List Oper) (j:Nat) (t:bA) (E:Env) (A:ax) (B:St) (ρ:aW) (a:Act) (w:World),all.drop j=os→rU P cfg bz all k os t A=some r→kT P E ρ t N a→KJ P E A B ρ base w→
   (∀ t' E' A' B' aX a' w',k t' A' = some r→kT P E' aX t' N a'→a'.defers=a.defers→Ev P base E A B ρ w E' A' B' aX w'→Q .normal a' w')→wpOps P ⟨all⟩ Q (List.range' j os.length) a w
 | [],j,t,E,A,B,ρ,a,w,_,h,ht,hj,hq=>hq t E A B ρ a w h ht rfl (.refl hj.k hj.s)
 | o::os,j,t,E,A,B,ρ,a,w,hk,h,ht,hj,hq=>by
  have ho:(⟨all⟩:Array Oper)[j]? = some o:=by
   have:(all.drop j)[0]? = some o:=by rw [hk]; rfl
   rw [List.getElem?_drop] at this
   simpa using this
  have vU:all.drop (j+1)=os:=by rw [← List.drop_drop,hk]; rfl
  have C8:∀ d,o.dst=some d→d < N:=by
   intro d e
   have hm:o∈all:=List.mem_of_getElem? (by simpa using ho)
   have:=List.all_eq_true.1 hd o hm
   unfold EI at this
   rw [e] at this
   simp only at this
   rw [Nat.blt_eq] at this
   exact this
  rw [List.length_cons,List.range'_succ]
  simp only [wpOps,ho]
  have h:xt P cfg bz all o (rU P cfg bz all k os) t A=some r:=h
  obtain ⟨t1,Bw,h⟩:=ael ht h
  have vX:=ht.same Bw
  rcases h with ⟨hw,h⟩ | ⟨hw,h⟩
  ·rw [hw]
   refine .inl (Vb ik tZ h vX hj fun E' A' B' aX v v' w' h1 h2 h3=>?_)
   refine Kb ik tZ hd os (j+1) _ E' A' B' aX _ w' vU h1 ((vX.mono h3.le (h3.fN.le hj.s)).put C8 h2) h3.kj fun t' F7 A'' HS uk YA FC h4 h5 h6 h7=>?_
   exact hq t' F7 A'' HS uk YA FC h4 h5 (by rw [h6,put_defers]) (h3.trans h7)
  ·rw [hw]
   refine Kb ik tZ hd os (j+1) _ E A B ρ _ w vU h (vX.put C8 .undef) hj fun t' F7 A'' HS uk YA FC h4 h5 h6 h7=>?_
   exact hq t' F7 A'' HS uk YA FC h4 h5 (by rw [h6,put_defers]) h7
abbrev Out:=Bool×KV×ax
inductive Run (P:Program) (cfg:eK) (all:List Oper):List Oper→bA→ax→List Out→bA→ax→Prop where
 | nil {t:bA} {A:ax} : Run P cfg all [] t A [] t A
 | cons {o:Oper} {os:List Oper} {t t1 t' : bA} {A A1 A' : ax} {wd:Bool} {v:KV} {L:List Out}
   (same:∀ i,t1.get i=t.get i)
   (want:(o.guard=none∧wd=true)∨∃ j want d,o.guard=some (j,want)∧(all[j]?).bind (·.dst)=some d∧((∃ b,t.get d=some (.bool b)∧wd=(b==want))∨(∃ l,t.get d=some (.jI l)∧wd=false)))
   (yes:wd=true→aZ (tw (bX P cfg o.op) t1 A) (v,A1)) (no:wd=false→v=qS∧A1=A)
   (rest:Run P cfg all os (o5 t1 o.dst v) A1 L t' A'):Run P cfg all (o::os) t A ((wd,v,A1)::L) t' A'
theorem HT {R:Type} {t:bA} {d:Option Tmp} {want:Bool} {yes no:bA→Option R} {r:R} (h:adV t d want yes no=some r) :
  ∃ d',d=some d'∧((∃ b t',t.get d' = some (.bool b)∧(∀ i,t'.get i=t.get i)∧((b==want)=true∧yes t' = some r∨(b==want)=false∧no t' = some r))∨∃ l,t.get d' = some (.jI l)∧no t=some r):=by
 unfold adV at h
 cases d with
 | none=>exact absurd h (by simp)
 | some d=>
  refine ⟨d,rfl,?_⟩
  have h:BK.rec (motive:=fun _=>Option R)
   (fun b=>Bool.rec (motive:=fun _=>Option R)
    (Bool.rec (motive:=fun _=>Option R) (yes (t.set (.bool false) d)) (no (t.set (.bool false) d)) want)
    (Bool.rec (motive:=fun _=>Option R) (no (t.set (.bool true) d)) (yes (t.set (.bool true) d)) want) b)
   (no t) none (tl ((t.get d).getD .aw))=some r:=h
  have mZ:∀ v,(t.get d).getD .aw=v→v≠.aw→t.get d=some v:=by
   intro v e en
   cases hg:t.get d with
   | none=>rw [hg] at e; exact absurd e.symm en
   | some u=>rw [hg] at e; simp at e; rw [e]
  cases hb:tl ((t.get d).getD .aw) with
  | no=>rw [hb] at h; exact absurd h (by simp)
  | jI=>
   rw [hb] at h
   obtain ⟨l,hl⟩:=Yz hb
   exact .inr ⟨l,mZ _ hl (by simp),h⟩
  | bool b=>
   rw [hb] at h
   refine .inl ⟨b,t.set (.bool b) d,mZ _ (Ba hb) (by simp),HQ hb,?_⟩
   cases b <;> cases want
   ·exact .inl ⟨rfl,h⟩
   ·exact .inr ⟨rfl,h⟩
   ·exact .inr ⟨rfl,h⟩
   ·exact .inl ⟨rfl,h⟩
theorem Qi {R:Type} {cfg:eK} {bz:m9 R} {all:List Oper} {k:bA→ax→Option R} {r:R} : ∀ {os:List Oper} {t:bA} {A:ax},(∀ o∈os,∀ f args,bX P cfg o.op≠.call f args)→rU P cfg bz all k os t A=some r→
  ∃ L t' A',Run P cfg all os t A L t' A'∧k t' A' = some r
 | [],t,A,_,h=>⟨[],t,A,.nil,h⟩
 | o::os,t,A,hn,h=>by
  have h:xt P cfg bz all o (rU P cfg bz all k os) t A=some r:=h
  have Hr:=fun q hq=>hn q (List.mem_cons_of_mem o hq)
  unfold xt at h
  cases hg:o.guard with
  | none=>
   rw [hg] at h
   obtain ⟨v,A1,h1,h2⟩:=Eb (hn o (by simp)) h
   obtain ⟨L,t',A',h3,h4⟩:=Qi Hr h2
   exact ⟨_,t',A',.cons (fun _=>rfl) (.inl ⟨hg,rfl⟩) (fun _=>h1) (fun e=>by simp at e) h3,h4⟩
  | some p=>
   obtain ⟨j,want⟩:=p
   rw [hg] at h
   obtain ⟨d,hd,h⟩:=HT h
   rcases h with ⟨b,t1,h1,h2,h3⟩ | ⟨l,h1,h2⟩
   ·rcases h3 with ⟨h3,h4⟩ | ⟨h3,h4⟩
    ·obtain ⟨v,A1,h5,h6⟩:=Eb (hn o (by simp)) h4
     obtain ⟨L,t',A',h7,h8⟩:=Qi Hr h6
     exact ⟨_,t',A',.cons h2 (.inr ⟨j,want,d,hg,hd,.inl ⟨b,h1,h3.symm⟩⟩) (fun _=>h5) (fun e=>by simp at e) h7,h8⟩
    ·obtain ⟨L,t',A',h7,h8⟩:=Qi Hr h4
     exact ⟨_,t',A',.cons h2 (.inr ⟨j,want,d,hg,hd,.inl ⟨b,h1,h3.symm⟩⟩) (fun e=>by simp at e) (fun _=>⟨rfl,rfl⟩) h7,h8⟩
   ·obtain ⟨L,t',A',h7,h8⟩:=Qi Hr h2
    exact ⟨_,t',A',.cons (fun _=>rfl) (.inr ⟨j,want,d,hg,hd,.inr ⟨l,h1,rfl⟩⟩) (fun e=>by simp at e) (fun _=>⟨rfl,rfl⟩) h7,h8⟩
noncomputable def turns (P:Program) (cfg:eK) (o:Oper) (x:Out):Bool:=x.1&&Nat.ble 3 (dC (bX P cfg o.op))
noncomputable def iP (S:Nat→Bool):List Oper→List Out→Nat→bA→bA
 | o::os,x::L,i,t=>iP S os L (i+1) (cond (S i) (o5 t o.dst x.2.1) t)
 | _,_,_,t=>t
noncomputable def m5 (P:Program) (cfg:eK) (S:Nat→Bool):List Oper→List Out→Nat→ax→ax
 | o::os,x::L,i,A=>m5 P cfg S os L (i+1) (cond (S i&&turns P cfg o x) x.2.2 A)
 | _,_,_,A=>A
theorem ru (t:bA) (dst:Option Tmp) (v:KV) (x:Tmp):(o5 t dst v).get x=if dst=some x then some v else t.get x:=by
 cases dst with
 | none=>rfl
 | some d=>
  simp only [o5,Trie.n8,Option.some.injEq]
  by_cases h:x=d
  ·rw [if_pos h,if_pos h.symm]
  ·rw [if_neg h,if_neg (Ne.symm h)]
theorem z6 (S:Nat→Bool):∀ (os:List Oper) (L:List Out) (k:Nat) (t:bA),iP S os L (k+1) t=iP (fun i=>S (i+1)) os L k t
 | [],L,k,t=>by cases L <;> rfl
 | o::os,[],k,t=>rfl
 | o::os,x::L,k,t=>by simp only [iP]; exact z6 S os L (k+1) _
theorem Ov {cfg:eK} (S:Nat→Bool):∀ (os:List Oper) (L:List Out) (k:Nat) (A:ax),m5 P cfg S os L (k+1) A=m5 P cfg (fun i=>S (i+1)) os L k A
 | [],L,k,t=>by cases L <;> rfl
 | o::os,[],k,t=>rfl
 | o::os,x::L,k,t=>by simp only [m5]; exact Ov S os L (k+1) _
theorem lO {S S' : Nat→Bool} {y:Tmp} : ∀ {os:List Oper} {L:List Out} {k:Nat} {t t' : bA},t.get y=t'.get y→(∀ i o,os[i]? = some o→o.dst=some y→S (k+i)=S' (k+i))→(iP S os L k t).get y=(iP S' os L k t').get y
 | [],L,k,t,t',h,_=>by cases L <;> exact h
 | o::os,[],k,t,t',h,_=>h
 | o::os,x::L,k,t,t',h,hs=>by
  simp only [iP]
  refine lO ?_ fun i o' ho hd=>by have:=hs (i+1) o' (by simpa using ho) hd; rwa [show k+(i+1)=k+1+i by omega] at this
  by_cases hd:o.dst=some y
  ·have:=hs 0 o rfl hd
   rw [Nat.add_zero] at this
   rw [this]
   cases S' k with
   | true=>simp only [cond_true,ru,if_pos hd]
   | false=>exact h
  ·have e:∀ (b:Bool) (u:bA),(cond b (o5 u o.dst x.2.1) u).get y=u.get y:=by
    intro b u
    cases b with
    | true=>rw [cond_true,ru,if_neg hd]
    | false=>rfl
   rw [e,e]; exact h
theorem YB {S:Nat→Bool} {y:Tmp} : ∀ {os:List Oper} {L:List Out} {k i:Nat} {t:bA} {o:Oper} {x:Out},os[i]? = some o→L[i]? = some x→o.dst=some y→(∀ j q,os[j]? = some q→q.dst=some y→i < j→S (k+j)=false)→
  (iP (cT S (k+i)) os L k t).get y=some x.2.1
 | [],L,k,i,t,o,x,ho,_,_,_=>by simp at ho
 | q::os,[],k,i,t,o,x,_,hx,_,_=>by simp at hx
 | q::os,u::L,k,0,t,o,x,ho,hx,hd,hs=>by
  simp at ho hx
  subst ho hx
  simp only [iP,Nat.add_zero]
  have hk:cT S k k=true:=by simp [cT]
  rw [hk,cond_true]
  have:=lO (S:=cT S k) (S':=fun _=>false) (y:=y) (os:=os) (L:=L) (k:=k+1) (t:=o5 t q.dst u.2.1) (t':=o5 t q.dst u.2.1) rfl (fun j q' hq YC=>by
   have h1:=hs (j+1) q' (by simpa using hq) YC (by omega)
   rw [show k+(j+1)=k+1+j by omega] at h1
   simp only [cT,h1,Bool.false_or]
   cases hb:Nat.beq (k+1+j) k with
   | false=>rfl
   | true=>have:=Nat.eq_of_beq_eq_true hb; omega)
  rw [this]
  have BF:∀ (os:List Oper) (L:List Out) (k:Nat) (t:bA),iP (fun _=>false) os L k t=t:=by
   intro os
   induction os with
   | nil=>intro L k t; cases L <;> rfl
   | cons o os ih=>intro L k t; cases L with
    | nil=>rfl
    | cons x L=>simp only [iP,cond_false]; exact ih L _ t
  rw [BF,ru,if_pos hd]
 | q::os,u::L,k,i+1,t,o,x,ho,hx,hd,hs=>by
  simp only [iP]
  rw [show k+(i+1)=k+1+i by omega]
  exact YB (by simpa using ho) (by simpa using hx) hd fun j q' hq YC bU=>by
   have:=hs (j+1) q' (by simpa using hq) YC (by omega)
   rwa [show k+(j+1)=k+1+j by omega] at this
theorem Ec {cfg:eK} {S S' : Nat→Bool} : ∀ {os:List Oper} {L:List Out} {k:Nat} {A:ax},(∀ i o x,os[i]? = some o→L[i]? = some x→turns P cfg o x=true→S (k+i)=S' (k+i))→m5 P cfg S os L k A=m5 P cfg S' os L k A
 | [],L,k,A,_=>by cases L <;> rfl
 | o::os,[],k,A,_=>rfl
 | o::os,x::L,k,A,h=>by
  simp only [m5]
  have h0:(S k&&turns P cfg o x)=(S' k&&turns P cfg o x):=by
   cases ht:turns P cfg o x with
   | false=>simp
   | true=>have:=h 0 o x rfl rfl ht; rw [Nat.add_zero] at this; rw [this]
  rw [h0]
  exact Ec fun i o' x' ho hx ht=>by have:=h (i+1) o' x' (by simpa using ho) (by simpa using hx) ht; rwa [show k+(i+1)=k+1+i by omega] at this
def HU (all:List Oper) (o:Oper) (t:bA) (wd:Bool):Prop:=(o.guard=none∧wd=true)∨∃ j want d,o.guard=some (j,want)∧(all[j]?).bind (·.dst)=some d∧((∃ b,t.get d=some (.bool b)∧wd=(b==want))∨(∃ l,t.get d=some (.jI l)∧wd=false))
theorem z7 {cfg:eK} {o:Oper} {t:bA} {A A1:ax} {v:KV} (h:aZ (tw (bX P cfg o.op) t A) (v,A1)) (hk:Nat.ble 3 (dC (bX P cfg o.op))=false):A1=A:=by
 generalize bX P cfg o.op=ins at h hk
 cases ins with
 | pure f xs=>obtain ⟨u,_,h2⟩:=aZ.map h; simp at h2; exact h2.2.symm
 | read f xs=>obtain ⟨u,_,h2⟩:=aZ.map h; simp at h2; exact h2.2.symm
 | act f xs=>exact absurd hk (by simp [dC])
 | look f xs=>obtain ⟨u,_,h2⟩:=aZ.map h; simp at h2; exact h2.2.symm
 | zT g f xs=>obtain ⟨u,_,h2⟩:=aZ.map h; simp at h2; exact h2.2.symm
 | C0 g f xs=>exact absurd hk (by simp [dC])
 | call f xs=>exact h.elim
 | bad=>exact h.elim
theorem Run.at {cfg:eK} {all:List Oper} : ∀ {os:List Oper} {t t' : bA} {A A' : ax} {L:List Out},Run P cfg all os t A L t' A'→
  L.length=os.length∧(∀ y,t'.get y=(iP (fun _=>true) os L 0 t).get y)∧A' = m5 P cfg (fun _=>true) os L 0 A∧
  ∀ i o x,os[i]? = some o→L[i]? = some x→∃ t1,(∀ y,t1.get y=(iP (fun j=>Nat.blt j i) os L 0 t).get y)∧HU all o t1 x.1∧(x.1=true→aZ (tw (bX P cfg o.op) t1 (m5 P cfg (fun j=>Nat.blt j i) os L 0 A)) (x.2.1,x.2.2))∧(x.1=false→x.2.1=qS)
 | _,_,_,_,_,_,.nil=>⟨rfl,fun _=>rfl,rfl,fun i o x ho=>by simp at ho⟩
 | o::os,t,t',A,A',(wd,v,A1)::L,.cons (t1:=t1) same want yes no rest=>by
  obtain ⟨h1,h2,h3,h4⟩:=rest.at
  have hA1:cond (turns P cfg o (wd,v,A1)) A1 A=A1:=by
   cases ht:turns P cfg o (wd,v,A1) with
   | true=>rfl
   | false=>
    rw [cond_false]
    cases wd with
    | false=>exact (no rfl).2.symm
    | true=>exact (z7 (yes rfl) (by simpa [turns] using ht)).symm
  have Vc:∀ y,(o5 t1 o.dst v).get y=(o5 t o.dst v).get y:=fun y=>by rw [ru,ru,same]
  refine ⟨by simp [h1],fun y=>?_,?_,fun i q x hq hx=>?_⟩
  ·rw [h2 y]
   simp only [iP,cond_true]
   rw [z6]
   exact lO (Vc y) fun _ _ _ _=>rfl
  ·rw [h3]
   simp only [m5,Bool.true_and]
   rw [Ov,hA1]
  ·cases i with
   | zero=>
    simp at hq hx
    subst hq hx
    have e0:∀ (os:List Oper) (L:List Out) (k:Nat) (t:bA),iP (fun j=>Nat.blt j 0) os L k t=t:=by
     intro os
     induction os with
     | nil=>intro L k t; cases L <;> rfl
     | cons o os ih=>intro L k t; cases L with
      | nil=>rfl
      | cons x L=>simp only [iP]; exact ih L _ t
    have e1:∀ (os:List Oper) (L:List Out) (k:Nat) (A:ax),m5 P cfg (fun j=>Nat.blt j 0) os L k A=A:=by
     intro os
     induction os with
     | nil=>intro L k t; cases L <;> rfl
     | cons o os ih=>intro L k t; cases L with
      | nil=>rfl
      | cons x L=>simp only [m5]; exact ih L _ t
    refine ⟨t1,fun y=>by rw [e0]; exact same y,?_,fun e=>by rw [e1]; exact yes e,fun e=>(no e).1⟩
    rcases want with h | ⟨j,wt,d,e2,e3,e4⟩
    ·exact .inl h
    ·exact .inr ⟨j,wt,d,e2,e3,by rw [same]; exact e4⟩
   | succ i=>
    obtain ⟨t2,h5,h6,h7,h8⟩:=h4 i q x (by simpa using hq) (by simpa using hx)
    have hsh:(fun j=>Nat.blt (j+1) (i+1))=fun j=>Nat.blt j i:=by
     funext j
     cases hb:Nat.blt j i with
     | true=>rw [Nat.blt_eq] at hb ⊢; omega
     | false=>
      cases hc:Nat.blt (j+1) (i+1) with
      | false=>rfl
      | true=>rw [Nat.blt_eq] at hc; rw [show Nat.blt j i=true from by rw [Nat.blt_eq]; omega] at hb; simp at hb
    have h01:Nat.blt 0 (i+1)=true:=by rw [Nat.blt_eq]; omega
    have iM:m5 P cfg (fun j=>Nat.blt j (i+1)) (o::os) ((wd,v,A1)::L) 0 A=m5 P cfg (fun j=>Nat.blt j i) os L 0 A1:=by
     simp only [m5,h01,Bool.true_and]
     rw [Ov,hA1,hsh]
    refine ⟨t2,fun y=>?_,h6,fun e=>by rw [iM]; exact h7 e,h8⟩
    rw [h5 y]
    simp only [iP,h01,cond_true]
    rw [z6,hsh]
    exact lO (Vc y) fun _ _ _ _=>rfl
end Go.K
end
section
namespace Go.K
open Go Go.aE
variable {P:Program} {E:Env}
theorem Qj {cfg:eK} {all:List Oper} {b:List Nat} {i:Nat} {y:Oper} : ∀ (xs:List Oper) (k:Nat),LQ P cfg all b i y xs k=true→∀ (j:Nat) (x:Oper),xs[j]? = some x→k+j < i→EO P cfg all x y=true→oZ b i (k+j)=true∨(sg P cfg all x y=false∧(UY all (k+j) x i y).isSome=true)
 | [],k,_,j,x,hx,_,_=>by simp at hx
 | x0::xs,k,h,0,x,hx,bU,hc=>by
  simp at hx
  subst hx
  simp only [LQ,Bool.and_eq_true,Bool.or_eq_true,Bool.not_eq_true'] at h
  rcases h.1 with ((h1 | h1) | h1) | h1
  ·have:=Nat.le_of_ble_eq_true h1; omega
  ·rw [hc] at h1; simp at h1
  ·exact .inl h1
  ·exact .inr h1
 | x0::xs,k,h,j+1,x,hx,bU,hc=>by
  simp only [LQ,Bool.and_eq_true] at h
  have:=Qj xs (k+1) h.2 j x (by simpa using hx) (by omega) hc
  rwa [show k+1+j=k+(j+1) by omega] at this
theorem Kc {cfg:eK} {all:List Oper} {b:List Nat} : ∀ (os:List Oper) (k:Nat),FQ P cfg all b os k=true→∀ (i:Nat) (o:Oper),os[i]? = some o→LQ P cfg all b (k+i) o all 0=true
 | [],k,_,i,o,ho=>by simp at ho
 | o0::os,k,h,0,o,ho=>by
  simp at ho
  subst ho
  simp only [FQ,Bool.and_eq_true] at h
  exact h.1
 | o0::os,k,h,i+1,o,ho=>by
  simp only [FQ,Bool.and_eq_true] at h
  have:=Kc os (k+1) h.2 i o (by simpa using ho)
  rwa [show k+1+i=k+(i+1) by omega] at this
theorem Qk {cfg:eK} {all:List Oper} {b:List Nat} {i:Nat} {y:Oper} {p:Option Operand×Operand} : ∀ (xs:List Oper) (k j:Nat) (x:Oper),xs[j]? = some x→k+j < i→EO P cfg all x y=true→oZ b i (k+j)=false→UY all (k+j) x i y=some p→p∈A7 P cfg all b i y xs k
 | [],k,j,x,hx,_,_,_,_=>by simp at hx
 | x0::xs,k,0,x,hx,bU,hm,hb,he=>by
  simp at hx
  subst hx
  have h1:(Nat.ble i k||!EO P cfg all x0 y||oZ b i k)=false:=by
   rw [hm,show oZ b i k=false from hb]
   cases h:Nat.ble i k with
   | false=>rfl
   | true=>have:=Nat.le_of_ble_eq_true h; omega
  simp only [A7]
  rw [h1,cond_false,show UY all k x0 i y=some p from he]
  exact List.mem_cons_self
 | x0::xs,k,j+1,x,hx,bU,hm,hb,he=>by
  have e:k+(j+1)=k+1+j:=by omega
  have:=Qk (b:=b) (p:=p) xs (k+1) j x (by simpa using hx) (show k+1+j < i by omega) hm (by rw [← e]; exact hb) (by rw [← e]; exact he)
  simp only [A7]
  cases (Nat.ble i k||!EO P cfg all x0 y||oZ b i k) with
  | true=>exact this
  | false=>
   rw [cond_false]
   split
   ·exact List.mem_cons_of_mem _ this
   ·exact this
theorem M6 {cfg:eK} {all:List Oper} {b:List Nat} {p:Option Operand×Operand} : ∀ (os:List Oper) (k i:Nat) (y:Oper),os[i]? = some y→p∈A7 P cfg all b (k+i) y all 0→p∈SU P cfg all b os k
 | [],k,i,y,hy,_=>by simp at hy
 | o::os,k,0,y,hy,h=>by
  simp at hy
  subst hy
  exact List.mem_append_left _ h
 | o::os,k,i+1,y,hy,h=>by
  refine List.mem_append_right _ (M6 os (k+1) i y (by simpa using hy) ?_)
  rwa [show k+1+i=k+(i+1) by omega]
structure M7 (P:Program) (cfg:eK) (all:List Oper):Prop where
 Te:p8 P all
 kind:∀ o∈all,dC (bX P cfg o.op)≤3
 ord:∀ i j x y,all[i]? = some y→all[j]? = some x→j < i→EO P cfg all x y=true→oZ (eL [] all) i j=true∨(sg P cfg all x y=false∧∃ p,UY all j x i y=some p∧p∈EP P cfg all)
 plain:∀ p,p∈EP P cfg all→Ol P cfg all=true
theorem aem {cfg:eK} {all:List Oper} (h:adW P cfg all=true):M7 P cfg all:=by
 unfold adW at h
 simp only [Bool.and_eq_true] at h
 refine ⟨BB h.1.1.1,fun o ho=>Nat.le_of_ble_eq_true (List.all_eq_true.1 h.1.1.2 o ho),fun i j x y hy hx bU hm=>?_,fun p hp=>?_⟩
 ·have:=Kc all 0 h.1.2 i y hy
  rw [Nat.zero_add] at this
  have:=Qj all 0 this j x hx (by omega) hm
  rw [Nat.zero_add] at this
  cases hb:oZ (eL [] all) i j with
  | true=>exact .inl rfl
  | false=>
   rcases this with h1 | ⟨h1,h2⟩
   ·rw [hb] at h1; simp at h1
   ·obtain ⟨p,hp⟩:=Option.isSome_iff_exists.1 h2
    refine .inr ⟨h1,p,hp,M6 all 0 i y hy ?_⟩
    rw [Nat.zero_add]
    exact Qk all 0 j x hx (by omega) hm (by rw [Nat.zero_add]; exact hb) (by rw [Nat.zero_add]; exact hp)
 ·have h2:=h.2
  simp only [Bool.or_eq_true] at h2
  rcases h2 with h2 | h2
  ·rw [List.isEmpty_iff] at h2
   rw [h2] at hp
   simp at hp
  ·exact h2
structure YD (P:Program) (cfg:eK) (all:List Oper):Prop where
 Te:p8 P all
 Bv:∀ {i j:Nat} {x y:Oper},all[i]? = some y→all[j]? = some x→j < i→sg P cfg all x y=true→oZ (eL [] all) i j=true
theorem M7.toT {cfg:eK} {all:List Oper} (hf:M7 P cfg all):YD P cfg all:=⟨hf.Te,fun {i j x y} hy hx bU hc=>by
 rcases hf.ord i j x y hy hx bU (by unfold EO; rw [hc]; rfl) with h | ⟨h,_⟩
 ·exact h
 ·rw [hc] at h; simp at h⟩
def Ql (P:Program) (cfg:eK) (all:List Oper) (i:Nat):Prop:=∀ j q,all[j]? = some q→Nat.ble 3 (dC (bX P cfg q.op))=true→(j < i→oZ (eL [] all) i j=true)∧(i < j→oZ (eL [] all) j i=true)
theorem yK {x y:Oper} {p:Option Operand×Operand} (h:Hz x y=some p):(∃ T,y.op = .load T p.2)∧((p.1=none∧LP x.op=true)∨∃ T a v,p.1=some a∧x.op = .store T a v):=by
 unfold Hz at h
 split at h
 ·rename_i a ha
  have hl:∃ T,y.op = .load T a:=by
   unfold agJ at ha
   split at ha
   ·rename_i T a' e; simp at ha; subst ha; exact ⟨T,e⟩
   ·simp at ha
  cases hs:LP x.op with
  | true=>
   rw [hs,cond_true] at h
   simp at h
   subst h
   exact ⟨hl,.inl ⟨rfl,rfl⟩⟩
  | false=>
   rw [hs,cond_false] at h
   split at h
   ·rename_i a2 XC
    simp at h
    subst h
    refine ⟨hl,.inr ?_⟩
    unfold PX at XC
    split at XC
    ·rename_i T a3 v e; simp at XC; subst XC; exact ⟨T,_,v,rfl,e⟩
    ·simp at XC
   ·simp at h
 ·simp at h
theorem YE {all:List Oper} {i j:Nat} {x y:Oper} {p:Option Operand×Operand} (h:UY all j x i y=some p) :
  (Hz x y=some p∧uu i p.2 all 0=true∧Hy j p.1 all=true)∨(Hz y x=some p∧uu j p.2 all 0=true∧Hy i p.1 all=true):=by
 unfold UY at h
 split at h
 ·rename_i q hq
  cases hb:(uu i q.2 all 0&&Hy j q.1 all) with
  | false=>rw [hb] at h; simp at h
  | true=>
   rw [hb,cond_true] at h
   simp at h
   subst h
   simp only [Bool.and_eq_true] at hb
   exact .inl ⟨hq,hb.1,hb.2⟩
 ·split at h
  ·rename_i q hq
   cases hb:(uu j q.2 all 0&&Hy i q.1 all) with
   | false=>rw [hb] at h; simp at h
   | true=>
    rw [hb,cond_true] at h
    simp at h
    subst h
    simp only [Bool.and_eq_true] at hb
    exact .inr ⟨hq,hb.1,hb.2⟩
  ·simp at h
theorem C9 {cfg:eK} {o:Oper} {T:TypeId} {a:Operand} (h:o.op = .load T a):dC (bX P cfg o.op)=1:=by rw [h]; rfl
theorem unordered {cfg:eK} {all:List Oper} (hf:M7 P cfg all) {i j:Nat} {o q:Oper} (ho:all[i]? = some o) (hq:all[j]? = some q) (hk:dC (bX P cfg o.op)≠0) (h3:Nat.ble 3 (dC (bX P cfg q.op))=true) :
  ((j < i→oZ (eL [] all) i j=true)∧(i < j→oZ (eL [] all) j i=true))∨∃ p,p∈EP P cfg all∧Hz q o=some p∧uu i p.2 all 0=true∧Hy j p.1 all=true:=by
 have vU:Nat.beq (dC (bX P cfg o.op)) 0=false:=by
  cases hb:Nat.beq (dC (bX P cfg o.op)) 0 with
  | false=>rfl
  | true=>exact absurd (Nat.eq_of_beq_eq_true hb) hk
 have hnl:∀ T a,q.op≠.load T a:=fun T a e=>by rw [C9 e] at h3; simp at h3
 rcases Nat.lt_trichotomy j i with h | h | h
 ·rcases hf.ord i j q o ho hq h (by unfold EO; rw [h3,vU]; simp) with h1 | ⟨_,p,h1,h2⟩
  ·exact .inl ⟨fun _=>h1,fun h'=>by omega⟩
  ·rcases YE h1 with ⟨e1,e2,e3⟩ | ⟨e1,e2,e3⟩
   ·exact .inr ⟨p,h2,e1,e2,e3⟩
   ·obtain ⟨⟨T,e⟩,_⟩:=yK e1
    exact absurd e (hnl _ _)
 ·exact .inl ⟨fun h'=>by omega,fun h'=>by omega⟩
 ·rcases hf.ord j i o q hq ho h (by unfold EO; rw [h3,vU]; simp) with h1 | ⟨_,p,h1,h2⟩
  ·exact .inl ⟨fun h'=>by omega,fun _=>h1⟩
  ·rcases YE h1 with ⟨e1,e2,e3⟩ | ⟨e1,e2,e3⟩
   ·obtain ⟨⟨T,e⟩,_⟩:=yK e1
    exact absurd e (hnl _ _)
   ·exact .inr ⟨p,h2,e1,e2,e3⟩
theorem Kd {cfg:eK} {all:List Oper} (hf:M7 P cfg all) {i:Nat} {o:Oper} (ho:all[i]? = some o) (hk:dC (bX P cfg o.op)≠0) (hn:∀ T a,o.op≠.load T a):Ql P cfg all i:=fun j q hq h3=>by
 rcases unordered hf ho hq hk h3 with h | ⟨p,_,h,_⟩
 ·exact h
 ·obtain ⟨⟨T,e⟩,_⟩:=yK h
  exact absurd e (hn _ _)
theorem z8 {cfg:eK} {o:Oper} (h:dC (bX P cfg o.op)≤3):∀ f args,bX P cfg o.op≠.call f args:=by
 intro f args e
 rw [e] at h
 simp [dC] at h
theorem yL {d:Tmp} {l:List Tmp} (h:d∈l):JL (some d) l=true:=by
 simp only [JL,List.any_eq_true]
 exact ⟨d,h,by simp⟩
theorem kK {x:Tmp} : ∀ {xs:List Operand},Operand.tmp x∈xs→x∈pZ xs
 | [],h=>by simp at h
 | y::ys,h=>by
  rcases List.mem_cons.1 h with h | h
  ·subst h; simp [pZ]
  ·have:=kK h
   cases y <;> simp [pZ,this]
section
variable {cfg:eK} {all:List Oper} {L:List Out} {t0:bA} {A0:ax}
theorem YF (hf:YD P cfg all) {S:Nat→Bool} (hc:px all S) {i:Nat} {o:Oper} (ho:all[i]? = some o) (oO:S i=false) (r6:s8 all S i) {y:Tmp} (hy:y∈mT P cfg all o) :
  (iP S all L 0 t0).get y=(iP (fun j=>Nat.blt j i) all L 0 t0).get y:=by
 refine lO rfl fun j q hq hd=>?_
 rw [Nat.zero_add]
 rcases Nat.lt_trichotomy j i with h | h | h
 ·have:oZ (eL [] all) i j=true:=hf.Bv ho hq h (by
   unfold sg
   rw [hd,yL hy]
   rfl)
  rw [hc.ready hf.Te ho r6 j this]
  symm; rw [Nat.blt_eq]; exact h
 ·subst h
  rw [oO]
  symm
  cases hb:Nat.blt j j with
  | false=>rfl
  | true=>rw [Nat.blt_eq] at hb; omega
 ·have hb:oZ (eL [] all) j i=true:=hf.Bv hq ho h (by
   unfold sg
   rw [hd,yL hy]
   simp)
  have:S j=false:=by
   cases hs:S j with
   | false=>rfl
   | true=>have:=hc j i hs hb; rw [oO] at this; simp at this
  rw [this]
  symm
  cases hbb:Nat.blt j i with
  | false=>rfl
  | true=>rw [Nat.blt_eq] at hbb; omega
theorem Qm (hf:M7 P cfg all) {S:Nat→Bool} (hc:px all S) {i:Nat} {o:Oper} (ho:all[i]? = some o) (oO:S i=false) (r6:s8 all S i) (iM:Ql P cfg all i) :
  m5 P cfg S all L 0 A0=m5 P cfg (fun j=>Nat.blt j i) all L 0 A0:=by
 refine Ec fun j q x hq hx ht=>?_
 rw [Nat.zero_add]
 have h3:Nat.ble 3 (dC (bX P cfg q.op))=true:=by unfold turns at ht; simp only [Bool.and_eq_true] at ht; exact ht.2
 rcases Nat.lt_trichotomy j i with h | h | h
 ·have:oZ (eL [] all) i j=true:=(iM j q hq h3).1 h
  rw [hc.ready hf.Te ho r6 j this]
  symm; rw [Nat.blt_eq]; exact h
 ·subst h
  rw [oO]
  symm
  cases hb:Nat.blt j j with
  | false=>rfl
  | true=>rw [Nat.blt_eq] at hb; omega
 ·have hb:oZ (eL [] all) j i=true:=(iM j q hq h3).2 h
  have:S j=false:=by
   cases hs:S j with
   | false=>rfl
   | true=>have:=hc j i hs hb; rw [oO] at this; simp at this
  rw [this]
  symm
  cases hbb:Nat.blt j i with
  | false=>rfl
  | true=>rw [Nat.blt_eq] at hbb; omega
theorem F8 (hf:YD P cfg all) {S:Nat→Bool} (hc:px all S) {i:Nat} {o:Oper} {x:Out} (ho:all[i]? = some o) (hx:L[i]? = some x) (oO:S i=false) (y:Tmp) :
  (iP (cT S i) all L 0 t0).get y=(o5 (iP S all L 0 t0) o.dst x.2.1).get y:=by
 rw [ru]
 by_cases hd:o.dst=some y
 ·rw [if_pos hd]
  have:=YB (S:=S) (y:=y) (os:=all) (L:=L) (k:=0) (i:=i) (t:=t0) ho hx hd (fun j q hq YC bU=>by
   rw [Nat.zero_add]
   have hb:oZ (eL [] all) j i=true:=hf.Bv hq ho bU (by
    unfold sg
    rw [YC,hd]
    simp [PB])
   cases hs:S j with
   | false=>rfl
   | true=>have:=hc j i hs hb; rw [oO] at this; simp at this)
  rw [Nat.zero_add] at this
  exact this
 ·rw [if_neg hd]
  refine lO rfl fun j q hq YC=>?_
  rw [Nat.zero_add]
  have en:j≠i:=by
   intro e
   subst e
   rw [ho] at hq
   simp at hq
   subst hq
   exact hd YC
  unfold cT
  have:Nat.beq j i=false:=by
   cases hb:Nat.beq j i with
   | false=>rfl
   | true=>exact absurd (Nat.eq_of_beq_eq_true hb) en
  rw [this,Bool.or_false]
theorem w5 {S:Nat→Bool} {i:Nat} {o:Oper} {x:Out} (ho:all[i]? = some o) (hx:L[i]? = some x) (ht:turns P cfg o x=false):m5 P cfg (cT S i) all L 0 A0=m5 P cfg S all L 0 A0:=by
 refine Ec fun j q y hq hy hty=>?_
 rw [Nat.zero_add]
 have en:j≠i:=by
  intro e
  subst e
  rw [ho] at hq; rw [hx] at hy
  simp at hq hy
  subst hq hy
  rw [ht] at hty; simp at hty
 unfold cT
 have:Nat.beq j i=false:=by
  cases hb:Nat.beq j i with
  | false=>rfl
  | true=>exact absurd (Nat.eq_of_beq_eq_true hb) en
 rw [this,Bool.or_false]
theorem aen {i:Nat} {o:Oper} {x:Out} (ho:all[i]? = some o) (hx:L[i]? = some x) (ht:turns P cfg o x=true):m5 P cfg (fun j=>Nat.blt j (i+1)) all L 0 A0=x.2.2:=by
 have key:∀ (os:List Oper) (L:List Out) (k i:Nat) (A:ax) (o:Oper) (x:Out),os[i]? = some o→L[i]? = some x→turns P cfg o x=true→m5 P cfg (fun j=>Nat.blt j (k+i+1)) os L k A=x.2.2:=by
  intro os
  induction os with
  | nil=>intro L k i A o x ho; simp at ho
  | cons q os ih=>
   intro L k i A o x ho hx ht
   cases L with
   | nil=>simp at hx
   | cons u L=>
    simp only [m5]
    have bU:Nat.blt k (k+i+1)=true:=by rw [Nat.blt_eq]; omega
    rw [bU,Bool.true_and]
    cases i with
    | zero=>
     simp at ho hx
     subst ho hx
     rw [ht,cond_true]
     have:∀ (os:List Oper) (L:List Out) (m:Nat) (A:ax),k+1≤m→m5 P cfg (fun j=>Nat.blt j (k+0+1)) os L m A=A:=by
      intro os
      induction os with
      | nil=>intro L m A _; cases L <;> rfl
      | cons q os ih=>
       intro L m A hm
       cases L with
       | nil=>rfl
       | cons u L=>
        simp only [m5]
        have:Nat.blt m (k+0+1)=false:=by
         cases hb:Nat.blt m (k+0+1) with
         | false=>rfl
         | true=>rw [Nat.blt_eq] at hb; omega
        rw [this,Bool.false_and,cond_false]
        exact ih L _ A (by omega)
     exact this os L (k+1) _ (Nat.le_refl _)
    | succ i=>
     have:=ih L (k+1) i (cond (turns P cfg q u) u.2.2 A) o x (by simpa using ho) (by simpa using hx) ht
     rwa [show k+1+i+1=k+(i+1)+1 by omega] at this
 have:=key all L 0 i A0 o x ho hx ht
 rwa [Nat.zero_add] at this
theorem af0 (hf:M7 P cfg all) {S:Nat→Bool} (hc:px all S) {i:Nat} {o:Oper} {x:Out} (ho:all[i]? = some o) (hx:L[i]? = some x) (oO:S i=false) (r6:s8 all S i) (ht:turns P cfg o x=true) :
  m5 P cfg (cT S i) all L 0 A0=x.2.2:=by
 have h3:Nat.ble 3 (dC (bX P cfg o.op))=true:=by unfold turns at ht; simp only [Bool.and_eq_true] at ht; exact ht.2
 have hk:dC (bX P cfg o.op)≠0:=by have:=Nat.le_of_ble_eq_true h3; omega
 have h1:m5 P cfg (cT S i) all L 0 A0=m5 P cfg (fun j=>Nat.blt j (i+1)) all L 0 A0:=by
  refine Ec fun j q y hq hy hty=>?_
  rw [Nat.zero_add]
  have hq3:Nat.ble 3 (dC (bX P cfg q.op))=true:=by unfold turns at hty; simp only [Bool.and_eq_true] at hty; exact hty.2
  have iM:Ql P cfg all i:=Kd hf ho hk fun T a e=>by rw [C9 e] at h3; simp at h3
  rcases Nat.lt_trichotomy j i with h | h | h
  ·have:oZ (eL [] all) i j=true:=(iM j q hq hq3).1 h
   have:=hc.ready hf.Te ho r6 j this
   unfold cT
   rw [this,Bool.true_or]
   symm; rw [Nat.blt_eq]; omega
  ·subst h
   have:cT S j j=true:=by simp [cT]
   rw [this]
   symm; rw [Nat.blt_eq]; omega
  ·have hb:oZ (eL [] all) j i=true:=(iM j q hq hq3).2 h
   have:S j=false:=by
    cases hs:S j with
    | false=>rfl
    | true=>have:=hc j i hs hb; rw [oO] at this; simp at this
   unfold cT
   have en:Nat.beq j i=false:=by
    cases hb:Nat.beq j i with
    | false=>rfl
    | true=>have:=Nat.eq_of_beq_eq_true hb; omega
   rw [this,en]
   symm
   cases hbb:Nat.blt j (i+1) with
   | false=>rfl
   | true=>rw [Nat.blt_eq] at hbb; omega
 rw [h1]
 exact aen ho hx ht
end
theorem aaN {all:List Oper} {o:Oper} {j:Nat} {want:Bool} {d:Tmp} (hg:o.guard=some (j,want)) (hd:(all[j]?).bind (·.dst)=some d):d∈CC all o:=by
 unfold CC
 rw [hg]
 simp [hd]
theorem Bb {all:List Oper} {o:Oper} {t t1:bA} {wd:Bool} {N:Nat} {ρ:aW} {a:Act} (ht:kT P E ρ t N a) (hl:∀ y∈CC all o,t1.get y=t.get y) (h:HU all o t1 wd):Region.wanted o (yielded ⟨all⟩ a.tmps)=wd:=by
 rcases h with ⟨hg,rfl⟩ | ⟨j,want,d,hg,hd,h⟩
 ·unfold Region.wanted
  rw [hg]
 ·have Bw:=hl d (aaN hg hd)
  have wI:=ht.val d
  unfold Region.wanted
  rw [hg]
  simp only
  unfold yielded
  have e:(⟨all⟩:Array Oper)[j]? = all[j]?:=by simp
  rw [e,hd]
  simp only [Option.bind_some]
  rcases h with ⟨b,h1,rfl⟩ | ⟨l,h1,rfl⟩
  ·rw [← Bw,h1] at wI
   have hcv:=wI.ga
   cases hc:a.tmps[d]? with
   | none=>simp [Array.getD_eq_getD_getElem?,hc,undef] at hcv
   | some u=>
    have:u = .bool b:=by rw [← hcv]; simp [Array.getD_eq_getD_getElem?,hc]
    subst this
    rfl
  ·rw [← Bw,h1] at wI
   obtain ⟨u,h2,h3⟩:=wI
   obtain ⟨m,rfl,_⟩:=h2.J0
   obtain ⟨m',h4,_⟩:=h3.Ob
   cases hc:a.tmps[d]? with
   | none=>rfl
   | some u=>
    have:u = .tuple m':=by rw [← h4]; simp [Array.getD_eq_getD_getElem?,hc]
    subst this
    rfl
theorem Ke {t t1:bA} {N:Nat} {ρ:aW} {a:Act} (ht:kT P E ρ t N a) {x:Operand} (h:∀ y,x = .tmp y→t1.get y=t.get y):VC P E ρ (kM t1 x) (a.eval x):=by
 have:=ht.ev x
 cases x with
 | tmp y=>simp only [kM] at this ⊢; rw [h y rfl]; exact this
 | const v=>exact this
 | global g=>exact this
 | func f=>exact this
theorem aeo {cfg:eK} {o:Oper} {t:bA} {A A1 A' : ax} {v:KV} (h:aZ (tw (bX P cfg o.op) t A) (v,A1)) (hk:dC (bX P cfg o.op)=0):aZ (tw (bX P cfg o.op) t A') (v,A'):=by
 generalize bX P cfg o.op=ins at h hk
 cases ins with
 | pure f xs=>obtain ⟨u,h1,h2⟩:=aZ.map h; simp at h2; obtain ⟨rfl,_⟩:=h2; exact h1.yJ
 | read f xs=>simp [dC] at hk
 | act f xs=>simp [dC] at hk
 | look f xs=>obtain ⟨u,h1,h2⟩:=aZ.map h; simp at h2; obtain ⟨rfl,_⟩:=h2; exact h1.yJ
 | zT g f xs=>obtain ⟨u,h1,h2⟩:=aZ.map h; simp at h2; obtain ⟨rfl,_⟩:=h2; exact h1.yJ
 | C0 g f xs=>simp [dC] at hk
 | call f xs=>exact h.elim
 | bad=>exact h.elim
theorem Ow {cfg:eK} {S:Nat→Bool} (h:∀ i,S i=false):∀ {os:List Oper} {L:List Out} {k:Nat} {A:ax},m5 P cfg S os L k A=A
 | [],L,k,A=>by cases L <;> rfl
 | o::os,[],k,A=>rfl
 | o::os,x::L,k,A=>by simp only [m5]; rw [h,Bool.false_and,cond_false]; exact Ow h
theorem HV {S:Nat→Bool} (h:∀ i,S i=false):∀ {os:List Oper} {L:List Out} {k:Nat} {t:bA},iP S os L k t=t
 | [],L,k,A=>by cases L <;> rfl
 | o::os,[],k,A=>rfl
 | o::os,x::L,k,A=>by simp only [iP]; rw [h,cond_false]; exact HV h
theorem ai7 {A:ax} {o:jt} {b:Nat} (hb:b < A.next) (cs:List KV) (e:Nat):A.get b=some (.row cs e)↔(A.new o).get b=some (.row cs e):=by
 rw [ax.du,if_neg (by omega)]
theorem Kf {A:ax} {o:jt} {b c:Nat} (h:b≠c∨((∀ cs e,A.get b≠some (.row cs e))∧∀ cs e,o≠.row cs e)) (cs:List KV) (e:Nat):A.get b=some (.row cs e)↔(A.put c o).get b=some (.row cs e):=by
 rw [ax.b9]
 by_cases XJ:b=c
 ·rw [if_pos XJ]
  rcases h with h | ⟨h1,h2⟩
  ·exact absurd XJ h
  ·exact ⟨fun q=>absurd q (h1 _ _),fun q=>absurd (by simpa using q) (h2 cs e)⟩
 ·rw [if_neg XJ]
def M8 (A A' : ax):Prop:=A.next≤A'.next∧∀ b,b < A.next→∀ cs e,A.get b=some (.row cs e)↔A'.get b=some (.row cs e)
theorem CI {A:ax} {o:jt} : M8 A (A.new o):=⟨by simp,fun _ hb cs e=>ai7 hb cs e⟩
theorem LW {A:ax} {c:Nat} {o o' : jt} (hc:A.get c=some o') (h' : ∀ cs e,o'≠.row cs e) (h:∀ cs e,o≠.row cs e):M8 A (A.put c o):=⟨by simp,fun b _ cs e=>by
 by_cases XJ:b=c
 ·subst XJ
  exact Kf (.inr ⟨fun cs e q=>by rw [hc] at q; simp at q; exact h' cs e q,h⟩) cs e
 ·exact Kf (.inl XJ) cs e⟩
theorem M8.trans {A B C:ax} (h:M8 A B) (k:M8 B C):M8 A C:=⟨Nat.le_trans h.1 k.1,fun b hb cs e=>(h.2 b hb cs e).trans (k.2 b (Nat.lt_of_lt_of_le hb h.1) cs e)⟩
theorem HW {e sz b n f m:Nat} {base new:List KV} {ab an:Nat→KV} {A A' : ax} {v:KV} {more:Bool} (h:aZ (PV e sz b n base ab A f m new an more) (v,A')):A' = A.put f (.bf (n+m) sz):=by
 obtain ⟨_,h⟩:=aZ.lZ h
 simp only [Prod.mk.injEq] at h
 exact h.2.symm
theorem Qn {e b n m:Nat} {base new:List KV} {ab an:Nat→KV} {A A' : ax} {v:KV} {more:Bool} (h:aZ (Xa e b n base ab A m new an more) (v,A')):∃ o,A' = A.new (.arr o):=by
 obtain ⟨_,h⟩:=aZ.lZ h
 simp only [Prod.mk.injEq] at h
 exact ⟨_,h.2.symm⟩
theorem acL {e sz b:Nat} {A A' : ax} {xs:List KV} {v:KV} (h:aZ (JV e sz b A xs) (v,A')):M8 A A':=by
 unfold JV at h
 split at h
 ·obtain ⟨_,h⟩:=aZ.cond h
  rw [HW h]
  exact CI.trans (LW (o':=.bf 0 sz) (by simp) (by simp) (by simp))
 ·obtain ⟨_,h⟩:=aZ.cond h
  rw [HW h]
  exact CI.trans (LW (o':=.bf 0 sz) (by simp) (by simp) (by simp))
 ·split at h
  ·rename_i hf
   obtain ⟨_,h⟩:=aZ.cond h
   rw [HW h]
   exact LW hf (by simp) (by simp)
  ·exact h.elim
 ·exact h.elim
theorem M9 {e b:Nat} {A A' : ax} {xs:List KV} {v:KV} (h:aZ (CG e b A xs) (v,A')):M8 A A':=by
 unfold CG at h
 split at h
 ·obtain ⟨_,h⟩:=aZ.cond h
  obtain ⟨o,rfl⟩:=Qn h
  exact CI
 ·split at h
  ·rename_i hf
   obtain ⟨_,h⟩:=aZ.cond h
   obtain ⟨o,rfl⟩:=Qn h
   exact (LW hf (by simp) (by simp)).trans CI
  ·exact h.elim
 ·exact h.elim
theorem aaO {e sz b:Nat} {mt:Bool} {A A' : ax} {xs:List KV} {v:KV} (h:aZ (FN e sz b mt A xs) (v,A')):M8 A A':=by
 unfold FN at h
 split at h
 ·split at h
  ·rename_i y' _
   revert h
   cases aiR _ with
   | true=>exact fun h=>M9 h
   | false=>
    cases mt with
    | true=>exact fun h=>M9 h
    | false=>exact fun h=>acL h
  ·exact h.elim
 ·exact h.elim
theorem ahN {c:Bool} {i:p9} {t:bA} {A:ax} {x:KV×ax} (h:aZ (tw (cond c i .bad) t A) x):aZ (tw i t A) x:=by
 cases c with
 | true=>exact h
 | false=>exact h.elim
theorem YG {cfg:eK} {o:Oper} {t:bA} {A A' : ax} {v:KV} (hs:LP o.op=true) (h:aZ (tw (bX P cfg o.op) t A) (v,A')):M8 A A':=by
 revert hs h
 cases hop:o.op <;> intro hs h <;> simp [LP] at hs
 ·rename_i T
  have h:aZ (tw (oP P T) t A) (v,A'):=h
  unfold oP at h
  split at h
  ·rename_i z _
   cases hb:(flat z&&z.cells.toList.all scalar&&hZ (gP z).cells) with
   | false=>rw [hb] at h; exact h.elim
   | true=>
    rw [hb,cond_true] at h
    have h:(KV.ptr A.next 0,A.new (.row (gP z).cells (nA P T)))=(v,A'):=h
    simp only [Prod.mk.injEq] at h
    rw [← h.2]
    exact CI
  ·exact h.elim
 ·rename_i T x
  have h:aZ (zC (nA P T) A [kM t x]) (v,A'):=h
  unfold zC at h
  simp only at h
  obtain ⟨_,h⟩:=aZ.cond h
  have h:(KV.ptr A.next 0,A.new (.row (kM t x).cells (nA P T)))=(v,A'):=h
  simp only [Prod.mk.injEq] at h
  rw [← h.2]
  exact CI
 ·rename_i c
  split at hs
  ·rename_i hc
   have h:aZ (tw (lM P cfg c) t A) (v,A'):=h
   unfold lM at h
   rw [hc] at h
   simp only [yG] at h
   unfold D4 at h
   split at h
   ·split at h
    ·split at h
     ·split at h
      ·exact aaO (ahN h)
      ·exact h.elim
     ·exact h.elim
    ·exact h.elim
   ·exact h.elim
  ·simp at hs
theorem Vd {cfg:eK} {o:Oper} {T:TypeId} {a x:Operand} {t:bA} {A A' : ax} {v:KV} (ho:o.op = .store T a x) (h:aZ (tw (bX P cfg o.op) t A) (v,A')) :
  A'.next=A.next∧∀ b,((∃ b2 off,kM t a = .ptr b2 off∧b≠b2)∨∃ U Tc c i k,kM t a = .ap U Tc c i k)→∀ cs e,A.get b=some (.row cs e)↔A'.get b=some (.row cs e):=by
 rw [ho] at h
 have h:aZ (PT P T A [kM t a,kM t x]) (v,A'):=h
 unfold PT at h
 split at h
 ·rename_i c off w heq
  simp only [List.cons.injEq,and_true] at heq
  obtain ⟨_,h⟩:=aZ.cond h
  split at h
  ·split at h
   ·have h:(qS,_)=(v,A'):=h
    simp only [Prod.mk.injEq] at h
    rw [← h.2]
    refine ⟨rfl,fun b hb cs e=>Kf (.inl ?_) cs e⟩
    rcases hb with ⟨b2,ai4,h1,h2⟩ | ⟨U,Tc,c',i,k,h1⟩
    ·rw [heq.1] at h1; simp at h1; rw [h1.1]; exact h2
    ·rw [heq.1] at h1; simp at h1
   ·exact h.elim
  ·exact h.elim
 ·rename_i U Tc c i k w heq
  split at h
  ·rename_i hA
   obtain ⟨_,h⟩:=aZ.cond h
   split at h
   ·have h:(qS,_)=(v,A'):=h
    simp only [Prod.mk.injEq] at h
    rw [← h.2]
    refine ⟨rfl,fun b _ cs e=>?_⟩
    by_cases XJ:b=c
    ·subst XJ
     exact Kf (.inr ⟨fun cs e q=>by rw [hA] at q; simp at q,by simp⟩) cs e
    ·exact Kf (.inl XJ) cs e
   ·exact h.elim
  ·exact h.elim
 ·exact h.elim
theorem Ox {t:bA} {nx:Nat} : ∀ {l:List (Option Operand×Operand)},Oj t nx l=true→∀ p∈l,FO t nx p=true
 | [],_,p,hp=>by simp at hp
 | q::l,h,p,hp=>by
  have h:Bool.rec (motive:=fun _=>Bool) false (Oj t nx l) (FO t nx q)=true:=h
  cases hq:FO t nx q with
  | false=>rw [hq] at h; simp at h
  | true=>
   rw [hq] at h
   rcases List.mem_cons.1 hp with rfl | hp
   ·exact hq
   ·exact Ox h p hp
theorem Ve {i:Nat} {x:Tmp} : ∀ (os:List Oper) (k:Nat),uu i (.tmp x) os k=true→∀ j o,os[j]? = some o→i≤k+j→o.dst≠some x
 | [],k,_,j,o,ho,_=>by simp at ho
 | q::os,k,h,0,o,ho,hle=>by
  simp at ho
  subst ho
  simp only [uu,Bool.and_eq_true,Bool.or_eq_true,Bool.not_eq_true'] at h
  rcases h.1 with h1 | h1
  ·rw [Nat.blt_eq] at h1; omega
  ·intro e
   rw [e,yL (by simp [pZ])] at h1
   simp at h1
 | q::os,k,h,j+1,o,ho,hle=>by
  simp only [uu,Bool.and_eq_true] at h
  exact Ve os (k+1) h.2 j o (by simpa using ho) (by omega)
section
variable {cfg:eK} {all:List Oper} {L:List Out} {t0:bA} {A0:ax}
theorem acM {tn t1:bA} {i:Nat} {x:Operand} (Mq:∀ y,tn.get y=(iP (fun _=>true) all L 0 t0).get y) (vX:∀ y,t1.get y=(iP (fun j=>Nat.blt j i) all L 0 t0).get y) (h:uu i x all 0=true):kM tn x=kM t1 x:=by
 cases x with
 | tmp y=>
  simp only [kM]
  rw [Mq y,vX y,lO (S':=fun j=>Nat.blt j i) rfl fun j o ho hd=>?_]
  rw [Nat.zero_add]
  symm
  rw [Nat.blt_eq]
  refine Nat.lt_of_not_le fun hle=>?_
  exact Ve all 0 h j o ho (by omega) hd
 | const v=>rfl
 | global g=>rfl
 | func f=>rfl
theorem aep (j:Nat):(∃ q x,all[j]? = some q∧L[j]? = some x∧turns P cfg q x=true∧m5 P cfg (fun k=>Nat.blt k (j+1)) all L 0 A0=x.2.2)∨
  ((∀ q x,all[j]? = some q→L[j]? = some x→turns P cfg q x=false)∧m5 P cfg (fun k=>Nat.blt k (j+1)) all L 0 A0=m5 P cfg (fun k=>Nat.blt k j) all L 0 A0):=by
 by_cases h:∃ q x,all[j]? = some q∧L[j]? = some x∧turns P cfg q x=true
 ·obtain ⟨q,x,h1,h2,h3⟩:=h
  refine .inl ⟨q,x,h1,h2,h3,?_⟩
  have:=aen (A0:=A0) h1 h2 h3
  exact this
 ·have hn:∀ q x,all[j]? = some q→L[j]? = some x→turns P cfg q x=false:=fun q x h1 h2=>by
   cases ht:turns P cfg q x with
   | false=>rfl
   | true=>exact absurd ⟨q,x,h1,h2,ht⟩ h
  refine .inr ⟨hn,Ec fun k q x hq hx ht=>?_⟩
  rw [Nat.zero_add]
  have en:k≠j:=fun e=>by subst e; rw [hn q x hq hx] at ht; simp at ht
  cases hb:Nat.blt k j with
  | true=>rw [Nat.blt_eq] at hb ⊢; omega
  | false=>
   cases rb:Nat.blt k (j+1) with
   | false=>rfl
   | true=>
    rw [Nat.blt_eq] at rb
    have : ¬ k < j:=fun h=>by rw [← Nat.blt_eq,hb] at h; simp at h
    omega
theorem Vf (hf:M7 P cfg all) {S:Nat→Bool} (hc:px all S):∀ n,∃ m,m≤n∧∀ j q x,j < n→all[j]? = some q→L[j]? = some x→turns P cfg q x=true→S j=Nat.blt j m
 | 0=>⟨0,Nat.le_refl 0,fun j q x hj=>by omega⟩
 | n+1=>by
  obtain ⟨m,hm,h⟩:=Vf hf hc n
  by_cases hn:∃ q x,all[n]? = some q∧L[n]? = some x∧turns P cfg q x=true∧S n=true
  ·obtain ⟨q,x,h1,h2,h3,h4⟩:=hn
   have hq3:Nat.ble 3 (dC (bX P cfg q.op))=true:=by unfold turns at h3; simp only [Bool.and_eq_true] at h3; exact h3.2
   have hk:dC (bX P cfg q.op)≠0:=by have:=Nat.le_of_ble_eq_true hq3; omega
   have iM:=Kd hf h1 hk fun T a e=>by rw [C9 e] at hq3; simp at hq3
   refine ⟨n+1,Nat.le_refl _,fun j q' x' hj h5 h6 h7=>?_⟩
   have hb:Nat.blt j (n+1)=true:=by rw [Nat.blt_eq]; exact hj
   rw [hb]
   by_cases hjn:j=n
   ·subst hjn; exact h4
   ·have ame:Nat.ble 3 (dC (bX P cfg q'.op))=true:=by unfold turns at h7; simp only [Bool.and_eq_true] at h7; exact h7.2
    exact hc n j h4 ((iM j q' h5 ame).1 (by omega))
  ·refine ⟨m,by omega,fun j q x hj h5 h6 h7=>?_⟩
   by_cases hjn:j=n
   ·subst hjn
    have hb:Nat.blt j m=false:=by
     cases hb:Nat.blt j m with
     | false=>rfl
     | true=>rw [Nat.blt_eq] at hb; omega
    rw [hb]
    cases hs:S j with
    | false=>rfl
    | true=>exact absurd ⟨q,x,h5,h6,h7,hs⟩ hn
   ·exact h j q x (by omega) h5 h6 h7
theorem ahO (hf:M7 P cfg all) {S:Nat→Bool} (hc:px all S):∃ m,(∀ j q x,all[j]? = some q→L[j]? = some x→turns P cfg q x=true→S j=Nat.blt j m)∧m5 P cfg S all L 0 A0=m5 P cfg (fun j=>Nat.blt j m) all L 0 A0:=by
 obtain ⟨m,_,h⟩:=Vf (L:=L) hf hc all.length
 have h' : ∀ j q x,all[j]? = some q→L[j]? = some x→turns P cfg q x=true→S j=Nat.blt j m:=fun j q x h1 h2 h3=>h j q x (List.getElem?_eq_some_iff.1 h1).1 h1 h2 h3
 exact ⟨m,h',Ec fun j q x h1 h2 h3=>by rw [Nat.zero_add]; exact h' j q x h1 h2 h3⟩
def AtK (P:Program) (cfg:eK) (all:List Oper) (L:List Out) (t0:bA) (A0:ax):Prop:=∀ i o x,all[i]? = some o→L[i]? = some x→∃ t1,(∀ y,t1.get y=(iP (fun j=>Nat.blt j i) all L 0 t0).get y)∧(x.1=true→aZ (tw (bX P cfg o.op) t1 (m5 P cfg (fun j=>Nat.blt j i) all L 0 A0)) (x.2.1,x.2.2))
theorem aeq (yy:AtK P cfg all L t0 A0) (hpl:Ol P cfg all=true):∀ j,A0.next≤(m5 P cfg (fun k=>Nat.blt k j) all L 0 A0).next
 | 0=>by rw [Ow (fun i=>by
   cases hb:Nat.blt i 0 with
   | false=>rfl
   | true=>rw [Nat.blt_eq] at hb; omega)]; exact Nat.le_refl _
 | j+1=>by
  have ih:=aeq yy hpl j
  rcases aep (P:=P) (cfg:=cfg) (all:=all) (L:=L) (A0:=A0) j with ⟨q,x,h1,h2,h3,h4⟩ | ⟨_,h4⟩
  ·rw [h4]
   obtain ⟨t1,_,hg⟩:=yy j q x h1 h2
   unfold turns at h3
   simp only [Bool.and_eq_true] at h3
   have hg:=hg h3.1
   have hp:=List.all_eq_true.1 hpl q (List.mem_of_getElem? h1)
   simp only [Bool.or_eq_true,h3.2,Bool.not_true,Bool.false_eq_true,false_or] at hp
   rcases hp with hp | hp
   ·exact Nat.le_trans ih (YG hp hg).1
   ·obtain ⟨a2,XC⟩:=Option.isSome_iff_exists.1 hp
    unfold PX at XC
    split at XC
    ·rename_i T a3 v e
     rw [(Vd e hg).1]; exact ih
    ·simp at XC
  ·rw [h4]; exact ih
theorem aer (hf:M7 P cfg all) {S:Nat→Bool} (hc:px all S) {i:Nat} {o:Oper} {T:TypeId} {a:Operand} (ho:all[i]? = some o) (BA:o.op = .load T a) (oO:S i=false) (r6:s8 all S i) (hns : ¬ Ql P cfg all i)
  (yy:AtK P cfg all L t0 A0) {tn:bA} (Mq:∀ y,tn.get y=(iP (fun _=>true) all L 0 t0).get y) (ag2:Oj tn A0.next (EP P cfg all)=true)
  {t1:bA} (vX:∀ y,t1.get y=(iP (fun j=>Nat.blt j i) all L 0 t0).get y) {v:KV} {A1:ax} (hg:aZ (tw (bX P cfg o.op) t1 (m5 P cfg (fun j=>Nat.blt j i) all L 0 A0)) (v,A1)) :
  aZ (tw (bX P cfg o.op) t1 (m5 P cfg S all L 0 A0)) (v,m5 P cfg S all L 0 A0):=by
 have hk:dC (bX P cfg o.op)≠0:=by rw [C9 BA]; simp
 have hex:∃ p,p∈EP P cfg all∧p.2=a∧uu i a all 0=true:=by
  refine Classical.byContradiction fun en=>hns fun j q hq h3=>?_
  rcases unordered hf ho hq hk h3 with h | ⟨p,h1,h2,h3,_⟩
  ·exact h
  ·obtain ⟨⟨T',e⟩,_⟩:=yK h2
   rw [BA] at e
   simp only [Op.load.injEq] at e
   exact absurd ⟨p,h1,e.2.symm,by rw [e.2]; exact h3⟩ en
 obtain ⟨p,hp,hpa,hnd⟩:=hex
 have wI:=acM Mq vX hnd
 have hpd:=Ox ag2 p hp
 have hpl:=hf.plain p hp
 rw [BA] at hg ⊢
 have amf:∀ A,tw (bX P cfg (.load T a)) t1 A=(SN P T A [kM t1 a]).map fun v=>(v,A):=fun _=>rfl
 rw [amf] at hg ⊢
 obtain ⟨u,Yr,he⟩:=aZ.map hg
 simp only [Prod.mk.injEq] at he
 obtain ⟨rfl,_⟩:=he
 clear hg
 have hg:=Yr
 clear Yr
 refine aZ.yJ (f:=fun v=>(v,m5 P cfg S all L 0 A0)) ?_
 unfold FO at hpd
 rw [hpa,wI] at hpd
 cases hv:kM t1 a with
 | tp U Tc m k es acc=>rw [hv] at hg; exact hg
 | ptr b off=>
  rw [hv] at hg hpd
  simp only [Bool.and_eq_true] at hpd
  have hb:=hpd.1
  rw [Nat.blt_eq] at hb
  have jz:∃ cs e,(m5 P cfg (fun j=>Nat.blt j i) all L 0 A0).get b=some (.row cs e):=by
   have hg:aZ (match Pv P T,size? P T with
    | some ag,some n=>match (K.rowAt (m5 P cfg (fun j=>Nat.blt j i) all L 0 A0) b).bind fun cs=>uq n (zU off cs) with
     | some l=>cond ag (.ok (.agg l)) (match l with | [v]=>.ok v | _=>.no)
     | none=>.no
    | _,_=>.no) u:=hg
   split at hg
   ·split at hg
    ·rename_i l hl
     obtain ⟨cs,h1,_⟩:=Option.bind_eq_some_iff.1 hl
     unfold K.rowAt at h1
     split at h1
     ·rename_i b8 e h2; exact ⟨b8,e,h2⟩
     ·simp at h1
    ·exact hg.elim
   ·exact hg.elim
  obtain ⟨cs,e,jz⟩:=jz
  obtain ⟨m,hm,iM⟩:=ahO (L:=L) (A0:=A0) hf hc
  have step:∀ k,(∀ q x,all[k]? = some q→L[k]? = some x→turns P cfg q x=true→¬ ((k < i→oZ (eL [] all) i k=true)∧(i < k→oZ (eL [] all) k i=true)))→
    ((m5 P cfg (fun j=>Nat.blt j k) all L 0 A0).get b=some (.row cs e)↔(m5 P cfg (fun j=>Nat.blt j (k+1)) all L 0 A0).get b=some (.row cs e)):=by
   intro k hno
   rcases aep (P:=P) (cfg:=cfg) (all:=all) (L:=L) (A0:=A0) k with ⟨q,x,h1,h2,h3,h4⟩ | ⟨_,h4⟩
   ·rw [h4]
    have h3':=h3
    unfold turns at h3'
    simp only [Bool.and_eq_true] at h3'
    rcases unordered hf ho h1 hk h3'.2 with h5 | ⟨p',h5,h6,h7,h8⟩
    ·exact absurd h5 (hno q x h1 h2 h3)
    ·obtain ⟨tk,htk,hgk⟩:=yy k q x h1 h2
     have hgk:=hgk h3'.1
     obtain ⟨⟨T',e1⟩,e2⟩:=yK h6
     rw [BA] at e1
     simp only [Op.load.injEq] at e1
     have aes:=Ox ag2 p' h5
     unfold FO at aes
     rw [← e1.2,wI,hv] at aes
     simp only [Bool.and_eq_true] at aes
     rcases e2 with ⟨e2,e3⟩ | ⟨U,a2,v2,e2,e3⟩
     ·exact (YG e3 hgk).2 b (Nat.lt_of_lt_of_le hb (aeq yy hpl k)) cs e
     ·refine (Vd e3 hgk).2 b ?_ cs e
      rw [e2] at aes h8
      have N9:=acM Mq htk h8
      have h9:=aes.2
      simp only at h9
      rw [N9] at h9
      split at h9
      ·rename_i b2 ai4 e4
       refine .inl ⟨b2,ai4,e4,fun e5=>?_⟩
       subst e5
       simp at h9
      ·rename_i U' Tc' c' i' k' e4; exact .inr ⟨_,_,_,_,_,e4⟩
      ·simp at h9
   ·rw [h4]
  have alz:(m5 P cfg S all L 0 A0).get b=some (.row cs e):=by
   rw [iM]
   rcases Nat.le_total m i with hle | hle
   ·have down:∀ d k,k+d=i→m≤k→(m5 P cfg (fun j=>Nat.blt j k) all L 0 A0).get b=some (.row cs e):=by
     intro d
     induction d with
     | zero=>intro k hk _; have:k=i:=by omega
             rw [this]; exact jz
     | succ d ih=>
      intro k hk VX
      refine (step k fun q x h1 h2 h3 F9=>?_).2 (ih (k+1) (by omega) (by omega))
      have h4:=hm k q x h1 h2 h3
      have h5:S k=true:=hc.ready hf.Te ho r6 k (F9.1 (by omega))
      rw [h5] at h4
      have h4:=h4.symm
      rw [Nat.blt_eq] at h4
      omega
    exact down (i - m) m (by omega) (Nat.le_refl m)
   ·have up:∀ d,i+d≤m→(m5 P cfg (fun j=>Nat.blt j (i+d)) all L 0 A0).get b=some (.row cs e):=by
     intro d
     induction d with
     | zero=>intro _; exact jz
     | succ d ih=>
      intro hd
      refine (step (i+d) fun q x h1 h2 h3 F9=>?_).1 (ih (by omega))
      have h4:=hm (i+d) q x h1 h2 h3
      have h5:Nat.blt (i+d) m=true:=by rw [Nat.blt_eq]; omega
      rw [h5] at h4
      by_cases hd0:d=0
      ·subst hd0
       rw [Nat.add_zero] at h4
       rw [oO] at h4; simp at h4
      ·have:=hc (i+d) i h4 (F9.2 (by omega))
       rw [oO] at this; simp at this
    have:=up (m - i) (by omega)
    rwa [show i+(m - i)=m by omega] at this
  have Bw:K.rowAt (m5 P cfg S all L 0 A0) b=K.rowAt (m5 P cfg (fun j=>Nat.blt j i) all L 0 A0) b:=by
   unfold K.rowAt
   rw [jz,alz]
  show aZ (match Pv P T,size? P T with
    | some ag,some n=>match (K.rowAt (m5 P cfg S all L 0 A0) b).bind fun cs=>uq n (zU off cs) with
     | some l=>cond ag (.ok (.agg l)) (match l with | [v]=>.ok v | _=>.no)
     | none=>.no
    | _,_=>.no) u
  rw [Bw]
  exact hg
 | _=>rw [hv] at hpd; simp at hpd
end
theorem aaP {R:Type} {cfg:eK} {bz:m9 R} (ik:qK P cfg.pc) (hm:P.follows .mixedOrders=true) {id:Nat} {all:List Oper} {N base:Nat} (hdN:all.all (EI N)=true) {k:bA→ax→Option R} {r:R} {t:bA} {A:ax} {B:St} {ρ:aW} {a:Act} {w:World} {Q:Exit→Act→World→Prop}
  (F9:adW P cfg all=true) (h:rU P cfg bz all (fun t' A'=>Bool.rec (motive:=fun _=>Option R) none (k t' A') (Oj t' A.next (EP P cfg all))) all t A=some r) (ht:kT P E ρ t N a) (hj:KJ P E A B ρ base w)
  (hq:∀ t' E' A' B' aX a' w',k t' A' = some r→kT P E' aX t' N a'→a'.defers=a.defers→Ev P base E A B ρ w E' A' B' aX w'→Q .normal a' w'):(Code.region id ⟨all⟩ true).wp P Q a w:=by
 have hf:=aem F9
 obtain ⟨L,tn,An,mJ,hk⟩:=Qi (fun o ho f args=>z8 (hf.kind o ho) f args) h
 obtain ⟨hlen,Mq,hAn,yy⟩:=mJ.at
 have hdk:Oj tn A.next (EP P cfg all)=true∧k tn An=some r:=by
  cases hd:Oj tn A.next (EP P cfg all) with
  | false=>simp only [hd] at hk; exact absurd hk (by simp)
  | true=>simp only [hd] at hk; exact ⟨rfl,hk⟩
 obtain ⟨ag2,hk⟩:=hdk
 have amg:AtK P cfg all L t A:=fun i o x ho hx=>by obtain ⟨t1,q1,_,q3,_⟩:=yy i o x ho hx; exact ⟨t1,q1,q3⟩
 have Kg:Ev P base E A B ρ w E A B ρ w.drew:=(ef.refl hj.k).ev (l7.drew hj.s)
 refine wp_region_any hm ?_
 show wpAny P .any ⟨all⟩ Q all.length (Array.replicate all.length false) a w.drew
 have BF:∀ i,(Array.replicate all.length false).getD i false=false:=by
  intro i
  rw [Array.getD_eq_getD_getElem?,Array.getElem?_replicate]
  split <;> rfl
 let Inv:(Nat→Bool)→Act→World→Prop:=fun S a' w'=>∃ E' B' aX,a'.defers=a.defers∧Ev P base E A B ρ w.drew E' (m5 P cfg S all L 0 A) B' aX w'∧kT P E' aX (iP S all L 0 t) N a'
 refine Ce hf.Te Inv ?_ ?_ ?_ all.length _ a w.drew (by simp) ?_ (fun i j hi _=>by
   have h2:(Array.replicate all.length false).getD i false=true:=hi
   rw [BF] at h2; simp at h2) ⟨E,B,ρ,rfl,?_,?_⟩
 ·
  rintro S S' a' w' hSS ⟨E',B',aX,h1,h2,h3⟩
  have e1:m5 P cfg S all L 0 A=m5 P cfg S' all L 0 A:=Ec fun i o x ho _ _=>by rw [Nat.zero_add]; exact hSS i (List.getElem?_eq_some_iff.1 ho).1
  refine ⟨E',B',aX,h1,by rw [← e1]; exact h2,h3.same fun y=>?_⟩
  exact lO rfl fun i o ho _=>by rw [Nat.zero_add]; exact (hSS i (List.getElem?_eq_some_iff.1 ho).1).symm
 ·
  rintro S a' w' i o ⟨E',B',aX,h1,h2,h3⟩ hc ho oO r6 _
  have hi:i < L.length:=by rw [hlen]; exact (List.getElem?_eq_some_iff.1 ho).1
  have hx:L[i]? = some L[i]:=List.getElem?_eq_getElem hi
  obtain ⟨t1,vX,hw,aet,hno⟩:=yy i o L[i] ho hx
  have z9:∀ y∈mT P cfg all o,t1.get y=(iP S all L 0 t).get y:=fun y hy=>by rw [vX y,YF hf.toT hc ho oO r6 hy]
  have HX:=Bb h3 (fun y hy=>z9 y (by unfold mT; exact List.mem_append_left _ hy)) hw
  have C8:∀ d,o.dst=some d→d < N:=by
   intro d ed
   have:=List.all_eq_true.1 hdN o (List.mem_of_getElem? ho)
   unfold EI at this
   rw [ed] at this
   simp only at this
   rw [Nat.blt_eq] at this
   exact this
  have hoA:(⟨all⟩:Array Oper)[i]? = some o:=by simpa using ho
  unfold wpOp
  rw [hoA]
  simp only [HX]
  cases Ck:L[i].1 with
  | false=>
   simp only [Bool.false_eq_true,if_false]
   have hv:=hno Ck
   refine ⟨E',B',aX,by rw [put_defers]; exact h1,?_,?_⟩
   ·rw [w5 ho hx (by unfold turns; rw [Ck]; rfl)]
    exact h2
   ·refine (h3.put C8 VC.undef).same fun y=>?_
    rw [F8 hf.toT hc ho hx oO y,hv]
  | true=>
   simp only [if_true]
   refine .inl ?_
   have hg:=aet Ck
   have hgS:∃ A1,aZ (tw (bX P cfg o.op) t1 (m5 P cfg S all L 0 A)) (L[i].2.1,A1)∧m5 P cfg (cT S i) all L 0 A=A1:=by
    by_cases DJ:dC (bX P cfg o.op)=0
    ·refine ⟨_,aeo hg DJ,w5 ho hx ?_⟩
     unfold turns
     rw [DJ,show Nat.ble 3 0=false from rfl,Bool.and_false]
    ·by_cases iM:Ql P cfg all i
     ·rw [Qm (L:=L) (A0:=A) hf hc ho oO r6 iM]
      refine ⟨_,hg,?_⟩
      cases Mq:turns P cfg o L[i] with
      | true=>exact af0 hf hc ho hx oO r6 Mq
      | false=>
       have h4:=z7 hg (by simpa [turns,Ck] using Mq)
       rw [w5 ho hx Mq,Qm (L:=L) (A0:=A) hf hc ho oO r6 iM,h4]
     ·have hex:∃ T a,o.op = .load T a:=Classical.byContradiction fun en=>iM (Kd hf ho DJ fun T a e=>en ⟨T,a,e⟩)
      obtain ⟨T,a',BA⟩:=hex
      refine ⟨_,aer hf hc ho BA oO r6 iM amg Mq ag2 vX hg,w5 ho hx ?_⟩
      unfold turns
      rw [C9 BA,show Nat.ble 3 1=false from rfl,Bool.and_false]
   obtain ⟨A1,hg1,hA1⟩:=hgS
   refine HR ik hg1 (fun x hxm=>Ke h3 fun y e=>z9 y ?_) h2.kj fun F7 HS uk v' FC h4 h5=>?_
   ·unfold mT
    subst e
    exact List.mem_append_right _ (kK hxm)
   ·refine ⟨F7,HS,uk,by rw [put_defers]; exact h1,?_,?_⟩
    ·rw [hA1]; exact h2.trans h5
    ·refine ((h3.mono h5.le (h5.fN.le h2.fN.jr)).put C8 h4).same fun y=>?_
     rw [F8 hf.toT hc ho hx oO y]
 ·
  rintro S a' w' o3 ⟨E',B',aX,h1,h2,h3⟩
  have e1:m5 P cfg S all L 0 A=An:=by rw [hAn]; exact Ec fun i o x ho _ _=>by rw [Nat.zero_add]; exact o3 i (List.getElem?_eq_some_iff.1 ho).1
  rw [e1] at h2
  refine hq tn E' An B' aX a' w' hk (h3.same fun y=>?_) h1 (Kg.trans h2)
  rw [Mq y]
  exact lO rfl fun i o ho _=>by rw [Nat.zero_add]; exact (o3 i (List.getElem?_eq_some_iff.1 ho).1).symm
 ·simp
 ·rw [Ow BF]
  exact .refl hj.k Kg.fN.jr
 ·refine ht.same fun y=>?_
  rw [HV BF]
end Go.K
end
