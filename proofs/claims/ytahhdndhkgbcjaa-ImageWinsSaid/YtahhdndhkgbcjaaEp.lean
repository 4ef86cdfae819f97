/- Part of the proof of ImageWins: a machine that runs the program's code over open terms, shown to be the model's, and the plain models of its functions. No conditions. -/
import Derived.Test.YtahhdndhkgbcjaaDp
section
namespace Go.K
open Go Go.aG
variable {P:Program} {E:Env}
theorem ee.akT {A A1:az} {B:St} {T:TypeId} {acc:Nat→KV} (h:fI P E A B) (sq:A1.next=A.next) (HP:∀ c o,A1.get c=some o→A.get c=some o∨(o = .dead∧c < A.next)) (fo:1≤bg P T) :
  ee P E A B E (A1.new (.arr (.ts T .any 0 [] acc))) B:=by
 have ajj:E.α A.next=none:=by
  cases hq:E.α A.next with
  | none=>rfl
  | some p=>have:=h.ar.lD _ p hq; omega
 have jX:∀ c o,(A1.new (.arr (.ts T .any 0 [] acc))).get c=some o→(c=A.next∧o = .arr (.ts T .any 0 [] acc))∨(o = .dead∧c < A.next)∨A.get c=some o:=fun c o hc=>by
  rw [az.dt,sq] at hc
  split at hc
  ·rename_i e; simp at hc; exact .inl ⟨e,hc.symm⟩
  ·rcases HP c o hc with e | e
   ·exact .inr (.inr e)
   ·exact .inr (.inl e)
 have uq:∀ c v,(A1.new (.arr (.ts T .any 0 [] acc))).get c=some (.arr v)→E.α c=none∨A.get c=some (.arr v):=fun c v hc=>by
  rcases jX c _ hc with ⟨e,_⟩ | ⟨e,_⟩ | e
  ·exact .inl (by rw [e]; exact ajj)
  ·simp at e
  ·exact .inr e
 have hA:∀ c v y L N,(A1.new (.arr (.ts T .any 0 [] acc))).get c=some (.arr v)→E.α c=some (y,L,N)→A.get c=some (.arr v):=fun c v y L N hc hy=>by
  rcases uq c v hc with e | e
  ·rw [e] at hy; simp at hy
  ·exact e
 have qG:∀ y,AR (A1.new (.arr (.ts T .any 0 [] acc))) E y→AR A E y:=fun y ⟨c,v,L,N,h1,h2⟩=>⟨c,v,L,N,hA c v _ _ _ h1 h2,h2⟩
 have ER:∀ g,AF (A1.new (.arr (.ts T .any 0 [] acc))) E B g→AF A E B g:=fun g ⟨c,v,x,L,N,cs,e,own,k,h1,h2,h3⟩=>⟨c,v,x,L,N,cs,e,own,k,hA c v _ _ _ h1 h2,h2,h3⟩
 refine ⟨⟨fun c cs bU hc=>?_,fun c top sz hc=>?_,h.z,h.apart,h.inj,?_,fun b x e=>by rw [az.cq,sq]; have:=h.lD b x e; omega,fun b g e=>by rw [az.cq,sq]; have:=h.mW b g e; omega,fun c o hc=>?_,h.gY,h.m9,h.kc,h.fresh,h.mem,?_⟩,Env.le_refl _,by rw [az.cq,sq]; omega,fun _ _ _ _=>rfl,fun _ _ e=>.inl e,fun _ _ e=>.inl e,fun _ _ e=>.inl e,fun _ _ _ _=>rfl,fun x q=>.inl (qG x q),fun g q=>.inl (ER g q),fun _ _ q=>.inl q,fun y q=>.inl (q.imp (qG y) fun ⟨g,q1,q2⟩=>⟨g,ER g q1,q2⟩),mZ fun _ _=>rfl⟩
 ·rcases jX c _ hc with ⟨_,e⟩ | ⟨e,_⟩ | e
  ·simp at e
  ·simp at e
  ·exact h.row c cs bU e
 ·rcases jX c _ hc with ⟨_,e⟩ | ⟨e,_⟩ | e
  ·simp at e
  ·simp at e
  ·exact h.bb c top sz e
 ·intro b c g tb sb tc sc hb hc e1 e2
  rcases jX b _ hb with ⟨_,e⟩ | ⟨e,_⟩ | hb
  ·simp at e
  ·simp at e
  rcases jX c _ hc with ⟨_,e⟩ | ⟨e,_⟩ | hc
  ·simp at e
  ·simp at e
  exact h.jM b c g _ _ _ _ hb hc e1 e2
 ·rw [az.cq,sq]
  rcases jX c _ hc with ⟨e,_⟩ | ⟨_,e⟩ | e
  ·omega
  ·omega
  ·have:=h.live c o e; omega
 ·refine ⟨fun c v hc=>?_,fun c v hc=>?_,fun x q=>h.ar.z x (qG x q),fun b c v u x L N L' N' h1 h2 h3 h4=>h.ar.inj b c v u x L N L' N' (hA b v _ _ _ h1 h3) (hA c u _ _ _ h2 h4) h3 h4,fun b c v u x y L N L' N' cs e own g k b8 e' o7 k' h1 h2 h3 h4=>h.ar.tq b c v u x y L N L' N' cs e own g k b8 e' o7 k' (hA b v _ _ _ h1 h3) (hA c u _ _ _ h2 h4) h3 h4,h.ar.Yp,fun b p e=>by rw [az.cq,sq]; have:=h.ar.lD b p e; omega,h.ar.gY,fun b v x L N cs e own g k h1 h2 h3=>?_,fun c v hc=>?_⟩
  ·rcases jX c _ hc with ⟨e,e2⟩ | ⟨e,_⟩ | e
   ·simp at e2
    subst e2
    exact ⟨T,0,[],acc,rfl,⟨rfl,fun i hi=>by omega,rfl⟩,fo,.inl ⟨rfl,by rw [e]; exact ajj⟩⟩
   ·simp at e
   ·exact h.ar.arr c v e
  ·rcases jX c _ hc with ⟨_,e⟩ | ⟨e,_⟩ | e
   ·simp at e
   ·simp at e
   ·exact h.ar.jK c v e
  ·obtain ⟨q1,q2,q3⟩:=h.ar.rZ b v x L N cs e own g k (hA b v _ _ _ h1 h2) h2 h3
   exact ⟨q1,q2,fun y hy dT=>⟨(q3 y hy dT).1,fun q=>(q3 y hy dT).2.1 (qG y q),(q3 y hy dT).2.2⟩⟩
  ·rw [az.cq,sq]
   rcases jX c _ hc with ⟨e,_⟩ | ⟨e,_⟩ | e
   ·rw [e]
    refine ⟨Nat.lt_succ_self _,?_⟩
    cases hk:E.κ A.next with
    | none=>rfl
    | some x=>have:=h.lD _ x hk; omega
   ·simp at e
   ·obtain ⟨q1,q2⟩:=h.ar.nk c v e
    exact ⟨by omega,q2⟩
theorem aeB {E:Env} {T:TypeId} {b x L N n c:Nat} (qf:E.α b=some (x,L,N)) (h1:n≤c) (h2:n≤N) (h3:c * bg P T=L):VK P E (.al T b 0 n) (.slice (some ⟨x,0,none⟩) n c):=
 .M5 (.inr ⟨x,L,N,c,qf,by simp,h1,by omega,by rw [Nat.zero_add]; exact h3⟩)
theorem aeC {T b n:Nat} {z:Value} (hn:bg P T=n) (h1n:1≤n) (hz:z.cells.size=n) (he:dw (bu P T) (K.gp (bu P T) (gS z))=true):abN P (Th T b (K.gp (bu P T) (gS z))) (A7 n b z):=by
 intro E A A' B vs us v h hv hg
 unfold Th at hg
 split at hg
 ·rename_i k l k' c
  obtain ⟨x,y,rfl,h1,h2⟩:=hv.kR
  have:=h1.du; subst this
  have:=h2.du; subst this
  obtain ⟨hc,hg⟩:=a5.lV hg
  simp only [Prod.mk.injEq] at hg
  obtain ⟨rfl,rfl⟩:=hg
  simp only [Bool.and_eq_true,decide_eq_true_eq] at hc
  obtain ⟨⟨h3,h4⟩,h5⟩:=hc
  obtain ⟨l',rfl⟩:=Int.eq_ofNat_of_zero_le h3
  obtain ⟨c',rfl⟩:=Int.eq_ofNat_of_zero_le (Int.le_trans h3 h4)
  have h6:Nat.ble l' c' = true:=Nat.ble_eq_true_of_le (by omega)
  have hs:∀ v∈List.replicate c' z,v.cells.size=n:=fun v hv=>by rw [List.eq_of_mem_replicate hv]; exact hz
  have hlen:(bH (List.replicate c' z)).length=c' * n:=by rw [jw hs,List.length_replicate]
  have HS:∀ m,dV [K.gp (bu P T) (gS z)] m=List.replicate m (K.gp (bu P T) (gS z)):=fun m=>by
   induction m with
   | zero=>rfl
   | succ m ih=>simp [dV,ih,List.replicate_succ]
  have iX:=ee.Qq (P:=P) (X:=fun _=>False) (G:=fun _=>False) (y2:=B.next) (N2:=c') (T:=T) (o5:=dV [K.gp (bu P T) (gS z)] c') (fT:=fun _=>K.gp (bu P T) (gS z)) (BX:=List.replicate c' z) (lE:=bH (List.replicate c' z)) (rj:=none) (A1:=A) (B':=B.new (.row (bH (List.replicate c' z)) n true none)) h rfl (fun _ _ e=>.inl e) (fun _ _ _ _ _ _ _=>⟨id,fun _ _ _ _ _ _=>id⟩) (fun _ e=>e.elim) (fun _ e=>e.elim) (.inr (Nat.le_refl _)) (by simp) (by simp [hn]) (fun _ _ e=>by simp at e)
   (fun y hy _=>.inl (by rw [St.dt,if_neg (by omega)])) (fun _ e=>e.elim) (fun q y hy=>.inl (by simpa using hy)) (fun q _=>by simp) (by simp) (fun g hg=>by rw [St.la]; exact h.fresh g (by rw [St.cq] at hg; omega)) (fun g y hy=>by rw [St.la] at hy; rw [St.cq]; have:=h.mem g y hy; omega)
   (by omega) ⟨by rw [HS]; simp,fun i hi=>by rw [HS,List.getD_eq_getElem?_getD,List.getElem?_replicate,if_pos hi]; rfl,by
    rw [HS]
    exact oC fun i x hx=>by rw [List.getElem?_replicate] at hx; split at hx <;> simp at hx; subst hx; exact he⟩ (by
    rw [HS]
    generalize c' = m
    induction m with
    | zero=>exact .nil
    | succ m ih=>exact .cons (VK.gS z).gp ih) (by rw [hn]; exact mF hs)
  refine ⟨.row (gn z.cells.toList c') n true none,fun k=>.slice (some ⟨k,0,none⟩) l' c',E.B5 A.next (B.next,(bH (List.replicate c' z)).length,c'),?_,?_,?_⟩
  ·have h5:Nat.ble (b * c') 281474976710656=true:=h5
   show cond (Nat.ble l' c'&&Nat.ble (b * c') 281474976710656) _ _=_
   rw [h6,h5]
   rfl
  ·exact aeB Env.z7 (by omega) (by show l'≤c'; omega) (by rw [hn,hlen])
  ·rw [Cj]; exact iX
 ·exact hg.elim
theorem ah9 {T b n:Nat} {z:Value} (hn:bg P T=n) (_:1≤n) (hz:z.cells.size=n) (he:dw (bu P T) (K.gp (bu P T) (gS z))=true):ajf P (acO T b (K.gp (bu P T) (gS z))) (A7 n b z):=by
 intro E A B vs us v h hv hg
 unfold acO at hg
 split at hg
 ·rename_i k l k' c
  obtain ⟨x,y,rfl,h1,h2⟩:=hv.kR
  have:=h1.du; subst this
  have:=h2.du; subst this
  obtain ⟨hc,hg⟩:=a5.lV hg
  subst hg
  simp only [Bool.and_eq_true,decide_eq_true_eq] at hc
  obtain ⟨⟨h3,h4⟩,h5⟩:=hc
  obtain ⟨l',rfl⟩:=Int.eq_ofNat_of_zero_le h3
  obtain ⟨c',rfl⟩:=Int.eq_ofNat_of_zero_le (Int.le_trans h3 h4)
  have DG:l'≤c':=by omega
  have h6:Nat.ble l' c' = true:=Nat.ble_eq_true_of_le DG
  have hs:∀ v∈List.replicate c' z,v.cells.size=n:=fun v hv=>by rw [List.eq_of_mem_replicate hv]; exact hz
  have HS:∀ m,dV [K.gp (bu P T) (gS z)] m=List.replicate m (K.gp (bu P T) (gS z)):=fun m=>by
   induction m with
   | zero=>rfl
   | succ m ih=>simp [dV,ih,List.replicate_succ]
  have zD:∀ m,bf P E (List.replicate m (K.gp (bu P T) (gS z))) (List.replicate m z):=fun m=>by
   induction m with
   | zero=>exact .nil
   | succ m ih=>exact .cons (VK.gS z).gp ih
  refine ⟨.row (gn z.cells.toList c') n true none,fun k=>.slice (some ⟨k,0,none⟩) l' c',E.gA B.next ⟨bH (List.replicate c' z),n,true,none⟩,?_,?_,?_⟩
  ·have h5:Nat.ble (b * c') 281474976710656=true:=h5
   show cond (Nat.ble l' c'&&Nat.ble (b * c') 281474976710656) _ _=_
   rw [h6,h5]
   rfl
  ·have agh:=(zD l').mono (ee.ahd (b8:=bH (List.replicate c' z)) (bU:=n) h).le
   simp only [VK]
   refine ⟨⟨by rw [HS]; simp,fun i hi=>by rw [HS,List.getD_eq_getElem?_getD,List.getElem?_replicate,if_pos hi]; rfl,by
    rw [HS]
    exact oC fun i x hx=>by rw [List.getElem?_replicate] at hx; split at hx <;> simp at hx; subst hx; exact he⟩,List.replicate l' z,by rw [HS]; exact agh,some ⟨B.next,0,none⟩,c',rfl,DG,.inr ⟨B.next,0,⟨bH (List.replicate c' z),n,true,none⟩,rfl,by simp [Env.gA],hn.symm,?_⟩,trivial⟩
   rw [hn]
   intro i x hx
   rw [List.getElem?_replicate] at hx
   split at hx
   ·rename_i hi
    refine mF hs i x ?_
    rw [List.getElem?_replicate,if_pos (by have hi:i < l':=hi; omega)]
    exact hx
   ·simp at hx
  ·rw [Cj]; exact ee.ahd h
 ·exact hg.elim
theorem Tt {sz:Nat} {cs:List Value} {xs ys:List Value} (h:n6 sz 0 cs xs) (k:n6 sz (xs.length * sz) cs ys):n6 sz 0 cs (xs++ys):=fun i x hi=>by
 by_cases bX:i < xs.length
 ·rw [List.getElem?_append_left bX] at hi; exact h i x hi
 ·rw [List.getElem?_append_right (by omega)] at hi
  obtain ⟨h1,h2⟩:=k _ x hi
  refine ⟨h1,fun j y hy=>?_⟩
  rw [← h2 j y hy]
  congr 1
  have:i * sz=xs.length * sz+(i - xs.length) * sz:=by rw [← Nat.add_mul]; congr 1; omega
  omega
theorem Vn {sz o:Nat} {cs r news:List Value} (hs:∀ v∈news,v.cells.size=sz) (hw:ie (o * sz) cs (bH news)=some r):n6 sz (o * sz) r news:=fun i x hi=>by
 have FG:=mF hs i x hi
 have hlen:=jw hs
 obtain ⟨_,_,h3⟩:=jc hw
 refine ⟨FG.1,fun k y hy=>?_⟩
 have h4:=FG.2 k y hy
 rw [Nat.zero_add] at h4
 rw [h3,if_pos ⟨by omega,by have:=(List.getElem?_eq_some_iff.1 h4).1; omega⟩,← h4]
 congr 1
 omega
theorem YP {sz o:Nat} {cs r vs es:List Value} (hl:n6 sz 0 cs es) (ho:es.length≤o) (hw:ie (o * sz) cs vs=some r) (_:1≤sz):n6 sz 0 r es:=fun i x hi=>by
 obtain ⟨h1,h2⟩:=hl i x hi
 obtain ⟨_,_,h3⟩:=jc hw
 refine ⟨h1,fun k y hy=>?_⟩
 have hk:k < sz:=by have:=(Array.getElem?_eq_some_iff.1 hy).1; omega
 have PE:=(List.getElem?_eq_some_iff.1 hi).1
 have bX:0+i * sz+k < o * sz:=by
  have:(i+1) * sz≤o * sz:=Nat.mul_le_mul_right _ (by omega)
  rw [Nat.add_mul] at this
  omega
 rw [h3,if_neg (by omega)]
 exact h2 k y hy
theorem agp {A:az} {B:St} {f:Nat} {o0:jx} (h:fI P E A B) (hA:A.get f=some o0):∀ c o,(A.put f .dead).get c=some o→A.get c=some o∨(o = .dead∧c < A.next):=fun c o hc=>by
 rw [az.ca] at hc
 split at hc
 ·rename_i e; simp at hc; subst hc e; exact .inr ⟨rfl,h.live _ _ hA⟩
 ·exact .inl hc
theorem Qr {B:St} {g k:Nat} {c:List Value} {n:Nat} (_:g≤B.next):(∀ x,(B.grow g k c n).get x=if x=B.next then some (.row c n true (some (g,k))) else B.get x)∧(∀ q,(B.grow g k c n).members q=if q=g then B.next::B.members g else B.members q)∧(B.grow g k c n).next=B.next+1:=
 ⟨fun x=>by simp [St.grow],fun q=>by simp [St.grow,St.Az],rfl⟩
theorem YQ {e b:Nat} {E:Env} {A A' : az} {B:St} {x v:KV} {u w:Value} {e' : TypeId} {mk:Mk} {k:Nat} {new:List KV} {acc:Nat→KV} (tr:1≤bg P e) (h:fI P E A B) (h1:VK P E x u)
  (hsr:Nat.beq e e' = true→∃ bq,Src P E B e' k new acc w bq) (hg:a5 (CB e b A [x,.ts e' mk k new acc]) (v,A')):∃ r B' E',l7 (bg P e) b B [u,w] = some (r,B')∧VK P E' v r∧ee P E A B E' A' B':=by
 have put:∀ (A1:az) (m:Nat) (base:List KV) (ab:Nat→KV) (more:Bool) (A2:az) (v:KV),a5 (Xr e b m base ab A1 k new acc more) (v,A2)→
   (more=true∧Nat.ble ((m+k+512) * b) 17592186044416=true∧Nat.ble (m+k) 17592186044416=true)∧v = .al e A1.next 0 (m+k)∧A2=A1.new (.arr (.ts e .any (m+k) (base++new) (fa m ab acc))):=by
  intro A1 m base ab more A2 v hp
  obtain ⟨hc,hp⟩:=a5.lV hp
  simp only [ag7,Bool.and_eq_true] at hc
  simp only [Prod.mk.injEq] at hp
  exact ⟨⟨hc.1,hc.2.1,hc.2.2⟩,hp.1.symm,hp.2.symm⟩
 have nil:∀ (A1:az) (base:List KV) (ab:Nat→KV),base = []→A1.next=A.next→(∀ c o,A1.get c=some o→A.get c=some o∨(o = .dead∧c < A.next))→(∃ bq,Src P E B e k new acc w bq)→Nat.ble ((0+k+512) * b) 17592186044416=true→Nat.ble (0+k) 17592186044416=true→
   ∃ r B' E',l7 (bg P e) b B [.slice none 0 0,w] = some (r,B')∧VK P E' (.al e A.next 0 (0+k)) r∧ee P E A B E' (A1.new (.arr (.ts e .any (0+k) (base++new) (fa 0 ab acc)))) B':=by
  intro A1 base ab YN hn1 hr1 ⟨cN,kC⟩ zU rl
  subst YN
  have hj:je P e (0+k) ([]++new) (fa 0 ab acc):=(je.none (P:=P) (T:=e) (g:=ab)).join kC.tree
  cases k with
  | zero=>
   have mR:new = []:=List.length_eq_zero_iff.1 kC.tree.len.symm
   subst mR
   refine ⟨.slice none 0 0,B,E,?_,.M5 (.inl ⟨rfl,rfl,rfl⟩),ee.akT h hn1 hr1 tr⟩
   simp only [l7,kC.len,Option.bind_some,kC.all]
   rfl
  | succ k=>
   obtain ⟨g1,g2,g3⟩:=Qr (B:=B) (g:=B.next) (k:=0) (c:=bH cN) (n:=bg P e) (Nat.le_refl _)
   have hlen:(bH cN).length=(k+1) * bg P e:=by rw [jw kC.size,kC.length]
   refine ⟨.slice (some ⟨B.next,0,none⟩) (k+1) (k+1),B.grow B.next 0 (bH cN) (bg P e),E.B5 A.next (B.next,(bH cN).length,0+(k+1)),?_,?_,?_⟩
   ·simp only [Nat.zero_add] at zU rl
    simp only [l7,kC.len,Option.bind_some,Nat.zero_add]
    rw [show Nat.ble (k+1) 0=false from rfl,cond_false,zU,rl,kC.all]
    rfl
   ·rw [Nat.zero_add]; exact aeB Env.z7 (Nat.le_refl _) (by omega) (by rw [hlen])
   ·generalize B.grow B.next 0 (bH cN) (bg P e)=B' at g1 g2 g3
    exact ee.Qq (X:=fun _=>False) (G:=fun _=>False) (y2:=B.next) (rj:=some (B.next,0)) h hn1 hr1 (fun _ _ _ _ _ _ _=>⟨id,fun _ _ _ _ _ _=>id⟩) (fun _ e=>e.elim) (fun _ e=>e.elim) (.inr (Nat.le_refl _)) (by omega) (by rw [g1,if_pos rfl]) (fun g k e=>by simp at e; exact .inr (by omega))
     (fun y hy _=>.inl (by rw [g1,if_neg (by omega)])) (fun _ e=>e.elim) (fun q y hy=>by
      rw [g2] at hy
      split at hy
      ·rename_i e
       subst e
       rcases List.mem_cons.1 hy with hy | hy
       ·exact .inr ⟨hy,Nat.le_refl _,0,rfl⟩
       ·exact .inl hy
      ·exact .inl hy) (fun q hq=>by rw [g2,if_neg (fun e=>hq 0 (by rw [e]))]) (by omega) (fun g hg=>by rw [g2,if_neg (by omega)]; exact h.fresh g (by omega)) (fun g y hy=>by
      rw [g2] at hy
      split at hy
      ·rcases List.mem_cons.1 hy with hy | hy
       ·omega
       ·have:=h.mem _ y hy; omega
      ·have:=h.mem g y hy; omega) tr hj (by simpa using kC.rel) (mF kC.size)
 unfold CB at hg
 split at hg
 ·rename_i e9 mk9 k9 ahk ahl heq
  simp only [List.cons.injEq,KV.ts.injEq,and_true] at heq
  obtain ⟨rfl,rfl,rfl,rfl,rfl,rfl⟩:=heq
  have:=h1.nQ; subst this
  obtain ⟨he,HN⟩:=hg.cond
  have kC:=hsr he
  have:=Nat.eq_of_beq_eq_true he
  subst this
  obtain ⟨⟨_,zU,rl⟩,rfl,rfl⟩:=put _ _ _ _ _ _ _ HN
  exact nil A [] n5 rfl rfl (fun _ _ e=>.inl e) kC zU rl
 ·rename_i e1 f o n e9 mk9 k9 ahk ahl heq
  simp only [List.cons.injEq,KV.ts.injEq,and_true] at heq
  obtain ⟨rfl,rfl,rfl,rfl,rfl,rfl⟩:=heq
  split at hg
  ·rename_i e2 mk2 N es ac hf
   obtain ⟨he,HN⟩:=hg.cond
   simp only [Bool.and_eq_true] at he
   obtain ⟨cN,kC⟩:=hsr he.1.1
   have:=Nat.eq_of_beq_eq_true he.1.1
   subst this
   have:=Nat.eq_of_beq_eq_true he.1.2
   subst this
   have:=Nat.eq_of_beq_eq_true he.2
   subst this
   obtain ⟨⟨ho,zU,rl⟩,rfl,rfl⟩:=put _ _ _ _ _ _ _ HN
   have:=Nat.eq_of_beq_eq_true ho
   subst this
   have HP:=agp h hf
   rcases h1.u3 with ⟨rfl,_,rfl⟩ | ⟨x,L,N0,c,h2,rfl,h3,h4,h5⟩
   ·exact nil (A.put f .dead) (es.take 0) ac (by simp) rfl HP ⟨cN,kC⟩ zU rl
   ·obtain ⟨T2,N2,o5,fT,e2,ht,_,vQ⟩:=h.ar.arr f _ hf
    simp only [KV.ts.injEq] at e2
    obtain ⟨rfl,rfl,rfl,rfl,rfl⟩:=e2
    rcases vQ with ⟨_,e2⟩ | ⟨x2,cs,bQ,bq,e2,h6,h7,h8⟩
    ·rw [h2] at e2; simp at e2
    rw [h2] at e2
    simp only [Option.some.injEq,Prod.mk.injEq] at e2
    obtain ⟨rfl,rfl,rfl⟩:=e2
    have qG:AR A E x:=⟨f,_,_,_,hf,h2⟩
    have hxlt:x < B.next:=h.DZ qG
    have agl:bq.length=N0:=by rw [h7.length]; exact ht.len.symm
    have hs:=om ht.typed h7
    have htk:je P e n (es.take n) ac:=⟨by rw [List.length_take,← ht.len]; omega,fun i hi=>by rw [ht.acc i (by omega),List.getD_eq_getElem?_getD,List.getD_eq_getElem?_getD,List.getElem?_take,if_pos hi],oC fun i x hi=>by
     rw [List.getElem?_take] at hi
     split at hi
     ·exact kd ht.typed hi
     ·simp at hi⟩
    have hj:=htk.join kC.tree
    have J5:(bq.take n).length=n:=by rw [List.length_take]; omega
    have amv:∀ v∈bq.take n,v.cells.size=bg P e:=fun v hv=>(hs v (List.mem_of_mem_take hv)).1
    have zD:=(h7.take n).append kC.rel
    have h5:c * bg P e=cs.length:=by simpa using h5
    have pz:∀ c v,(A.put f .dead).get c=some (.arr v)→c≠f∧A.get c=some (.arr v):=fun c v hc=>by
     rw [az.ca] at hc
     split at hc
     ·simp at hc
     ·rename_i e; exact ⟨e,hc⟩
    have hf1:∀ c v,(A.put f .dead).get c=some (.arr v)→∀ y L N,E.α c=some (y,L,N)→¬ (y=x)∧∀ oi e1 own g k1,B.get y=some (.row oi e1 own (some (g,k1)))→¬ (∃ k,bQ=some (g,k)):=fun c v hc y L N hy=>by
     obtain ⟨dT,hc⟩:=pz c v hc
     refine ⟨fun e=>dT (h.ar.inj c f v _ x L N _ _ hc hf (by rw [← e]; exact hy) h2),fun oi e1 own g k1 hr ⟨k2,hk⟩=>?_⟩
     rw [hk] at h6
     exact dT (h.ar.tq c f v _ y x L N _ _ _ _ _ g k1 _ _ _ k2 hc hf hy h2 hr h6)
    have hf3:∀ g,(∃ k,bQ=some (g,k))→AF A E B g∧g < B.next∧(∀ f,E.φ f≠some g)∧∀ y∈B.members g,¬ (y=x)→E.z y=none∧¬ AR A E y∧∀ c,E.κ c≠some y:=fun g ⟨k2,hk⟩=>by
     rw [hk] at h6
     obtain ⟨q1,q2,q3⟩:=h.ar.rZ f _ x _ _ _ _ _ g k2 hf h2 h6
     exact ⟨⟨f,_,x,_,_,_,_,_,k2,hf,h2,h6⟩,q1,q2,fun y hy dT=>q3 y hy dT⟩
    have akU:dm (⟨x,0 * bg P e,none⟩:Addr)=true:=rfl
    by_cases oA:n+k≤c
    ·
     have hle:n * bg P e+(bH cN).length≤cs.length:=by
      rw [jw kC.size,kC.length,← h5,← Nat.add_mul]
      exact Nat.mul_le_mul_right _ oA
     obtain ⟨lE,hw⟩:=yD (n * bg P e) cs (bH cN) hle
     have hcl:lE.length=cs.length:=(jc hw).1
     have Wa:(bH cN).all scalar=true:=List.all_eq_true.2 (AE fun v hv=>(om kC.tree.typed kC.rel v hv).2)
     have hb:Nat.ble (n+k) c=true:=Nat.ble_eq_true_of_le oA
     refine ⟨.slice (some ⟨x,0 * bg P e,none⟩) (n+k) c,(B.put x (.row lE (bg P e) true bQ)).eE x bQ (n * bg P e) (n * bg P e+(bH cN).length),E.B5 A.next (x,lE.length,n+k),?_,?_,?_⟩
     ·simp only [l7,kC.len,Option.bind_some,hb,cond_true,kC.all,akU]
      simp only [St.wR,dm,Option.isNone_none,Bool.true_and,Wa,cond_true,Nat.zero_mul,Nat.zero_add,h6,hw,Option.map_some]
     ·rw [Nat.zero_mul]; exact aeB Env.z7 oA (Nat.le_refl _) (by rw [hcl]; exact h5)
     ·have jB:((B.put x (.row lE (bg P e) true bQ)).eE x bQ (n * bg P e) (n * bg P e+(bH cN).length)).get x=some (.row lE (bg P e) true bQ):=by
       rcases Cl (B:=B.put x (.row lE (bg P e) true bQ)) (x:=x) (y:=x) (lo:=n * bg P e) (hi:=n * bg P e+(bH cN).length) (bQ:=bQ) with e | ⟨g,k,_,_,h3,_⟩
       ·rw [e]; simp
       ·exact absurd rfl h3
      have hgy:∀ y,y≠x→((B.put x (.row lE (bg P e) true bQ)).eE x bQ (n * bg P e) (n * bg P e+(bH cN).length)).get y=B.get y∨(((B.put x (.row lE (bg P e) true bQ)).eE x bQ (n * bg P e) (n * bg P e+(bH cN).length)).get y=some .dead∧∃ g,(∃ k,bQ=some (g,k))∧y∈B.members g):=by
       intro y hy
       rcases Cl (B:=B.put x (.row lE (bg P e) true bQ)) (x:=x) (y:=y) (lo:=n * bg P e) (hi:=n * bg P e+(bH cN).length) (bQ:=bQ) with e | ⟨g,k,h1,h2,_,h4,_⟩
       ·exact .inl (by rw [e,St.ca,if_neg hy])
       ·exact .inr ⟨h4,g,⟨k,h1⟩,by simpa using h2⟩
      have lJ:((B.put x (.row lE (bg P e) true bQ)).eE x bQ (n * bg P e) (n * bg P e+(bH cN).length)).members=B.members:=by rw [F4]; simp
      have jd:((B.put x (.row lE (bg P e) true bQ)).eE x bQ (n * bg P e) (n * bg P e+(bH cN).length)).next=B.next:=by rw [Nc]; simp
      generalize (B.put x (.row lE (bg P e) true bQ)).eE x bQ (n * bg P e) (n * bg P e+(bH cN).length)=B' at jB hgy lJ jd
      have hli:n6 (bg P e) 0 lE (bq.take n++cN):=Tt (YP (h8.take n) (by omega) hw tr) (by rw [J5]; exact Vn kC.size hw)
      exact ee.Qq (A1:=A.put f .dead) (X:=fun y=>y=x) (G:=fun g=>∃ k,bQ=some (g,k)) (y2:=x) (rj:=bQ) h rfl HP hf1 (fun y hy=>by rw [hy]; exact qG) hf3 (.inl rfl) (by omega) jB (fun g k hk=>.inl ⟨k,hk⟩)
       (fun y _ dT=>hgy y dT) (fun y hy oi e1 own Qp hr=>by
        rw [hy,jB] at hr
        simp at hr
        obtain ⟨rfl,rfl,rfl,rfl⟩:=hr
        rw [hy]
        exact ⟨cs,h6,hcl.symm⟩) (fun q y hy=>.inl (by rw [lJ] at hy; exact hy)) (fun q _=>by rw [lJ]) (by omega) (fun g hg=>by rw [lJ]; exact h.fresh g (by omega)) (fun g y hy=>by rw [lJ] at hy; rw [jd]; exact h.mem g y hy) tr hj zD hli
    ·
     have hb:Nat.ble (n+k) c=false:=by
      cases hq:Nat.ble (n+k) c with
      | false=>rfl
      | true=>exact absurd (Nat.le_of_ble_eq_true hq) oA
     have hex:s6 B (bg P e) c (some ⟨x,0 * bg P e,none⟩)=true:=by
      simp only [s6,h6]
      cases bQ with
      | none=>simp [h5]
      | some p=>rfl
     have hold:B.vN ⟨x,0 * bg P e,none⟩ (n * bg P e)=some (bH (bq.take n)):=by
      have:=HQ (B:=B) (b:=x) (off:=0) (n:=n) (sz:=bg P e) (r:=⟨cs,bg P e,true,bQ⟩) (bq:=bq.take n) h6 (h8.take n) J5 tr
      simpa using this
     have agq:∀ v∈bq.take n++cN,v.cells.size=bg P e:=fun v hv=>by
      rcases List.mem_append.1 hv with hv | hv
      ·exact amv v hv
      ·exact kC.size v hv
     have hlen:(bH (bq.take n++cN)).length=(n+k) * bg P e:=by rw [jw agq,List.length_append,J5,kC.length]
     cases bQ with
     | none=>
      obtain ⟨g1,g2,g3⟩:=Qr (B:=B) (g:=B.next) (k:=0) (c:=bH (bq.take n++cN)) (n:=bg P e) (Nat.le_refl _)
      refine ⟨.slice (some ⟨B.next,0,none⟩) (n+k) (n+k),B.grow B.next 0 (bH (bq.take n++cN)) (bg P e),E.B5 A.next (B.next,(bH (bq.take n++cN)).length,n+k),?_,?_,?_⟩
      ·simp only [l7,kC.len,Option.bind_some,hb,cond_false,zU,rl,hex,Bool.and_self,cond_true,kC.all]
       simp only [CN,dm,Option.isNone_none,cond_true,hold,Option.bind_some,h6,Nat.beq_refl,← wB]
      ·exact aeB Env.z7 (Nat.le_refl _) (Nat.le_refl _) (by rw [hlen])
      ·generalize B.grow B.next 0 (bH (bq.take n++cN)) (bg P e)=B' at g1 g2 g3
       exact ee.Qq (A1:=A.put f .dead) (X:=fun _=>False) (G:=fun _=>False) (y2:=B.next) (rj:=some (B.next,0)) h rfl HP (fun _ _ _ _ _ _ _=>⟨id,fun _ _ _ _ _ _=>id⟩) (fun _ e=>e.elim) (fun _ e=>e.elim) (.inr (Nat.le_refl _)) (by omega) (by rw [g1,if_pos rfl]) (fun g k e=>by simp at e; exact .inr (by omega))
        (fun y hy _=>.inl (by rw [g1,if_neg (by omega)])) (fun _ e=>e.elim) (fun q y hy=>by
         rw [g2] at hy
         split at hy
         ·rename_i e
          subst e
          rcases List.mem_cons.1 hy with hy | hy
          ·exact .inr ⟨hy,Nat.le_refl _,0,rfl⟩
          ·exact .inl hy
         ·exact .inl hy) (fun q hq=>by rw [g2,if_neg (fun e=>hq 0 (by rw [e]))]) (by omega) (fun g hg=>by rw [g2,if_neg (by omega)]; exact h.fresh g (by omega)) (fun g y hy=>by
         rw [g2] at hy
         split at hy
         ·rcases List.mem_cons.1 hy with hy | hy
          ·omega
          ·have:=h.mem _ y hy; omega
         ·have:=h.mem g y hy; omega) tr hj zD (mF agq)
     | some p=>
      obtain ⟨g,k0⟩:=p
      have hgB:g < B.next:=(hf3 g ⟨k0,rfl⟩).2.1
      have kg:∀ y,(B.kill B.next (k0+(0+n * bg P e)) (k0+(0+n * bg P e)+(bH cN).length) (B.members g)).get y=B.get y∨((B.kill B.next (k0+(0+n * bg P e)) (k0+(0+n * bg P e)+(bH cN).length) (B.members g)).get y=some .dead∧y∈B.members g):=fun y=>by
       rw [zS]
       by_cases hc:y∈B.members g∧y≠B.next∧qE (B.get y) (k0+(0+n * bg P e)) (k0+(0+n * bg P e)+(bH cN).length)=true
       ·exact .inr ⟨by rw [if_pos hc],hc.1⟩
       ·exact .inl (by rw [if_neg hc])
      have km:(B.kill B.next (k0+(0+n * bg P e)) (k0+(0+n * bg P e)+(bH cN).length) (B.members g)).members=B.members:=by simp
      have kn:(B.kill B.next (k0+(0+n * bg P e)) (k0+(0+n * bg P e)+(bH cN).length) (B.members g)).next=B.next:=by simp
      obtain ⟨g1,g2,g3⟩:=Qr (B:=B.kill B.next (k0+(0+n * bg P e)) (k0+(0+n * bg P e)+(bH cN).length) (B.members g)) (g:=g) (k:=k0+0) (c:=bH (bq.take n++cN)) (n:=bg P e) (by omega)
      rw [kn] at g3
      have g1:∀ y,y≠B.next→_:=fun y hy=>(g1 y).trans (if_neg (by rw [kn]; exact hy))
      have g1':=(Qr (B:=B.kill B.next (k0+(0+n * bg P e)) (k0+(0+n * bg P e)+(bH cN).length) (B.members g)) (g:=g) (k:=k0+0) (c:=bH (bq.take n++cN)) (n:=bg P e) (by omega)).1 B.next
      rw [kn,if_pos rfl] at g1'
      simp only [km,kn] at g2
      refine ⟨.slice (some ⟨B.next,0,none⟩) (n+k) (n+k),(B.kill B.next (k0+(0+n * bg P e)) (k0+(0+n * bg P e)+(bH cN).length) (B.members g)).grow g (k0+0) (bH (bq.take n++cN)) (bg P e),E.B5 A.next (B.next,(bH (bq.take n++cN)).length,n+k),?_,?_,?_⟩
      ·simp only [l7,kC.len,Option.bind_some,hb,cond_false,zU,rl,hex,Bool.and_self,cond_true,kC.all]
       have ac1:=hold
       rw [Nat.zero_mul] at ac1
       simp only [CN,dm,Option.isNone_none,cond_true,Nat.zero_mul,ac1,Option.bind_some,h6,Nat.beq_refl,← wB]
      ·exact aeB Env.z7 (Nat.le_refl _) (Nat.le_refl _) (by rw [hlen])
      ·generalize (B.kill B.next (k0+(0+n * bg P e)) (k0+(0+n * bg P e)+(bH cN).length) (B.members g)).grow g (k0+0) (bH (bq.take n++cN)) (bg P e)=B' at g1 g1' g2 g3
       have gy:∀ y,y≠B.next→B'.get y=B.get y∨(B'.get y=some .dead∧y∈B.members g):=fun y hy=>by
        rw [g1 y hy]; exact kg y
       exact ee.Qq (A1:=A.put f .dead) (X:=fun y=>y=x) (G:=fun q=>∃ k,some (g,k0)=some (q,k)) (y2:=B.next) (rj:=some (g,k0+0)) h rfl HP hf1 (fun y hy=>by rw [hy]; exact qG) hf3 (.inr (Nat.le_refl _)) (by omega) g1' (fun q k e=>by simp at e; exact .inl ⟨k0,by rw [e.1]⟩)
        (fun y hy _=>(gy y (by omega)).imp id fun ⟨q1,q2⟩=>⟨q1,g,⟨k0,rfl⟩,q2⟩) (fun y hy oi e1 own Qp hr=>by
         have hy:y=x:=hy
         rcases gy y (by omega) with q | ⟨q,_⟩
         ·rw [q] at hr; exact ⟨oi,hr,rfl⟩
         ·rw [q] at hr; simp at hr) (fun q y hy=>by
         rw [g2] at hy
         split at hy
         ·rename_i e
          subst e
          rcases List.mem_cons.1 hy with hy | hy
          ·exact .inr ⟨hy,Nat.le_refl _,k0+0,rfl⟩
          ·exact .inl hy
         ·exact .inl hy) (fun q hq=>by rw [g2,if_neg (fun e=>hq (k0+0) (by rw [e]))]) (by omega) (fun q hq=>by rw [g2,if_neg (by omega)]; exact h.fresh q (by omega)) (fun q y hy=>by
         rw [g2] at hy
         split at hy
         ·rcases List.mem_cons.1 hy with hy | hy
          ·omega
          ·have:=h.mem _ y hy; omega
         ·have:=h.mem q y hy; omega) tr hj zD (mF agq)
  ·exact hg.elim
 ·exact hg.elim
theorem ee.alR {A:az} {B:St} {b:Nat} {v2:KV} (h:fI P E A B) (hb:∃ v,A.get b=some (.arr v)) (ch:Yo P E B b v2):ee P E A B E (A.put b (.arr v2)) B:=by
 obtain ⟨v0,hb⟩:=hb
 have jX:∀ c o,(A.put b (.arr v2)).get c=some o→(c=b∧o = .arr v2)∨A.get c=some o:=fun c o hc=>by
  rw [az.ca] at hc
  split at hc
  ·rename_i e; simp at hc; exact .inl ⟨e,hc.symm⟩
  ·exact .inr hc
 have hA:∀ c v,(A.put b (.arr v2)).get c=some (.arr v)→∃ u,A.get c=some (.arr u):=fun c v hc=>by
  rcases jX c _ hc with ⟨e,_⟩ | e
  ·exact ⟨v0,by rw [e]; exact hb⟩
  ·exact ⟨v,e⟩
 have qG:∀ y,AR (A.put b (.arr v2)) E y→AR A E y:=fun y ⟨c,v,L,N,h1,h2⟩=>by
  obtain ⟨u,hu⟩:=hA c v h1
  exact ⟨c,u,L,N,hu,h2⟩
 have ER:∀ g,AF (A.put b (.arr v2)) E B g→AF A E B g:=fun g ⟨c,v,x,L,N,cs,e,own,k,h1,h2,h3⟩=>by
  obtain ⟨u,hu⟩:=hA c v h1
  exact ⟨c,u,x,L,N,cs,e,own,k,hu,h2,h3⟩
 refine ⟨⟨fun c cs bU hc=>?_,fun c top sz hc=>?_,h.z,h.apart,h.inj,?_,h.lD,h.mW,fun c o hc=>?_,h.gY,h.m9,h.kc,h.fresh,h.mem,?_⟩,Env.le_refl _,Nat.le_refl _,fun _ _ _ _=>rfl,fun _ _ e=>.inl e,fun _ _ e=>.inl e,fun _ _ e=>.inl e,fun _ _ _ _=>rfl,fun x q=>.inl (qG x q),fun g q=>.inl (ER g q),fun _ _ q=>.inl q,fun y q=>.inl (q.imp (qG y) fun ⟨g,q1,q2⟩=>⟨g,ER g q1,q2⟩),mZ fun _ _=>rfl⟩
 ·rcases jX c _ hc with ⟨_,e⟩ | e
  ·simp at e
  ·exact h.row c cs bU e
 ·rcases jX c _ hc with ⟨_,e⟩ | e
  ·simp at e
  ·exact h.bb c top sz e
 ·exact h.jM.put (.inl fun t s=>by simp)
 ·rw [az.ri]
  rcases jX c _ hc with ⟨e,_⟩ | e
  ·rw [e]; exact h.live b _ hb
  ·exact h.live c o e
 ·refine ⟨fun c v hc=>?_,fun c v hc=>?_,fun x q=>h.ar.z x (qG x q),fun c d v u x L N L' N' h1 h2 h3 h4=>?_,fun c d v u x y L N L' N' cs e own g k b8 e' o7 k' h1 h2 h3 h4=>?_,h.ar.Yp,h.ar.lD,h.ar.gY,fun c v x L N cs e own g k h1 h2 h3=>?_,fun c v hc=>?_⟩
  ·rcases jX c _ hc with ⟨e,e2⟩ | e
   ·simp at e2; rw [e2,e]; exact ch
   ·exact h.ar.arr c v e
  ·rcases jX c _ hc with ⟨_,e⟩ | e
   ·simp at e
   ·exact h.ar.jK c v e
  ·obtain ⟨v',h1⟩:=hA c v h1
   obtain ⟨u',h2⟩:=hA d u h2
   exact h.ar.inj c d v' u' x L N L' N' h1 h2 h3 h4
  ·obtain ⟨v',h1⟩:=hA c v h1
   obtain ⟨u',h2⟩:=hA d u h2
   exact h.ar.tq c d v' u' x y L N L' N' cs e own g k b8 e' o7 k' h1 h2 h3 h4
  ·obtain ⟨v',h1⟩:=hA c v h1
   obtain ⟨q1,q2,q3⟩:=h.ar.rZ c v' x L N cs e own g k h1 h2 h3
   exact ⟨q1,q2,fun y hy dT=>⟨(q3 y hy dT).1,fun q=>(q3 y hy dT).2.1 (qG y q),(q3 y hy dT).2.2⟩⟩
  ·obtain ⟨v',h1⟩:=hA c v hc
   rw [az.ri]
   exact h.ar.nk c v' h1
theorem YR {es new:List KV} {o:Nat} (h:o+new.length≤es.length):(yz es o new).length=es.length:=by
 simp only [yz,List.length_append,List.length_take,List.length_drop]
 omega
theorem aeD {es new:List KV} {o i:Nat} (h:o+new.length≤es.length):(yz es o new)[i]? = if i < o then es[i]? else if i < o+new.length then new[i - o]? else es[i]?:=by
 unfold yz
 by_cases h1:i < o
 ·rw [if_pos h1,List.append_assoc,List.getElem?_append_left (by rw [List.length_take]; omega),List.getElem?_take,if_pos h1]
 ·rw [if_neg h1]
  by_cases h2:i < o+new.length
  ·rw [if_pos h2,List.getElem?_append_left (by rw [List.length_append,List.length_take]; omega),List.getElem?_append_right (by rw [List.length_take]; omega),List.length_take]
   congr 1
   omega
  ·rw [if_neg h2,List.getElem?_append_right (by rw [List.length_append,List.length_take]; omega),List.getElem?_drop,List.length_append,List.length_take]
   congr 1
   omega
theorem abQ {T:TypeId} {N m o k:Nat} {es new:List KV} {acc an:Nat→KV} (ht:je P T N es acc) (hn:je P T m new an) (hk:k≤m) (ho:o+k≤N):je P T N (yz es o (new.take k)) (kO o k acc an):=by
 have hl:(new.take k).length=k:=by rw [List.length_take,← hn.len]; omega
 have oA:o+(new.take k).length≤es.length:=by rw [hl,← ht.len]; exact ho
 have mQ:=fun i=>aeD (i:=i) oA
 rw [hl] at mQ
 refine ⟨by rw [YR oA]; exact ht.len,fun i hi=>?_,oC fun i x hx=>?_⟩
 ·rw [List.getD_eq_getElem?_getD,mQ]
  unfold kO
  by_cases h1:i < o
  ·rw [if_pos h1,show Nat.blt i o=true from Nat.blt_eq ▸ h1,cond_true,ht.acc i hi,List.getD_eq_getElem?_getD]
  ·have e1:Nat.blt i o=false:=by
    cases hb:Nat.blt i o with
    | false=>rfl
    | true=>exact absurd (Nat.blt_eq ▸ hb) h1
   rw [if_neg h1,e1,cond_false]
   by_cases h2:i < o+k
   ·rw [if_pos h2,show Nat.blt i (o+k)=true from Nat.blt_eq ▸ h2,cond_true,List.getElem?_take,if_pos (by omega),hn.acc (i - o) (by omega),List.getD_eq_getElem?_getD]
   ·have e2:Nat.blt i (o+k)=false:=by
     cases hb:Nat.blt i (o+k) with
     | false=>rfl
     | true=>exact absurd (Nat.blt_eq ▸ hb) h2
    rw [if_neg h2,e2,cond_false,ht.acc i hi,List.getD_eq_getElem?_getD]
 ·rw [mQ] at hx
  split at hx
  ·exact kd ht.typed hx
  ·split at hx
   ·rw [List.getElem?_take] at hx
    split at hx
    ·exact kd hn.typed hx
    ·simp at hx
   ·exact kd ht.typed hx
theorem aeE {sz o:Nat} {cs r vs es:List Value} (hl:n6 sz (o * sz+vs.length) cs es) (hw:ie (o * sz) cs vs=some r):n6 sz (o * sz+vs.length) r es:=fun i x hi=>by
 obtain ⟨h1,h2⟩:=hl i x hi
 obtain ⟨_,_,h3⟩:=jc hw
 exact ⟨h1,fun k y hy=>by rw [h3,if_neg (by omega)]; exact h2 k y hy⟩
theorem ajp {e n:Nat} (hn:bg P e=n) (h1n:1≤n):ahc P (af8 e) (XK n):=by
 intro E A A' B vs us v h hv hg
 unfold af8 at hg
 split at hg
 ·rename_i e1 b o q y
  obtain ⟨u,w,rfl,h1,h2⟩:=hv.kR
  split at hg
  ·rename_i e' mk m new an e2 mk2 N es acc hy hb
   obtain ⟨he,YK⟩:=hg.cond
   clear hg
   simp only [Bool.and_eq_true] at he
   have:=Nat.eq_of_beq_eq_true he.1.1
   subst this
   have:=Nat.eq_of_beq_eq_true he.1.2
   subst this
   have:=Nat.eq_of_beq_eq_true he.2
   subst this
   have tr:1≤bg P e:=by omega
   obtain ⟨cN,kC⟩:=ahj h h2 hy tr
   have YK:(KV.int .i64 (Nat.min m q:Nat),A.put b (.arr (.ts e .any N (yz es o (new.take (Nat.min m q))) (kO o (Nat.min m q) acc an))))=(v,A'):=YK
   simp only [Prod.mk.injEq] at YK
   obtain ⟨rfl,rfl⟩:=YK
   obtain ⟨T2,N2,o5,fT,e2,ht,_,vQ⟩:=h.ar.arr b _ hb
   simp only [KV.ts.injEq] at e2
   obtain ⟨rfl,rfl,rfl,rfl,rfl⟩:=e2
   have SI:Nat.min m q≤m:=Nat.min_le_left _ _
   have hkq:Nat.min m q≤q:=Nat.min_le_right _ _
   have hf:=kC.first _ SI
   rw [hn] at hf
   rcases h1.u3 with ⟨rfl,rfl,rfl⟩ | ⟨x,L,N0,c,p2,rfl,p3,p4,p5⟩
   ·
    have DE:Nat.min m 0=0:=Nat.min_zero m
    refine ⟨.int .i64 (Int.ofNat (Nat.min m 0)),B,E,?_,.mkInt,ee.alR h ⟨_,hb⟩ ?_⟩
    ·simp only [XK,kC.len,Option.bind_some,hf]
    ·have hp:=abQ (o:=0) ht kC.tree SI (by rw [DE]; omega)
     refine ⟨_,_,_,_,rfl,hp,tr,?_⟩
     have Kl:yz es 0 (new.take (Nat.min m 0))=es:=by rw [DE]; simp [yz]
     rw [Kl]
     exact vQ
   ·rcases vQ with ⟨_,e2⟩ | ⟨x2,cs,bQ,bq,e2,h6,h7,h8⟩
    ·rw [p2] at e2; simp at e2
    rw [p2] at e2
    simp only [Option.some.injEq,Prod.mk.injEq] at e2
    obtain ⟨rfl,rfl,rfl⟩:=e2
    have agl:bq.length=N0:=by rw [h7.length]; exact ht.len.symm
    have iX:∀ v∈cN.take (Nat.min m q),v.cells.size=bg P e:=fun v hv=>kC.size v (List.mem_of_mem_take hv)
    have aln:(cN.take (Nat.min m q)).length=Nat.min m q:=by rw [List.length_take,kC.length]; exact Nat.min_eq_left SI
    have FG:(bH (cN.take (Nat.min m q))).length=Nat.min m q * bg P e:=by rw [jw iX,aln]
    have hle:o * bg P e+(bH (cN.take (Nat.min m q))).length≤cs.length:=by
     rw [FG,← p5,← Nat.add_mul]
     exact Nat.mul_le_mul_right _ (by omega)
    obtain ⟨lE,hw⟩:=yD (o * bg P e) cs (bH (cN.take (Nat.min m q))) hle
    have hcl:lE.length=cs.length:=(jc hw).1
    have Wa:(bH (cN.take (Nat.min m q))).all scalar=true:=List.all_eq_true.2 (AE fun v hv=>(om kC.tree.typed kC.rel v (List.mem_of_mem_take hv)).2)
    have hp:=abQ (o:=o) ht kC.tree SI (by omega)
    have hon:(bq.take o).length=o:=by rw [List.length_take]; omega
    have zD:bf P E (yz es o (new.take (Nat.min m q))) (bq.take o++cN.take (Nat.min m q)++bq.drop (o+Nat.min m q)):=by
     unfold yz
     have hlk:(new.take (Nat.min m q)).length=Nat.min m q:=by rw [List.length_take,← kC.tree.len]; exact Nat.min_eq_left SI
     rw [hlk]
     exact ((h7.take o).append (kC.rel.take _)).append (h7.drop _)
    have hli:n6 (bg P e) 0 lE (bq.take o++cN.take (Nat.min m q)++bq.drop (o+Nat.min m q)):=by
     refine Tt (Tt (YP (h8.take o) (by omega) hw tr) (by rw [hon]; exact Vn iX hw)) ?_
     have e3:(bq.take o++cN.take (Nat.min m q)).length * bg P e=o * bg P e+(bH (cN.take (Nat.min m q))).length:=by rw [List.length_append,hon,aln,FG,Nat.add_mul]
     rw [e3]
     refine aeE ?_ hw
     have:=h8.drop (o+Nat.min m q)
     rw [Nat.zero_add,Nat.add_mul] at this
     rw [FG]
     exact this
    have iX:=ee.ahg (lo:=o * bg P e) (hi:=o * bg P e+(bH (cN.take (Nat.min m q))).length) h ⟨_,hb⟩ p2 h6 hcl tr hp zD hli
    refine ⟨.int .i64 (Int.ofNat (Nat.min m q)),_,E,?_,.mkInt,iX⟩
    subst hn
    simp only [XK,kC.len,Option.bind_some,hf,St.wR,dm,Option.isNone_none,Bool.true_and,Wa,cond_true,h6,hw,Option.map_some]
  ·exact hg.elim
 ·exact hg.elim
theorem aeF {e n b:Nat} {mt:Bool} (hn:bg P e=n) (h1n:1≤n):ahc P (FQ e n b mt) (l7 n b):=by
 intro E A A' B vs us v h hv hg
 unfold FQ at hg
 split at hg
 ·rename_i x y
  obtain ⟨u,w,rfl,h1,h2⟩:=hv.kR
  split at hg
  ·rename_i y' hy
   have tr:1≤bg P e:=by omega
   have hts:∃ T m k es acc,y' = .ts T m k es acc:=by
    unfold J9 at hy
    split at hy
    ·unfold acN at hy
     split at hy
     ·rename_i T' b' o' n' _ T2 _ _ o5 fT _
      cases hb:Nat.beq T' T2 with
      | false=>rw [hb] at hy; simp at hy
      | true=>rw [hb,cond_true] at hy; simp only [Option.some.injEq] at hy; exact ⟨_,_,_,_,_,hy.symm⟩
     ·simp at hy
    ·simp only [Option.some.injEq] at hy; exact ⟨_,_,_,_,_,hy.symm⟩
    ·simp at hy
   obtain ⟨T,m,k,es,acc,rfl⟩:=hts
   have hsr:Nat.beq e T=true→∃ bq,Src P E B T k es acc w bq:=fun he=>by
    have:=Nat.eq_of_beq_eq_true he
    subst this
    exact ahj h h2 hy tr
   subst hn
   cases hx:ajb x with
   | true=>rw [hx,cond_true] at hg; exact YQ tr h h1 hsr hg
   | false=>
    rw [hx,cond_false] at hg
    cases mt with
    | true=>rw [cond_true] at hg; exact YQ tr h h1 hsr hg
    | false=>rw [cond_false] at hg; exact agn rfl tr h h1 hsr hg
  ·exact hg.elim
 ·exact hg.elim
end Go.K
end
section
namespace Go.K
open Go Go.aG
variable {P:Program} {E:Env}
theorem ee.ahn {E1 E2:Env} {A A1 A2:az} {B:St} (h:ee P E A B E1 A1 B) (k:ee P E1 A1 B E2 A2 B):ee P E A B E2 A2 B where
 jv:=k.jv
 le:=Env.le_trans h.le k.le
 next:=Nat.le_trans h.next k.next
 mb _ _ _ _:=rfl
 new b x e:=(k.new b x e).elim (h.new b x) .inr
 sS b r e:=by
  rcases k.sS b r e with e | e | e
  ·exact h.sS b r e
  ·exact .inr (h.mK b e)
  ·exact .inr (.inr e)
 sT b g e:=(k.sT b g e).elim (h.sT b g) .inr
 pT _ _ _ _:=rfl
 mK x q:=(k.mK x q).elim (h.mK x) .inr
 mX g q:=(k.mX g q).elim (h.mX g) .inr
 uk _ _ q:=.inl q
 nR y q:=(k.nR y q).elim (h.nR y) .inr
 rows:=mZ fun _ _=>rfl
theorem ee.refl {A:az} {B:St} (h:fI P E A B):ee P E A B E A B:=
 ⟨h,Env.le_refl _,Nat.le_refl _,fun _ _ _ _=>rfl,fun _ _ e=>.inl e,fun _ _ e=>.inl e,fun _ _ e=>.inl e,fun _ _ _ _=>rfl,fun _ q=>.inl q,fun _ q=>.inl q,fun _ _ q=>.inl q,fun _ q=>.inl q,mZ fun _ _=>rfl⟩
theorem Env.ajq {A:az} {B:St} {x:Nat} {r:aek} (h:fI P E A B) (hx:AR A E x):E.le (E.gA x r):=⟨fun _ _ e=>e,fun _ _ e=>e,fun b q e=>by
 simp only [Env.gA]
 rw [if_neg]
 ·exact e
 ·intro e2; subst e2
  have:=(h.ar.z b hx).1
  rw [e] at this; simp at this,fun _ _ e=>e⟩
theorem ee.jK {A:az} {B:St} {b x N:Nat} {T:TypeId} {m:Mk} {es:List KV} {acc:Nat→KV} {cs:List Value} {bQ:Option (Nat×Nat)} {bq:List Value} (h:fI P E A B) (hb:A.get b=some (.arr (.ts T m N es acc))) (hx:E.α b=some (x,cs.length,N))
  (jD:B.get x=some (.row cs (bg P T) true bQ)) (ht:je P T N es acc) (hm:m = .any) (fo:1≤bg P T) (Kl:bf P E es bq) (hl:n6 (bg P T) 0 cs bq) :
  ee P E A B (E.gA x ⟨cs,bg P T,true,bQ⟩) (A.put b (.jK (.ts T m N es acc))) B:=by
 subst hm
 have qG:AR A E x:=⟨b,_,_,_,hb,hx⟩
 have hle:=Env.ajq (r:=⟨cs,bg P T,true,bQ⟩) h qG
 have hzx:(E.gA x ⟨cs,bg P T,true,bQ⟩).z x=some ⟨cs,bg P T,true,bQ⟩:=by simp [Env.gA]
 have HL:∀ c r,(E.gA x ⟨cs,bg P T,true,bQ⟩).z c=some r→E.z c=some r∨(c=x∧r=⟨cs,bg P T,true,bQ⟩):=fun c r e=>by
  simp only [Env.gA] at e
  split at e
  ·rename_i e2; simp at e; exact .inr ⟨e2,e.symm⟩
  ·exact .inl e
 have jX:∀ c o,(A.put b (.jK (.ts T .any N es acc))).get c=some o→(c=b∧o = .jK (.ts T .any N es acc))∨(c≠b∧A.get c=some o):=fun c o hc=>by
  rw [az.ca] at hc
  split at hc
  ·rename_i e; simp at hc; exact .inl ⟨e,hc.symm⟩
  ·rename_i e; exact .inr ⟨e,hc⟩
 have hA:∀ c v,(A.put b (.jK (.ts T .any N es acc))).get c=some (.arr v)→c≠b∧A.get c=some (.arr v):=fun c v hc=>by
  rcases jX c _ hc with ⟨_,e⟩ | e
  ·simp at e
  ·exact e
 have aho:∀ y,AR (A.put b (.jK (.ts T .any N es acc))) E y→AR A E y∧y≠x:=fun y ⟨c,v,L,M,h1,h2⟩=>by
  obtain ⟨h3,h4⟩:=hA c v h1
  refine ⟨⟨c,v,L,M,h4,h2⟩,fun e=>h3 ?_⟩
  subst e
  exact h.ar.inj c b v _ y L M _ _ h4 hb h2 hx
 have ER:∀ g,AF (A.put b (.jK (.ts T .any N es acc))) E B g→AF A E B g:=fun g ⟨c,v,y,L,M,cs,e,own,k,h1,h2,h3⟩=>⟨c,v,y,L,M,cs,e,own,k,(hA c v h1).2,h2,h3⟩
 refine ⟨⟨fun c oi bU hc=>?_,fun c top sz hc=>?_,fun y r hy=>?_,fun c y hc=>?_,h.inj,?_,h.lD,h.mW,fun c o hc=>?_,h.gY,fun y r hy=>?_,h.kc,h.fresh,h.mem,?_⟩,hle,Nat.le_refl _,fun _ _ _ _=>rfl,fun _ _ e=>.inl e,fun y r e=>?_,fun _ _ e=>.inl e,fun _ _ _ _=>rfl,fun y q=>.inl (aho y q).1,fun g q=>.inl (ER g q),fun _ _ q=>.inl q,fun y q=>.inl (q.imp (fun q=>(aho y q).1) fun ⟨g,q1,q2⟩=>⟨g,ER g q1,q2⟩),mZ fun _ _=>rfl⟩
 ·rcases jX c _ hc with ⟨_,e⟩ | ⟨_,e⟩
  ·simp at e
  ·obtain ⟨y,d,h1,h2,h3⟩:=h.row c oi bU e
   exact ⟨y,d,h1,h2,h3.mono hle⟩
 ·rcases jX c _ hc with ⟨_,e⟩ | ⟨_,e⟩
  ·simp at e
  ·exact h.bb c top sz e
 ·rcases HL y r hy with e | ⟨rfl,rfl⟩
  ·exact h.z y r e
  ·exact jD
 ·have hc:E.κ c=some y:=hc
  cases hz:(E.gA x ⟨cs,bg P T,true,bQ⟩).z y with
  | none=>rfl
  | some r=>
   rcases HL y r hz with e | ⟨rfl,_⟩
   ·rw [h.apart c y hc] at e; simp at e
   ·exact absurd hc ((h.ar.z y qG).2 c)
 ·exact h.jM.put (.inl fun t s=>by simp)
 ·rw [az.ri]
  rcases jX c _ hc with ⟨e,_⟩ | ⟨_,e⟩
  ·rw [e]; exact h.live b _ hb
  ·exact h.live c o e
 ·rcases HL y r hy with e | ⟨rfl,_⟩
  ·exact h.m9 y r e
  ·exact h.DZ qG
 ·refine ⟨fun c v hc=>?_,fun c v hc=>?_,fun y q=>?_,fun c d v u y L M L' M' h1 h2 h3 h4=>h.ar.inj c d v u y L M L' M' (hA c v h1).2 (hA d u h2).2 h3 h4,fun c d v u y w L M L' M' oi e own g k b8 e' o7 k' h1 h2 h3 h4=>h.ar.tq c d v u y w L M L' M' oi e own g k b8 e' o7 k' (hA c v h1).2 (hA d u h2).2 h3 h4,h.ar.Yp,h.ar.lD,h.ar.gY,fun c v y L M oi e own g k h1 h2 h3=>?_,fun c v hc=>h.ar.nk c v (hA c v hc).2⟩
  ·exact (h.ar.arr c v (hA c v hc).2).mono hle rfl fun _ _ _ _=>rfl
  ·rcases jX c _ hc with ⟨e,e2⟩ | ⟨_,e⟩
   ·simp at e2
    subst e2
    exact ⟨T,N,es,acc,rfl,ht,fo,.inr ⟨x,⟨cs,bg P T,true,bQ⟩,bq,by rw [e]; exact hx,hzx,rfl,Kl.mono hle,hl⟩⟩
   ·exact (h.ar.jK c v e).mono hle rfl
  ·obtain ⟨q1,q2⟩:=aho y q
   refine ⟨?_,(h.ar.z y q1).2⟩
   simp only [Env.gA]
   rw [if_neg q2]
   exact (h.ar.z y q1).1
  ·obtain ⟨dT,h1⟩:=hA c v h1
   obtain ⟨q1,q2,q3⟩:=h.ar.rZ c v y L M oi e own g k h1 h2 h3
   refine ⟨q1,q2,fun z hz hzy=>?_⟩
   obtain ⟨q4,q5,q6⟩:=q3 z hz hzy
   refine ⟨?_,fun q=>q5 (aho z q).1,q6⟩
   simp only [Env.gA]
   rw [if_neg]
   ·exact q4
   ·intro e2
    subst e2
    exact q5 qG
 ·rcases HL y r e with e | ⟨rfl,_⟩
  ·exact .inl e
  ·exact .inr (.inl qG)
theorem ee.alS {A:az} {B:St} {b:Nat} {T:TypeId} {m:Mk} {N:Nat} {es:List KV} {acc:Nat→KV} (h:fI P E A B) (hb:A.get b=some (.arr (.ts T m N es acc))) (ch:Qj P E b (.ts T m N es acc)) (qf:E.α b=none):ee P E A B E (A.put b (.jK (.ts T m N es acc))) B:=by
 have jX:∀ c o,(A.put b (.jK (.ts T m N es acc))).get c=some o→(c=b∧o = .jK (.ts T m N es acc))∨A.get c=some o:=fun c o hc=>by
  rw [az.ca] at hc
  split at hc
  ·rename_i e; simp at hc; exact .inl ⟨e,hc.symm⟩
  ·exact .inr hc
 have hA:∀ c v,(A.put b (.jK (.ts T m N es acc))).get c=some (.arr v)→A.get c=some (.arr v):=fun c v hc=>by
  rcases jX c _ hc with ⟨_,e⟩ | e
  ·simp at e
  ·exact e
 have qG:∀ y,AR (A.put b (.jK (.ts T m N es acc))) E y→AR A E y:=fun y ⟨c,v,L,M,h1,h2⟩=>⟨c,v,L,M,hA c v h1,h2⟩
 have ER:∀ g,AF (A.put b (.jK (.ts T m N es acc))) E B g→AF A E B g:=fun g ⟨c,v,y,L,M,cs,e,own,k,h1,h2,h3⟩=>⟨c,v,y,L,M,cs,e,own,k,hA c v h1,h2,h3⟩
 have _:=qf
 refine ⟨⟨fun c oi bU hc=>?_,fun c top sz hc=>?_,h.z,h.apart,h.inj,?_,h.lD,h.mW,fun c o hc=>?_,h.gY,h.m9,h.kc,h.fresh,h.mem,?_⟩,Env.le_refl _,Nat.le_refl _,fun _ _ _ _=>rfl,fun _ _ e=>.inl e,fun y r e=>.inl e,fun _ _ e=>.inl e,fun _ _ _ _=>rfl,fun y q=>.inl (qG y q),fun g q=>.inl (ER g q),fun _ _ q=>.inl q,fun y q=>.inl (q.imp (qG y) fun ⟨g,q1,q2⟩=>⟨g,ER g q1,q2⟩),mZ fun _ _=>rfl⟩
 ·rcases jX c _ hc with ⟨_,e⟩ | e
  ·simp at e
  ·exact h.row c oi bU e
 ·rcases jX c _ hc with ⟨_,e⟩ | e
  ·simp at e
  ·exact h.bb c top sz e
 ·exact h.jM.put (.inl fun t s=>by simp)
 ·rw [az.ri]
  rcases jX c _ hc with ⟨e,_⟩ | e
  ·rw [e]; exact h.live b _ hb
  ·exact h.live c o e
 ·refine ⟨fun c v hc=>h.ar.arr c v (hA c v hc),fun c v hc=>?_,fun y q=>h.ar.z y (qG y q),fun c d v u y L M L' M' h1 h2 h3 h4=>h.ar.inj c d v u y L M L' M' (hA c v h1) (hA d u h2) h3 h4,fun c d v u y w L M L' M' oi e own g k b8 e' o7 k' h1 h2 h3 h4=>h.ar.tq c d v u y w L M L' M' oi e own g k b8 e' o7 k' (hA c v h1) (hA d u h2) h3 h4,h.ar.Yp,h.ar.lD,h.ar.gY,fun c v y L M oi e own g k h1 h2 h3=>?_,fun c v hc=>h.ar.nk c v (hA c v hc)⟩
  ·rcases jX c _ hc with ⟨e,e2⟩ | e
   ·simp at e2; rw [e2,e]; exact ch
   ·exact h.ar.jK c v e
  ·obtain ⟨q1,q2,q3⟩:=h.ar.rZ c v y L M oi e own g k (hA c v h1) h2 h3
   exact ⟨q1,q2,fun z hz hzy=>⟨(q3 z hz hzy).1,fun q=>(q3 z hz hzy).2.1 (qG z q),(q3 z hz hzy).2.2⟩⟩
theorem Tu {T:TypeId} {m:Mk} {b o n N:Nat} {es:List KV} {acc:Nat→KV} {u:Value} {A:az} {B:St} (h:fI P E A B) (hv:VK P E (.al T b o n) u) (ha:A.get b=some (.jK (.ts T m N es acc))) :
  VK P E (.ts T .any n ((es.drop o).take n) (fun i=>acc (o+i))) u:=by
 obtain ⟨T2,N2,o5,fT,e,ht,fo,vQ⟩:=h.ar.jK b _ ha
 simp only [KV.ts.injEq] at e
 obtain ⟨rfl,rfl,rfl,rfl,rfl⟩:=e
 simp only [VK]
 rcases hv.u3 with ⟨rfl,rfl,rfl⟩ | ⟨x,L,N0,c,h1,rfl,h3,h4,h5⟩
 ·exact ⟨⟨by simp,fun i hi=>by omega,rfl⟩,[],by simpa using bf.nil,none,0,rfl,Nat.le_refl _,.inl ⟨rfl,rfl⟩,trivial⟩
 ·rcases vQ with ⟨_,e⟩ | ⟨x2,r,bq,e,h6,h6',h7,h8⟩
  ·rw [h1] at e; simp at e
  rw [h1] at e
  simp only [Option.some.injEq,Prod.mk.injEq] at e
  obtain ⟨rfl,rfl,rfl⟩:=e
  have agm:((es.drop o).take n).length=n:=by rw [List.length_take,List.length_drop,← ht.len]; omega
  refine ⟨⟨agm.symm,fun i hi=>?_,oC fun i x hi=>?_⟩,(bq.drop o).take n,(h7.drop o).take n,_,c,rfl,h3,.inr ⟨x,o * bg P T,r,rfl,h6,h6',?_⟩,trivial⟩
  ·rw [ht.acc (o+i) (by omega),List.getD_eq_getElem?_getD,List.getD_eq_getElem?_getD,List.getElem?_take,if_pos hi,List.getElem?_drop]
  ·rw [List.getElem?_take] at hi
   split at hi
   ·rw [List.getElem?_drop] at hi; exact kd ht.typed hi
   ·simp at hi
  ·have:=(h8.drop o).take n
   rw [Nat.zero_add] at this
   exact this
theorem Vo {A:az} {B:St} {v:KV} {u:Value} (h:fI P E A B) (hv:VK P E v u):∃ E',ee P E A B E' (Yj A v).2 B∧VK P E' (Yj A v).1 u:=by
 unfold Yj
 split
 ·rename_i T b o n
  split
  ·rename_i T' m N es acc hb
   cases ht:Nat.beq T T' with
   | false=>exact ⟨E,.refl h,.rz⟩
   | true=>
    have:=Nat.eq_of_beq_eq_true ht
    subst this
    rw [cond_true]
    have ch:=h.ar.arr b _ hb
    obtain ⟨T2,N2,o5,fT,e,F6,fo,vQ⟩:=ch
    simp only [KV.ts.injEq] at e
    obtain ⟨rfl,rfl,rfl,rfl,rfl⟩:=e
    rcases vQ with ⟨h1,h2⟩ | ⟨x,cs,bQ,bq,h2,h3,h4,h5⟩
    ·have iX:=ee.alS h hb ⟨_,_,_,_,rfl,F6,fo,.inl ⟨h1,h2⟩⟩ h2
     exact ⟨E,iX,Tu iX.jv hv ((az.ca _ _ _ _).trans (if_pos rfl))⟩
    ·have iX:=ee.jK h hb h2 h3 F6 rfl fo h4 h5
     exact ⟨_,iX,Tu iX.jv (hv.mono iX.le) ((az.ca _ _ _ _).trans (if_pos rfl))⟩
  ·rename_i T' m N es acc hb
   cases ht:Nat.beq T T' with
   | false=>exact ⟨E,.refl h,.rz⟩
   | true=>
    have:=Nat.eq_of_beq_eq_true ht
    subst this
    rw [cond_true]
    exact ⟨E,.refl h,Tu h hv hb⟩
  ·exact ⟨E,.refl h,.rz⟩
 ·exact ⟨E,.refl h,hv⟩
theorem a5.map {α β:Type} {r:KR α} {f:α→β} {v:β} (h:a5 (r.map f) v):∃ u,a5 r u∧f u=v:=by
 cases r with
 | no=>exact h.elim
 | ok u=>exact ⟨u,rfl,h⟩
 | lV c u=>exact ⟨u,⟨h.1,rfl⟩,h.2⟩
 | br c x y=>
  rcases h with ⟨h1,h2⟩ | ⟨h1,h2⟩
  ·obtain ⟨u,h3,h4⟩:=a5.map (r:=x) h2; exact ⟨u,.inl ⟨h1,h3⟩,h4⟩
  ·obtain ⟨u,h3,h4⟩:=a5.map (r:=y) h2; exact ⟨u,.inr ⟨h1,h3⟩,h4⟩
theorem Qs {B:St} : ∀ {vs:List KV} {us:List Value} {E:Env} {A:az},fI P E A B→bf P E vs us→∃ E',ee P E A B E' (Tg A vs).2 B∧bf P E' (Tg A vs).1 us
 | [],us,E,A,h,hv=>⟨E,.refl h,hv⟩
 | v::vs,us,E,A,h,hv=>by
  obtain ⟨u,us',rfl,h1,h2⟩:=hv.cons_inv
  obtain ⟨E1,h3,h4⟩:=Vo h h1
  obtain ⟨E2,h5,h6⟩:=Qs h3.jv (h2.mono h3.le)
  exact ⟨E2,h3.ahn h5,.cons (h4.mono h5.le) h6⟩
theorem aeG {A:az} {B:St} {v:KV} {u:Value} (h:fI P E A B) (hv:VK P E v u):∃ E',ee P E A B E' (abI A v).2 B∧VK P E' (abI A v).1 u:=by
 unfold abI
 split
 ·rename_i cs
  obtain ⟨l,rfl,h1⟩:=hv.mc
  obtain ⟨E1,h2,h3⟩:=Qs h h1
  exact ⟨E1,h2,.oY h3⟩
 ·exact Vo h hv
theorem HT:∀ (A:az) (vs:List KV),(vL A vs).1.length=vs.length
 | _,[]=>rfl
 | A,v::vs=>by simp [vL,HT]
theorem D4 {B:St} : ∀ {vs:List KV} {us:List Value} {E:Env} {A:az},fI P E A B→bf P E vs us→∃ E',ee P E A B E' (vL A vs).2 B∧bf P E' (vL A vs).1 us
 | [],us,E,A,h,hv=>⟨E,.refl h,hv⟩
 | v::vs,us,E,A,h,hv=>by
  obtain ⟨u,us',rfl,h1,h2⟩:=hv.cons_inv
  obtain ⟨E1,h3,h4⟩:=aeG h h1
  obtain ⟨E2,h5,h6⟩:=D4 h3.jv (h2.mono h3.le)
  exact ⟨E2,h3.ahn h5,.cons (h4.mono h5.le) h6⟩
end Go.K
end
section
namespace Go.K
open Go Go.aG
variable {P:Program}
theorem dv {o:Oper} : EP P o .bad:=trivial
theorem aia (P:Program) (cfg:eN) (o:Oper):EP P o (bV P cfg o.op):=by
 cases ho:o.op with
 | move x=>exact lift_pure (by rw [ho]; rfl) aeo
 | assign x=>exact lift_pure (by rw [ho]; rfl) ah0
 | pick c a b=>exact lift_pure (by rw [ho]; rfl) aje
 | alloc t=>
  show EP P o (oQ P t)
  unfold oQ
  split
  ·rename_i z hz
   cases hc:(flat z&&z.cells.toList.all scalar&&ij (gS z).cells) with
   | false=>exact dv
   | true=>
    simp only [Bool.and_eq_true] at hc
    exact C0 (by rw [ho]; rfl) (ah5 hz hc.1.1 hc.1.2 hc.2)
  ·exact dv
 | box t x=>exact C0 (by rw [ho]; rfl) akN
 | build t parts=>
  show EP P o (se P t (parts.toList.map (·.1)) (parts.toList.map (·.2)))
  have a6:compile P o.op=Fu P t (parts.toList.map (·.1)) (parts.toList.map (·.2)):=by rw [ho]; rfl
  unfold se
  unfold Fu at a6
  split
  ·rename_i z fields hz hu
   rw [hz,hu] at a6
   simp only at a6
   split
   ·rename_i l hl
    rw [hl] at a6
    cases hc:(flat z&&ij (gS z).cells) with
    | false=>exact dv
    | true=>
     simp only [Bool.and_eq_true] at hc
     exact lift_pure a6 (abL hc.1 hc.2)
   ·exact dv
  ·rename_i z len e hz hu
   rw [hz,hu] at a6
   simp only at a6
   split
   ·rename_i n hn
    rw [hn] at a6
    cases hc:(flat z&&ij (gS z).cells) with
    | false=>exact dv
    | true=>
     simp only [Bool.and_eq_true] at hc
     exact lift_pure a6 (abL hc.1 hc.2)
   ·exact dv
  ·exact dv
 | buildSlice t len parts=>
  show EP P o (lj P t len (parts.toList.map (·.1)) (parts.toList.map (·.2)))
  have a6:compile P o.op=ub P t len (parts.toList.map (·.1)) (parts.toList.map (·.2)):=by rw [ho]; rfl
  unfold lj
  unfold ub at a6
  split
  ·rename_i e hu
   rw [hu] at a6
   simp only at a6
   split
   ·rename_i i z hi hz
    have fo:size? P e=some i.size:=by simp [size?,hi]
    rw [fo,hz] at a6
    simp only at a6
    cases hc:(Nat.ble (len * i.size) 16777216&&Nat.beq z.cells.size i.size&&Nat.ble 1 i.size&&flat z&&Nat.beq (bu P e).ks.length i.size&&CA len (parts.toList.map (·.1))) with
    | false=>exact dv
    | true=>
     simp only [Bool.and_eq_true] at hc
     obtain ⟨⟨⟨⟨⟨h1,h2⟩,h3⟩,h4⟩,h5⟩,h6⟩:=hc
     rw [h1,h2,h3,h4] at a6
     cases Hy (bu P e).ks with
     | true=>exact abO a6 (aa3 (Nat.eq_of_beq_eq_true h5) (Nat.le_of_ble_eq_true h3) (Nat.eq_of_beq_eq_true h2) h6)
     | false=>
      cases h7:ij (gS z).cells with
      | true=>exact C0 a6 (acW h7)
      | false=>exact dv
   ·exact dv
  ·exact dv
 | load t a=>exact HK (by rw [ho]; rfl) aev
 | store t a x=>exact Tn (by rw [ho]; rfl) ah8
 | nilCheck x=>exact lift_pure (by rw [ho]; rfl) akK
 | binOp op t x y yt=>exact lift_pure (by rw [ho]; rfl) akL
 | unOp op t x=>exact lift_pure (by rw [ho]; rfl) alL
 | convert src dst x=>
  show EP P o (oh P src dst x)
  have a6:compile P o.op=A8 P src dst x:=by rw [ho]; rfl
  unfold oh
  unfold A8 at a6
  split
  ·rename_i k k' hs hd
   rw [hs,hd] at a6
   exact lift_pure a6 (ah4 hd hs)
  ·rename_i hs hd
   rw [hs,hd] at a6
   exact lift_pure a6 ah3
  ·rename_i e hs hd
   rw [hs,hd] at a6
   simp only at a6
   cases hb:isByte P e with
   | false=>exact dv
   | true=>rw [hb] at a6; exact HK a6 acZ
  ·rename_i e hs hd
   rw [hs,hd] at a6
   simp only at a6
   cases hb:isByte P e with
   | false=>exact dv
   | true=>rw [hb] at a6; exact agd a6 (ac0 hb)
  ·exact dv
 | makeFunc fn first cap=>
  show EP P o (cond (wz fn) .bad (.pure (HB fn first.size) (first.toList++cap.toList)))
  cases hy:wz fn with
  | true=>exact dv
  | false=>
   have hn:Cx fn=true:=by cases fn <;> first | rfl | simp [wz] at hy
   exact lift_pure (by rw [ho]; show cond (Cx fn) _ _=_; rw [hn]; rfl) acU
 | fieldAddr s x f=>
  show EP P o (mg P s x f)
  have a6:compile P o.op=wm P s x f:=by rw [ho]; rfl
  unfold mg
  unfold wm at a6
  split
  ·rename_i fd hf
   rw [hf] at a6
   simp only at a6
   split
   ·rename_i m hm
    rw [hm] at a6
    exact lift_pure a6 (aa0 rfl)
   ·exact dv
  ·exact dv
 | field t x f=>
  show EP P o (sg P t x f)
  have a6:compile P o.op=Fz P t x f:=by rw [ho]; rfl
  unfold sg
  unfold Fz at a6
  split
  ·rename_i fd hf
   rw [hf] at a6
   exact lift_pure a6 ah1
  ·exact dv
 | indexAddr t x ix=>
  show EP P o (mh P t x ix)
  have a6:compile P o.op=wo P t x ix:=by rw [ho]; rfl
  unfold mh
  unfold wo at a6
  split
  ·rename_i len e hu
   rw [hu] at a6
   simp only at a6
   split
   ·rename_i n hn
    rw [hn] at a6
    exact lift_pure a6 acR
   ·exact dv
  ·rename_i e hu
   rw [hu] at a6
   simp only at a6
   split
   ·rename_i n hn
    rw [hn] at a6
    exact lift_pure a6 (aeq rfl)
   ·exact dv
  ·exact dv
 | index t x ix=>
  show EP P o (sh P t x ix)
  have a6:compile P o.op=FB P t x ix:=by rw [ho]; rfl
  unfold sh
  unfold FB at a6
  split
  ·rename_i len e hu
   rw [hu] at a6
   simp only at a6
   split
   ·rename_i n hn
    rw [hn] at a6
    exact lift_pure a6 acS
   ·exact dv
  ·rename_i hu
   rw [hu] at a6
   exact lift_pure a6 acT
  ·exact dv
 | extract t i=>exact lift_pure (by rw [ho]; rfl) aer
 | slice t x lo hi mx=>
  show EP P o (si P t x lo hi mx)
  have a6:compile P o.op=Fx P t x lo hi mx:=by rw [ho]; rfl
  unfold si
  unfold Fx at a6
  split
  ·rename_i e hu
   rw [hu] at a6
   simp only at a6
   split
   ·rename_i n hn
    rw [hn] at a6
    simp only at a6
    cases hc:(Nat.ble 1 n&&mx.isNone) with
    | false=>exact dv
    | true=>
     simp only [Bool.and_eq_true] at hc
     rw [hc.1] at a6
     have hmx:mx=none:=Option.isNone_iff_eq_none.1 hc.2
     subst hmx
     simp only [cond_true,fS,List.append_nil,Option.isSome_none] at a6
     exact HK a6 (aey (Nat.le_of_ble_eq_true hc.1))
   ·exact dv
  ·rename_i len e hu
   rw [hu] at a6
   simp only at a6
   split
   ·rename_i n hn
    rw [hn] at a6
    simp only at a6
    cases hc:(Nat.ble 1 n&&mx.isNone) with
    | false=>exact dv
    | true=>
     simp only [Bool.and_eq_true] at hc
     rw [hc.1] at a6
     have hmx:mx=none:=Option.isNone_iff_eq_none.1 hc.2
     subst hmx
     simp only [cond_true,fS,List.append_nil,Option.isSome_none] at a6
     exact HK a6 acX
   ·exact dv
  ·rename_i hu
   rw [hu] at a6
   simp only at a6
   cases hc:mx.isNone with
   | false=>exact dv
   | true=>rw [hc] at a6; exact lift_pure a6 acY
  ·exact dv
 | makeSlice t l c=>
  show EP P o (ui P cfg.x.mt t l c)
  have a6:compile P o.op=wk P t l c:=by rw [ho]; rfl
  unfold ui
  unfold wk at a6
  split
  ·rename_i e hu
   rw [hu] at a6
   simp only at a6
   split
   ·rename_i i hi
    rw [hi] at a6
    simp only at a6
    split
    ·rename_i z hz
     rw [hz] at a6
     simp only at a6
     cases hmz:cfg.x.mt (e+1000000) with
     | true=>
      rw [cond_true]
      cases hc:(Nat.ble 1 i.size&&Nat.ble 1 i.bytes&&Nat.beq z.cells.size i.size&&flat z&&z.cells.toList.all scalar&&Nat.beq (bu P e).ks.length i.size&&dw (bu P e) (gp (bu P e) (gS z))) with
      | false=>exact dv
      | true=>
       simp only [Bool.and_eq_true] at hc
       obtain ⟨⟨⟨⟨⟨⟨h1,h2⟩,h3⟩,h4⟩,h5⟩,h6⟩,h7⟩:=hc
       rw [h1,h2,h3,h4,h5] at a6
       exact abO a6 (ah9 (Nat.eq_of_beq_eq_true h6) (Nat.le_of_ble_eq_true h1) (Nat.eq_of_beq_eq_true h3) h7)
     | false=>
     rw [cond_false]
     cases hmt:cfg.x.mt e with
     | true=>
      rw [cond_true]
      cases hc:(Nat.ble 1 i.size&&Nat.ble 1 i.bytes&&Nat.beq z.cells.size i.size&&flat z&&z.cells.toList.all scalar&&Nat.beq (bu P e).ks.length i.size&&dw (bu P e) (gp (bu P e) (gS z))) with
      | false=>exact dv
      | true=>
       simp only [Bool.and_eq_true] at hc
       obtain ⟨⟨⟨⟨⟨⟨h1,h2⟩,h3⟩,h4⟩,h5⟩,h6⟩,h7⟩:=hc
       rw [h1,h2,h3,h4,h5] at a6
       exact C0 a6 (aeC (Nat.eq_of_beq_eq_true h6) (Nat.le_of_ble_eq_true h1) (Nat.eq_of_beq_eq_true h3) h7)
     | false=>
     rw [cond_false]
     cases hc:(Nat.ble 1 i.size&&Nat.ble 1 i.bytes&&Nat.beq z.cells.size i.size&&flat z&&z.cells.toList.all scalar&&ij (gS z).cells) with
     | false=>exact dv
     | true=>
      simp only [Bool.and_eq_true] at hc
      obtain ⟨⟨⟨⟨⟨h1,h2⟩,h3⟩,h4⟩,h5⟩,h6⟩:=hc
      rw [h1,h2,h3,h4,h5] at a6
      exact C0 a6 (aa1 h6)
    ·exact dv
   ·exact dv
  ·exact dv
 | call c=>
  show EP P o (lL P cfg c)
  unfold lL
  split
  ·split
   ·cases cfg.x.fz <;> trivial
   ·trivial
  ·trivial
  ·rename_i b hb
   obtain ⟨callee,args,argTypes⟩:=c
   simp only at hb
   subst hb
   have a6:compile P o.op=DN P b argTypes.toList args.toList:=by rw [ho]; rfl
   unfold yA
   unfold DN at a6
   split
   ·
    simp only at a6
    unfold Yi
    unfold Xk at a6
    split
    ·rename_i t ht
     rw [ht] at a6
     simp only at a6
     split
     ·rename_i e hu
      rw [hu] at a6
      exact lift_pure a6 ah2
     ·rename_i hu
      rw [hu] at a6
      exact lift_pure a6 agb
     ·exact dv
    ·exact dv
   ·simp only at a6
    exact lift_pure (f:=FO false) a6 Yy
   ·simp only at a6
    exact lift_pure (f:=FO true) a6 Yy
   ·
    simp only at a6
    unfold DU
    unfold Hl at a6
    split
    ·rename_i t u ht
     rw [ht] at a6
     simp only at a6
     split
     ·rename_i e eu hu huu
      rw [hu] at a6
      simp only at a6
      split
      ·rename_i i hi
       rw [hi] at a6
       simp only at a6
       split
       ·rename_i z hz
        rw [hz] at a6
        simp only at a6
        cases hc:(Nat.ble 1 i.size&&Nat.beq z.cells.size i.size&&Nat.beq (bu P e).ks.length i.size) with
        | false=>exact dv
        | true=>
         simp only [Bool.and_eq_true] at hc
         have amw:Hk P u=true:=by unfold Hk; rw [huu]
         rw [hc.1.1,hc.1.2,amw] at a6
         exact Tn a6 (aeF (Nat.eq_of_beq_eq_true hc.2) (Nat.le_of_ble_eq_true hc.1.1))
       ·exact dv
      ·exact dv
     ·exact dv
    ·exact dv
   ·
    simp only at a6
    show EP P o (LQ P argTypes.toList args.toList)
    unfold LQ
    unfold PK at a6
    split
    ·rename_i t u ht
     rw [ht] at a6
     simp only at a6
     split
     ·rename_i e eu hu huu
      rw [hu] at a6
      simp only at a6
      split
      ·rename_i n hn
       rw [hn] at a6
       simp only at a6
       cases hc:(Nat.ble 1 n&&Nat.beq (bu P e).ks.length n) with
       | false=>exact dv
       | true=>
        simp only [Bool.and_eq_true] at hc
        rw [hc.1] at a6
        exact Tn a6 (ajp (Nat.eq_of_beq_eq_true hc.2) (Nat.le_of_ble_eq_true hc.1))
      ·exact dv
     ·exact dv
    ·exact dv
   ·trivial
  ·trivial
 | _=>trivial
end Go.K
end
section
namespace Go.K
open Go Go.aG
variable {P:Program} {E:Env}
theorem rB (t:bA):∀ xs,lz t xs=xs.map (kL t)
 | []=>rfl
 | x::xs=>by rw [lz,rB t xs]; rfl
structure kS (P:Program) (E:Env) (ρ:aW) (t:bA) (N:Nat) (a:Act):Prop where
 size:a.tmps.size=N
 val:∀ i,VC P E ρ ((t.get i).getD .ax) (a.tmps.getD i undef)
 none:∀ i,N≤i→t.get i=Option.none
theorem kS.ev {ρ:aW} {t:bA} {N:Nat} {a:Act} (h:kS P E ρ t N a) (x:Operand):VC P E ρ (kL t x) (a.eval x):=by
 cases x with
 | tmp i=>exact h.val i
 | const v=>
  simp only [kL,Act.eval]
  cases hf:flat v with
  | true=>exact ⟨v,.gS v,VR.of_flat hf⟩
  | false=>exact .ax
 | global g=>exact .ax
 | func f=>exact ⟨.func (.func f) ⟨[]⟩ ⟨[]⟩,.aen .nil .nil,VR.Xm (l:=[]) (m:=[]) (.func f) rfl .nil .nil⟩
theorem kS.mono {E' : Env} {ρ aY:aW} {t:bA} {N:Nat} {a:Act} (h:kS P E ρ t N a) (k:E.le E') (m:ρ.le aY):kS P E' aY t N a:=⟨h.size,fun i=>(h.val i).mono k m,h.none⟩
theorem kS.put {ρ:aW} {t:bA} {N:Nat} {a:Act} {dst:Option Tmp} {v:KV} {v' : Value} (h:kS P E ρ t N a) (hd:∀ d,dst=some d→d < N) (hv:VC P E ρ v v'):kS P E ρ (o6 t dst v) N (a.put dst v'):=by
 cases dst with
 | none=>exact h
 | some d=>
  have hd:=hd d rfl
  refine ⟨by simp [Act.put,h.size],fun i=>?_,fun i hi=>?_⟩
  ·simp only [o6,Trie.nX,Act.put]
   by_cases e:i=d
   ·subst e
    have:i < a.tmps.size:=by rw [h.size]; exact hd
    simp [Array.getD_eq_getD_getElem?,this,hv]
   ·have:=h.val i
    simp only [if_neg e]
    simpa [Array.getD_eq_getD_getElem?,Array.getElem?_setIfInBounds_ne (Ne.symm e)] using this
  ·simp only [o6,Trie.nX]
   have dT:i≠d:=fun e=>absurd hi (by rw [e]; exact Nat.not_le_of_lt hd)
   rw [if_neg dT]
   exact h.none i hi
theorem kS.same {ρ:aW} {t t' : bA} {N:Nat} {a:Act} (h:kS P E ρ t N a) (hs:∀ i,t'.get i=t.get i):kS P E ρ t' N a:=
 ⟨h.size,fun i=>by rw [hs]; exact h.val i,fun i hi=>by rw [hs]; exact h.none i hi⟩
theorem Bc {v:KV} {b:Bool} (h:tj v = .bool b):v = .bool b:=by cases v <;> simp [tj] at h; rw [h]
theorem YS {v:KV} (h:tj v = .jE):∃ l,v = .jE l:=by cases v <;> simp [tj] at h; exact ⟨_,rfl⟩
theorem HU {t:bA} {d:Tmp} {b:Bool} (h:tj ((t.get d).getD .ax) = .bool b):∀ i,(Trie.set (.bool b) t d).get i=t.get i:=by
 intro i
 have:=Bc h
 rw [Trie.nX]
 split
 ·rename_i e
  subst e
  cases ht:t.get i with
  | none=>rw [ht] at this; simp at this
  | some v=>rw [ht] at this; simp at this; rw [this]
 ·rfl
theorem VC.gd {ρ:aW} {b:Bool} {v:Value} (h:VC P E ρ (.bool b) v):v = .bool b:=by
 obtain ⟨u,h1,h2⟩:=h
 have:=h1.gd; subst this
 exact h2.gd
theorem ac2 {R:Type} {ρ:aW} {t:bA} {N:Nat} {a:Act} {all:List Oper} {o:Oper} {j:Nat} {want:Bool} {yes no:bA→Option R} {r:R} (hg:o.guard=some (j,want)) (ht:kS P E ρ t N a)
  (h:aeh t ((all[j]?).bind (·.dst)) want yes no=some r) :
  ∃ t',(∀ i,t'.get i=t.get i)∧((Region.wanted o (yielded ⟨all⟩ a.tmps)=true∧yes t' = some r)∨(Region.wanted o (yielded ⟨all⟩ a.tmps)=false∧no t' = some r)):=by
 unfold aeh at h
 cases hd:(all[j]?).bind (·.dst) with
 | none=>rw [hd] at h; exact absurd h (by simp)
 | some d=>
  rw [hd] at h
  have hw:∀ u,a.tmps[d]? = some u→Region.wanted o (yielded ⟨all⟩ a.tmps)=(match u with
    | .bool b=>b==want
    | _=>false):=by
   intro u hu
   unfold Region.wanted
   rw [hg]
   simp only
   unfold yielded
   have e:(⟨all⟩:Array Oper)[j]? = all[j]?:=by simp
   rw [e,hd]
   simp only [Option.bind_some,hu]
   cases u <;> rfl
  have wC:=ht.val d
  have h:BK.rec (motive:=fun _=>Option R)
   (fun b=>Bool.rec (motive:=fun _=>Option R)
    (Bool.rec (motive:=fun _=>Option R) (yes (t.set (.bool false) d)) (no (t.set (.bool false) d)) want)
    (Bool.rec (motive:=fun _=>Option R) (no (t.set (.bool true) d)) (yes (t.set (.bool true) d)) want) b)
   (no t) none (tj ((t.get d).getD .ax))=some r:=h
  cases hb:tj ((t.get d).getD .ax) with
  | no=>rw [hb] at h; exact absurd h (by simp)
  | jE=>
   rw [hb] at h
   obtain ⟨l,hl⟩:=YS hb
   rw [hl] at wC
   obtain ⟨u,h1,h2⟩:=wC
   obtain ⟨m,rfl,_⟩:=h1.Kd
   obtain ⟨m',h3,_⟩:=h2.Oj
   refine ⟨t,fun _=>rfl,.inr ⟨?_,h⟩⟩
   cases hc:a.tmps[d]? with
   | none=>
    unfold Region.wanted
    rw [hg]
    simp only
    unfold yielded
    have e:(⟨all⟩:Array Oper)[j]? = all[j]?:=by simp
    rw [e,hd]
    simp [hc]
   | some u=>
    have:u = .tuple m':=by rw [← h3]; simp [Array.getD_eq_getD_getElem?,hc]
    rw [hw u hc,this]
  | bool b=>
   rw [hb] at h
   have hbv:=Bc hb
   rw [hbv] at wC
   have hcv:=wC.gd
   have hc:a.tmps[d]? = some (.bool b):=by
    cases hc:a.tmps[d]? with
    | none=>simp [Array.getD_eq_getD_getElem?,hc,undef] at hcv
    | some u=>have:u = .bool b:=by rw [← hcv]; simp [Array.getD_eq_getD_getElem?,hc]
              rw [this]
   have hwd:=hw _ hc
   refine ⟨t.set (.bool b) d,HU hb,?_⟩
   cases b <;> cases want
   ·exact .inl ⟨hwd,h⟩
   ·exact .inr ⟨hwd,h⟩
   ·exact .inr ⟨hwd,h⟩
   ·exact .inl ⟨hwd,h⟩
def BH (P:Program) (E:Env) (ρ:aW) (l:List KV) (l' : List Value):Prop:=∃ m,bf P E l m∧dS ρ m l'
def F7 (P : Program) (g : FuncId) : Prop := Nat.blt g yB = true ∧ ∃ fn, P.funcs[g]? = some fn ∧ fn.body.isSome = true ∧ (fn.name == "runtime.NumGoroutine") = false
def F8 {R:Type} (P:Program) (bx:mV R):Prop:=
 ∀ f args A k r,bx f args A k=some r→F7 P f∧∀ (E:Env) (B:St) (ρ:aW) (base:Nat) (w:World) (ke:List Value),BH P E ρ args ke→KJ P E A B ρ base w→
  Calls P f ke.toArray w fun e w'=>∃ v v' E' A' B' aY,e = .returned v'∧VC P E' aY v v'∧Ev P base E A B ρ w E' A' B' aY w'∧k v A' = some r
def b9 (P:Program) (g:FuncId) (F:List KV→KR KV):Prop:=
 ∀ args v,a5 (F (normArgs P (aK P g) args)) v→args.length=(aK P g).length→F7 P g∧∀ (E:Env) (A:az) (B:St) (ρ:aW) (base:Nat) (w:World) (ke:List Value),BH P E ρ args ke→KJ P E A B ρ base w→
  Calls P g ke.toArray w fun e w'=>∃ v' E' B' aY,e = .returned v'∧VC P E' aY v v'∧Ev P base E A B ρ w E' A B' aY w'
def qN (P:Program) (pc:FuncId→Option (List KV→KR KV)):Prop:=∀ g F,pc g=some F→b9 P g F
theorem ac3 {o:Oper} {f:Operand} {args:List Operand} (a6:compile P o.op = .call f args) {ρ:aW} {t:bA} {N:Nat} {a:Act} (ht:kS P E ρ t N a) {g:FuncId} {vs:List KV} (hc:CX (lz t args) (kL t f)=some (g,vs)) (hg:F7 P g) :
  ∃ cT,BH P E ρ vs cT∧∀ w,(execOp a.eval o).run P w = .ok (.enter g cT.toArray) w:=by
 have ch:=qc P o
 rw [a6] at ch
 obtain ⟨em,h1,h2⟩:=cl (xs:=f::args) (ev:=kL t) (cZ:=a.eval) fun x _=>ht.ev x
 obtain ⟨y,ys,e,h3,h4⟩:=h1.cons_inv
 simp only [List.map_cons,List.cons.injEq] at e
 obtain ⟨rfl,rfl⟩:=e
 have hv:∃ us,uc (args.map em) (em f)=some (g,us)∧bf P E vs us:=by
  unfold CX at hc
  split at hc
  ·rename_i g' first cap e
   simp only [Option.some.injEq,Prod.mk.injEq] at hc
   obtain ⟨rfl,rfl⟩:=hc
   rw [e] at h3
   obtain ⟨l,m,e2,h5,h6⟩:=h3.DX
   rw [e2]
   refine ⟨l++args.map em++m,by simp only [uc]; rw [hg.1]; rfl,?_⟩
   rw [rB]
   exact (h5.append h4).append h6
  ·simp at hc
 obtain ⟨us,h5,h6⟩:=hv
 obtain ⟨cT,h7,h8⟩:=ch.2 ρ em a.eval g us h2 hg.1 h5 hg.2
 exact ⟨cT,⟨us,h6,h7⟩,h8⟩
def dK:qe→Bool
 | .call _ _=>false
 | .zW _ _ _=>false
 | .CW _ _ _=>false
 | _=>true
theorem en {c:Bool} {x:qe} (h:dK x=true):dK (cond c x .bad)=true:=by
 cases c with
 | false=>rfl
 | true=>exact h
theorem z8 (mt:TypeId→Bool) (b:Builtin) (ts:List TypeId) (args:List Operand):dK (yA P mt b ts args)=true:=by
 unfold yA Yi DU LQ
 repeat' split
 all_goals first | rfl | exact en rfl
theorem xo (mt:TypeId→Bool) (t:TypeId) (l c:Operand):dK (ui P mt t l c)=true:=by
 unfold ui
 split
 ·rename_i e he
  split
  ·split
   ·cases mt (e+1000000)
    ·cases mt e <;> exact en rfl
    ·exact en rfl
   ·rfl
  ·rfl
 ·rfl
theorem Vp {cfg:eN} {op:Op} {f:Operand} {args:List Operand} (h:bV P cfg op = .call f args):compile P op = .call f args:=by
 have key:dK (bV P cfg op)=true→compile P op = .call f args:=fun hn=>by rw [h] at hn; simp [dK] at hn
 cases op with
 | call c=>
  have h:lL P cfg c = .call f args:=h
  show ym P c=_
  unfold lL at h
  unfold ym
  split at h
  ·rename_i g hc
   split at h
   ·cases hz:cfg.x.fz <;> rw [hz] at h <;> simp at h
   ·simp at h; obtain ⟨rfl,rfl⟩:=h; rw [hc]
  ·rename_i f' dT hc; simp at h; obtain ⟨rfl,rfl⟩:=h; rw [hc]
  ·rename_i b hc
   have:=z8 (P:=P) cfg.x.mt b c.argTypes.toList c.args.toList
   rw [h] at this
   simp [dK] at this
  ·simp at h
 | alloc t=>exact key (by show dK (oQ P t)=true; unfold oQ; split <;> first | rfl | exact en rfl)
 | build t ps=>exact key (by show dK (se P t _ _)=true; unfold se; (repeat' split); all_goals first | rfl | exact en rfl)
 | buildSlice t n ps=>exact key (by show dK (lj P t n _ _)=true; unfold lj; (repeat' split); all_goals first | rfl | exact en (by cases Hy _ <;> first | rfl | exact en rfl))
 | convert s d x=>exact key (by show dK (oh P s d x)=true; unfold oh; (repeat' split); all_goals first | rfl | exact en rfl)
 | makeFunc fn a b=>exact key (by show dK (cond (wz fn) .bad _)=true; cases wz fn <;> rfl)
 | fieldAddr s x i=>exact key (by show dK (mg P s x i)=true; unfold mg; (repeat' split); all_goals rfl)
 | field s x i=>exact key (by show dK (sg P s x i)=true; unfold sg; (repeat' split); all_goals rfl)
 | indexAddr s x i=>exact key (by show dK (mh P s x i)=true; unfold mh; (repeat' split); all_goals rfl)
 | index s x i=>exact key (by show dK (sh P s x i)=true; unfold sh; (repeat' split); all_goals rfl)
 | slice t x lo hi mx=>exact key (by show dK (si P t x lo hi mx)=true; unfold si; (repeat' split); all_goals first | rfl | exact en rfl)
 | makeSlice t l c=>exact key (xo _ t l c)
 | _=>exact key rfl
theorem ac4 {cfg:eN} {op:Op} {g:FuncId} {F:List KV→KR KV} {args:List Operand} (h:bV P cfg op = .zW g F args):compile P op = .call (.func g) args∧∃ F0,cfg.pc g=some F0∧F=fun vs=>cond (Nat.beq vs.length (aK P g).length) (F0 (normArgs P (aK P g) vs)) .no:=by
 have key:dK (bV P cfg op)=true→compile P op = .call (.func g) args∧∃ F0,cfg.pc g=some F0∧F=fun vs=>cond (Nat.beq vs.length (aK P g).length) (F0 (normArgs P (aK P g) vs)) .no:=fun hn=>by rw [h] at hn; simp [dK] at hn
 cases op with
 | call c=>
  have h:lL P cfg c = .zW g F args:=h
  show ym P c=_∧_
  unfold lL at h
  unfold ym
  split at h
  ·rename_i g' hc
   split at h
   ·rename_i F0 hF
    cases hz:cfg.x.fz with
    | true=>rw [hz] at h; simp at h
    | false=>
     rw [hz] at h
     simp at h; obtain ⟨rfl,rfl,rfl⟩:=h; rw [hc]
     exact ⟨rfl,F0,hF,rfl⟩
   ·simp at h
  ·simp at h
  ·rename_i b hc
   have:=z8 (P:=P) cfg.x.mt b c.argTypes.toList c.args.toList
   rw [h] at this
   simp [dK] at this
  ·simp at h
 | alloc t=>exact key (by show dK (oQ P t)=true; unfold oQ; split <;> first | rfl | exact en rfl)
 | build t ps=>exact key (by show dK (se P t _ _)=true; unfold se; (repeat' split); all_goals first | rfl | exact en rfl)
 | buildSlice t n ps=>exact key (by show dK (lj P t n _ _)=true; unfold lj; (repeat' split); all_goals first | rfl | exact en (by cases Hy _ <;> first | rfl | exact en rfl))
 | convert s d x=>exact key (by show dK (oh P s d x)=true; unfold oh; (repeat' split); all_goals first | rfl | exact en rfl)
 | makeFunc fn a b=>exact key (by show dK (cond (wz fn) .bad _)=true; cases wz fn <;> rfl)
 | fieldAddr s x i=>exact key (by show dK (mg P s x i)=true; unfold mg; (repeat' split); all_goals rfl)
 | field s x i=>exact key (by show dK (sg P s x i)=true; unfold sg; (repeat' split); all_goals rfl)
 | indexAddr s x i=>exact key (by show dK (mh P s x i)=true; unfold mh; (repeat' split); all_goals rfl)
 | index s x i=>exact key (by show dK (sh P s x i)=true; unfold sh; (repeat' split); all_goals rfl)
 | slice t x lo hi mx=>exact key (by show dK (si P t x lo hi mx)=true; unfold si; (repeat' split); all_goals first | rfl | exact en rfl)
 | makeSlice t l c=>exact key (xo _ t l c)
 | _=>exact key rfl
theorem ac5 {cfg:eN} {op:Op} {g:FuncId} {F:List KV→KR KV} {args:List Operand} (h:bV P cfg op = .CW g F args):compile P op = .call (.func g) args∧∃ F0,cfg.pc g=some F0∧F=fun vs=>cond (Nat.beq vs.length (aK P g).length) (F0 (normArgs P (aK P g) vs)) .no:=by
 have key:dK (bV P cfg op)=true→compile P op = .call (.func g) args∧∃ F0,cfg.pc g=some F0∧F=fun vs=>cond (Nat.beq vs.length (aK P g).length) (F0 (normArgs P (aK P g) vs)) .no:=fun hn=>by rw [h] at hn; simp [dK] at hn
 cases op with
 | call c=>
  have h:lL P cfg c = .CW g F args:=h
  show ym P c=_∧_
  unfold lL at h
  unfold ym
  split at h
  ·rename_i g' hc
   split at h
   ·rename_i F0 hF
    cases hz:cfg.x.fz with
    | false=>rw [hz] at h; simp at h
    | true=>
     rw [hz] at h
     simp at h; obtain ⟨rfl,rfl,rfl⟩:=h; rw [hc]
     exact ⟨rfl,F0,hF,rfl⟩
   ·simp at h
  ·simp at h
  ·rename_i b hc
   have:=z8 (P:=P) cfg.x.mt b c.argTypes.toList c.args.toList
   rw [h] at this
   simp [dK] at this
  ·simp at h
 | alloc t=>exact key (by show dK (oQ P t)=true; unfold oQ; split <;> first | rfl | exact en rfl)
 | build t ps=>exact key (by show dK (se P t _ _)=true; unfold se; (repeat' split); all_goals first | rfl | exact en rfl)
 | buildSlice t n ps=>exact key (by show dK (lj P t n _ _)=true; unfold lj; (repeat' split); all_goals first | rfl | exact en (by cases Hy _ <;> first | rfl | exact en rfl))
 | convert s d x=>exact key (by show dK (oh P s d x)=true; unfold oh; (repeat' split); all_goals first | rfl | exact en rfl)
 | makeFunc fn a b=>exact key (by show dK (cond (wz fn) .bad _)=true; cases wz fn <;> rfl)
 | fieldAddr s x i=>exact key (by show dK (mg P s x i)=true; unfold mg; (repeat' split); all_goals rfl)
 | field s x i=>exact key (by show dK (sg P s x i)=true; unfold sg; (repeat' split); all_goals rfl)
 | indexAddr s x i=>exact key (by show dK (mh P s x i)=true; unfold mh; (repeat' split); all_goals rfl)
 | index s x i=>exact key (by show dK (sh P s x i)=true; unfold sh; (repeat' split); all_goals rfl)
 | slice t x lo hi mx=>exact key (by show dK (si P t x lo hi mx)=true; unfold si; (repeat' split); all_goals first | rfl | exact en rfl)
 | makeSlice t l c=>exact key (xo _ t l c)
 | _=>exact key rfl
noncomputable def tt (ins:qe) (t:bA) (A:az):KR (KV×az):=
 match ins with
 | .pure f xs=>(f (lz t xs)).map fun v=>(v,A)
 | .read f xs=>(f A (lz t xs)).map fun v=>(v,A)
 | .act f xs=>f A (lz t xs)
 | .look f xs=>(f (lz t xs)).map fun v=>(v,A)
 | .zW _ f xs=>(f (lz t xs)).map fun v=>(v,A)
 | .CW _ f xs=>(f (vL A (lz t xs)).1).map fun v=>(v,(vL A (lz t xs)).2)
 | .call _ _=>.no
 | .bad=>.no
theorem a5.yE {α β:Type} {r:KR α} {f:α→β} {u:α} (h:a5 r u):a5 (r.map f) (f u):=by
 cases r with
 | no=>exact h.elim
 | ok x=>have h:x=u:=h; subst h; exact rfl
 | lV c x=>obtain ⟨h1,rfl⟩:=h; exact ⟨h1,rfl⟩
 | br c x y=>exact h.imp (fun h=>⟨h.1,a5.yE (r:=x) h.2⟩) (fun h=>⟨h.1,a5.yE (r:=y) h.2⟩)
theorem D5 {R:Type} {bx:mV R} {t:bA} {A:az} {k:KV→az→Option R} {ins:qe} {r:R} (hn:∀ f args,ins≠.call f args) (h:Kb bx t A k ins=some r):∃ v A',a5 (tt ins t A) (v,A')∧k v A' = some r:=by
 cases ins with
 | pure f xs=>obtain ⟨v,h1,h2⟩:=KR.xV h; exact ⟨v,A,h1.yE,h2⟩
 | read f xs=>obtain ⟨v,h1,h2⟩:=KR.xV h; exact ⟨v,A,h1.yE,h2⟩
 | act f xs=>obtain ⟨v,h1,h2⟩:=KR.xV h; exact ⟨v.1,v.2,h1,h2⟩
 | look f xs=>obtain ⟨v,h1,h2⟩:=KR.xV h; exact ⟨v,A,h1.yE,h2⟩
 | zW g f xs=>obtain ⟨v,h1,h2⟩:=KR.xV h; exact ⟨v,A,h1.yE,h2⟩
 | CW g f xs=>obtain ⟨v,h1,h2⟩:=KR.xV h; exact ⟨v,(vL A (lz t xs)).2,h1.yE (f:=fun v=>(v,(vL A (lz t xs)).2)),h2⟩
 | call f args=>exact absurd rfl (hn f args)
 | bad=>exact absurd h (by simp [Kb])
theorem Vq {cfg:eN} (iu:qN P cfg.pc) {o:Oper} {g:FuncId} {xs:List Operand} (a6:compile P o.op = .call (.func g) xs) {F0:List KV→KR KV} (hF0:cfg.pc g=some F0) {t:bA} {vs0:List KV} {v:KV}
  (hf:a5 (F0 (normArgs P (aK P g) vs0)) v) (hlen:vs0.length=(aK P g).length) {E:Env} {ρ:aW} {a:Act} (hv:∀ x∈xs,VC P E ρ (kL t x) (a.eval x)) {A A1:az} {B:St} {base:Nat} {w:World}
  (amx:∀ us,bf P E (xs.map (kL t)) us→∃ E1,Ev P base E A B ρ w E1 A1 B ρ w∧bf P E1 vs0 us) {next:Act→World→Prop} {Q:Exit→Act→World→Prop}
  (hk:∀ E' B' aY v' w',VC P E' aY v v'→Ev P base E A B ρ w E' A1 B' aY w'→next (a.put o.dst v') w'):o.upon P a next Q ((execOp a.eval o).run P w):=by
 obtain ⟨hg,mD⟩:=iu g F0 hF0 _ _ hf hlen
 have Vr:=qc P o
 rw [a6] at Vr
 obtain ⟨em,h3,h4⟩:=cl (xs:=xs) hv
 let em2:Operand→Value:=fun x=>match x with
  | .func f=>.func (.func f) #[] #[]
  | x=>em x
 have e3:∀ x∈xs,VK P E (kL t x) (em2 x)∧VR ρ (em2 x) (a.eval x):=by
  intro x hx
  have key:∀ (l:List Operand),bf P E (l.map (kL t)) (l.map em)→x∈l→VK P E (kL t x) (em x):=by
   intro l
   induction l with
   | nil=>intro _ h; simp at h
   | cons y l ih=>
    intro h hm
    obtain ⟨z,zs,e,q1,q2⟩:=h.cons_inv
    simp only [List.map_cons,List.cons.injEq] at e
    obtain ⟨rfl,rfl⟩:=e
    rcases List.mem_cons.1 hm with rfl | hm
    ·exact q1
    ·exact ih q2 hm
  cases x with
  | func f=>exact ⟨.aen .nil .nil,VR.Xm (l:=[]) (m:=[]) (.func f) rfl .nil .nil⟩
  | tmp i=>exact ⟨key xs h3 hx,h4 _ hx⟩
  | const c=>exact ⟨key xs h3 hx,h4 _ hx⟩
  | global q=>exact ⟨key xs h3 hx,h4 _ hx⟩
 have e4:bf P E (xs.map (kL t)) (xs.map em2):=by
  have:∀ (l:List Operand),(∀ x∈l,VK P E (kL t x) (em2 x))→bf P E (l.map (kL t)) (l.map em2):=by
   intro l
   induction l with
   | nil=>intro _; exact .nil
   | cons y l ih=>intro h; exact .cons (h y (by simp)) (ih fun z hz=>h z (by simp [hz]))
  exact this xs fun x hx=>(e3 x hx).1
 obtain ⟨cT,h5,h6⟩:=Vr.2 ρ em2 a.eval g (xs.map em2) (fun x hx=>by
   rcases List.mem_cons.1 hx with rfl | hx
   ·exact VR.Xm (l:=[]) (m:=[]) (.func g) rfl .nil .nil
   ·exact (e3 x hx).2) hg.1 (by simp only [em2,uc]; rw [hg.1]; simp) hg.2
 rw [h6 w]
 obtain ⟨E1,q1,q2⟩:=amx _ e4
 refine (mD E1 A1 B ρ base w cT ⟨xs.map em2,q2,h5⟩ q1.kj).mono ?_
 rintro e w' ⟨v',E',B',aY,rfl,h7,h8⟩
 exact hk E' B' aY v' w' h7 (q1.trans h8)
theorem HV {cfg:eN} (iu:qN P cfg.pc) {o:Oper} {t:bA} {A A' : az} {v:KV} {base:Nat} {B:St} {ρ:aW} {a:Act} {w:World} {next:Act→World→Prop} {Q:Exit→Act→World→Prop}
  (h:a5 (tt (bV P cfg o.op) t A) (v,A')) (hv:∀ x∈Xs (bV P cfg o.op),VC P E ρ (kL t x) (a.eval x)) (hj:KJ P E A B ρ base w)
  (hk:∀ E' B' aY v' w',VC P E' aY v v'→Ev P base E A B ρ w E' A' B' aY w'→next (a.put o.dst v') w'):o.wp P a w next Q:=by
 have ch:=aia P cfg o
 have ahp:=@ac4 P cfg o.op
 have ahq:=@ac5 P cfg o.op
 generalize bV P cfg o.op=ins at h ch hv ahp ahq
 unfold Oper.wp
 cases ins with
 | pure f xs=>
  obtain ⟨u,h1,h2⟩:=a5.map h
  simp only [Prod.mk.injEq] at h2
  obtain ⟨rfl,rfl⟩:=h2
  rw [rB] at h1
  obtain ⟨v',h3,h4⟩:=ch E ρ (kL t) a.eval u hv h1
  rw [h4 w]
  exact hk E B ρ v' w h3 (.refl hj.k hj.s)
 | read f xs=>
  obtain ⟨u,h1,h2⟩:=a5.map h
  simp only [Prod.mk.injEq] at h2
  obtain ⟨rfl,rfl⟩:=h2
  rw [rB] at h1
  obtain ⟨v',h3,h4⟩:=ch E A B ρ base w (kL t) a.eval u hj hv h1
  rw [h4]
  exact hk E B ρ v' w h3 (.refl hj.k hj.s)
 | act f xs=>
  have h:a5 (f A (lz t xs)) (v,A'):=h
  rw [rB] at h
  obtain ⟨E',B',aY,v',nx,w',h1,h2,h3,h4⟩:=ch E A A' B ρ base w (kL t) a.eval v hj hv h
  rw [h1]
  have hd:=hk E' B' aY v' w' h3 h4
  cases nx with
  | value u=>have:u=v':=h2; subst this; exact hd
  | skip=>have:v' = undef:=h2; subst this; exact hd
  | _=>exact h2.elim
 | look f xs=>
  obtain ⟨u,h1,h2⟩:=a5.map h
  simp only [Prod.mk.injEq] at h2
  obtain ⟨rfl,rfl⟩:=h2
  rw [rB] at h1
  obtain ⟨E',B',aY,v',nx,w',h3,h4,h5,h6⟩:=ch E A B ρ base w (kL t) a.eval u hj hv h1
  rw [h3]
  have hd:=hk E' B' aY v' w' h5 h6
  cases nx with
  | value u=>have:u=v':=h4; subst this; exact hd
  | skip=>have:v' = undef:=h4; subst this; exact hd
  | _=>exact h4.elim
 | zW g f xs=>
  obtain ⟨u,h1,h2⟩:=a5.map h
  simp only [Prod.mk.injEq] at h2
  obtain ⟨rfl,rfl⟩:=h2
  obtain ⟨a6,F0,hF0,rfl⟩:=ahp rfl
  obtain ⟨hlen,hf⟩:=a5.cond h1
  exact Vq iu a6 hF0 hf (Nat.eq_of_beq_eq_true hlen) hv (fun us q=>⟨E,.refl hj.k hj.s,by rw [rB]; exact q⟩) hk
 | CW g f xs=>
  obtain ⟨u,h1,h2⟩:=a5.map h
  simp only [Prod.mk.injEq] at h2
  obtain ⟨rfl,rfl⟩:=h2
  obtain ⟨a6,F0,hF0,rfl⟩:=ahq rfl
  obtain ⟨hlen,hf⟩:=a5.cond h1
  refine Vq iu a6 hF0 hf (Nat.eq_of_beq_eq_true hlen) hv (fun us q=>?_) hk
  obtain ⟨E1,p1,p2⟩:=D4 hj.k q
  rw [rB]
  exact ⟨E1,p1.ev (.refl hj.s),p2⟩
 | call f args=>exact h.elim
 | bad=>exact h.elim
end Go.K
end
section
namespace Go.K
open Go Go.aG
variable {P:Program} {E:Env}
theorem Vs {R:Type} {cfg:eN} {bx:mV R} (iu:qN P cfg.pc) (tT:F8 P bx) {o:Oper} {t:bA} {A:az} {k:KV→az→Option R} {r:R} {N base:Nat} {B:St} {ρ:aW} {a:Act} {w:World} {next:Act→World→Prop} {Q:Exit→Act→World→Prop}
  (h:Kb bx t A k (bV P cfg o.op)=some r) (ht:kS P E ρ t N a) (hj:KJ P E A B ρ base w)
  (hk:∀ E' A' B' aY v v' w',k v A' = some r→VC P E' aY v v'→Ev P base E A B ρ w E' A' B' aY w'→next (a.put o.dst v') w'):o.wp P a w next Q:=by
 by_cases hc:∃ f args,bV P cfg o.op = .call f args
 ·obtain ⟨f,args,hc⟩:=hc
  rw [hc] at h
  have h:Option.rec (motive:=fun _=>Option R) none (fun p=>bx p.1 p.2 A k) (CX (lz t args) (kL t f))=some r:=h
  cases ad9:CX (lz t args) (kL t f) with
  | none=>rw [ad9] at h; exact absurd h (by simp)
  | some p=>
   obtain ⟨g,vs⟩:=p
   rw [ad9] at h
   have h:bx g vs A k=some r:=h
   obtain ⟨hg,mD⟩:=tT g vs A k r h
   obtain ⟨cT,h1,h2⟩:=ac3 (Vp hc) ht ad9 hg
   unfold Oper.wp
   rw [h2 w]
   refine (mD E B ρ base w cT h1 hj).mono ?_
   rintro e w' ⟨v,v',E',A',B',aY,rfl,h3,h4,h5⟩
   exact hk E' A' B' aY v v' w' h5 h3 h4
 ·obtain ⟨v,A',h1,h2⟩:=D5 (fun f args e=>hc ⟨f,args,e⟩) h
  exact HV iu h1 (fun x _=>ht.ev x) hj fun E' B' aY v' w' h3 h4=>hk E' A' B' aY v v' w' h2 h3 h4
theorem aeH {R:Type} {cfg:eN} {bx:mV R} {all:List Oper} {o:Oper} {k:bA→az→Option R} {t:bA} {A:az} {r:R} {N:Nat} {ρ:aW} {a:Act} (ht:kS P E ρ t N a) (h:xl P cfg bx all o k t A=some r) :
  ∃ t1,(∀ i,t1.get i=t.get i)∧((Region.wanted o (yielded ⟨all⟩ a.tmps)=true∧Kb bx t1 A (fun v A=>k (o6 t1 o.dst v) A) (bV P cfg o.op)=some r)∨
   (Region.wanted o (yielded ⟨all⟩ a.tmps)=false∧k (o6 t1 o.dst qU) A=some r)):=by
 unfold xl at h
 cases hg:o.guard with
 | none=>
  rw [hg] at h
  refine ⟨t,fun _=>rfl,.inl ⟨?_,h⟩⟩
  unfold Region.wanted
  rw [hg]
 | some p=>
  obtain ⟨j,want⟩:=p
  rw [hg] at h
  exact ac2 hg ht h
theorem Ko {R:Type} {cfg:eN} {bx:mV R} (iu:qN P cfg.pc) (tT:F8 P bx) {N base:Nat} {Q:Exit→Act→World→Prop} {all:List Oper} (hd:all.all (EF N)=true) {k:bA→az→Option R} {r:R} :
  ∀ (os:List Oper) (j:Nat) (t:bA) (E:Env) (A:az) (B:St) (ρ:aW) (a:Act) (w:World),all.drop j=os→rY P cfg bx all k os t A=some r→kS P E ρ t N a→KJ P E A B ρ base w→
   (∀ t' E' A' B' aY a' w',k t' A' = some r→kS P E' aY t' N a'→a'.defers=a.defers→Ev P base E A B ρ w E' A' B' aY w'→Q .normal a' w')→wpOps P ⟨all⟩ Q (List.range' j os.length) a w
 | [],j,t,E,A,B,ρ,a,w,_,h,ht,hj,hq=>hq t E A B ρ a w h ht rfl (.refl hj.k hj.s)
 | o::os,j,t,E,A,B,ρ,a,w,hk,h,ht,hj,hq=>by
  have ho:(⟨all⟩:Array Oper)[j]? = some o:=by
   have:(all.drop j)[0]? = some o:=by rw [hk]; rfl
   rw [List.getElem?_drop] at this
   simpa using this
  have vO:all.drop (j+1)=os:=by rw [← List.drop_drop,hk]; rfl
  have C4:∀ d,o.dst=some d→d < N:=by
   intro d e
   have hm:o∈all:=List.mem_of_getElem? (by simpa using ho)
   have:=List.all_eq_true.1 hd o hm
   unfold EF at this
   rw [e] at this
   simp only at this
   rw [Nat.blt_eq] at this
   exact this
  rw [List.length_cons,List.range'_succ]
  simp only [wpOps,ho]
  have h:xl P cfg bx all o (rY P cfg bx all k os) t A=some r:=h
  obtain ⟨t1,EI,h⟩:=aeH ht h
  have vR:=ht.same EI
  rcases h with ⟨hw,h⟩ | ⟨hw,h⟩
  ·rw [hw]
   refine .inl (Vs iu tT h vR hj fun E' A' B' aY v v' w' h1 h2 h3=>?_)
   refine Ko iu tT hd os (j+1) _ E' A' B' aY _ w' vO h1 ((vR.mono h3.le (h3.fL.le hj.s)).put C4 h2) h3.kj fun t' F9 A'' HW ue YT FE h4 h5 h6 h7=>?_
   exact hq t' F9 A'' HW ue YT FE h4 h5 (by rw [h6,put_defers]) (h3.trans h7)
  ·rw [hw]
   refine Ko iu tT hd os (j+1) _ E A B ρ _ w vO h (vR.put C4 .undef) hj fun t' F9 A'' HW ue YT FE h4 h5 h6 h7=>?_
   exact hq t' F9 A'' HW ue YT FE h4 h5 (by rw [h6,put_defers]) h7
abbrev Out:=Bool×KV×az
inductive Run (P:Program) (cfg:eN) (all:List Oper):List Oper→bA→az→List Out→bA→az→Prop where
 | nil {t:bA} {A:az} : Run P cfg all [] t A [] t A
 | cons {o:Oper} {os:List Oper} {t t1 t' : bA} {A A1 A' : az} {wd:Bool} {v:KV} {L:List Out}
   (same:∀ i,t1.get i=t.get i)
   (want:(o.guard=none∧wd=true)∨∃ j want d,o.guard=some (j,want)∧(all[j]?).bind (·.dst)=some d∧((∃ b,t.get d=some (.bool b)∧wd=(b==want))∨(∃ l,t.get d=some (.jE l)∧wd=false)))
   (yes:wd=true→a5 (tt (bV P cfg o.op) t1 A) (v,A1)) (no:wd=false→v=qU∧A1=A)
   (rest:Run P cfg all os (o6 t1 o.dst v) A1 L t' A'):Run P cfg all (o::os) t A ((wd,v,A1)::L) t' A'
theorem HX {R:Type} {t:bA} {d:Option Tmp} {want:Bool} {yes no:bA→Option R} {r:R} (h:aeh t d want yes no=some r) :
  ∃ d',d=some d'∧((∃ b t',t.get d' = some (.bool b)∧(∀ i,t'.get i=t.get i)∧((b==want)=true∧yes t' = some r∨(b==want)=false∧no t' = some r))∨∃ l,t.get d' = some (.jE l)∧no t=some r):=by
 unfold aeh at h
 cases d with
 | none=>exact absurd h (by simp)
 | some d=>
  refine ⟨d,rfl,?_⟩
  have h:BK.rec (motive:=fun _=>Option R)
   (fun b=>Bool.rec (motive:=fun _=>Option R)
    (Bool.rec (motive:=fun _=>Option R) (yes (t.set (.bool false) d)) (no (t.set (.bool false) d)) want)
    (Bool.rec (motive:=fun _=>Option R) (no (t.set (.bool true) d)) (yes (t.set (.bool true) d)) want) b)
   (no t) none (tj ((t.get d).getD .ax))=some r:=h
  have mQ:∀ v,(t.get d).getD .ax=v→v≠.ax→t.get d=some v:=by
   intro v e dT
   cases hg:t.get d with
   | none=>rw [hg] at e; exact absurd e.symm dT
   | some u=>rw [hg] at e; simp at e; rw [e]
  cases hb:tj ((t.get d).getD .ax) with
  | no=>rw [hb] at h; exact absurd h (by simp)
  | jE=>
   rw [hb] at h
   obtain ⟨l,hl⟩:=YS hb
   exact .inr ⟨l,mQ _ hl (by simp),h⟩
  | bool b=>
   rw [hb] at h
   refine .inl ⟨b,t.set (.bool b) d,mQ _ (Bc hb) (by simp),HU hb,?_⟩
   cases b <;> cases want
   ·exact .inl ⟨rfl,h⟩
   ·exact .inr ⟨rfl,h⟩
   ·exact .inr ⟨rfl,h⟩
   ·exact .inl ⟨rfl,h⟩
theorem Qt {R:Type} {cfg:eN} {bx:mV R} {all:List Oper} {k:bA→az→Option R} {r:R} : ∀ {os:List Oper} {t:bA} {A:az},(∀ o∈os,∀ f args,bV P cfg o.op≠.call f args)→rY P cfg bx all k os t A=some r→
  ∃ L t' A',Run P cfg all os t A L t' A'∧k t' A' = some r
 | [],t,A,_,h=>⟨[],t,A,.nil,h⟩
 | o::os,t,A,hn,h=>by
  have h:xl P cfg bx all o (rY P cfg bx all k os) t A=some r:=h
  have Hv:=fun q hq=>hn q (List.mem_cons_of_mem o hq)
  unfold xl at h
  cases hg:o.guard with
  | none=>
   rw [hg] at h
   obtain ⟨v,A1,h1,h2⟩:=D5 (hn o (by simp)) h
   obtain ⟨L,t',A',h3,h4⟩:=Qt Hv h2
   exact ⟨_,t',A',.cons (fun _=>rfl) (.inl ⟨hg,rfl⟩) (fun _=>h1) (fun e=>by simp at e) h3,h4⟩
  | some p=>
   obtain ⟨j,want⟩:=p
   rw [hg] at h
   obtain ⟨d,hd,h⟩:=HX h
   rcases h with ⟨b,t1,h1,h2,h3⟩ | ⟨l,h1,h2⟩
   ·rcases h3 with ⟨h3,h4⟩ | ⟨h3,h4⟩
    ·obtain ⟨v,A1,h5,h6⟩:=D5 (hn o (by simp)) h4
     obtain ⟨L,t',A',h7,h8⟩:=Qt Hv h6
     exact ⟨_,t',A',.cons h2 (.inr ⟨j,want,d,hg,hd,.inl ⟨b,h1,h3.symm⟩⟩) (fun _=>h5) (fun e=>by simp at e) h7,h8⟩
    ·obtain ⟨L,t',A',h7,h8⟩:=Qt Hv h4
     exact ⟨_,t',A',.cons h2 (.inr ⟨j,want,d,hg,hd,.inl ⟨b,h1,h3.symm⟩⟩) (fun e=>by simp at e) (fun _=>⟨rfl,rfl⟩) h7,h8⟩
   ·obtain ⟨L,t',A',h7,h8⟩:=Qt Hv h2
    exact ⟨_,t',A',.cons (fun _=>rfl) (.inr ⟨j,want,d,hg,hd,.inr ⟨l,h1,rfl⟩⟩) (fun e=>by simp at e) (fun _=>⟨rfl,rfl⟩) h7,h8⟩
noncomputable def turns (P:Program) (cfg:eN) (o:Oper) (x:Out):Bool:=x.1&&Nat.ble 3 (dC (bV P cfg o.op))
noncomputable def iY (S:Nat→Bool):List Oper→List Out→Nat→bA→bA
 | o::os,x::L,i,t=>iY S os L (i+1) (cond (S i) (o6 t o.dst x.2.1) t)
 | _,_,_,t=>t
noncomputable def mS (P:Program) (cfg:eN) (S:Nat→Bool):List Oper→List Out→Nat→az→az
 | o::os,x::L,i,A=>mS P cfg S os L (i+1) (cond (S i&&turns P cfg o x) x.2.2 A)
 | _,_,_,A=>A
theorem rC (t:bA) (dst:Option Tmp) (v:KV) (x:Tmp):(o6 t dst v).get x=if dst=some x then some v else t.get x:=by
 cases dst with
 | none=>rfl
 | some d=>
  simp only [o6,Trie.nX,Option.some.injEq]
  by_cases h:x=d
  ·rw [if_pos h,if_pos h.symm]
  ·rw [if_neg h,if_neg (Ne.symm h)]
theorem z9 (S:Nat→Bool):∀ (os:List Oper) (L:List Out) (k:Nat) (t:bA),iY S os L (k+1) t=iY (fun i=>S (i+1)) os L k t
 | [],L,k,t=>by cases L <;> rfl
 | o::os,[],k,t=>rfl
 | o::os,x::L,k,t=>by simp only [iY]; exact z9 S os L (k+1) _
theorem OC {cfg:eN} (S:Nat→Bool):∀ (os:List Oper) (L:List Out) (k:Nat) (A:az),mS P cfg S os L (k+1) A=mS P cfg (fun i=>S (i+1)) os L k A
 | [],L,k,t=>by cases L <;> rfl
 | o::os,[],k,t=>rfl
 | o::os,x::L,k,t=>by simp only [mS]; exact OC S os L (k+1) _
theorem lN {S S' : Nat→Bool} {y:Tmp} : ∀ {os:List Oper} {L:List Out} {k:Nat} {t t' : bA},t.get y=t'.get y→(∀ i o,os[i]? = some o→o.dst=some y→S (k+i)=S' (k+i))→(iY S os L k t).get y=(iY S' os L k t').get y
 | [],L,k,t,t',h,_=>by cases L <;> exact h
 | o::os,[],k,t,t',h,_=>h
 | o::os,x::L,k,t,t',h,hs=>by
  simp only [iY]
  refine lN ?_ fun i o' ho hd=>by have:=hs (i+1) o' (by simpa using ho) hd; rwa [show k+(i+1)=k+1+i by omega] at this
  by_cases hd:o.dst=some y
  ·have:=hs 0 o rfl hd
   rw [Nat.add_zero] at this
   rw [this]
   cases S' k with
   | true=>simp only [cond_true,rC,if_pos hd]
   | false=>exact h
  ·have e:∀ (b:Bool) (u:bA),(cond b (o6 u o.dst x.2.1) u).get y=u.get y:=by
    intro b u
    cases b with
    | true=>rw [cond_true,rC,if_neg hd]
    | false=>rfl
   rw [e,e]; exact h
theorem YU {S:Nat→Bool} {y:Tmp} : ∀ {os:List Oper} {L:List Out} {k i:Nat} {t:bA} {o:Oper} {x:Out},os[i]? = some o→L[i]? = some x→o.dst=some y→(∀ j q,os[j]? = some q→q.dst=some y→i < j→S (k+j)=false)→
  (iY (cW S (k+i)) os L k t).get y=some x.2.1
 | [],L,k,i,t,o,x,ho,_,_,_=>by simp at ho
 | q::os,[],k,i,t,o,x,_,hx,_,_=>by simp at hx
 | q::os,u::L,k,0,t,o,x,ho,hx,hd,hs=>by
  simp at ho hx
  subst ho hx
  simp only [iY,Nat.add_zero]
  have hk:cW S k k=true:=by simp [cW]
  rw [hk,cond_true]
  have:=lN (S:=cW S k) (S':=fun _=>false) (y:=y) (os:=os) (L:=L) (k:=k+1) (t:=o6 t q.dst u.2.1) (t':=o6 t q.dst u.2.1) rfl (fun j q' hq YV=>by
   have h1:=hs (j+1) q' (by simpa using hq) YV (by omega)
   rw [show k+(j+1)=k+1+j by omega] at h1
   simp only [cW,h1,Bool.false_or]
   cases hb:Nat.beq (k+1+j) k with
   | false=>rfl
   | true=>have:=Nat.eq_of_beq_eq_true hb; omega)
  rw [this]
  have BI:∀ (os:List Oper) (L:List Out) (k:Nat) (t:bA),iY (fun _=>false) os L k t=t:=by
   intro os
   induction os with
   | nil=>intro L k t; cases L <;> rfl
   | cons o os ih=>intro L k t; cases L with
    | nil=>rfl
    | cons x L=>simp only [iY,cond_false]; exact ih L _ t
  rw [BI,rC,if_pos hd]
 | q::os,u::L,k,i+1,t,o,x,ho,hx,hd,hs=>by
  simp only [iY]
  rw [show k+(i+1)=k+1+i by omega]
  exact YU (by simpa using ho) (by simpa using hx) hd fun j q' hq YV bX=>by
   have:=hs (j+1) q' (by simpa using hq) YV (by omega)
   rwa [show k+(j+1)=k+1+j by omega] at this
theorem D6 {cfg:eN} {S S' : Nat→Bool} : ∀ {os:List Oper} {L:List Out} {k:Nat} {A:az},(∀ i o x,os[i]? = some o→L[i]? = some x→turns P cfg o x=true→S (k+i)=S' (k+i))→mS P cfg S os L k A=mS P cfg S' os L k A
 | [],L,k,A,_=>by cases L <;> rfl
 | o::os,[],k,A,_=>rfl
 | o::os,x::L,k,A,h=>by
  simp only [mS]
  have h0:(S k&&turns P cfg o x)=(S' k&&turns P cfg o x):=by
   cases ht:turns P cfg o x with
   | false=>simp
   | true=>have:=h 0 o x rfl rfl ht; rw [Nat.add_zero] at this; rw [this]
  rw [h0]
  exact D6 fun i o' x' ho hx ht=>by have:=h (i+1) o' x' (by simpa using ho) (by simpa using hx) ht; rwa [show k+(i+1)=k+1+i by omega] at this
def HY (all:List Oper) (o:Oper) (t:bA) (wd:Bool):Prop:=(o.guard=none∧wd=true)∨∃ j want d,o.guard=some (j,want)∧(all[j]?).bind (·.dst)=some d∧((∃ b,t.get d=some (.bool b)∧wd=(b==want))∨(∃ l,t.get d=some (.jE l)∧wd=false))
theorem Aa {cfg:eN} {o:Oper} {t:bA} {A A1:az} {v:KV} (h:a5 (tt (bV P cfg o.op) t A) (v,A1)) (hk:Nat.ble 3 (dC (bV P cfg o.op))=false):A1=A:=by
 generalize bV P cfg o.op=ins at h hk
 cases ins with
 | pure f xs=>obtain ⟨u,_,h2⟩:=a5.map h; simp at h2; exact h2.2.symm
 | read f xs=>obtain ⟨u,_,h2⟩:=a5.map h; simp at h2; exact h2.2.symm
 | act f xs=>exact absurd hk (by simp [dC])
 | look f xs=>obtain ⟨u,_,h2⟩:=a5.map h; simp at h2; exact h2.2.symm
 | zW g f xs=>obtain ⟨u,_,h2⟩:=a5.map h; simp at h2; exact h2.2.symm
 | CW g f xs=>exact absurd hk (by simp [dC])
 | call f xs=>exact h.elim
 | bad=>exact h.elim
theorem Run.at {cfg:eN} {all:List Oper} : ∀ {os:List Oper} {t t' : bA} {A A' : az} {L:List Out},Run P cfg all os t A L t' A'→
  L.length=os.length∧(∀ y,t'.get y=(iY (fun _=>true) os L 0 t).get y)∧A' = mS P cfg (fun _=>true) os L 0 A∧
  ∀ i o x,os[i]? = some o→L[i]? = some x→∃ t1,(∀ y,t1.get y=(iY (fun j=>Nat.blt j i) os L 0 t).get y)∧HY all o t1 x.1∧(x.1=true→a5 (tt (bV P cfg o.op) t1 (mS P cfg (fun j=>Nat.blt j i) os L 0 A)) (x.2.1,x.2.2))∧(x.1=false→x.2.1=qU)
 | _,_,_,_,_,_,.nil=>⟨rfl,fun _=>rfl,rfl,fun i o x ho=>by simp at ho⟩
 | o::os,t,t',A,A',(wd,v,A1)::L,.cons (t1:=t1) same want yes no rest=>by
  obtain ⟨h1,h2,h3,h4⟩:=rest.at
  have hA1:cond (turns P cfg o (wd,v,A1)) A1 A=A1:=by
   cases ht:turns P cfg o (wd,v,A1) with
   | true=>rfl
   | false=>
    rw [cond_false]
    cases wd with
    | false=>exact (no rfl).2.symm
    | true=>exact (Aa (yes rfl) (by simpa [turns] using ht)).symm
  have Vt:∀ y,(o6 t1 o.dst v).get y=(o6 t o.dst v).get y:=fun y=>by rw [rC,rC,same]
  refine ⟨by simp [h1],fun y=>?_,?_,fun i q x hq hx=>?_⟩
  ·rw [h2 y]
   simp only [iY,cond_true]
   rw [z9]
   exact lN (Vt y) fun _ _ _ _=>rfl
  ·rw [h3]
   simp only [mS,Bool.true_and]
   rw [OC,hA1]
  ·cases i with
   | zero=>
    simp at hq hx
    subst hq hx
    have e0:∀ (os:List Oper) (L:List Out) (k:Nat) (t:bA),iY (fun j=>Nat.blt j 0) os L k t=t:=by
     intro os
     induction os with
     | nil=>intro L k t; cases L <;> rfl
     | cons o os ih=>intro L k t; cases L with
      | nil=>rfl
      | cons x L=>simp only [iY]; exact ih L _ t
    have e1:∀ (os:List Oper) (L:List Out) (k:Nat) (A:az),mS P cfg (fun j=>Nat.blt j 0) os L k A=A:=by
     intro os
     induction os with
     | nil=>intro L k t; cases L <;> rfl
     | cons o os ih=>intro L k t; cases L with
      | nil=>rfl
      | cons x L=>simp only [mS]; exact ih L _ t
    refine ⟨t1,fun y=>by rw [e0]; exact same y,?_,fun e=>by rw [e1]; exact yes e,fun e=>(no e).1⟩
    rcases want with h | ⟨j,wt,d,e2,e3,e4⟩
    ·exact .inl h
    ·exact .inr ⟨j,wt,d,e2,e3,by rw [same]; exact e4⟩
   | succ i=>
    obtain ⟨t2,h5,h6,h7,h8⟩:=h4 i q x (by simpa using hq) (by simpa using hx)
    have hsh:(fun j=>Nat.blt (j+1) (i+1))=fun j=>Nat.blt j i:=by
     funext j
     cases hb:Nat.blt j i with
     | true=>rw [Nat.blt_eq] at hb ⊢; omega
     | false=>
      cases hc:Nat.blt (j+1) (i+1) with
      | false=>rfl
      | true=>rw [Nat.blt_eq] at hc; rw [show Nat.blt j i=true from by rw [Nat.blt_eq]; omega] at hb; simp at hb
    have h01:Nat.blt 0 (i+1)=true:=by rw [Nat.blt_eq]; omega
    have iX:mS P cfg (fun j=>Nat.blt j (i+1)) (o::os) ((wd,v,A1)::L) 0 A=mS P cfg (fun j=>Nat.blt j i) os L 0 A1:=by
     simp only [mS,h01,Bool.true_and]
     rw [OC,hA1,hsh]
    refine ⟨t2,fun y=>?_,h6,fun e=>by rw [iX]; exact h7 e,h8⟩
    rw [h5 y]
    simp only [iY,h01,cond_true]
    rw [z9,hsh]
    exact lN (Vt y) fun _ _ _ _=>rfl
end Go.K
end
section
namespace Go.K
open Go Go.aG
variable {P:Program} {E:Env}
theorem Qu {cfg:eN} {all:List Oper} {b:List Nat} {i:Nat} {y:Oper} : ∀ (xs:List Oper) (k:Nat),LS P cfg all b i y xs k=true→∀ (j:Nat) (x:Oper),xs[j]? = some x→k+j < i→EM P cfg all x y=true→o3 b i (k+j)=true∨(sj P cfg all x y=false∧(Vh all (k+j) x i y).isSome=true)
 | [],k,_,j,x,hx,_,_=>by simp at hx
 | x0::xs,k,h,0,x,hx,bX,hc=>by
  simp at hx
  subst hx
  simp only [LS,Bool.and_eq_true,Bool.or_eq_true,Bool.not_eq_true'] at h
  rcases h.1 with ((h1 | h1) | h1) | h1
  ·have:=Nat.le_of_ble_eq_true h1; omega
  ·rw [hc] at h1; simp at h1
  ·exact .inl h1
  ·exact .inr h1
 | x0::xs,k,h,j+1,x,hx,bX,hc=>by
  simp only [LS,Bool.and_eq_true] at h
  have:=Qu xs (k+1) h.2 j x (by simpa using hx) (by omega) hc
  rwa [show k+1+j=k+(j+1) by omega] at this
theorem Kp {cfg:eN} {all:List Oper} {b:List Nat} : ∀ (os:List Oper) (k:Nat),FU P cfg all b os k=true→∀ (i:Nat) (o:Oper),os[i]? = some o→LS P cfg all b (k+i) o all 0=true
 | [],k,_,i,o,ho=>by simp at ho
 | o0::os,k,h,0,o,ho=>by
  simp at ho
  subst ho
  simp only [FU,Bool.and_eq_true] at h
  exact h.1
 | o0::os,k,h,i+1,o,ho=>by
  simp only [FU,Bool.and_eq_true] at h
  have:=Kp os (k+1) h.2 i o (by simpa using ho)
  rwa [show k+1+i=k+(i+1) by omega] at this
theorem Qv {cfg:eN} {all:List Oper} {b:List Nat} {i:Nat} {y:Oper} {p:Option Operand×Operand} : ∀ (xs:List Oper) (k j:Nat) (x:Oper),xs[j]? = some x→k+j < i→EM P cfg all x y=true→o3 b i (k+j)=false→Vh all (k+j) x i y=some p→p∈A9 P cfg all b i y xs k
 | [],k,j,x,hx,_,_,_,_=>by simp at hx
 | x0::xs,k,0,x,hx,bX,hm,hb,he=>by
  simp at hx
  subst hx
  have h1:(Nat.ble i k||!EM P cfg all x0 y||o3 b i k)=false:=by
   rw [hm,show o3 b i k=false from hb]
   cases h:Nat.ble i k with
   | false=>rfl
   | true=>have:=Nat.le_of_ble_eq_true h; omega
  simp only [A9]
  rw [h1,cond_false,show Vh all k x0 i y=some p from he]
  exact List.mem_cons_self
 | x0::xs,k,j+1,x,hx,bX,hm,hb,he=>by
  have e:k+(j+1)=k+1+j:=by omega
  have:=Qv (b:=b) (p:=p) xs (k+1) j x (by simpa using hx) (show k+1+j < i by omega) hm (by rw [← e]; exact hb) (by rw [← e]; exact he)
  simp only [A9]
  cases (Nat.ble i k||!EM P cfg all x0 y||o3 b i k) with
  | true=>exact this
  | false=>
   rw [cond_false]
   split
   ·exact List.mem_cons_of_mem _ this
   ·exact this
theorem Nd {cfg:eN} {all:List Oper} {b:List Nat} {p:Option Operand×Operand} : ∀ (os:List Oper) (k i:Nat) (y:Oper),os[i]? = some y→p∈A9 P cfg all b (k+i) y all 0→p∈Ti P cfg all b os k
 | [],k,i,y,hy,_=>by simp at hy
 | o::os,k,0,y,hy,h=>by
  simp at hy
  subst hy
  exact List.mem_append_left _ h
 | o::os,k,i+1,y,hy,h=>by
  refine List.mem_append_right _ (Nd os (k+1) i y (by simpa using hy) ?_)
  rwa [show k+1+i=k+(i+1) by omega]
structure Nf (P:Program) (cfg:eN) (all:List Oper):Prop where
 Tv:qd P all
 kind:∀ o∈all,dC (bV P cfg o.op)≤3
 ord:∀ i j x y,all[i]? = some y→all[j]? = some x→j < i→EM P cfg all x y=true→o3 (eI [] all) i j=true∨(sj P cfg all x y=false∧∃ p,Vh all j x i y=some p∧p∈EN P cfg all)
 plain:∀ p,p∈EN P cfg all→Ow P cfg all=true
theorem aeI {cfg:eN} {all:List Oper} (h:aei P cfg all=true):Nf P cfg all:=by
 unfold aei at h
 simp only [Bool.and_eq_true] at h
 refine ⟨BF h.1.1.1,fun o ho=>Nat.le_of_ble_eq_true (List.all_eq_true.1 h.1.1.2 o ho),fun i j x y hy hx bX hm=>?_,fun p hp=>?_⟩
 ·have:=Kp all 0 h.1.2 i y hy
  rw [Nat.zero_add] at this
  have:=Qu all 0 this j x hx (by omega) hm
  rw [Nat.zero_add] at this
  cases hb:o3 (eI [] all) i j with
  | true=>exact .inl rfl
  | false=>
   rcases this with h1 | ⟨h1,h2⟩
   ·rw [hb] at h1; simp at h1
   ·obtain ⟨p,hp⟩:=Option.isSome_iff_exists.1 h2
    refine .inr ⟨h1,p,hp,Nd all 0 i y hy ?_⟩
    rw [Nat.zero_add]
    exact Qv all 0 j x hx (by omega) hm (by rw [Nat.zero_add]; exact hb) (by rw [Nat.zero_add]; exact hp)
 ·have h2:=h.2
  simp only [Bool.or_eq_true] at h2
  rcases h2 with h2 | h2
  ·rw [List.isEmpty_iff] at h2
   rw [h2] at hp
   simp at hp
  ·exact h2
structure YW (P:Program) (cfg:eN) (all:List Oper):Prop where
 Tv:qd P all
 BA:∀ {i j:Nat} {x y:Oper},all[i]? = some y→all[j]? = some x→j < i→sj P cfg all x y=true→o3 (eI [] all) i j=true
theorem Nf.toT {cfg:eN} {all:List Oper} (hf:Nf P cfg all):YW P cfg all:=⟨hf.Tv,fun {i j x y} hy hx bX hc=>by
 rcases hf.ord i j x y hy hx bX (by unfold EM; rw [hc]; rfl) with h | ⟨h,_⟩
 ·exact h
 ·rw [hc] at h; simp at h⟩
def Qw (P:Program) (cfg:eN) (all:List Oper) (i:Nat):Prop:=∀ j q,all[j]? = some q→Nat.ble 3 (dC (bV P cfg q.op))=true→(j < i→o3 (eI [] all) i j=true)∧(i < j→o3 (eI [] all) j i=true)
theorem yF {x y:Oper} {p:Option Operand×Operand} (h:HD x y=some p):(∃ T,y.op = .load T p.2)∧((p.1=none∧LR x.op=true)∨∃ T a v,p.1=some a∧x.op = .store T a v):=by
 unfold HD at h
 split at h
 ·rename_i a ha
  have hl:∃ T,y.op = .load T a:=by
   unfold ag8 at ha
   split at ha
   ·rename_i T a' e; simp at ha; subst ha; exact ⟨T,e⟩
   ·simp at ha
  cases hs:LR x.op with
  | true=>
   rw [hs,cond_true] at h
   simp at h
   subst h
   exact ⟨hl,.inl ⟨rfl,rfl⟩⟩
  | false=>
   rw [hs,cond_false] at h
   split at h
   ·rename_i a2 XV
    simp at h
    subst h
    refine ⟨hl,.inr ?_⟩
    unfold Qh at XV
    split at XV
    ·rename_i T a3 v e; simp at XV; subst XV; exact ⟨T,_,v,rfl,e⟩
    ·simp at XV
   ·simp at h
 ·simp at h
theorem YX {all:List Oper} {i j:Nat} {x y:Oper} {p:Option Operand×Operand} (h:Vh all j x i y=some p) :
  (HD x y=some p∧uj i p.2 all 0=true∧HC j p.1 all=true)∨(HD y x=some p∧uj j p.2 all 0=true∧HC i p.1 all=true):=by
 unfold Vh at h
 split at h
 ·rename_i q hq
  cases hb:(uj i q.2 all 0&&HC j q.1 all) with
  | false=>rw [hb] at h; simp at h
  | true=>
   rw [hb,cond_true] at h
   simp at h
   subst h
   simp only [Bool.and_eq_true] at hb
   exact .inl ⟨hq,hb.1,hb.2⟩
 ·split at h
  ·rename_i q hq
   cases hb:(uj j q.2 all 0&&HC i q.1 all) with
   | false=>rw [hb] at h; simp at h
   | true=>
    rw [hb,cond_true] at h
    simp at h
    subst h
    simp only [Bool.and_eq_true] at hb
    exact .inr ⟨hq,hb.1,hb.2⟩
  ·simp at h
theorem C5 {cfg:eN} {o:Oper} {T:TypeId} {a:Operand} (h:o.op = .load T a):dC (bV P cfg o.op)=1:=by rw [h]; rfl
theorem unordered {cfg:eN} {all:List Oper} (hf:Nf P cfg all) {i j:Nat} {o q:Oper} (ho:all[i]? = some o) (hq:all[j]? = some q) (hk:dC (bV P cfg o.op)≠0) (h3:Nat.ble 3 (dC (bV P cfg q.op))=true) :
  ((j < i→o3 (eI [] all) i j=true)∧(i < j→o3 (eI [] all) j i=true))∨∃ p,p∈EN P cfg all∧HD q o=some p∧uj i p.2 all 0=true∧HC j p.1 all=true:=by
 have vO:Nat.beq (dC (bV P cfg o.op)) 0=false:=by
  cases hb:Nat.beq (dC (bV P cfg o.op)) 0 with
  | false=>rfl
  | true=>exact absurd (Nat.eq_of_beq_eq_true hb) hk
 have hnl:∀ T a,q.op≠.load T a:=fun T a e=>by rw [C5 e] at h3; simp at h3
 rcases Nat.lt_trichotomy j i with h | h | h
 ·rcases hf.ord i j q o ho hq h (by unfold EM; rw [h3,vO]; simp) with h1 | ⟨_,p,h1,h2⟩
  ·exact .inl ⟨fun _=>h1,fun h'=>by omega⟩
  ·rcases YX h1 with ⟨e1,e2,e3⟩ | ⟨e1,e2,e3⟩
   ·exact .inr ⟨p,h2,e1,e2,e3⟩
   ·obtain ⟨⟨T,e⟩,_⟩:=yF e1
    exact absurd e (hnl _ _)
 ·exact .inl ⟨fun h'=>by omega,fun h'=>by omega⟩
 ·rcases hf.ord j i o q hq ho h (by unfold EM; rw [h3,vO]; simp) with h1 | ⟨_,p,h1,h2⟩
  ·exact .inl ⟨fun h'=>by omega,fun _=>h1⟩
  ·rcases YX h1 with ⟨e1,e2,e3⟩ | ⟨e1,e2,e3⟩
   ·obtain ⟨⟨T,e⟩,_⟩:=yF e1
    exact absurd e (hnl _ _)
   ·exact .inr ⟨p,h2,e1,e2,e3⟩
theorem Kq {cfg:eN} {all:List Oper} (hf:Nf P cfg all) {i:Nat} {o:Oper} (ho:all[i]? = some o) (hk:dC (bV P cfg o.op)≠0) (hn:∀ T a,o.op≠.load T a):Qw P cfg all i:=fun j q hq h3=>by
 rcases unordered hf ho hq hk h3 with h | ⟨p,_,h,_⟩
 ·exact h
 ·obtain ⟨⟨T,e⟩,_⟩:=yF h
  exact absurd e (hn _ _)
theorem Ab {cfg:eN} {o:Oper} (h:dC (bV P cfg o.op)≤3):∀ f args,bV P cfg o.op≠.call f args:=by
 intro f args e
 rw [e] at h
 simp [dC] at h
theorem yG {d:Tmp} {l:List Tmp} (h:d∈l):JY (some d) l=true:=by
 simp only [JY,List.any_eq_true]
 exact ⟨d,h,by simp⟩
theorem kH {x:Tmp} : ∀ {xs:List Operand},Operand.tmp x∈xs→x∈qb xs
 | [],h=>by simp at h
 | y::ys,h=>by
  rcases List.mem_cons.1 h with h | h
  ·subst h; simp [qb]
  ·have:=kH h
   cases y <;> simp [qb,this]
section
variable {cfg:eN} {all:List Oper} {L:List Out} {t0:bA} {A0:az}
theorem YY (hf:YW P cfg all) {S:Nat→Bool} (hc:pA all S) {i:Nat} {o:Oper} (ho:all[i]? = some o) (oP:S i=false) (sa:s8 all S i) {y:Tmp} (hy:y∈mN P cfg all o) :
  (iY S all L 0 t0).get y=(iY (fun j=>Nat.blt j i) all L 0 t0).get y:=by
 refine lN rfl fun j q hq hd=>?_
 rw [Nat.zero_add]
 rcases Nat.lt_trichotomy j i with h | h | h
 ·have:o3 (eI [] all) i j=true:=hf.BA ho hq h (by
   unfold sj
   rw [hd,yG hy]
   rfl)
  rw [hc.ready hf.Tv ho sa j this]
  symm; rw [Nat.blt_eq]; exact h
 ·subst h
  rw [oP]
  symm
  cases hb:Nat.blt j j with
  | false=>rfl
  | true=>rw [Nat.blt_eq] at hb; omega
 ·have hb:o3 (eI [] all) j i=true:=hf.BA hq ho h (by
   unfold sj
   rw [hd,yG hy]
   simp)
  have:S j=false:=by
   cases hs:S j with
   | false=>rfl
   | true=>have:=hc j i hs hb; rw [oP] at this; simp at this
  rw [this]
  symm
  cases hbb:Nat.blt j i with
  | false=>rfl
  | true=>rw [Nat.blt_eq] at hbb; omega
theorem Qx (hf:Nf P cfg all) {S:Nat→Bool} (hc:pA all S) {i:Nat} {o:Oper} (ho:all[i]? = some o) (oP:S i=false) (sa:s8 all S i) (iX:Qw P cfg all i) :
  mS P cfg S all L 0 A0=mS P cfg (fun j=>Nat.blt j i) all L 0 A0:=by
 refine D6 fun j q x hq hx ht=>?_
 rw [Nat.zero_add]
 have h3:Nat.ble 3 (dC (bV P cfg q.op))=true:=by unfold turns at ht; simp only [Bool.and_eq_true] at ht; exact ht.2
 rcases Nat.lt_trichotomy j i with h | h | h
 ·have:o3 (eI [] all) i j=true:=(iX j q hq h3).1 h
  rw [hc.ready hf.Tv ho sa j this]
  symm; rw [Nat.blt_eq]; exact h
 ·subst h
  rw [oP]
  symm
  cases hb:Nat.blt j j with
  | false=>rfl
  | true=>rw [Nat.blt_eq] at hb; omega
 ·have hb:o3 (eI [] all) j i=true:=(iX j q hq h3).2 h
  have:S j=false:=by
   cases hs:S j with
   | false=>rfl
   | true=>have:=hc j i hs hb; rw [oP] at this; simp at this
  rw [this]
  symm
  cases hbb:Nat.blt j i with
  | false=>rfl
  | true=>rw [Nat.blt_eq] at hbb; omega
theorem Ga (hf:YW P cfg all) {S:Nat→Bool} (hc:pA all S) {i:Nat} {o:Oper} {x:Out} (ho:all[i]? = some o) (hx:L[i]? = some x) (oP:S i=false) (y:Tmp) :
  (iY (cW S i) all L 0 t0).get y=(o6 (iY S all L 0 t0) o.dst x.2.1).get y:=by
 rw [rC]
 by_cases hd:o.dst=some y
 ·rw [if_pos hd]
  have:=YU (S:=S) (y:=y) (os:=all) (L:=L) (k:=0) (i:=i) (t:=t0) ho hx hd (fun j q hq YV bX=>by
   rw [Nat.zero_add]
   have hb:o3 (eI [] all) j i=true:=hf.BA hq ho bX (by
    unfold sj
    rw [YV,hd]
    simp [PL])
   cases hs:S j with
   | false=>rfl
   | true=>have:=hc j i hs hb; rw [oP] at this; simp at this)
  rw [Nat.zero_add] at this
  exact this
 ·rw [if_neg hd]
  refine lN rfl fun j q hq YV=>?_
  rw [Nat.zero_add]
  have dT:j≠i:=by
   intro e
   subst e
   rw [ho] at hq
   simp at hq
   subst hq
   exact hd YV
  unfold cW
  have:Nat.beq j i=false:=by
   cases hb:Nat.beq j i with
   | false=>rfl
   | true=>exact absurd (Nat.eq_of_beq_eq_true hb) dT
  rw [this,Bool.or_false]
theorem wU {S:Nat→Bool} {i:Nat} {o:Oper} {x:Out} (ho:all[i]? = some o) (hx:L[i]? = some x) (ht:turns P cfg o x=false):mS P cfg (cW S i) all L 0 A0=mS P cfg S all L 0 A0:=by
 refine D6 fun j q y hq hy hty=>?_
 rw [Nat.zero_add]
 have dT:j≠i:=by
  intro e
  subst e
  rw [ho] at hq; rw [hx] at hy
  simp at hq hy
  subst hq hy
  rw [ht] at hty; simp at hty
 unfold cW
 have:Nat.beq j i=false:=by
  cases hb:Nat.beq j i with
  | false=>rfl
  | true=>exact absurd (Nat.eq_of_beq_eq_true hb) dT
 rw [this,Bool.or_false]
theorem aeJ {i:Nat} {o:Oper} {x:Out} (ho:all[i]? = some o) (hx:L[i]? = some x) (ht:turns P cfg o x=true):mS P cfg (fun j=>Nat.blt j (i+1)) all L 0 A0=x.2.2:=by
 have key:∀ (os:List Oper) (L:List Out) (k i:Nat) (A:az) (o:Oper) (x:Out),os[i]? = some o→L[i]? = some x→turns P cfg o x=true→mS P cfg (fun j=>Nat.blt j (k+i+1)) os L k A=x.2.2:=by
  intro os
  induction os with
  | nil=>intro L k i A o x ho; simp at ho
  | cons q os ih=>
   intro L k i A o x ho hx ht
   cases L with
   | nil=>simp at hx
   | cons u L=>
    simp only [mS]
    have bX:Nat.blt k (k+i+1)=true:=by rw [Nat.blt_eq]; omega
    rw [bX,Bool.true_and]
    cases i with
    | zero=>
     simp at ho hx
     subst ho hx
     rw [ht,cond_true]
     have:∀ (os:List Oper) (L:List Out) (m:Nat) (A:az),k+1≤m→mS P cfg (fun j=>Nat.blt j (k+0+1)) os L m A=A:=by
      intro os
      induction os with
      | nil=>intro L m A _; cases L <;> rfl
      | cons q os ih=>
       intro L m A hm
       cases L with
       | nil=>rfl
       | cons u L=>
        simp only [mS]
        have:Nat.blt m (k+0+1)=false:=by
         cases hb:Nat.blt m (k+0+1) with
         | false=>rfl
         | true=>rw [Nat.blt_eq] at hb; omega
        rw [this,Bool.false_and,cond_false]
        exact ih L _ A (by omega)
     exact this os L (k+1) _ (Nat.le_refl _)
    | succ i=>
     have:=ih L (k+1) i (cond (turns P cfg q u) u.2.2 A) o x (by simpa using ho) (by simpa using hx) ht
     rwa [show k+1+i+1=k+(i+1)+1 by omega] at this
 have:=key all L 0 i A0 o x ho hx ht
 rwa [Nat.zero_add] at this
theorem agr (hf:Nf P cfg all) {S:Nat→Bool} (hc:pA all S) {i:Nat} {o:Oper} {x:Out} (ho:all[i]? = some o) (hx:L[i]? = some x) (oP:S i=false) (sa:s8 all S i) (ht:turns P cfg o x=true) :
  mS P cfg (cW S i) all L 0 A0=x.2.2:=by
 have h3:Nat.ble 3 (dC (bV P cfg o.op))=true:=by unfold turns at ht; simp only [Bool.and_eq_true] at ht; exact ht.2
 have hk:dC (bV P cfg o.op)≠0:=by have:=Nat.le_of_ble_eq_true h3; omega
 have h1:mS P cfg (cW S i) all L 0 A0=mS P cfg (fun j=>Nat.blt j (i+1)) all L 0 A0:=by
  refine D6 fun j q y hq hy hty=>?_
  rw [Nat.zero_add]
  have hq3:Nat.ble 3 (dC (bV P cfg q.op))=true:=by unfold turns at hty; simp only [Bool.and_eq_true] at hty; exact hty.2
  have iX:Qw P cfg all i:=Kq hf ho hk fun T a e=>by rw [C5 e] at h3; simp at h3
  rcases Nat.lt_trichotomy j i with h | h | h
  ·have:o3 (eI [] all) i j=true:=(iX j q hq hq3).1 h
   have:=hc.ready hf.Tv ho sa j this
   unfold cW
   rw [this,Bool.true_or]
   symm; rw [Nat.blt_eq]; omega
  ·subst h
   have:cW S j j=true:=by simp [cW]
   rw [this]
   symm; rw [Nat.blt_eq]; omega
  ·have hb:o3 (eI [] all) j i=true:=(iX j q hq hq3).2 h
   have:S j=false:=by
    cases hs:S j with
    | false=>rfl
    | true=>have:=hc j i hs hb; rw [oP] at this; simp at this
   unfold cW
   have dT:Nat.beq j i=false:=by
    cases hb:Nat.beq j i with
    | false=>rfl
    | true=>have:=Nat.eq_of_beq_eq_true hb; omega
   rw [this,dT]
   symm
   cases hbb:Nat.blt j (i+1) with
   | false=>rfl
   | true=>rw [Nat.blt_eq] at hbb; omega
 rw [h1]
 exact aeJ ho hx ht
end
theorem aa4 {all:List Oper} {o:Oper} {j:Nat} {want:Bool} {d:Tmp} (hg:o.guard=some (j,want)) (hd:(all[j]?).bind (·.dst)=some d):d∈Cy all o:=by
 unfold Cy
 rw [hg]
 simp [hd]
theorem Bd {all:List Oper} {o:Oper} {t t1:bA} {wd:Bool} {N:Nat} {ρ:aW} {a:Act} (ht:kS P E ρ t N a) (hl:∀ y∈Cy all o,t1.get y=t.get y) (h:HY all o t1 wd):Region.wanted o (yielded ⟨all⟩ a.tmps)=wd:=by
 rcases h with ⟨hg,rfl⟩ | ⟨j,want,d,hg,hd,h⟩
 ·unfold Region.wanted
  rw [hg]
 ·have EI:=hl d (aa4 hg hd)
  have wC:=ht.val d
  unfold Region.wanted
  rw [hg]
  simp only
  unfold yielded
  have e:(⟨all⟩:Array Oper)[j]? = all[j]?:=by simp
  rw [e,hd]
  simp only [Option.bind_some]
  rcases h with ⟨b,h1,rfl⟩ | ⟨l,h1,rfl⟩
  ·rw [← EI,h1] at wC
   have hcv:=wC.gd
   cases hc:a.tmps[d]? with
   | none=>simp [Array.getD_eq_getD_getElem?,hc,undef] at hcv
   | some u=>
    have:u = .bool b:=by rw [← hcv]; simp [Array.getD_eq_getD_getElem?,hc]
    subst this
    rfl
  ·rw [← EI,h1] at wC
   obtain ⟨u,h2,h3⟩:=wC
   obtain ⟨m,rfl,_⟩:=h2.Kd
   obtain ⟨m',h4,_⟩:=h3.Oj
   cases hc:a.tmps[d]? with
   | none=>rfl
   | some u=>
    have:u = .tuple m':=by rw [← h4]; simp [Array.getD_eq_getD_getElem?,hc]
    subst this
    rfl
theorem Kr {t t1:bA} {N:Nat} {ρ:aW} {a:Act} (ht:kS P E ρ t N a) {x:Operand} (h:∀ y,x = .tmp y→t1.get y=t.get y):VC P E ρ (kL t1 x) (a.eval x):=by
 have:=ht.ev x
 cases x with
 | tmp y=>simp only [kL] at this ⊢; rw [h y rfl]; exact this
 | const v=>exact this
 | global g=>exact this
 | func f=>exact this
theorem aeK {cfg:eN} {o:Oper} {t:bA} {A A1 A' : az} {v:KV} (h:a5 (tt (bV P cfg o.op) t A) (v,A1)) (hk:dC (bV P cfg o.op)=0):a5 (tt (bV P cfg o.op) t A') (v,A'):=by
 generalize bV P cfg o.op=ins at h hk
 cases ins with
 | pure f xs=>obtain ⟨u,h1,h2⟩:=a5.map h; simp at h2; obtain ⟨rfl,_⟩:=h2; exact h1.yE
 | read f xs=>simp [dC] at hk
 | act f xs=>simp [dC] at hk
 | look f xs=>obtain ⟨u,h1,h2⟩:=a5.map h; simp at h2; obtain ⟨rfl,_⟩:=h2; exact h1.yE
 | zW g f xs=>obtain ⟨u,h1,h2⟩:=a5.map h; simp at h2; obtain ⟨rfl,_⟩:=h2; exact h1.yE
 | CW g f xs=>simp [dC] at hk
 | call f xs=>exact h.elim
 | bad=>exact h.elim
theorem OD {cfg:eN} {S:Nat→Bool} (h:∀ i,S i=false):∀ {os:List Oper} {L:List Out} {k:Nat} {A:az},mS P cfg S os L k A=A
 | [],L,k,A=>by cases L <;> rfl
 | o::os,[],k,A=>rfl
 | o::os,x::L,k,A=>by simp only [mS]; rw [h,Bool.false_and,cond_false]; exact OD h
theorem HZ {S:Nat→Bool} (h:∀ i,S i=false):∀ {os:List Oper} {L:List Out} {k:Nat} {t:bA},iY S os L k t=t
 | [],L,k,A=>by cases L <;> rfl
 | o::os,[],k,A=>rfl
 | o::os,x::L,k,A=>by simp only [iY]; rw [h,cond_false]; exact HZ h
theorem ajr {A:az} {o:jx} {b:Nat} (hb:b < A.next) (cs:List KV) (e:Nat):A.get b=some (.row cs e)↔(A.new o).get b=some (.row cs e):=by
 rw [az.dt,if_neg (by omega)]
theorem Ks {A:az} {o:jx} {b c:Nat} (h:b≠c∨((∀ cs e,A.get b≠some (.row cs e))∧∀ cs e,o≠.row cs e)) (cs:List KV) (e:Nat):A.get b=some (.row cs e)↔(A.put c o).get b=some (.row cs e):=by
 rw [az.ca]
 by_cases X2:b=c
 ·rw [if_pos X2]
  rcases h with h | ⟨h1,h2⟩
  ·exact absurd X2 h
  ·exact ⟨fun q=>absurd q (h1 _ _),fun q=>absurd (by simpa using q) (h2 cs e)⟩
 ·rw [if_neg X2]
def Ng (A A' : az):Prop:=A.next≤A'.next∧∀ b,b < A.next→∀ cs e,A.get b=some (.row cs e)↔A'.get b=some (.row cs e)
theorem CE {A:az} {o:jx} : Ng A (A.new o):=⟨by simp,fun _ hb cs e=>ajr hb cs e⟩
theorem LY {A:az} {c:Nat} {o o' : jx} (hc:A.get c=some o') (h' : ∀ cs e,o'≠.row cs e) (h:∀ cs e,o≠.row cs e):Ng A (A.put c o):=⟨by simp,fun b _ cs e=>by
 by_cases X2:b=c
 ·subst X2
  exact Ks (.inr ⟨fun cs e q=>by rw [hc] at q; simp at q; exact h' cs e q,h⟩) cs e
 ·exact Ks (.inl X2) cs e⟩
theorem Ng.trans {A B C:az} (h:Ng A B) (k:Ng B C):Ng A C:=⟨Nat.le_trans h.1 k.1,fun b hb cs e=>(h.2 b hb cs e).trans (k.2 b (Nat.lt_of_lt_of_le hb h.1) cs e)⟩
theorem H0 {e sz b n f m:Nat} {base new:List KV} {ab an:Nat→KV} {A A' : az} {v:KV} {more:Bool} (h:a5 (Qf e sz b n base ab A f m new an more) (v,A')):A' = A.put f (.bb (n+m) sz):=by
 obtain ⟨_,h⟩:=a5.lV h
 simp only [Prod.mk.injEq] at h
 exact h.2.symm
theorem Qy {e b n m:Nat} {base new:List KV} {ab an:Nat→KV} {A A' : az} {v:KV} {more:Bool} (h:a5 (Xr e b n base ab A m new an more) (v,A')):∃ o,A' = A.new (.arr o):=by
 obtain ⟨_,h⟩:=a5.lV h
 simp only [Prod.mk.injEq] at h
 exact ⟨_,h.2.symm⟩
theorem ac6 {e sz b:Nat} {A A' : az} {xs:List KV} {v:KV} (h:a5 (J8 e sz b A xs) (v,A')):Ng A A':=by
 unfold J8 at h
 split at h
 ·obtain ⟨_,h⟩:=a5.cond h
  rw [H0 h]
  exact CE.trans (LY (o':=.bb 0 sz) (by simp) (by simp) (by simp))
 ·obtain ⟨_,h⟩:=a5.cond h
  rw [H0 h]
  exact CE.trans (LY (o':=.bb 0 sz) (by simp) (by simp) (by simp))
 ·split at h
  ·rename_i hf
   obtain ⟨_,h⟩:=a5.cond h
   rw [H0 h]
   exact LY hf (by simp) (by simp)
  ·exact h.elim
 ·exact h.elim
theorem Nh {e b:Nat} {A A' : az} {xs:List KV} {v:KV} (h:a5 (CB e b A xs) (v,A')):Ng A A':=by
 unfold CB at h
 split at h
 ·obtain ⟨_,h⟩:=a5.cond h
  obtain ⟨o,rfl⟩:=Qy h
  exact CE
 ·split at h
  ·rename_i hf
   obtain ⟨_,h⟩:=a5.cond h
   obtain ⟨o,rfl⟩:=Qy h
   exact (LY hf (by simp) (by simp)).trans CE
  ·exact h.elim
 ·exact h.elim
theorem aa5 {e sz b:Nat} {mt:Bool} {A A' : az} {xs:List KV} {v:KV} (h:a5 (FQ e sz b mt A xs) (v,A')):Ng A A':=by
 unfold FQ at h
 split at h
 ·split at h
  ·rename_i y' _
   revert h
   cases ajb _ with
   | true=>exact fun h=>Nh h
   | false=>
    cases mt with
    | true=>exact fun h=>Nh h
    | false=>exact fun h=>ac6 h
  ·exact h.elim
 ·exact h.elim
theorem aib {c:Bool} {i:qe} {t:bA} {A:az} {x:KV×az} (h:a5 (tt (cond c i .bad) t A) x):a5 (tt i t A) x:=by
 cases c with
 | true=>exact h
 | false=>exact h.elim
theorem YZ {cfg:eN} {o:Oper} {t:bA} {A A' : az} {v:KV} (hs:LR o.op=true) (h:a5 (tt (bV P cfg o.op) t A) (v,A')):Ng A A':=by
 revert hs h
 cases hop:o.op <;> intro hs h <;> simp [LR] at hs
 ·rename_i T
  have h:a5 (tt (oQ P T) t A) (v,A'):=h
  unfold oQ at h
  split at h
  ·rename_i z _
   cases hb:(flat z&&z.cells.toList.all scalar&&ij (gS z).cells) with
   | false=>rw [hb] at h; exact h.elim
   | true=>
    rw [hb,cond_true] at h
    have h:(KV.ptr A.next 0,A.new (.row (gS z).cells (nq P T)))=(v,A'):=h
    simp only [Prod.mk.injEq] at h
    rw [← h.2]
    exact CE
  ·exact h.elim
 ·rename_i T x
  have h:a5 (zC (nq P T) A [kL t x]) (v,A'):=h
  unfold zC at h
  simp only at h
  obtain ⟨_,h⟩:=a5.cond h
  have h:(KV.ptr A.next 0,A.new (.row (kL t x).cells (nq P T)))=(v,A'):=h
  simp only [Prod.mk.injEq] at h
  rw [← h.2]
  exact CE
 ·rename_i c
  split at hs
  ·rename_i hc
   have h:a5 (tt (lL P cfg c) t A) (v,A'):=h
   unfold lL at h
   rw [hc] at h
   simp only [yA] at h
   unfold DU at h
   split at h
   ·split at h
    ·split at h
     ·split at h
      ·exact aa5 (aib h)
      ·exact h.elim
     ·exact h.elim
    ·exact h.elim
   ·exact h.elim
  ·simp at hs
theorem Vu {cfg:eN} {o:Oper} {T:TypeId} {a x:Operand} {t:bA} {A A' : az} {v:KV} (ho:o.op = .store T a x) (h:a5 (tt (bV P cfg o.op) t A) (v,A')) :
  A'.next=A.next∧∀ b,((∃ b2 off,kL t a = .ptr b2 off∧b≠b2)∨∃ U Tc c i k,kL t a = .ap U Tc c i k)→∀ cs e,A.get b=some (.row cs e)↔A'.get b=some (.row cs e):=by
 rw [ho] at h
 have h:a5 (Qd P T A [kL t a,kL t x]) (v,A'):=h
 unfold Qd at h
 split at h
 ·rename_i c off w heq
  simp only [List.cons.injEq,and_true] at heq
  obtain ⟨_,h⟩:=a5.cond h
  split at h
  ·split at h
   ·have h:(qU,_)=(v,A'):=h
    simp only [Prod.mk.injEq] at h
    rw [← h.2]
    refine ⟨rfl,fun b hb cs e=>Ks (.inl ?_) cs e⟩
    rcases hb with ⟨b2,ajo,h1,h2⟩ | ⟨U,Tc,c',i,k,h1⟩
    ·rw [heq.1] at h1; simp at h1; rw [h1.1]; exact h2
    ·rw [heq.1] at h1; simp at h1
   ·exact h.elim
  ·exact h.elim
 ·rename_i U Tc c i k w heq
  split at h
  ·rename_i hA
   obtain ⟨_,h⟩:=a5.cond h
   split at h
   ·have h:(qU,_)=(v,A'):=h
    simp only [Prod.mk.injEq] at h
    rw [← h.2]
    refine ⟨rfl,fun b _ cs e=>?_⟩
    by_cases X2:b=c
    ·subst X2
     exact Ks (.inr ⟨fun cs e q=>by rw [hA] at q; simp at q,by simp⟩) cs e
    ·exact Ks (.inl X2) cs e
   ·exact h.elim
  ·exact h.elim
 ·exact h.elim
theorem OE {t:bA} {nx:Nat} : ∀ {l:List (Option Operand×Operand)},Ov t nx l=true→∀ p∈l,FT t nx p=true
 | [],_,p,hp=>by simp at hp
 | q::l,h,p,hp=>by
  have h:Bool.rec (motive:=fun _=>Bool) false (Ov t nx l) (FT t nx q)=true:=h
  cases hq:FT t nx q with
  | false=>rw [hq] at h; simp at h
  | true=>
   rw [hq] at h
   rcases List.mem_cons.1 hp with rfl | hp
   ·exact hq
   ·exact OE h p hp
theorem Vv {i:Nat} {x:Tmp} : ∀ (os:List Oper) (k:Nat),uj i (.tmp x) os k=true→∀ j o,os[j]? = some o→i≤k+j→o.dst≠some x
 | [],k,_,j,o,ho,_=>by simp at ho
 | q::os,k,h,0,o,ho,hle=>by
  simp at ho
  subst ho
  simp only [uj,Bool.and_eq_true,Bool.or_eq_true,Bool.not_eq_true'] at h
  rcases h.1 with h1 | h1
  ·rw [Nat.blt_eq] at h1; omega
  ·intro e
   rw [e,yG (by simp [qb])] at h1
   simp at h1
 | q::os,k,h,j+1,o,ho,hle=>by
  simp only [uj,Bool.and_eq_true] at h
  exact Vv os (k+1) h.2 j o (by simpa using ho) (by omega)
section
variable {cfg:eN} {all:List Oper} {L:List Out} {t0:bA} {A0:az}
theorem ac7 {tn t1:bA} {i:Nat} {x:Operand} (Ms:∀ y,tn.get y=(iY (fun _=>true) all L 0 t0).get y) (vR:∀ y,t1.get y=(iY (fun j=>Nat.blt j i) all L 0 t0).get y) (h:uj i x all 0=true):kL tn x=kL t1 x:=by
 cases x with
 | tmp y=>
  simp only [kL]
  rw [Ms y,vR y,lN (S':=fun j=>Nat.blt j i) rfl fun j o ho hd=>?_]
  rw [Nat.zero_add]
  symm
  rw [Nat.blt_eq]
  refine Nat.lt_of_not_le fun hle=>?_
  exact Vv all 0 h j o ho (by omega) hd
 | const v=>rfl
 | global g=>rfl
 | func f=>rfl
theorem aeL (j:Nat):(∃ q x,all[j]? = some q∧L[j]? = some x∧turns P cfg q x=true∧mS P cfg (fun k=>Nat.blt k (j+1)) all L 0 A0=x.2.2)∨
  ((∀ q x,all[j]? = some q→L[j]? = some x→turns P cfg q x=false)∧mS P cfg (fun k=>Nat.blt k (j+1)) all L 0 A0=mS P cfg (fun k=>Nat.blt k j) all L 0 A0):=by
 by_cases h:∃ q x,all[j]? = some q∧L[j]? = some x∧turns P cfg q x=true
 ·obtain ⟨q,x,h1,h2,h3⟩:=h
  refine .inl ⟨q,x,h1,h2,h3,?_⟩
  have:=aeJ (A0:=A0) h1 h2 h3
  exact this
 ·have hn:∀ q x,all[j]? = some q→L[j]? = some x→turns P cfg q x=false:=fun q x h1 h2=>by
   cases ht:turns P cfg q x with
   | false=>rfl
   | true=>exact absurd ⟨q,x,h1,h2,ht⟩ h
  refine .inr ⟨hn,D6 fun k q x hq hx ht=>?_⟩
  rw [Nat.zero_add]
  have dT:k≠j:=fun e=>by subst e; rw [hn q x hq hx] at ht; simp at ht
  cases hb:Nat.blt k j with
  | true=>rw [Nat.blt_eq] at hb ⊢; omega
  | false=>
   cases rl:Nat.blt k (j+1) with
   | false=>rfl
   | true=>
    rw [Nat.blt_eq] at rl
    have : ¬ k < j:=fun h=>by rw [← Nat.blt_eq,hb] at h; simp at h
    omega
theorem Vw (hf:Nf P cfg all) {S:Nat→Bool} (hc:pA all S):∀ n,∃ m,m≤n∧∀ j q x,j < n→all[j]? = some q→L[j]? = some x→turns P cfg q x=true→S j=Nat.blt j m
 | 0=>⟨0,Nat.le_refl 0,fun j q x hj=>by omega⟩
 | n+1=>by
  obtain ⟨m,hm,h⟩:=Vw hf hc n
  by_cases hn:∃ q x,all[n]? = some q∧L[n]? = some x∧turns P cfg q x=true∧S n=true
  ·obtain ⟨q,x,h1,h2,h3,h4⟩:=hn
   have hq3:Nat.ble 3 (dC (bV P cfg q.op))=true:=by unfold turns at h3; simp only [Bool.and_eq_true] at h3; exact h3.2
   have hk:dC (bV P cfg q.op)≠0:=by have:=Nat.le_of_ble_eq_true hq3; omega
   have iX:=Kq hf h1 hk fun T a e=>by rw [C5 e] at hq3; simp at hq3
   refine ⟨n+1,Nat.le_refl _,fun j q' x' hj h5 h6 h7=>?_⟩
   have hb:Nat.blt j (n+1)=true:=by rw [Nat.blt_eq]; exact hj
   rw [hb]
   by_cases hjn:j=n
   ·subst hjn; exact h4
   ·have amy:Nat.ble 3 (dC (bV P cfg q'.op))=true:=by unfold turns at h7; simp only [Bool.and_eq_true] at h7; exact h7.2
    exact hc n j h4 ((iX j q' h5 amy).1 (by omega))
  ·refine ⟨m,by omega,fun j q x hj h5 h6 h7=>?_⟩
   by_cases hjn:j=n
   ·subst hjn
    have hb:Nat.blt j m=false:=by
     cases hb:Nat.blt j m with
     | false=>rfl
     | true=>rw [Nat.blt_eq] at hb; omega
    rw [hb]
    cases hs:S j with
    | false=>rfl
    | true=>exact absurd ⟨q,x,h5,h6,h7,hs⟩ hn
   ·exact h j q x (by omega) h5 h6 h7
theorem aic (hf:Nf P cfg all) {S:Nat→Bool} (hc:pA all S):∃ m,(∀ j q x,all[j]? = some q→L[j]? = some x→turns P cfg q x=true→S j=Nat.blt j m)∧mS P cfg S all L 0 A0=mS P cfg (fun j=>Nat.blt j m) all L 0 A0:=by
 obtain ⟨m,_,h⟩:=Vw (L:=L) hf hc all.length
 have h' : ∀ j q x,all[j]? = some q→L[j]? = some x→turns P cfg q x=true→S j=Nat.blt j m:=fun j q x h1 h2 h3=>h j q x (List.getElem?_eq_some_iff.1 h1).1 h1 h2 h3
 exact ⟨m,h',D6 fun j q x h1 h2 h3=>by rw [Nat.zero_add]; exact h' j q x h1 h2 h3⟩
def AtK (P:Program) (cfg:eN) (all:List Oper) (L:List Out) (t0:bA) (A0:az):Prop:=∀ i o x,all[i]? = some o→L[i]? = some x→∃ t1,(∀ y,t1.get y=(iY (fun j=>Nat.blt j i) all L 0 t0).get y)∧(x.1=true→a5 (tt (bV P cfg o.op) t1 (mS P cfg (fun j=>Nat.blt j i) all L 0 A0)) (x.2.1,x.2.2))
theorem aeM (yq:AtK P cfg all L t0 A0) (hpl:Ow P cfg all=true):∀ j,A0.next≤(mS P cfg (fun k=>Nat.blt k j) all L 0 A0).next
 | 0=>by rw [OD (fun i=>by
   cases hb:Nat.blt i 0 with
   | false=>rfl
   | true=>rw [Nat.blt_eq] at hb; omega)]; exact Nat.le_refl _
 | j+1=>by
  have ih:=aeM yq hpl j
  rcases aeL (P:=P) (cfg:=cfg) (all:=all) (L:=L) (A0:=A0) j with ⟨q,x,h1,h2,h3,h4⟩ | ⟨_,h4⟩
  ·rw [h4]
   obtain ⟨t1,_,hg⟩:=yq j q x h1 h2
   unfold turns at h3
   simp only [Bool.and_eq_true] at h3
   have hg:=hg h3.1
   have hp:=List.all_eq_true.1 hpl q (List.mem_of_getElem? h1)
   simp only [Bool.or_eq_true,h3.2,Bool.not_true,Bool.false_eq_true,false_or] at hp
   rcases hp with hp | hp
   ·exact Nat.le_trans ih (YZ hp hg).1
   ·obtain ⟨a2,XV⟩:=Option.isSome_iff_exists.1 hp
    unfold Qh at XV
    split at XV
    ·rename_i T a3 v e
     rw [(Vu e hg).1]; exact ih
    ·simp at XV
  ·rw [h4]; exact ih
theorem aeN (hf:Nf P cfg all) {S:Nat→Bool} (hc:pA all S) {i:Nat} {o:Oper} {T:TypeId} {a:Operand} (ho:all[i]? = some o) (BD:o.op = .load T a) (oP:S i=false) (sa:s8 all S i) (hns : ¬ Qw P cfg all i)
  (yq:AtK P cfg all L t0 A0) {tn:bA} (Ms:∀ y,tn.get y=(iY (fun _=>true) all L 0 t0).get y) (ahr:Ov tn A0.next (EN P cfg all)=true)
  {t1:bA} (vR:∀ y,t1.get y=(iY (fun j=>Nat.blt j i) all L 0 t0).get y) {v:KV} {A1:az} (hg:a5 (tt (bV P cfg o.op) t1 (mS P cfg (fun j=>Nat.blt j i) all L 0 A0)) (v,A1)) :
  a5 (tt (bV P cfg o.op) t1 (mS P cfg S all L 0 A0)) (v,mS P cfg S all L 0 A0):=by
 have hk:dC (bV P cfg o.op)≠0:=by rw [C5 BD]; simp
 have hex:∃ p,p∈EN P cfg all∧p.2=a∧uj i a all 0=true:=by
  refine Classical.byContradiction fun dT=>hns fun j q hq h3=>?_
  rcases unordered hf ho hq hk h3 with h | ⟨p,h1,h2,h3,_⟩
  ·exact h
  ·obtain ⟨⟨T',e⟩,_⟩:=yF h2
   rw [BD] at e
   simp only [Op.load.injEq] at e
   exact absurd ⟨p,h1,e.2.symm,by rw [e.2]; exact h3⟩ dT
 obtain ⟨p,hp,hpa,hnd⟩:=hex
 have wC:=ac7 Ms vR hnd
 have hpd:=OE ahr p hp
 have hpl:=hf.plain p hp
 rw [BD] at hg ⊢
 have amz:∀ A,tt (bV P cfg (.load T a)) t1 A=(Td P T A [kL t1 a]).map fun v=>(v,A):=fun _=>rfl
 rw [amz] at hg ⊢
 obtain ⟨u,YK,he⟩:=a5.map hg
 simp only [Prod.mk.injEq] at he
 obtain ⟨rfl,_⟩:=he
 clear hg
 have hg:=YK
 clear YK
 refine a5.yE (f:=fun v=>(v,mS P cfg S all L 0 A0)) ?_
 unfold FT at hpd
 rw [hpa,wC] at hpd
 cases hv:kL t1 a with
 | tp U Tc m k es acc=>rw [hv] at hg; exact hg
 | ptr b off=>
  rw [hv] at hg hpd
  simp only [Bool.and_eq_true] at hpd
  have hb:=hpd.1
  rw [Nat.blt_eq] at hb
  have jD:∃ cs e,(mS P cfg (fun j=>Nat.blt j i) all L 0 A0).get b=some (.row cs e):=by
   have hg:a5 (match PF P T,size? P T with
    | some ag,some n=>match (K.rowAt (mS P cfg (fun j=>Nat.blt j i) all L 0 A0) b).bind fun cs=>uh n (zX off cs) with
     | some l=>cond ag (.ok (.agg l)) (match l with | [v]=>.ok v | _=>.no)
     | none=>.no
    | _,_=>.no) u:=hg
   split at hg
   ·split at hg
    ·rename_i l hl
     obtain ⟨cs,h1,_⟩:=Option.bind_eq_some_iff.1 hl
     unfold K.rowAt at h1
     split at h1
     ·rename_i b8 e h2; exact ⟨b8,e,h2⟩
     ·simp at h1
    ·exact hg.elim
   ·exact hg.elim
  obtain ⟨cs,e,jD⟩:=jD
  obtain ⟨m,hm,iX⟩:=aic (L:=L) (A0:=A0) hf hc
  have step:∀ k,(∀ q x,all[k]? = some q→L[k]? = some x→turns P cfg q x=true→¬ ((k < i→o3 (eI [] all) i k=true)∧(i < k→o3 (eI [] all) k i=true)))→
    ((mS P cfg (fun j=>Nat.blt j k) all L 0 A0).get b=some (.row cs e)↔(mS P cfg (fun j=>Nat.blt j (k+1)) all L 0 A0).get b=some (.row cs e)):=by
   intro k hno
   rcases aeL (P:=P) (cfg:=cfg) (all:=all) (L:=L) (A0:=A0) k with ⟨q,x,h1,h2,h3,h4⟩ | ⟨_,h4⟩
   ·rw [h4]
    have h3':=h3
    unfold turns at h3'
    simp only [Bool.and_eq_true] at h3'
    rcases unordered hf ho h1 hk h3'.2 with h5 | ⟨p',h5,h6,h7,h8⟩
    ·exact absurd h5 (hno q x h1 h2 h3)
    ·obtain ⟨tk,htk,hgk⟩:=yq k q x h1 h2
     have hgk:=hgk h3'.1
     obtain ⟨⟨T',e1⟩,e2⟩:=yF h6
     rw [BD] at e1
     simp only [Op.load.injEq] at e1
     have aeO:=OE ahr p' h5
     unfold FT at aeO
     rw [← e1.2,wC,hv] at aeO
     simp only [Bool.and_eq_true] at aeO
     rcases e2 with ⟨e2,e3⟩ | ⟨U,a2,v2,e2,e3⟩
     ·exact (YZ e3 hgk).2 b (Nat.lt_of_lt_of_le hb (aeM yq hpl k)) cs e
     ·refine (Vu e3 hgk).2 b ?_ cs e
      rw [e2] at aeO h8
      have Oh:=ac7 Ms htk h8
      have h9:=aeO.2
      simp only at h9
      rw [Oh] at h9
      split at h9
      ·rename_i b2 ajo e4
       refine .inl ⟨b2,ajo,e4,fun e5=>?_⟩
       subst e5
       simp at h9
      ·rename_i U' Tc' c' i' k' e4; exact .inr ⟨_,_,_,_,_,e4⟩
      ·simp at h9
   ·rw [h4]
  have alT:(mS P cfg S all L 0 A0).get b=some (.row cs e):=by
   rw [iX]
   rcases Nat.le_total m i with hle | hle
   ·have down:∀ d k,k+d=i→m≤k→(mS P cfg (fun j=>Nat.blt j k) all L 0 A0).get b=some (.row cs e):=by
     intro d
     induction d with
     | zero=>intro k hk _; have:k=i:=by omega
             rw [this]; exact jD
     | succ d ih=>
      intro k hk Wb
      refine (step k fun q x h1 h2 h3 Gb=>?_).2 (ih (k+1) (by omega) (by omega))
      have h4:=hm k q x h1 h2 h3
      have h5:S k=true:=hc.ready hf.Tv ho sa k (Gb.1 (by omega))
      rw [h5] at h4
      have h4:=h4.symm
      rw [Nat.blt_eq] at h4
      omega
    exact down (i - m) m (by omega) (Nat.le_refl m)
   ·have up:∀ d,i+d≤m→(mS P cfg (fun j=>Nat.blt j (i+d)) all L 0 A0).get b=some (.row cs e):=by
     intro d
     induction d with
     | zero=>intro _; exact jD
     | succ d ih=>
      intro hd
      refine (step (i+d) fun q x h1 h2 h3 Gb=>?_).1 (ih (by omega))
      have h4:=hm (i+d) q x h1 h2 h3
      have h5:Nat.blt (i+d) m=true:=by rw [Nat.blt_eq]; omega
      rw [h5] at h4
      by_cases hd0:d=0
      ·subst hd0
       rw [Nat.add_zero] at h4
       rw [oP] at h4; simp at h4
      ·have:=hc (i+d) i h4 (Gb.2 (by omega))
       rw [oP] at this; simp at this
    have:=up (m - i) (by omega)
    rwa [show i+(m - i)=m by omega] at this
  have EI:K.rowAt (mS P cfg S all L 0 A0) b=K.rowAt (mS P cfg (fun j=>Nat.blt j i) all L 0 A0) b:=by
   unfold K.rowAt
   rw [jD,alT]
  show a5 (match PF P T,size? P T with
    | some ag,some n=>match (K.rowAt (mS P cfg S all L 0 A0) b).bind fun cs=>uh n (zX off cs) with
     | some l=>cond ag (.ok (.agg l)) (match l with | [v]=>.ok v | _=>.no)
     | none=>.no
    | _,_=>.no) u
  rw [EI]
  exact hg
 | _=>rw [hv] at hpd; simp at hpd
end
theorem aa6 {R:Type} {cfg:eN} {bx:mV R} (iu:qN P cfg.pc) (hm:P.follows .mixedOrders=true) {id:Nat} {all:List Oper} {N base:Nat} (hdN:all.all (EF N)=true) {k:bA→az→Option R} {r:R} {t:bA} {A:az} {B:St} {ρ:aW} {a:Act} {w:World} {Q:Exit→Act→World→Prop}
  (Gb:aei P cfg all=true) (h:rY P cfg bx all (fun t' A'=>Bool.rec (motive:=fun _=>Option R) none (k t' A') (Ov t' A.next (EN P cfg all))) all t A=some r) (ht:kS P E ρ t N a) (hj:KJ P E A B ρ base w)
  (hq:∀ t' E' A' B' aY a' w',k t' A' = some r→kS P E' aY t' N a'→a'.defers=a.defers→Ev P base E A B ρ w E' A' B' aY w'→Q .normal a' w'):(Code.region id ⟨all⟩ true).wp P Q a w:=by
 have hf:=aeI Gb
 obtain ⟨L,tn,An,mD,hk⟩:=Qt (fun o ho f args=>Ab (hf.kind o ho) f args) h
 obtain ⟨hlen,Ms,hAn,yq⟩:=mD.at
 have hdk:Ov tn A.next (EN P cfg all)=true∧k tn An=some r:=by
  cases hd:Ov tn A.next (EN P cfg all) with
  | false=>simp only [hd] at hk; exact absurd hk (by simp)
  | true=>simp only [hd] at hk; exact ⟨rfl,hk⟩
 obtain ⟨ahr,hk⟩:=hdk
 have amA:AtK P cfg all L t A:=fun i o x ho hx=>by obtain ⟨t1,q1,_,q3,_⟩:=yq i o x ho hx; exact ⟨t1,q1,q3⟩
 have Kt:Ev P base E A B ρ w E A B ρ w.drew:=(ee.refl hj.k).ev (lW.drew hj.s)
 refine wp_region_any hm ?_
 show wpAny P .any ⟨all⟩ Q all.length (Array.replicate all.length false) a w.drew
 have BI:∀ i,(Array.replicate all.length false).getD i false=false:=by
  intro i
  rw [Array.getD_eq_getD_getElem?,Array.getElem?_replicate]
  split <;> rfl
 let Inv:(Nat→Bool)→Act→World→Prop:=fun S a' w'=>∃ E' B' aY,a'.defers=a.defers∧Ev P base E A B ρ w.drew E' (mS P cfg S all L 0 A) B' aY w'∧kS P E' aY (iY S all L 0 t) N a'
 refine Ce hf.Tv Inv ?_ ?_ ?_ all.length _ a w.drew (by simp) ?_ (fun i j hi _=>by
   have h2:(Array.replicate all.length false).getD i false=true:=hi
   rw [BI] at h2; simp at h2) ⟨E,B,ρ,rfl,?_,?_⟩
 ·
  rintro S S' a' w' hSS ⟨E',B',aY,h1,h2,h3⟩
  have e1:mS P cfg S all L 0 A=mS P cfg S' all L 0 A:=D6 fun i o x ho _ _=>by rw [Nat.zero_add]; exact hSS i (List.getElem?_eq_some_iff.1 ho).1
  refine ⟨E',B',aY,h1,by rw [← e1]; exact h2,h3.same fun y=>?_⟩
  exact lN rfl fun i o ho _=>by rw [Nat.zero_add]; exact (hSS i (List.getElem?_eq_some_iff.1 ho).1).symm
 ·
  rintro S a' w' i o ⟨E',B',aY,h1,h2,h3⟩ hc ho oP sa _
  have hi:i < L.length:=by rw [hlen]; exact (List.getElem?_eq_some_iff.1 ho).1
  have hx:L[i]? = some L[i]:=List.getElem?_eq_getElem hi
  obtain ⟨t1,vR,hw,aeP,hno⟩:=yq i o L[i] ho hx
  have Ac:∀ y∈mN P cfg all o,t1.get y=(iY S all L 0 t).get y:=fun y hy=>by rw [vR y,YY hf.toT hc ho oP sa hy]
  have H2:=Bd h3 (fun y hy=>Ac y (by unfold mN; exact List.mem_append_left _ hy)) hw
  have C4:∀ d,o.dst=some d→d < N:=by
   intro d ed
   have:=List.all_eq_true.1 hdN o (List.mem_of_getElem? ho)
   unfold EF at this
   rw [ed] at this
   simp only at this
   rw [Nat.blt_eq] at this
   exact this
  have hoA:(⟨all⟩:Array Oper)[i]? = some o:=by simpa using ho
  unfold wpOp
  rw [hoA]
  simp only [H2]
  cases Ck:L[i].1 with
  | false=>
   simp only [Bool.false_eq_true,if_false]
   have hv:=hno Ck
   refine ⟨E',B',aY,by rw [put_defers]; exact h1,?_,?_⟩
   ·rw [wU ho hx (by unfold turns; rw [Ck]; rfl)]
    exact h2
   ·refine (h3.put C4 VC.undef).same fun y=>?_
    rw [Ga hf.toT hc ho hx oP y,hv]
  | true=>
   simp only [if_true]
   refine .inl ?_
   have hg:=aeP Ck
   have hgS:∃ A1,a5 (tt (bV P cfg o.op) t1 (mS P cfg S all L 0 A)) (L[i].2.1,A1)∧mS P cfg (cW S i) all L 0 A=A1:=by
    by_cases DE:dC (bV P cfg o.op)=0
    ·refine ⟨_,aeK hg DE,wU ho hx ?_⟩
     unfold turns
     rw [DE,show Nat.ble 3 0=false from rfl,Bool.and_false]
    ·by_cases iX:Qw P cfg all i
     ·rw [Qx (L:=L) (A0:=A) hf hc ho oP sa iX]
      refine ⟨_,hg,?_⟩
      cases Ms:turns P cfg o L[i] with
      | true=>exact agr hf hc ho hx oP sa Ms
      | false=>
       have h4:=Aa hg (by simpa [turns,Ck] using Ms)
       rw [wU ho hx Ms,Qx (L:=L) (A0:=A) hf hc ho oP sa iX,h4]
     ·have hex:∃ T a,o.op = .load T a:=Classical.byContradiction fun dT=>iX (Kq hf ho DE fun T a e=>dT ⟨T,a,e⟩)
      obtain ⟨T,a',BD⟩:=hex
      refine ⟨_,aeN hf hc ho BD oP sa iX amA Ms ahr vR hg,wU ho hx ?_⟩
      unfold turns
      rw [C5 BD,show Nat.ble 3 1=false from rfl,Bool.and_false]
   obtain ⟨A1,hg1,hA1⟩:=hgS
   refine HV iu hg1 (fun x hxm=>Kr h3 fun y e=>Ac y ?_) h2.kj fun F9 HW ue v' FE h4 h5=>?_
   ·unfold mN
    subst e
    exact List.mem_append_right _ (kH hxm)
   ·refine ⟨F9,HW,ue,by rw [put_defers]; exact h1,?_,?_⟩
    ·rw [hA1]; exact h2.trans h5
    ·refine ((h3.mono h5.le (h5.fL.le h2.fL.jv)).put C4 h4).same fun y=>?_
     rw [Ga hf.toT hc ho hx oP y]
 ·
  rintro S a' w' o4 ⟨E',B',aY,h1,h2,h3⟩
  have e1:mS P cfg S all L 0 A=An:=by rw [hAn]; exact D6 fun i o x ho _ _=>by rw [Nat.zero_add]; exact o4 i (List.getElem?_eq_some_iff.1 ho).1
  rw [e1] at h2
  refine hq tn E' An B' aY a' w' hk (h3.same fun y=>?_) h1 (Kt.trans h2)
  rw [Ms y]
  exact lN rfl fun i o ho _=>by rw [Nat.zero_add]; exact (o4 i (List.getElem?_eq_some_iff.1 ho).1).symm
 ·simp
 ·rw [OD BI]
  exact .refl hj.k Kt.fL.jv
 ·refine ht.same fun y=>?_
  rw [HZ BI]
end Go.K
end
