/- Part of the proof of ImageLeaves: a machine that runs the program's code over open terms, shown to be the model's, and the plain models of its functions. No conditions. -/
import Derived.Test.YtahhdndhkgbcjaaDp
section
namespace Go.K
open Go Go.aE
variable {P:Program} {E:Env}
theorem ee.alA {A A1:ax} {B:St} {T:TypeId} {acc:Nat→KV} (h:fK P E A B) (sK:A1.next=A.next) (Im:∀ c o,A1.get c=some o→A.get c=some o∨(o = .dead∧c < A.next)) (fv:1≤bd P T) :
  ee P E A B E (A1.new (.arr (.ts T .any 0 [] acc))) B:=by
 have ajU:E.α A.next=none:=by
  cases hq:E.α A.next with
  | none=>rfl
  | some p=>have:=h.ar.lQ _ p hq; omega
 have j7:∀ c o,(A1.new (.arr (.ts T .any 0 [] acc))).get c=some o→(c=A.next∧o = .arr (.ts T .any 0 [] acc))∨(o = .dead∧c < A.next)∨A.get c=some o:=fun c o hc=>by
  rw [ax.dr,sK] at hc
  split at hc
  ·rename_i e; simp at hc; exact .inl ⟨e,hc.symm⟩
  ·rcases Im c o hc with e | e
   ·exact .inr (.inr e)
   ·exact .inr (.inl e)
 have uL:∀ c v,(A1.new (.arr (.ts T .any 0 [] acc))).get c=some (.arr v)→E.α c=none∨A.get c=some (.arr v):=fun c v hc=>by
  rcases j7 c _ hc with ⟨e,_⟩ | ⟨e,_⟩ | e
  ·exact .inl (by rw [e]; exact ajU)
  ·simp at e
  ·exact .inr e
 have hA:∀ c v y L N,(A1.new (.arr (.ts T .any 0 [] acc))).get c=some (.arr v)→E.α c=some (y,L,N)→A.get c=some (.arr v):=fun c v y L N hc hy=>by
  rcases uL c v hc with e | e
  ·rw [e] at hy; simp at hy
  ·exact e
 have qT:∀ y,AR (A1.new (.arr (.ts T .any 0 [] acc))) E y→AR A E y:=fun y ⟨c,v,L,N,h1,h2⟩=>⟨c,v,L,N,hA c v _ _ _ h1 h2,h2⟩
 have Fo:∀ g,AF (A1.new (.arr (.ts T .any 0 [] acc))) E B g→AF A E B g:=fun g ⟨c,v,x,L,N,cs,e,own,k,h1,h2,h3⟩=>⟨c,v,x,L,N,cs,e,own,k,hA c v _ _ _ h1 h2,h2,h3⟩
 refine ⟨⟨fun c cs bU hc=>?_,fun c top sz hc=>?_,h.z,h.apart,h.inj,?_,fun b x e=>by rw [ax.cr,sK]; have:=h.lQ b x e; omega,fun b g e=>by rw [ax.cr,sK]; have:=h.nq b g e; omega,fun c o hc=>?_,h.hH,h.nD,h.kr,h.fresh,h.mem,?_⟩,Env.le_refl _,by rw [ax.cr,sK]; omega,fun _ _ _ _=>rfl,fun _ _ e=>.inl e,fun _ _ e=>.inl e,fun _ _ e=>.inl e,fun _ _ _ _=>rfl,fun x q=>.inl (qT x q),fun g q=>.inl (Fo g q),fun _ _ q=>.inl q,fun y q=>.inl (q.imp (qT y) fun ⟨g,q1,q2⟩=>⟨g,Fo g q1,q2⟩),nt fun _ _=>rfl⟩
 ·rcases j7 c _ hc with ⟨_,e⟩ | ⟨e,_⟩ | e
  ·simp at e
  ·simp at e
  ·exact h.row c cs bU e
 ·rcases j7 c _ hc with ⟨_,e⟩ | ⟨e,_⟩ | e
  ·simp at e
  ·simp at e
  ·exact h.bc c top sz e
 ·intro b c g tb sb tc sc hb hc e1 e2
  rcases j7 b _ hb with ⟨_,e⟩ | ⟨e,_⟩ | hb
  ·simp at e
  ·simp at e
  rcases j7 c _ hc with ⟨_,e⟩ | ⟨e,_⟩ | hc
  ·simp at e
  ·simp at e
  exact h.jP b c g _ _ _ _ hb hc e1 e2
 ·rw [ax.cr,sK]
  rcases j7 c _ hc with ⟨e,_⟩ | ⟨_,e⟩ | e
  ·omega
  ·omega
  ·have:=h.live c o e; omega
 ·refine ⟨fun c v hc=>?_,fun c v hc=>?_,fun x q=>h.ar.z x (qT x q),fun b c v u x L N L' N' h1 h2 h3 h4=>h.ar.inj b c v u x L N L' N' (hA b v _ _ _ h1 h3) (hA c u _ _ _ h2 h4) h3 h4,fun b c v u x y L N L' N' cs e own g k b8 e' pk k' h1 h2 h3 h4=>h.ar.tN b c v u x y L N L' N' cs e own g k b8 e' pk k' (hA b v _ _ _ h1 h3) (hA c u _ _ _ h2 h4) h3 h4,h.ar.YW,fun b p e=>by rw [ax.cr,sK]; have:=h.ar.lQ b p e; omega,h.ar.hH,fun b v x L N cs e own g k h1 h2 h3=>?_,fun c v hc=>?_⟩
  ·rcases j7 c _ hc with ⟨e,e2⟩ | ⟨e,_⟩ | e
   ·simp at e2
    subst e2
    exact ⟨T,0,[],acc,rfl,⟨rfl,fun i hi=>by omega,rfl⟩,fv,.inl ⟨rfl,by rw [e]; exact ajU⟩⟩
   ·simp at e
   ·exact h.ar.arr c v e
  ·rcases j7 c _ hc with ⟨_,e⟩ | ⟨e,_⟩ | e
   ·simp at e
   ·simp at e
   ·exact h.ar.jO c v e
  ·obtain ⟨q1,q2,q3⟩:=h.ar.sk b v x L N cs e own g k (hA b v _ _ _ h1 h2) h2 h3
   exact ⟨q1,q2,fun y hy dJ=>⟨(q3 y hy dJ).1,fun q=>(q3 y hy dJ).2.1 (qT y q),(q3 y hy dJ).2.2⟩⟩
  ·rw [ax.cr,sK]
   rcases j7 c _ hc with ⟨e,_⟩ | ⟨e,_⟩ | e
   ·rw [e]
    refine ⟨Nat.lt_succ_self _,?_⟩
    cases hk:E.κ A.next with
    | none=>rfl
    | some x=>have:=h.lQ _ x hk; omega
   ·simp at e
   ·obtain ⟨q1,q2⟩:=h.ar.nk c v e
    exact ⟨by omega,q2⟩
theorem afb {E:Env} {T:TypeId} {b x L N n c:Nat} (qn:E.α b=some (x,L,N)) (h1:n≤c) (h2:n≤N) (h3:c * bd P T=L):VK P E (.al T b 0 n) (.slice (some ⟨x,0,none⟩) n c):=
 .NH (.inr ⟨x,L,N,c,qn,by simp,h1,by omega,by rw [Nat.zero_add]; exact h3⟩)
theorem afc {T b n:Nat} {z:Value} (hn:bd P T=n) (h1n:1≤n) (hz:z.cells.size=n) (he:dv (bt P T) (K.gu (bt P T) (gS z))=true):aco P (TP T b (K.gu (bt P T) (gS z))) (Bi n b z):=by
 intro E A A' B vs us v h hv hg
 unfold TP at hg
 split at hg
 ·rename_i k l k' c
  obtain ⟨x,y,rfl,h1,h2⟩:=hv.ll
  have:=h1.dt; subst this
  have:=h2.dt; subst this
  obtain ⟨hc,hg⟩:=a5.mj hg
  simp only [Prod.mk.injEq] at hg
  obtain ⟨rfl,rfl⟩:=hg
  simp only [Bool.and_eq_true,decide_eq_true_eq] at hc
  obtain ⟨⟨h3,h4⟩,h5⟩:=hc
  obtain ⟨l',rfl⟩:=Int.eq_ofNat_of_zero_le h3
  obtain ⟨c',rfl⟩:=Int.eq_ofNat_of_zero_le (Int.le_trans h3 h4)
  have h6:Nat.ble l' c' = true:=Nat.ble_eq_true_of_le (by omega)
  have hs:∀ v∈List.replicate c' z,v.cells.size=n:=fun v hv=>by rw [List.eq_of_mem_replicate hv]; exact hz
  have hlen:(bG (List.replicate c' z)).length=c' * n:=by rw [jz hs,List.length_replicate]
  have Ir:∀ m,dV [K.gu (bt P T) (gS z)] m=List.replicate m (K.gu (bt P T) (gS z)):=fun m=>by
   induction m with
   | zero=>rfl
   | succ m ih=>simp [dV,ih,List.replicate_succ]
  have iX:=ee.Q5 (P:=P) (X:=fun _=>False) (G:=fun _=>False) (y2:=B.next) (N2:=c') (T:=T) (ph:=dV [K.gu (bt P T) (gS z)] c') (fW:=fun _=>K.gu (bt P T) (gS z)) (Cg:=List.replicate c' z) (lR:=bG (List.replicate c' z)) (rF:=none) (A1:=A) (B':=B.new (.row (bG (List.replicate c' z)) n true none)) h rfl (fun _ _ e=>.inl e) (fun _ _ _ _ _ _ _=>⟨id,fun _ _ _ _ _ _=>id⟩) (fun _ e=>e.elim) (fun _ e=>e.elim) (.inr (Nat.le_refl _)) (by simp) (by simp [hn]) (fun _ _ e=>by simp at e)
   (fun y hy _=>.inl (by rw [St.dr,if_neg (by omega)])) (fun _ e=>e.elim) (fun q y hy=>.inl (by simpa using hy)) (fun q _=>by simp) (by simp) (fun g hg=>by rw [St.lB]; exact h.fresh g (by rw [St.cr] at hg; omega)) (fun g y hy=>by rw [St.lB] at hy; rw [St.cr]; have:=h.mem g y hy; omega)
   (by omega) ⟨by rw [Ir]; simp,fun i hi=>by rw [Ir,List.getD_eq_getElem?_getD,List.getElem?_replicate,if_pos hi]; rfl,by
    rw [Ir]
    exact oP fun i x hx=>by rw [List.getElem?_replicate] at hx; split at hx <;> simp at hx; subst hx; exact he⟩ (by
    rw [Ir]
    generalize c' = m
    induction m with
    | zero=>exact .nil
    | succ m ih=>exact .cons (VK.gS z).gu ih) (by rw [hn]; exact m0 hs)
  refine ⟨.row (gq z.cells.toList c') n true none,fun k=>.slice (some ⟨k,0,none⟩) l' c',E.Cj A.next (B.next,(bG (List.replicate c' z)).length,c'),?_,?_,?_⟩
  ·have h5:Nat.ble (b * c') 281474976710656=true:=h5
   show cond (Nat.ble l' c'&&Nat.ble (b * c') 281474976710656) _ _=_
   rw [h6,h5]
   rfl
  ·exact afb Env.Ak (by omega) (by show l'≤c'; omega) (by rw [hn,hlen])
  ·rw [Cy]; exact iX
 ·exact hg.elim
theorem aiM {T b n:Nat} {z:Value} (hn:bd P T=n) (_:1≤n) (hz:z.cells.size=n) (he:dv (bt P T) (K.gu (bt P T) (gS z))=true):ajQ P (adp T b (K.gu (bt P T) (gS z))) (Bi n b z):=by
 intro E A B vs us v h hv hg
 unfold adp at hg
 split at hg
 ·rename_i k l k' c
  obtain ⟨x,y,rfl,h1,h2⟩:=hv.ll
  have:=h1.dt; subst this
  have:=h2.dt; subst this
  obtain ⟨hc,hg⟩:=a5.mj hg
  subst hg
  simp only [Bool.and_eq_true,decide_eq_true_eq] at hc
  obtain ⟨⟨h3,h4⟩,h5⟩:=hc
  obtain ⟨l',rfl⟩:=Int.eq_ofNat_of_zero_le h3
  obtain ⟨c',rfl⟩:=Int.eq_ofNat_of_zero_le (Int.le_trans h3 h4)
  have D6:l'≤c':=by omega
  have h6:Nat.ble l' c' = true:=Nat.ble_eq_true_of_le D6
  have hs:∀ v∈List.replicate c' z,v.cells.size=n:=fun v hv=>by rw [List.eq_of_mem_replicate hv]; exact hz
  have Ir:∀ m,dV [K.gu (bt P T) (gS z)] m=List.replicate m (K.gu (bt P T) (gS z)):=fun m=>by
   induction m with
   | zero=>rfl
   | succ m ih=>simp [dV,ih,List.replicate_succ]
  have zT:∀ m,bb P E (List.replicate m (K.gu (bt P T) (gS z))) (List.replicate m z):=fun m=>by
   induction m with
   | zero=>exact .nil
   | succ m ih=>exact .cons (VK.gS z).gu ih
  refine ⟨.row (gq z.cells.toList c') n true none,fun k=>.slice (some ⟨k,0,none⟩) l' c',E.gD B.next ⟨bG (List.replicate c' z),n,true,none⟩,?_,?_,?_⟩
  ·have h5:Nat.ble (b * c') 281474976710656=true:=h5
   show cond (Nat.ble l' c'&&Nat.ble (b * c') 281474976710656) _ _=_
   rw [h6,h5]
   rfl
  ·have agN:=(zT l').mono (ee.ahO (b8:=bG (List.replicate c' z)) (bU:=n) h).le
   simp only [VK]
   refine ⟨⟨by rw [Ir]; simp,fun i hi=>by rw [Ir,List.getD_eq_getElem?_getD,List.getElem?_replicate,if_pos hi]; rfl,by
    rw [Ir]
    exact oP fun i x hx=>by rw [List.getElem?_replicate] at hx; split at hx <;> simp at hx; subst hx; exact he⟩,List.replicate l' z,by rw [Ir]; exact agN,some ⟨B.next,0,none⟩,c',rfl,D6,.inr ⟨B.next,0,⟨bG (List.replicate c' z),n,true,none⟩,rfl,by simp [Env.gD],hn.symm,?_⟩,trivial⟩
   rw [hn]
   intro i x hx
   rw [List.getElem?_replicate] at hx
   split at hx
   ·rename_i hi
    refine m0 hs i x ?_
    rw [List.getElem?_replicate,if_pos (by have hi:i < l':=hi; omega)]
    exact hx
   ·simp at hx
  ·rw [Cy]; exact ee.ahO h
 ·exact hg.elim
theorem TZ {sz:Nat} {cs:List Value} {xs ys:List Value} (h:ou sz 0 cs xs) (k:ou sz (xs.length * sz) cs ys):ou sz 0 cs (xs++ys):=fun i x hi=>by
 by_cases bV:i < xs.length
 ·rw [List.getElem?_append_left bV] at hi; exact h i x hi
 ·rw [List.getElem?_append_right (by omega)] at hi
  obtain ⟨h1,h2⟩:=k _ x hi
  refine ⟨h1,fun j y hy=>?_⟩
  rw [← h2 j y hy]
  congr 1
  have:i * sz=xs.length * sz+(i - xs.length) * sz:=by rw [← Nat.add_mul]; congr 1; omega
  omega
theorem VU {sz o:Nat} {cs r news:List Value} (hs:∀ v∈news,v.cells.size=sz) (hw:ic (o * sz) cs (bG news)=some r):ou sz (o * sz) r news:=fun i x hi=>by
 have Gc:=m0 hs i x hi
 have hlen:=jz hs
 obtain ⟨_,_,h3⟩:=je hw
 refine ⟨Gc.1,fun k y hy=>?_⟩
 have h4:=Gc.2 k y hy
 rw [Nat.zero_add] at h4
 rw [h3,if_pos ⟨by omega,by have:=(List.getElem?_eq_some_iff.1 h4).1; omega⟩,← h4]
 congr 1
 omega
theorem Zm {sz o:Nat} {cs r vs es:List Value} (hl:ou sz 0 cs es) (ho:es.length≤o) (hw:ic (o * sz) cs vs=some r) (_:1≤sz):ou sz 0 r es:=fun i x hi=>by
 obtain ⟨h1,h2⟩:=hl i x hi
 obtain ⟨_,_,h3⟩:=je hw
 refine ⟨h1,fun k y hy=>?_⟩
 have hk:k < sz:=by have:=(Array.getElem?_eq_some_iff.1 hy).1; omega
 have OM:=(List.getElem?_eq_some_iff.1 hi).1
 have bV:0+i * sz+k < o * sz:=by
  have:(i+1) * sz≤o * sz:=Nat.mul_le_mul_right _ (by omega)
  rw [Nat.add_mul] at this
  omega
 rw [h3,if_neg (by omega)]
 exact h2 k y hy
theorem agV {A:ax} {B:St} {f:Nat} {o0:jA} (h:fK P E A B) (hA:A.get f=some o0):∀ c o,(A.put f .dead).get c=some o→A.get c=some o∨(o = .dead∧c < A.next):=fun c o hc=>by
 rw [ax.cd] at hc
 split at hc
 ·rename_i e; simp at hc; subst hc e; exact .inr ⟨rfl,h.live _ _ hA⟩
 ·exact .inl hc
theorem Q6 {B:St} {g k:Nat} {c:List Value} {n:Nat} (_:g≤B.next):(∀ x,(B.grow g k c n).get x=if x=B.next then some (.row c n true (some (g,k))) else B.get x)∧(∀ q,(B.grow g k c n).members q=if q=g then B.next::B.members g else B.members q)∧(B.grow g k c n).next=B.next+1:=
 ⟨fun x=>by simp [St.grow],fun q=>by simp [St.grow,St.AL],rfl⟩
theorem Zn {e b:Nat} {E:Env} {A A' : ax} {B:St} {x v:KV} {u w:Value} {e' : TypeId} {mk:Mk} {k:Nat} {new:List KV} {acc:Nat→KV} (tP:1≤bd P e) (h:fK P E A B) (h1:VK P E x u)
  (hsr:Nat.beq e e' = true→∃ bp,Src P E B e' k new acc w bp) (hg:a5 (CV e b A [x,.ts e' mk k new acc]) (v,A')):∃ r B' E',mw (bd P e) b B [u,w] = some (r,B')∧VK P E' v r∧ee P E A B E' A' B':=by
 have put:∀ (A1:ax) (m:Nat) (base:List KV) (ab:Nat→KV) (more:Bool) (A2:ax) (v:KV),a5 (XY e b m base ab A1 k new acc more) (v,A2)→
   (more=true∧Nat.ble ((m+k+512) * b) 17592186044416=true∧Nat.ble (m+k) 17592186044416=true)∧v = .al e A1.next 0 (m+k)∧A2=A1.new (.arr (.ts e .any (m+k) (base++new) (ff m ab acc))):=by
  intro A1 m base ab more A2 v hp
  obtain ⟨hc,hp⟩:=a5.mj hp
  simp only [ahI,Bool.and_eq_true] at hc
  simp only [Prod.mk.injEq] at hp
  exact ⟨⟨hc.1,hc.2.1,hc.2.2⟩,hp.1.symm,hp.2.symm⟩
 have nil:∀ (A1:ax) (base:List KV) (ab:Nat→KV),base = []→A1.next=A.next→(∀ c o,A1.get c=some o→A.get c=some o∨(o = .dead∧c < A.next))→(∃ bp,Src P E B e k new acc w bp)→Nat.ble ((0+k+512) * b) 17592186044416=true→Nat.ble (0+k) 17592186044416=true→
   ∃ r B' E',mw (bd P e) b B [.slice none 0 0,w] = some (r,B')∧VK P E' (.al e A.next 0 (0+k)) r∧ee P E A B E' (A1.new (.arr (.ts e .any (0+k) (base++new) (ff 0 ab acc)))) B':=by
  intro A1 base ab Zk WJ hr1 ⟨cL,kO⟩ Ac rG
  subst Zk
  have hj:jg P e (0+k) ([]++new) (ff 0 ab acc):=(jg.none (P:=P) (T:=e) (g:=ab)).join kO.tree
  cases k with
  | zero=>
   have ng:new = []:=List.length_eq_zero_iff.1 kO.tree.len.symm
   subst ng
   refine ⟨.slice none 0 0,B,E,?_,.NH (.inl ⟨rfl,rfl,rfl⟩),ee.alA h WJ hr1 tP⟩
   simp only [mw,kO.len,Option.bind_some,kO.all]
   rfl
  | succ k=>
   obtain ⟨g1,g2,g3⟩:=Q6 (B:=B) (g:=B.next) (k:=0) (c:=bG cL) (n:=bd P e) (Nat.le_refl _)
   have hlen:(bG cL).length=(k+1) * bd P e:=by rw [jz kO.size,kO.length]
   refine ⟨.slice (some ⟨B.next,0,none⟩) (k+1) (k+1),B.grow B.next 0 (bG cL) (bd P e),E.Cj A.next (B.next,(bG cL).length,0+(k+1)),?_,?_,?_⟩
   ·simp only [Nat.zero_add] at Ac rG
    simp only [mw,kO.len,Option.bind_some,Nat.zero_add]
    rw [show Nat.ble (k+1) 0=false from rfl,cond_false,Ac,rG,kO.all]
    rfl
   ·rw [Nat.zero_add]; exact afb Env.Ak (Nat.le_refl _) (by omega) (by rw [hlen])
   ·generalize B.grow B.next 0 (bG cL) (bd P e)=B' at g1 g2 g3
    exact ee.Q5 (X:=fun _=>False) (G:=fun _=>False) (y2:=B.next) (rF:=some (B.next,0)) h WJ hr1 (fun _ _ _ _ _ _ _=>⟨id,fun _ _ _ _ _ _=>id⟩) (fun _ e=>e.elim) (fun _ e=>e.elim) (.inr (Nat.le_refl _)) (by omega) (by rw [g1,if_pos rfl]) (fun g k e=>by simp at e; exact .inr (by omega))
     (fun y hy _=>.inl (by rw [g1,if_neg (by omega)])) (fun _ e=>e.elim) (fun q y hy=>by
      rw [g2] at hy
      split at hy
      ·rename_i e
       subst e
       rcases List.mem_cons.1 hy with hy | hy
       ·exact .inr ⟨hy,Nat.le_refl _,0,rfl⟩
       ·exact .inl hy
      ·exact .inl hy) (fun q hq=>by rw [g2,if_neg (fun e=>hq 0 (by rw [e]))]) (by omega) (fun g hg=>by rw [g2,if_neg (by omega)]; exact h.fresh g (by omega)) (fun g y hy=>by
      rw [g2] at hy
      split at hy
      ·rcases List.mem_cons.1 hy with hy | hy
       ·omega
       ·have:=h.mem _ y hy; omega
      ·have:=h.mem g y hy; omega) tP hj (by simpa using kO.rel) (m0 kO.size)
 unfold CV at hg
 split at hg
 ·rename_i e9 mk9 k9 ahV ahW heq
  simp only [List.cons.injEq,KV.ts.injEq,and_true] at heq
  obtain ⟨rfl,rfl,rfl,rfl,rfl,rfl⟩:=heq
  have:=h1.ob; subst this
  obtain ⟨he,Ik⟩:=hg.cond
  have kO:=hsr he
  have:=Nat.eq_of_beq_eq_true he
  subst this
  obtain ⟨⟨_,Ac,rG⟩,rfl,rfl⟩:=put _ _ _ _ _ _ _ Ik
  exact nil A [] ot rfl rfl (fun _ _ e=>.inl e) kO Ac rG
 ·rename_i e1 f o n e9 mk9 k9 ahV ahW heq
  simp only [List.cons.injEq,KV.ts.injEq,and_true] at heq
  obtain ⟨rfl,rfl,rfl,rfl,rfl,rfl⟩:=heq
  split at hg
  ·rename_i e2 mk2 N es ac hf
   obtain ⟨he,Ik⟩:=hg.cond
   simp only [Bool.and_eq_true] at he
   obtain ⟨cL,kO⟩:=hsr he.1.1
   have:=Nat.eq_of_beq_eq_true he.1.1
   subst this
   have:=Nat.eq_of_beq_eq_true he.1.2
   subst this
   have:=Nat.eq_of_beq_eq_true he.2
   subst this
   obtain ⟨⟨ho,Ac,rG⟩,rfl,rfl⟩:=put _ _ _ _ _ _ _ Ik
   have:=Nat.eq_of_beq_eq_true ho
   subst this
   have Im:=agV h hf
   rcases h1.vo with ⟨rfl,_,rfl⟩ | ⟨x,L,N0,c,h2,rfl,h3,h4,h5⟩
   ·exact nil (A.put f .dead) (es.take 0) ac (by simp) rfl Im ⟨cL,kO⟩ Ac rG
   ·obtain ⟨T2,N2,ph,fW,e2,ht,_,wb⟩:=h.ar.arr f _ hf
    simp only [KV.ts.injEq] at e2
    obtain ⟨rfl,rfl,rfl,rfl,rfl⟩:=e2
    rcases wb with ⟨_,e2⟩ | ⟨x2,cs,bP,bp,e2,h6,h7,h8⟩
    ·rw [h2] at e2; simp at e2
    rw [h2] at e2
    simp only [Option.some.injEq,Prod.mk.injEq] at e2
    obtain ⟨rfl,rfl,rfl⟩:=e2
    have qT:AR A E x:=⟨f,_,_,_,hf,h2⟩
    have hxlt:x < B.next:=h.Eo qT
    have agR:bp.length=N0:=by rw [h7.length]; exact ht.len.symm
    have hs:=oE ht.typed h7
    have htk:jg P e n (es.take n) ac:=⟨by rw [List.length_take,← ht.len]; omega,fun i hi=>by rw [ht.acc i (by omega),List.getD_eq_getElem?_getD,List.getD_eq_getElem?_getD,List.getElem?_take,if_pos hi],oP fun i x hi=>by
     rw [List.getElem?_take] at hi
     split at hi
     ·exact ku ht.typed hi
     ·simp at hi⟩
    have hj:=htk.join kO.tree
    have Kv:(bp.take n).length=n:=by rw [List.length_take]; omega
    have anf:∀ v∈bp.take n,v.cells.size=bd P e:=fun v hv=>(hs v (List.mem_of_mem_take hv)).1
    have zT:=(h7.take n).append kO.rel
    have h5:c * bd P e=cs.length:=by simpa using h5
    have pK:∀ c v,(A.put f .dead).get c=some (.arr v)→c≠f∧A.get c=some (.arr v):=fun c v hc=>by
     rw [ax.cd] at hc
     split at hc
     ·simp at hc
     ·rename_i e; exact ⟨e,hc⟩
    have hf1:∀ c v,(A.put f .dead).get c=some (.arr v)→∀ y L N,E.α c=some (y,L,N)→¬ (y=x)∧∀ oC e1 own g k1,B.get y=some (.row oC e1 own (some (g,k1)))→¬ (∃ k,bP=some (g,k)):=fun c v hc y L N hy=>by
     obtain ⟨dJ,hc⟩:=pK c v hc
     refine ⟨fun e=>dJ (h.ar.inj c f v _ x L N _ _ hc hf (by rw [← e]; exact hy) h2),fun oC e1 own g k1 hr ⟨k2,hk⟩=>?_⟩
     rw [hk] at h6
     exact dJ (h.ar.tN c f v _ y x L N _ _ _ _ _ g k1 _ _ _ k2 hc hf hy h2 hr h6)
    have hf3:∀ g,(∃ k,bP=some (g,k))→AF A E B g∧g < B.next∧(∀ f,E.φ f≠some g)∧∀ y∈B.members g,¬ (y=x)→E.z y=none∧¬ AR A E y∧∀ c,E.κ c≠some y:=fun g ⟨k2,hk⟩=>by
     rw [hk] at h6
     obtain ⟨q1,q2,q3⟩:=h.ar.sk f _ x _ _ _ _ _ g k2 hf h2 h6
     exact ⟨⟨f,_,x,_,_,_,_,_,k2,hf,h2,h6⟩,q1,q2,fun y hy dJ=>q3 y hy dJ⟩
    have alB:dk (⟨x,0 * bd P e,none⟩:Addr)=true:=rfl
    by_cases oM:n+k≤c
    ·
     have hle:n * bd P e+(bG cL).length≤cs.length:=by
      rw [jz kO.size,kO.length,← h5,← Nat.add_mul]
      exact Nat.mul_le_mul_right _ oM
     obtain ⟨lR,hw⟩:=yV (n * bd P e) cs (bG cL) hle
     have hcl:lR.length=cs.length:=(je hw).1
     have WM:(bG cL).all scalar=true:=List.all_eq_true.2 (AU fun v hv=>(oE kO.tree.typed kO.rel v hv).2)
     have hb:Nat.ble (n+k) c=true:=Nat.ble_eq_true_of_le oM
     refine ⟨.slice (some ⟨x,0 * bd P e,none⟩) (n+k) c,(B.put x (.row lR (bd P e) true bP)).eG x bP (n * bd P e) (n * bd P e+(bG cL).length),E.Cj A.next (x,lR.length,n+k),?_,?_,?_⟩
     ·simp only [mw,kO.len,Option.bind_some,hb,cond_true,kO.all,alB]
      simp only [St.xd,dk,Option.isNone_none,Bool.true_and,WM,cond_true,Nat.zero_mul,Nat.zero_add,h6,hw,Option.map_some]
     ·rw [Nat.zero_mul]; exact afb Env.Ak oM (Nat.le_refl _) (by rw [hcl]; exact h5)
     ·have jG:((B.put x (.row lR (bd P e) true bP)).eG x bP (n * bd P e) (n * bd P e+(bG cL).length)).get x=some (.row lR (bd P e) true bP):=by
       rcases CA (B:=B.put x (.row lR (bd P e) true bP)) (x:=x) (y:=x) (lo:=n * bd P e) (hi:=n * bd P e+(bG cL).length) (bP:=bP) with e | ⟨g,k,_,_,h3,_⟩
       ·rw [e]; simp
       ·exact absurd rfl h3
      have hgy:∀ y,y≠x→((B.put x (.row lR (bd P e) true bP)).eG x bP (n * bd P e) (n * bd P e+(bG cL).length)).get y=B.get y∨(((B.put x (.row lR (bd P e) true bP)).eG x bP (n * bd P e) (n * bd P e+(bG cL).length)).get y=some .dead∧∃ g,(∃ k,bP=some (g,k))∧y∈B.members g):=by
       intro y hy
       rcases CA (B:=B.put x (.row lR (bd P e) true bP)) (x:=x) (y:=y) (lo:=n * bd P e) (hi:=n * bd P e+(bG cL).length) (bP:=bP) with e | ⟨g,k,h1,h2,_,h4,_⟩
       ·exact .inl (by rw [e,St.cd,if_neg hy])
       ·exact .inr ⟨h4,g,⟨k,h1⟩,by simpa using h2⟩
      have lj:((B.put x (.row lR (bd P e) true bP)).eG x bP (n * bd P e) (n * bd P e+(bG cL).length)).members=B.members:=by rw [Gw]; simp
      have jf:((B.put x (.row lR (bd P e) true bP)).eG x bP (n * bd P e) (n * bd P e+(bG cL).length)).next=B.next:=by rw [NP]; simp
      generalize (B.put x (.row lR (bd P e) true bP)).eG x bP (n * bd P e) (n * bd P e+(bG cL).length)=B' at jG hgy lj jf
      have hli:ou (bd P e) 0 lR (bp.take n++cL):=TZ (Zm (h8.take n) (by omega) hw tP) (by rw [Kv]; exact VU kO.size hw)
      exact ee.Q5 (A1:=A.put f .dead) (X:=fun y=>y=x) (G:=fun g=>∃ k,bP=some (g,k)) (y2:=x) (rF:=bP) h rfl Im hf1 (fun y hy=>by rw [hy]; exact qT) hf3 (.inl rfl) (by omega) jG (fun g k hk=>.inl ⟨k,hk⟩)
       (fun y _ dJ=>hgy y dJ) (fun y hy oC e1 own Q0 hr=>by
        rw [hy,jG] at hr
        simp at hr
        obtain ⟨rfl,rfl,rfl,rfl⟩:=hr
        rw [hy]
        exact ⟨cs,h6,hcl.symm⟩) (fun q y hy=>.inl (by rw [lj] at hy; exact hy)) (fun q _=>by rw [lj]) (by omega) (fun g hg=>by rw [lj]; exact h.fresh g (by omega)) (fun g y hy=>by rw [lj] at hy; rw [jf]; exact h.mem g y hy) tP hj zT hli
    ·
     have hb:Nat.ble (n+k) c=false:=by
      cases hq:Nat.ble (n+k) c with
      | false=>rfl
      | true=>exact absurd (Nat.le_of_ble_eq_true hq) oM
     have hex:tz B (bd P e) c (some ⟨x,0 * bd P e,none⟩)=true:=by
      simp only [tz,h6]
      cases bP with
      | none=>simp [h5]
      | some p=>rfl
     have hold:B.v9 ⟨x,0 * bd P e,none⟩ (n * bd P e)=some (bG (bp.take n)):=by
      have:=Ip (B:=B) (b:=x) (off:=0) (n:=n) (sz:=bd P e) (r:=⟨cs,bd P e,true,bP⟩) (bp:=bp.take n) h6 (h8.take n) Kv tP
      simpa using this
     have agW:∀ v∈bp.take n++cL,v.cells.size=bd P e:=fun v hv=>by
      rcases List.mem_append.1 hv with hv | hv
      ·exact anf v hv
      ·exact kO.size v hv
     have hlen:(bG (bp.take n++cL)).length=(n+k) * bd P e:=by rw [jz agW,List.length_append,Kv,kO.length]
     cases bP with
     | none=>
      obtain ⟨g1,g2,g3⟩:=Q6 (B:=B) (g:=B.next) (k:=0) (c:=bG (bp.take n++cL)) (n:=bd P e) (Nat.le_refl _)
      refine ⟨.slice (some ⟨B.next,0,none⟩) (n+k) (n+k),B.grow B.next 0 (bG (bp.take n++cL)) (bd P e),E.Cj A.next (B.next,(bG (bp.take n++cL)).length,n+k),?_,?_,?_⟩
      ·simp only [mw,kO.len,Option.bind_some,hb,cond_false,Ac,rG,hex,Bool.and_self,cond_true,kO.all]
       simp only [C8,dk,Option.isNone_none,cond_true,hold,Option.bind_some,h6,Nat.beq_refl,← wR]
      ·exact afb Env.Ak (Nat.le_refl _) (Nat.le_refl _) (by rw [hlen])
      ·generalize B.grow B.next 0 (bG (bp.take n++cL)) (bd P e)=B' at g1 g2 g3
       exact ee.Q5 (A1:=A.put f .dead) (X:=fun _=>False) (G:=fun _=>False) (y2:=B.next) (rF:=some (B.next,0)) h rfl Im (fun _ _ _ _ _ _ _=>⟨id,fun _ _ _ _ _ _=>id⟩) (fun _ e=>e.elim) (fun _ e=>e.elim) (.inr (Nat.le_refl _)) (by omega) (by rw [g1,if_pos rfl]) (fun g k e=>by simp at e; exact .inr (by omega))
        (fun y hy _=>.inl (by rw [g1,if_neg (by omega)])) (fun _ e=>e.elim) (fun q y hy=>by
         rw [g2] at hy
         split at hy
         ·rename_i e
          subst e
          rcases List.mem_cons.1 hy with hy | hy
          ·exact .inr ⟨hy,Nat.le_refl _,0,rfl⟩
          ·exact .inl hy
         ·exact .inl hy) (fun q hq=>by rw [g2,if_neg (fun e=>hq 0 (by rw [e]))]) (by omega) (fun g hg=>by rw [g2,if_neg (by omega)]; exact h.fresh g (by omega)) (fun g y hy=>by
         rw [g2] at hy
         split at hy
         ·rcases List.mem_cons.1 hy with hy | hy
          ·omega
          ·have:=h.mem _ y hy; omega
         ·have:=h.mem g y hy; omega) tP hj zT (m0 agW)
     | some p=>
      obtain ⟨g,k0⟩:=p
      have hgB:g < B.next:=(hf3 g ⟨k0,rfl⟩).2.1
      have kg:∀ y,(B.kill B.next (k0+(0+n * bd P e)) (k0+(0+n * bd P e)+(bG cL).length) (B.members g)).get y=B.get y∨((B.kill B.next (k0+(0+n * bd P e)) (k0+(0+n * bd P e)+(bG cL).length) (B.members g)).get y=some .dead∧y∈B.members g):=fun y=>by
       rw [Aa]
       by_cases hc:y∈B.members g∧y≠B.next∧qR (B.get y) (k0+(0+n * bd P e)) (k0+(0+n * bd P e)+(bG cL).length)=true
       ·exact .inr ⟨by rw [if_pos hc],hc.1⟩
       ·exact .inl (by rw [if_neg hc])
      have km:(B.kill B.next (k0+(0+n * bd P e)) (k0+(0+n * bd P e)+(bG cL).length) (B.members g)).members=B.members:=by simp
      have kn:(B.kill B.next (k0+(0+n * bd P e)) (k0+(0+n * bd P e)+(bG cL).length) (B.members g)).next=B.next:=by simp
      obtain ⟨g1,g2,g3⟩:=Q6 (B:=B.kill B.next (k0+(0+n * bd P e)) (k0+(0+n * bd P e)+(bG cL).length) (B.members g)) (g:=g) (k:=k0+0) (c:=bG (bp.take n++cL)) (n:=bd P e) (by omega)
      rw [kn] at g3
      have g1:∀ y,y≠B.next→_:=fun y hy=>(g1 y).trans (if_neg (by rw [kn]; exact hy))
      have g1':=(Q6 (B:=B.kill B.next (k0+(0+n * bd P e)) (k0+(0+n * bd P e)+(bG cL).length) (B.members g)) (g:=g) (k:=k0+0) (c:=bG (bp.take n++cL)) (n:=bd P e) (by omega)).1 B.next
      rw [kn,if_pos rfl] at g1'
      simp only [km,kn] at g2
      refine ⟨.slice (some ⟨B.next,0,none⟩) (n+k) (n+k),(B.kill B.next (k0+(0+n * bd P e)) (k0+(0+n * bd P e)+(bG cL).length) (B.members g)).grow g (k0+0) (bG (bp.take n++cL)) (bd P e),E.Cj A.next (B.next,(bG (bp.take n++cL)).length,n+k),?_,?_,?_⟩
      ·simp only [mw,kO.len,Option.bind_some,hb,cond_false,Ac,rG,hex,Bool.and_self,cond_true,kO.all]
       have adC:=hold
       rw [Nat.zero_mul] at adC
       simp only [C8,dk,Option.isNone_none,cond_true,Nat.zero_mul,adC,Option.bind_some,h6,Nat.beq_refl,← wR]
      ·exact afb Env.Ak (Nat.le_refl _) (Nat.le_refl _) (by rw [hlen])
      ·generalize (B.kill B.next (k0+(0+n * bd P e)) (k0+(0+n * bd P e)+(bG cL).length) (B.members g)).grow g (k0+0) (bG (bp.take n++cL)) (bd P e)=B' at g1 g1' g2 g3
       have gy:∀ y,y≠B.next→B'.get y=B.get y∨(B'.get y=some .dead∧y∈B.members g):=fun y hy=>by
        rw [g1 y hy]; exact kg y
       exact ee.Q5 (A1:=A.put f .dead) (X:=fun y=>y=x) (G:=fun q=>∃ k,some (g,k0)=some (q,k)) (y2:=B.next) (rF:=some (g,k0+0)) h rfl Im hf1 (fun y hy=>by rw [hy]; exact qT) hf3 (.inr (Nat.le_refl _)) (by omega) g1' (fun q k e=>by simp at e; exact .inl ⟨k0,by rw [e.1]⟩)
        (fun y hy _=>(gy y (by omega)).imp id fun ⟨q1,q2⟩=>⟨q1,g,⟨k0,rfl⟩,q2⟩) (fun y hy oC e1 own Q0 hr=>by
         have hy:y=x:=hy
         rcases gy y (by omega) with q | ⟨q,_⟩
         ·rw [q] at hr; exact ⟨oC,hr,rfl⟩
         ·rw [q] at hr; simp at hr) (fun q y hy=>by
         rw [g2] at hy
         split at hy
         ·rename_i e
          subst e
          rcases List.mem_cons.1 hy with hy | hy
          ·exact .inr ⟨hy,Nat.le_refl _,k0+0,rfl⟩
          ·exact .inl hy
         ·exact .inl hy) (fun q hq=>by rw [g2,if_neg (fun e=>hq (k0+0) (by rw [e]))]) (by omega) (fun q hq=>by rw [g2,if_neg (by omega)]; exact h.fresh q (by omega)) (fun q y hy=>by
         rw [g2] at hy
         split at hy
         ·rcases List.mem_cons.1 hy with hy | hy
          ·omega
          ·have:=h.mem _ y hy; omega
         ·have:=h.mem q y hy; omega) tP hj zT (m0 agW)
  ·exact hg.elim
 ·exact hg.elim
theorem ee.amz {A:ax} {B:St} {b:Nat} {v2:KV} (h:fK P E A B) (hb:∃ v,A.get b=some (.arr v)) (b9:YV P E B b v2):ee P E A B E (A.put b (.arr v2)) B:=by
 obtain ⟨v0,hb⟩:=hb
 have j7:∀ c o,(A.put b (.arr v2)).get c=some o→(c=b∧o = .arr v2)∨A.get c=some o:=fun c o hc=>by
  rw [ax.cd] at hc
  split at hc
  ·rename_i e; simp at hc; exact .inl ⟨e,hc.symm⟩
  ·exact .inr hc
 have hA:∀ c v,(A.put b (.arr v2)).get c=some (.arr v)→∃ u,A.get c=some (.arr u):=fun c v hc=>by
  rcases j7 c _ hc with ⟨e,_⟩ | e
  ·exact ⟨v0,by rw [e]; exact hb⟩
  ·exact ⟨v,e⟩
 have qT:∀ y,AR (A.put b (.arr v2)) E y→AR A E y:=fun y ⟨c,v,L,N,h1,h2⟩=>by
  obtain ⟨u,hu⟩:=hA c v h1
  exact ⟨c,u,L,N,hu,h2⟩
 have Fo:∀ g,AF (A.put b (.arr v2)) E B g→AF A E B g:=fun g ⟨c,v,x,L,N,cs,e,own,k,h1,h2,h3⟩=>by
  obtain ⟨u,hu⟩:=hA c v h1
  exact ⟨c,u,x,L,N,cs,e,own,k,hu,h2,h3⟩
 refine ⟨⟨fun c cs bU hc=>?_,fun c top sz hc=>?_,h.z,h.apart,h.inj,?_,h.lQ,h.nq,fun c o hc=>?_,h.hH,h.nD,h.kr,h.fresh,h.mem,?_⟩,Env.le_refl _,Nat.le_refl _,fun _ _ _ _=>rfl,fun _ _ e=>.inl e,fun _ _ e=>.inl e,fun _ _ e=>.inl e,fun _ _ _ _=>rfl,fun x q=>.inl (qT x q),fun g q=>.inl (Fo g q),fun _ _ q=>.inl q,fun y q=>.inl (q.imp (qT y) fun ⟨g,q1,q2⟩=>⟨g,Fo g q1,q2⟩),nt fun _ _=>rfl⟩
 ·rcases j7 c _ hc with ⟨_,e⟩ | e
  ·simp at e
  ·exact h.row c cs bU e
 ·rcases j7 c _ hc with ⟨_,e⟩ | e
  ·simp at e
  ·exact h.bc c top sz e
 ·exact h.jP.put (.inl fun t s=>by simp)
 ·rw [ax.rE]
  rcases j7 c _ hc with ⟨e,_⟩ | e
  ·rw [e]; exact h.live b _ hb
  ·exact h.live c o e
 ·refine ⟨fun c v hc=>?_,fun c v hc=>?_,fun x q=>h.ar.z x (qT x q),fun c d v u x L N L' N' h1 h2 h3 h4=>?_,fun c d v u x y L N L' N' cs e own g k b8 e' pk k' h1 h2 h3 h4=>?_,h.ar.YW,h.ar.lQ,h.ar.hH,fun c v x L N cs e own g k h1 h2 h3=>?_,fun c v hc=>?_⟩
  ·rcases j7 c _ hc with ⟨e,e2⟩ | e
   ·simp at e2; rw [e2,e]; exact b9
   ·exact h.ar.arr c v e
  ·rcases j7 c _ hc with ⟨_,e⟩ | e
   ·simp at e
   ·exact h.ar.jO c v e
  ·obtain ⟨v',h1⟩:=hA c v h1
   obtain ⟨u',h2⟩:=hA d u h2
   exact h.ar.inj c d v' u' x L N L' N' h1 h2 h3 h4
  ·obtain ⟨v',h1⟩:=hA c v h1
   obtain ⟨u',h2⟩:=hA d u h2
   exact h.ar.tN c d v' u' x y L N L' N' cs e own g k b8 e' pk k' h1 h2 h3 h4
  ·obtain ⟨v',h1⟩:=hA c v h1
   obtain ⟨q1,q2,q3⟩:=h.ar.sk c v' x L N cs e own g k h1 h2 h3
   exact ⟨q1,q2,fun y hy dJ=>⟨(q3 y hy dJ).1,fun q=>(q3 y hy dJ).2.1 (qT y q),(q3 y hy dJ).2.2⟩⟩
  ·obtain ⟨v',h1⟩:=hA c v hc
   rw [ax.rE]
   exact h.ar.nk c v' h1
theorem Zo {es new:List KV} {o:Nat} (h:o+new.length≤es.length):(yS es o new).length=es.length:=by
 simp only [yS,List.length_append,List.length_take,List.length_drop]
 omega
theorem afd {es new:List KV} {o i:Nat} (h:o+new.length≤es.length):(yS es o new)[i]? = if i < o then es[i]? else if i < o+new.length then new[i - o]? else es[i]?:=by
 unfold yS
 by_cases h1:i < o
 ·rw [if_pos h1,List.append_assoc,List.getElem?_append_left (by rw [List.length_take]; omega),List.getElem?_take,if_pos h1]
 ·rw [if_neg h1]
  by_cases h2:i < o+new.length
  ·rw [if_pos h2,List.getElem?_append_left (by rw [List.length_append,List.length_take]; omega),List.getElem?_append_right (by rw [List.length_take]; omega),List.length_take]
   congr 1
   omega
  ·rw [if_neg h2,List.getElem?_append_right (by rw [List.length_append,List.length_take]; omega),List.getElem?_drop,List.length_append,List.length_take]
   congr 1
   omega
theorem acr {T:TypeId} {N m o k:Nat} {es new:List KV} {acc an:Nat→KV} (ht:jg P T N es acc) (hn:jg P T m new an) (hk:k≤m) (ho:o+k≤N):jg P T N (yS es o (new.take k)) (la o k acc an):=by
 have hl:(new.take k).length=k:=by rw [List.length_take,← hn.len]; omega
 have oM:o+(new.take k).length≤es.length:=by rw [hl,← ht.len]; exact ho
 have nf:=fun i=>afd (i:=i) oM
 rw [hl] at nf
 refine ⟨by rw [Zo oM]; exact ht.len,fun i hi=>?_,oP fun i x hx=>?_⟩
 ·rw [List.getD_eq_getElem?_getD,nf]
  unfold la
  by_cases h1:i < o
  ·rw [if_pos h1,show Nat.blt i o=true from Nat.blt_eq ▸ h1,cond_true,ht.acc i hi,List.getD_eq_getElem?_getD]
  ·have e1:Nat.blt i o=false:=by
    cases hb:Nat.blt i o with
    | false=>rfl
    | true=>exact absurd (Nat.blt_eq ▸ hb) h1
   rw [if_neg h1,e1,cond_false]
   by_cases h2:i < o+k
   ·rw [if_pos h2,show Nat.blt i (o+k)=true from Nat.blt_eq ▸ h2,cond_true,List.getElem?_take,if_pos (by omega),hn.acc (i - o) (by omega),List.getD_eq_getElem?_getD]
   ·have e2:Nat.blt i (o+k)=false:=by
     cases hb:Nat.blt i (o+k) with
     | false=>rfl
     | true=>exact absurd (Nat.blt_eq ▸ hb) h2
    rw [if_neg h2,e2,cond_false,ht.acc i hi,List.getD_eq_getElem?_getD]
 ·rw [nf] at hx
  split at hx
  ·exact ku ht.typed hx
  ·split at hx
   ·rw [List.getElem?_take] at hx
    split at hx
    ·exact ku hn.typed hx
    ·simp at hx
   ·exact ku ht.typed hx
theorem afe {sz o:Nat} {cs r vs es:List Value} (hl:ou sz (o * sz+vs.length) cs es) (hw:ic (o * sz) cs vs=some r):ou sz (o * sz+vs.length) r es:=fun i x hi=>by
 obtain ⟨h1,h2⟩:=hl i x hi
 obtain ⟨_,_,h3⟩:=je hw
 exact ⟨h1,fun k y hy=>by rw [h3,if_neg (by omega)]; exact h2 k y hy⟩
theorem aj0 {e n:Nat} (hn:bd P e=n) (h1n:1≤n):ahN P (agF e) (Yh n):=by
 intro E A A' B vs us v h hv hg
 unfold agF at hg
 split at hg
 ·rename_i e1 b o q y
  obtain ⟨u,w,rfl,h1,h2⟩:=hv.ll
  split at hg
  ·rename_i e' mk m new an e2 mk2 N es acc hy hb
   obtain ⟨he,Zh⟩:=hg.cond
   clear hg
   simp only [Bool.and_eq_true] at he
   have:=Nat.eq_of_beq_eq_true he.1.1
   subst this
   have:=Nat.eq_of_beq_eq_true he.1.2
   subst this
   have:=Nat.eq_of_beq_eq_true he.2
   subst this
   have tP:1≤bd P e:=by omega
   obtain ⟨cL,kO⟩:=ahU h h2 hy tP
   have Zh:(KV.int .i64 (Nat.min m q:Nat),A.put b (.arr (.ts e .any N (yS es o (new.take (Nat.min m q))) (la o (Nat.min m q) acc an))))=(v,A'):=Zh
   simp only [Prod.mk.injEq] at Zh
   obtain ⟨rfl,rfl⟩:=Zh
   obtain ⟨T2,N2,ph,fW,e2,ht,_,wb⟩:=h.ar.arr b _ hb
   simp only [KV.ts.injEq] at e2
   obtain ⟨rfl,rfl,rfl,rfl,rfl⟩:=e2
   have Qp:Nat.min m q≤m:=Nat.min_le_left _ _
   have hkq:Nat.min m q≤q:=Nat.min_le_right _ _
   have hf:=kO.first _ Qp
   rw [hn] at hf
   rcases h1.vo with ⟨rfl,rfl,rfl⟩ | ⟨x,L,N0,c,p2,rfl,p3,p4,p5⟩
   ·
    have D5:Nat.min m 0=0:=Nat.min_zero m
    refine ⟨.int .i64 (Int.ofNat (Nat.min m 0)),B,E,?_,.mkInt,ee.amz h ⟨_,hb⟩ ?_⟩
    ·simp only [Yh,kO.len,Option.bind_some,hf]
    ·have hp:=acr (o:=0) ht kO.tree Qp (by rw [D5]; omega)
     refine ⟨_,_,_,_,rfl,hp,tP,?_⟩
     have KO:yS es 0 (new.take (Nat.min m 0))=es:=by rw [D5]; simp [yS]
     rw [KO]
     exact wb
   ·rcases wb with ⟨_,e2⟩ | ⟨x2,cs,bP,bp,e2,h6,h7,h8⟩
    ·rw [p2] at e2; simp at e2
    rw [p2] at e2
    simp only [Option.some.injEq,Prod.mk.injEq] at e2
    obtain ⟨rfl,rfl,rfl⟩:=e2
    have agR:bp.length=N0:=by rw [h7.length]; exact ht.len.symm
    have iX:∀ v∈cL.take (Nat.min m q),v.cells.size=bd P e:=fun v hv=>kO.size v (List.mem_of_mem_take hv)
    have al4:(cL.take (Nat.min m q)).length=Nat.min m q:=by rw [List.length_take,kO.length]; exact Nat.min_eq_left Qp
    have Gc:(bG (cL.take (Nat.min m q))).length=Nat.min m q * bd P e:=by rw [jz iX,al4]
    have hle:o * bd P e+(bG (cL.take (Nat.min m q))).length≤cs.length:=by
     rw [Gc,← p5,← Nat.add_mul]
     exact Nat.mul_le_mul_right _ (by omega)
    obtain ⟨lR,hw⟩:=yV (o * bd P e) cs (bG (cL.take (Nat.min m q))) hle
    have hcl:lR.length=cs.length:=(je hw).1
    have WM:(bG (cL.take (Nat.min m q))).all scalar=true:=List.all_eq_true.2 (AU fun v hv=>(oE kO.tree.typed kO.rel v (List.mem_of_mem_take hv)).2)
    have hp:=acr (o:=o) ht kO.tree Qp (by omega)
    have hon:(bp.take o).length=o:=by rw [List.length_take]; omega
    have zT:bb P E (yS es o (new.take (Nat.min m q))) (bp.take o++cL.take (Nat.min m q)++bp.drop (o+Nat.min m q)):=by
     unfold yS
     have hlk:(new.take (Nat.min m q)).length=Nat.min m q:=by rw [List.length_take,← kO.tree.len]; exact Nat.min_eq_left Qp
     rw [hlk]
     exact ((h7.take o).append (kO.rel.take _)).append (h7.drop _)
    have hli:ou (bd P e) 0 lR (bp.take o++cL.take (Nat.min m q)++bp.drop (o+Nat.min m q)):=by
     refine TZ (TZ (Zm (h8.take o) (by omega) hw tP) (by rw [hon]; exact VU iX hw)) ?_
     have e3:(bp.take o++cL.take (Nat.min m q)).length * bd P e=o * bd P e+(bG (cL.take (Nat.min m q))).length:=by rw [List.length_append,hon,al4,Gc,Nat.add_mul]
     rw [e3]
     refine afe ?_ hw
     have:=h8.drop (o+Nat.min m q)
     rw [Nat.zero_add,Nat.add_mul] at this
     rw [Gc]
     exact this
    have iX:=ee.ahR (lo:=o * bd P e) (hi:=o * bd P e+(bG (cL.take (Nat.min m q))).length) h ⟨_,hb⟩ p2 h6 hcl tP hp zT hli
    refine ⟨.int .i64 (Int.ofNat (Nat.min m q)),_,E,?_,.mkInt,iX⟩
    subst hn
    simp only [Yh,kO.len,Option.bind_some,hf,St.xd,dk,Option.isNone_none,Bool.true_and,WM,cond_true,h6,hw,Option.map_some]
  ·exact hg.elim
 ·exact hg.elim
theorem aff {e n b:Nat} {mt:Bool} (hn:bd P e=n) (h1n:1≤n):ahN P (Gk e n b mt) (mw n b):=by
 intro E A A' B vs us v h hv hg
 unfold Gk at hg
 split at hg
 ·rename_i x y
  obtain ⟨u,w,rfl,h1,h2⟩:=hv.ll
  split at hg
  ·rename_i y' hy
   have tP:1≤bd P e:=by omega
   have hts:∃ T m k es acc,y' = .ts T m k es acc:=by
    unfold Kz at hy
    split at hy
    ·unfold ado at hy
     split at hy
     ·rename_i T' b' o' n' _ T2 _ _ ph fW _
      cases hb:Nat.beq T' T2 with
      | false=>rw [hb] at hy; simp at hy
      | true=>rw [hb,cond_true] at hy; simp only [Option.some.injEq] at hy; exact ⟨_,_,_,_,_,hy.symm⟩
     ·simp at hy
    ·simp only [Option.some.injEq] at hy; exact ⟨_,_,_,_,_,hy.symm⟩
    ·simp at hy
   obtain ⟨T,m,k,es,acc,rfl⟩:=hts
   have hsr:Nat.beq e T=true→∃ bp,Src P E B T k es acc w bp:=fun he=>by
    have:=Nat.eq_of_beq_eq_true he
    subst this
    exact ahU h h2 hy tP
   subst hn
   cases hx:ajM x with
   | true=>rw [hx,cond_true] at hg; exact Zn tP h h1 hsr hg
   | false=>
    rw [hx,cond_false] at hg
    cases mt with
    | true=>rw [cond_true] at hg; exact Zn tP h h1 hsr hg
    | false=>rw [cond_false] at hg; exact agT rfl tP h h1 hsr hg
  ·exact hg.elim
 ·exact hg.elim
end Go.K
end
section
namespace Go.K
open Go Go.aE
variable {P:Program} {E:Env}
theorem ee.ahY {E1 E2:Env} {A A1 A2:ax} {B:St} (h:ee P E A B E1 A1 B) (k:ee P E1 A1 B E2 A2 B):ee P E A B E2 A2 B where
 jy:=k.jy
 le:=Env.le_trans h.le k.le
 next:=Nat.le_trans h.next k.next
 mC _ _ _ _:=rfl
 new b x e:=(k.new b x e).elim (h.new b x) .inr
 tg b r e:=by
  rcases k.tg b r e with e | e | e
  ·exact h.tg b r e
  ·exact .inr (h.m7 b e)
  ·exact .inr (.inr e)
 th b g e:=(k.th b g e).elim (h.th b g) .inr
 p0 _ _ _ _:=rfl
 m7 x q:=(k.m7 x q).elim (h.m7 x) .inr
 ns g q:=(k.ns g q).elim (h.ns g) .inr
 uI _ _ q:=.inl q
 od y q:=(k.od y q).elim (h.od y) .inr
 rows:=nt fun _ _=>rfl
theorem ee.refl {A:ax} {B:St} (h:fK P E A B):ee P E A B E A B:=
 ⟨h,Env.le_refl _,Nat.le_refl _,fun _ _ _ _=>rfl,fun _ _ e=>.inl e,fun _ _ e=>.inl e,fun _ _ e=>.inl e,fun _ _ _ _=>rfl,fun _ q=>.inl q,fun _ q=>.inl q,fun _ _ q=>.inl q,fun _ q=>.inl q,nt fun _ _=>rfl⟩
theorem Env.aj1 {A:ax} {B:St} {x:Nat} {r:aeU} (h:fK P E A B) (hx:AR A E x):E.le (E.gD x r):=⟨fun _ _ e=>e,fun _ _ e=>e,fun b q e=>by
 simp only [Env.gD]
 rw [if_neg]
 ·exact e
 ·intro e2; subst e2
  have:=(h.ar.z b hx).1
  rw [e] at this; simp at this,fun _ _ e=>e⟩
theorem ee.jO {A:ax} {B:St} {b x N:Nat} {T:TypeId} {m:Mk} {es:List KV} {acc:Nat→KV} {cs:List Value} {bP:Option (Nat×Nat)} {bp:List Value} (h:fK P E A B) (hb:A.get b=some (.arr (.ts T m N es acc))) (hx:E.α b=some (x,cs.length,N))
  (jI:B.get x=some (.row cs (bd P T) true bP)) (ht:jg P T N es acc) (hm:m = .any) (fv:1≤bd P T) (KO:bb P E es bp) (hl:ou (bd P T) 0 cs bp) :
  ee P E A B (E.gD x ⟨cs,bd P T,true,bP⟩) (A.put b (.jO (.ts T m N es acc))) B:=by
 subst hm
 have qT:AR A E x:=⟨b,_,_,_,hb,hx⟩
 have hle:=Env.aj1 (r:=⟨cs,bd P T,true,bP⟩) h qT
 have hzx:(E.gD x ⟨cs,bd P T,true,bP⟩).z x=some ⟨cs,bd P T,true,bP⟩:=by simp [Env.gD]
 have Ii:∀ c r,(E.gD x ⟨cs,bd P T,true,bP⟩).z c=some r→E.z c=some r∨(c=x∧r=⟨cs,bd P T,true,bP⟩):=fun c r e=>by
  simp only [Env.gD] at e
  split at e
  ·rename_i e2; simp at e; exact .inr ⟨e2,e.symm⟩
  ·exact .inl e
 have j7:∀ c o,(A.put b (.jO (.ts T .any N es acc))).get c=some o→(c=b∧o = .jO (.ts T .any N es acc))∨(c≠b∧A.get c=some o):=fun c o hc=>by
  rw [ax.cd] at hc
  split at hc
  ·rename_i e; simp at hc; exact .inl ⟨e,hc.symm⟩
  ·rename_i e; exact .inr ⟨e,hc⟩
 have hA:∀ c v,(A.put b (.jO (.ts T .any N es acc))).get c=some (.arr v)→c≠b∧A.get c=some (.arr v):=fun c v hc=>by
  rcases j7 c _ hc with ⟨_,e⟩ | e
  ·simp at e
  ·exact e
 have ahZ:∀ y,AR (A.put b (.jO (.ts T .any N es acc))) E y→AR A E y∧y≠x:=fun y ⟨c,v,L,M,h1,h2⟩=>by
  obtain ⟨h3,h4⟩:=hA c v h1
  refine ⟨⟨c,v,L,M,h4,h2⟩,fun e=>h3 ?_⟩
  subst e
  exact h.ar.inj c b v _ y L M _ _ h4 hb h2 hx
 have Fo:∀ g,AF (A.put b (.jO (.ts T .any N es acc))) E B g→AF A E B g:=fun g ⟨c,v,y,L,M,cs,e,own,k,h1,h2,h3⟩=>⟨c,v,y,L,M,cs,e,own,k,(hA c v h1).2,h2,h3⟩
 refine ⟨⟨fun c oC bU hc=>?_,fun c top sz hc=>?_,fun y r hy=>?_,fun c y hc=>?_,h.inj,?_,h.lQ,h.nq,fun c o hc=>?_,h.hH,fun y r hy=>?_,h.kr,h.fresh,h.mem,?_⟩,hle,Nat.le_refl _,fun _ _ _ _=>rfl,fun _ _ e=>.inl e,fun y r e=>?_,fun _ _ e=>.inl e,fun _ _ _ _=>rfl,fun y q=>.inl (ahZ y q).1,fun g q=>.inl (Fo g q),fun _ _ q=>.inl q,fun y q=>.inl (q.imp (fun q=>(ahZ y q).1) fun ⟨g,q1,q2⟩=>⟨g,Fo g q1,q2⟩),nt fun _ _=>rfl⟩
 ·rcases j7 c _ hc with ⟨_,e⟩ | ⟨_,e⟩
  ·simp at e
  ·obtain ⟨y,d,h1,h2,h3⟩:=h.row c oC bU e
   exact ⟨y,d,h1,h2,h3.mono hle⟩
 ·rcases j7 c _ hc with ⟨_,e⟩ | ⟨_,e⟩
  ·simp at e
  ·exact h.bc c top sz e
 ·rcases Ii y r hy with e | ⟨rfl,rfl⟩
  ·exact h.z y r e
  ·exact jI
 ·have hc:E.κ c=some y:=hc
  cases hz:(E.gD x ⟨cs,bd P T,true,bP⟩).z y with
  | none=>rfl
  | some r=>
   rcases Ii y r hz with e | ⟨rfl,_⟩
   ·rw [h.apart c y hc] at e; simp at e
   ·exact absurd hc ((h.ar.z y qT).2 c)
 ·exact h.jP.put (.inl fun t s=>by simp)
 ·rw [ax.rE]
  rcases j7 c _ hc with ⟨e,_⟩ | ⟨_,e⟩
  ·rw [e]; exact h.live b _ hb
  ·exact h.live c o e
 ·rcases Ii y r hy with e | ⟨rfl,_⟩
  ·exact h.nD y r e
  ·exact h.Eo qT
 ·refine ⟨fun c v hc=>?_,fun c v hc=>?_,fun y q=>?_,fun c d v u y L M L' M' h1 h2 h3 h4=>h.ar.inj c d v u y L M L' M' (hA c v h1).2 (hA d u h2).2 h3 h4,fun c d v u y w L M L' M' oC e own g k b8 e' pk k' h1 h2 h3 h4=>h.ar.tN c d v u y w L M L' M' oC e own g k b8 e' pk k' (hA c v h1).2 (hA d u h2).2 h3 h4,h.ar.YW,h.ar.lQ,h.ar.hH,fun c v y L M oC e own g k h1 h2 h3=>?_,fun c v hc=>h.ar.nk c v (hA c v hc).2⟩
  ·exact (h.ar.arr c v (hA c v hc).2).mono hle rfl fun _ _ _ _=>rfl
  ·rcases j7 c _ hc with ⟨e,e2⟩ | ⟨_,e⟩
   ·simp at e2
    subst e2
    exact ⟨T,N,es,acc,rfl,ht,fv,.inr ⟨x,⟨cs,bd P T,true,bP⟩,bp,by rw [e]; exact hx,hzx,rfl,KO.mono hle,hl⟩⟩
   ·exact (h.ar.jO c v e).mono hle rfl
  ·obtain ⟨q1,q2⟩:=ahZ y q
   refine ⟨?_,(h.ar.z y q1).2⟩
   simp only [Env.gD]
   rw [if_neg q2]
   exact (h.ar.z y q1).1
  ·obtain ⟨dJ,h1⟩:=hA c v h1
   obtain ⟨q1,q2,q3⟩:=h.ar.sk c v y L M oC e own g k h1 h2 h3
   refine ⟨q1,q2,fun z hz hzy=>?_⟩
   obtain ⟨q4,q5,q6⟩:=q3 z hz hzy
   refine ⟨?_,fun q=>q5 (ahZ z q).1,q6⟩
   simp only [Env.gD]
   rw [if_neg]
   ·exact q4
   ·intro e2
    subst e2
    exact q5 qT
 ·rcases Ii y r e with e | ⟨rfl,_⟩
  ·exact .inl e
  ·exact .inr (.inl qT)
theorem ee.amA {A:ax} {B:St} {b:Nat} {T:TypeId} {m:Mk} {N:Nat} {es:List KV} {acc:Nat→KV} (h:fK P E A B) (hb:A.get b=some (.arr (.ts T m N es acc))) (b9:QU P E b (.ts T m N es acc)) (qn:E.α b=none):ee P E A B E (A.put b (.jO (.ts T m N es acc))) B:=by
 have j7:∀ c o,(A.put b (.jO (.ts T m N es acc))).get c=some o→(c=b∧o = .jO (.ts T m N es acc))∨A.get c=some o:=fun c o hc=>by
  rw [ax.cd] at hc
  split at hc
  ·rename_i e; simp at hc; exact .inl ⟨e,hc.symm⟩
  ·exact .inr hc
 have hA:∀ c v,(A.put b (.jO (.ts T m N es acc))).get c=some (.arr v)→A.get c=some (.arr v):=fun c v hc=>by
  rcases j7 c _ hc with ⟨_,e⟩ | e
  ·simp at e
  ·exact e
 have qT:∀ y,AR (A.put b (.jO (.ts T m N es acc))) E y→AR A E y:=fun y ⟨c,v,L,M,h1,h2⟩=>⟨c,v,L,M,hA c v h1,h2⟩
 have Fo:∀ g,AF (A.put b (.jO (.ts T m N es acc))) E B g→AF A E B g:=fun g ⟨c,v,y,L,M,cs,e,own,k,h1,h2,h3⟩=>⟨c,v,y,L,M,cs,e,own,k,hA c v h1,h2,h3⟩
 have _:=qn
 refine ⟨⟨fun c oC bU hc=>?_,fun c top sz hc=>?_,h.z,h.apart,h.inj,?_,h.lQ,h.nq,fun c o hc=>?_,h.hH,h.nD,h.kr,h.fresh,h.mem,?_⟩,Env.le_refl _,Nat.le_refl _,fun _ _ _ _=>rfl,fun _ _ e=>.inl e,fun y r e=>.inl e,fun _ _ e=>.inl e,fun _ _ _ _=>rfl,fun y q=>.inl (qT y q),fun g q=>.inl (Fo g q),fun _ _ q=>.inl q,fun y q=>.inl (q.imp (qT y) fun ⟨g,q1,q2⟩=>⟨g,Fo g q1,q2⟩),nt fun _ _=>rfl⟩
 ·rcases j7 c _ hc with ⟨_,e⟩ | e
  ·simp at e
  ·exact h.row c oC bU e
 ·rcases j7 c _ hc with ⟨_,e⟩ | e
  ·simp at e
  ·exact h.bc c top sz e
 ·exact h.jP.put (.inl fun t s=>by simp)
 ·rw [ax.rE]
  rcases j7 c _ hc with ⟨e,_⟩ | e
  ·rw [e]; exact h.live b _ hb
  ·exact h.live c o e
 ·refine ⟨fun c v hc=>h.ar.arr c v (hA c v hc),fun c v hc=>?_,fun y q=>h.ar.z y (qT y q),fun c d v u y L M L' M' h1 h2 h3 h4=>h.ar.inj c d v u y L M L' M' (hA c v h1) (hA d u h2) h3 h4,fun c d v u y w L M L' M' oC e own g k b8 e' pk k' h1 h2 h3 h4=>h.ar.tN c d v u y w L M L' M' oC e own g k b8 e' pk k' (hA c v h1) (hA d u h2) h3 h4,h.ar.YW,h.ar.lQ,h.ar.hH,fun c v y L M oC e own g k h1 h2 h3=>?_,fun c v hc=>h.ar.nk c v (hA c v hc)⟩
  ·rcases j7 c _ hc with ⟨e,e2⟩ | e
   ·simp at e2; rw [e2,e]; exact b9
   ·exact h.ar.jO c v e
  ·obtain ⟨q1,q2,q3⟩:=h.ar.sk c v y L M oC e own g k (hA c v h1) h2 h3
   exact ⟨q1,q2,fun z hz hzy=>⟨(q3 z hz hzy).1,fun q=>(q3 z hz hzy).2.1 (qT z q),(q3 z hz hzy).2.2⟩⟩
theorem T9 {T:TypeId} {m:Mk} {b o n N:Nat} {es:List KV} {acc:Nat→KV} {u:Value} {A:ax} {B:St} (h:fK P E A B) (hv:VK P E (.al T b o n) u) (ha:A.get b=some (.jO (.ts T m N es acc))) :
  VK P E (.ts T .any n ((es.drop o).take n) (fun i=>acc (o+i))) u:=by
 obtain ⟨T2,N2,ph,fW,e,ht,fv,wb⟩:=h.ar.jO b _ ha
 simp only [KV.ts.injEq] at e
 obtain ⟨rfl,rfl,rfl,rfl,rfl⟩:=e
 simp only [VK]
 rcases hv.vo with ⟨rfl,rfl,rfl⟩ | ⟨x,L,N0,c,h1,rfl,h3,h4,h5⟩
 ·exact ⟨⟨by simp,fun i hi=>by omega,rfl⟩,[],by simpa using bb.nil,none,0,rfl,Nat.le_refl _,.inl ⟨rfl,rfl⟩,trivial⟩
 ·rcases wb with ⟨_,e⟩ | ⟨x2,r,bp,e,h6,h6',h7,h8⟩
  ·rw [h1] at e; simp at e
  rw [h1] at e
  simp only [Option.some.injEq,Prod.mk.injEq] at e
  obtain ⟨rfl,rfl,rfl⟩:=e
  have agS:((es.drop o).take n).length=n:=by rw [List.length_take,List.length_drop,← ht.len]; omega
  refine ⟨⟨agS.symm,fun i hi=>?_,oP fun i x hi=>?_⟩,(bp.drop o).take n,(h7.drop o).take n,_,c,rfl,h3,.inr ⟨x,o * bd P T,r,rfl,h6,h6',?_⟩,trivial⟩
  ·rw [ht.acc (o+i) (by omega),List.getD_eq_getElem?_getD,List.getD_eq_getElem?_getD,List.getElem?_take,if_pos hi,List.getElem?_drop]
  ·rw [List.getElem?_take] at hi
   split at hi
   ·rw [List.getElem?_drop] at hi; exact ku ht.typed hi
   ·simp at hi
  ·have:=(h8.drop o).take n
   rw [Nat.zero_add] at this
   exact this
theorem VV {A:ax} {B:St} {v:KV} {u:Value} (h:fK P E A B) (hv:VK P E v u):∃ E',ee P E A B E' (YQ A v).2 B∧VK P E' (YQ A v).1 u:=by
 unfold YQ
 split
 ·rename_i T b o n
  split
  ·rename_i T' m N es acc hb
   cases ht:Nat.beq T T' with
   | false=>exact ⟨E,.refl h,.rM⟩
   | true=>
    have:=Nat.eq_of_beq_eq_true ht
    subst this
    rw [cond_true]
    have b9:=h.ar.arr b _ hb
    obtain ⟨T2,N2,ph,fW,e,Gy,fv,wb⟩:=b9
    simp only [KV.ts.injEq] at e
    obtain ⟨rfl,rfl,rfl,rfl,rfl⟩:=e
    rcases wb with ⟨h1,h2⟩ | ⟨x,cs,bP,bp,h2,h3,h4,h5⟩
    ·have iX:=ee.amA h hb ⟨_,_,_,_,rfl,Gy,fv,.inl ⟨h1,h2⟩⟩ h2
     exact ⟨E,iX,T9 iX.jy hv ((ax.cd _ _ _ _).trans (if_pos rfl))⟩
    ·have iX:=ee.jO h hb h2 h3 Gy rfl fv h4 h5
     exact ⟨_,iX,T9 iX.jy (hv.mono iX.le) ((ax.cd _ _ _ _).trans (if_pos rfl))⟩
  ·rename_i T' m N es acc hb
   cases ht:Nat.beq T T' with
   | false=>exact ⟨E,.refl h,.rM⟩
   | true=>
    have:=Nat.eq_of_beq_eq_true ht
    subst this
    rw [cond_true]
    exact ⟨E,.refl h,T9 h hv hb⟩
  ·exact ⟨E,.refl h,.rM⟩
 ·exact ⟨E,.refl h,hv⟩
theorem a5.map {α β:Type} {r:KR α} {f:α→β} {v:β} (h:a5 (r.map f) v):∃ u,a5 r u∧f u=v:=by
 cases r with
 | no=>exact h.elim
 | ok u=>exact ⟨u,rfl,h⟩
 | mj c u=>exact ⟨u,⟨h.1,rfl⟩,h.2⟩
 | br c x y=>
  rcases h with ⟨h1,h2⟩ | ⟨h1,h2⟩
  ·obtain ⟨u,h3,h4⟩:=a5.map (r:=x) h2; exact ⟨u,.inl ⟨h1,h3⟩,h4⟩
  ·obtain ⟨u,h3,h4⟩:=a5.map (r:=y) h2; exact ⟨u,.inr ⟨h1,h3⟩,h4⟩
theorem Q7 {B:St} : ∀ {vs:List KV} {us:List Value} {E:Env} {A:ax},fK P E A B→bb P E vs us→∃ E',ee P E A B E' (TN A vs).2 B∧bb P E' (TN A vs).1 us
 | [],us,E,A,h,hv=>⟨E,.refl h,hv⟩
 | v::vs,us,E,A,h,hv=>by
  obtain ⟨u,us',rfl,h1,h2⟩:=hv.cons_inv
  obtain ⟨E1,h3,h4⟩:=VV h h1
  obtain ⟨E2,h5,h6⟩:=Q7 h3.jy (h2.mono h3.le)
  exact ⟨E2,h3.ahY h5,.cons (h4.mono h5.le) h6⟩
theorem afg {A:ax} {B:St} {v:KV} {u:Value} (h:fK P E A B) (hv:VK P E v u):∃ E',ee P E A B E' (aci A v).2 B∧VK P E' (aci A v).1 u:=by
 unfold aci
 split
 ·rename_i cs
  obtain ⟨l,rfl,h1⟩:=hv.mD
  obtain ⟨E1,h2,h3⟩:=Q7 h h1
  exact ⟨E1,h2,.pd h3⟩
 ·exact VV h hv
theorem Iu:∀ (A:ax) (vs:List KV),(v7 A vs).1.length=vs.length
 | _,[]=>rfl
 | A,v::vs=>by simp [v7,Iu]
theorem Ep {B:St} : ∀ {vs:List KV} {us:List Value} {E:Env} {A:ax},fK P E A B→bb P E vs us→∃ E',ee P E A B E' (v7 A vs).2 B∧bb P E' (v7 A vs).1 us
 | [],us,E,A,h,hv=>⟨E,.refl h,hv⟩
 | v::vs,us,E,A,h,hv=>by
  obtain ⟨u,us',rfl,h1,h2⟩:=hv.cons_inv
  obtain ⟨E1,h3,h4⟩:=afg h h1
  obtain ⟨E2,h5,h6⟩:=Ep h3.jy (h2.mono h3.le)
  exact ⟨E2,h3.ahY h5,.cons (h4.mono h5.le) h6⟩
end Go.K
end
section
namespace Go.K
open Go Go.aE
variable {P:Program}
theorem du {o:Oper} : Fm P o .bad:=trivial
theorem aiN (P:Program) (cfg:eJ) (o:Oper):Fm P o (bW P cfg o.op):=by
 cases ho:o.op with
 | move x=>exact lift_pure (by rw [ho]; rfl) aeY
 | assign x=>exact lift_pure (by rw [ho]; rfl) aiD
 | pick c a b=>exact lift_pure (by rw [ho]; rfl) ajP
 | alloc t=>
  show Fm P o (oZ P t)
  unfold oZ
  split
  ·rename_i z hz
   cases hc:(flat z&&z.cells.toList.all scalar&&ig (gS z).cells) with
   | false=>exact du
   | true=>
    simp only [Bool.and_eq_true] at hc
    exact Dl (by rw [ho]; rfl) (aiI hz hc.1.1 hc.1.2 hc.2)
  ·exact du
 | box t x=>exact Dl (by rw [ho]; rfl) alu
 | build t parts=>
  show Fm P o (sB P t (parts.toList.map (·.1)) (parts.toList.map (·.2)))
  have a6:compile P o.op=F1 P t (parts.toList.map (·.1)) (parts.toList.map (·.2)):=by rw [ho]; rfl
  unfold sB
  unfold F1 at a6
  split
  ·rename_i z fields hz hu
   rw [hz,hu] at a6
   simp only at a6
   split
   ·rename_i l hl
    rw [hl] at a6
    cases hc:(flat z&&ig (gS z).cells) with
    | false=>exact du
    | true=>
     simp only [Bool.and_eq_true] at hc
     exact lift_pure a6 (acm hc.1 hc.2)
   ·exact du
  ·rename_i z len e hz hu
   rw [hz,hu] at a6
   simp only at a6
   split
   ·rename_i n hn
    rw [hn] at a6
    cases hc:(flat z&&ig (gS z).cells) with
    | false=>exact du
    | true=>
     simp only [Bool.and_eq_true] at hc
     exact lift_pure a6 (acm hc.1 hc.2)
   ·exact du
  ·exact du
 | buildSlice t len parts=>
  show Fm P o (lE P t len (parts.toList.map (·.1)) (parts.toList.map (·.2)))
  have a6:compile P o.op=uz P t len (parts.toList.map (·.1)) (parts.toList.map (·.2)):=by rw [ho]; rfl
  unfold lE
  unfold uz at a6
  split
  ·rename_i e hu
   rw [hu] at a6
   simp only at a6
   split
   ·rename_i i z hi hz
    have fv:size? P e=some i.size:=by simp [size?,hi]
    rw [fv,hz] at a6
    simp only at a6
    cases hc:(Nat.ble (len * i.size) 16777216&&Nat.beq z.cells.size i.size&&Nat.ble 1 i.size&&flat z&&Nat.beq (bt P e).ks.length i.size&&CU len (parts.toList.map (·.1))) with
    | false=>exact du
    | true=>
     simp only [Bool.and_eq_true] at hc
     obtain ⟨⟨⟨⟨⟨h1,h2⟩,h3⟩,h4⟩,h5⟩,h6⟩:=hc
     rw [h1,h2,h3,h4] at a6
     cases H4 (bt P e).ks with
     | true=>exact acp a6 (abB (Nat.eq_of_beq_eq_true h5) (Nat.le_of_ble_eq_true h3) (Nat.eq_of_beq_eq_true h2) h6)
     | false=>
      cases h7:ig (gS z).cells with
      | true=>exact Dl a6 (adx h7)
      | false=>exact du
   ·exact du
  ·exact du
 | load t a=>exact Ih (by rw [ho]; rfl) ae5
 | store t a x=>exact TU (by rw [ho]; rfl) aiL
 | nilCheck x=>exact lift_pure (by rw [ho]; rfl) alq
 | binOp op t x y yt=>exact lift_pure (by rw [ho]; rfl) alr
 | unOp op t x=>exact lift_pure (by rw [ho]; rfl) amt
 | convert src dst x=>
  show Fm P o (oB P src dst x)
  have a6:compile P o.op=Bj P src dst x:=by rw [ho]; rfl
  unfold oB
  unfold Bj at a6
  split
  ·rename_i k k' hs hd
   rw [hs,hd] at a6
   exact lift_pure a6 (aiH hd hs)
  ·rename_i hs hd
   rw [hs,hd] at a6
   exact lift_pure a6 aiG
  ·rename_i e hs hd
   rw [hs,hd] at a6
   simp only at a6
   cases hb:isByte P e with
   | false=>exact du
   | true=>rw [hb] at a6; exact Ih a6 adA
  ·rename_i e hs hd
   rw [hs,hd] at a6
   simp only at a6
   cases hb:isByte P e with
   | false=>exact du
   | true=>rw [hb] at a6; exact agK a6 (adB hb)
  ·exact du
 | makeFunc fn first cap=>
  show Fm P o (cond (wP fn) .bad (.pure (H7 fn first.size) (first.toList++cap.toList)))
  cases hy:wP fn with
  | true=>exact du
  | false=>
   have hn:CR fn=true:=by cases fn <;> first | rfl | simp [wP] at hy
   exact lift_pure (by rw [ho]; show cond (CR fn) _ _=_; rw [hn]; rfl) adv
 | fieldAddr s x f=>
  show Fm P o (mG P s x f)
  have a6:compile P o.op=wJ P s x f:=by rw [ho]; rfl
  unfold mG
  unfold wJ at a6
  split
  ·rename_i fd hf
   rw [hf] at a6
   simp only at a6
   split
   ·rename_i m hm
    rw [hm] at a6
    exact lift_pure a6 (aby rfl)
   ·exact du
  ·exact du
 | field t x f=>
  show Fm P o (sD P t x f)
  have a6:compile P o.op=F6 P t x f:=by rw [ho]; rfl
  unfold sD
  unfold F6 at a6
  split
  ·rename_i fd hf
   rw [hf] at a6
   exact lift_pure a6 aiE
  ·exact du
 | indexAddr t x ix=>
  show Fm P o (mH P t x ix)
  have a6:compile P o.op=wK P t x ix:=by rw [ho]; rfl
  unfold mH
  unfold wK at a6
  split
  ·rename_i len e hu
   rw [hu] at a6
   simp only at a6
   split
   ·rename_i n hn
    rw [hn] at a6
    exact lift_pure a6 ads
   ·exact du
  ·rename_i e hu
   rw [hu] at a6
   simp only at a6
   split
   ·rename_i n hn
    rw [hn] at a6
    exact lift_pure a6 (ae0 rfl)
   ·exact du
  ·exact du
 | index t x ix=>
  show Fm P o (sE P t x ix)
  have a6:compile P o.op=F7 P t x ix:=by rw [ho]; rfl
  unfold sE
  unfold F7 at a6
  split
  ·rename_i len e hu
   rw [hu] at a6
   simp only at a6
   split
   ·rename_i n hn
    rw [hn] at a6
    exact lift_pure a6 adt
   ·exact du
  ·rename_i hu
   rw [hu] at a6
   exact lift_pure a6 adu
  ·exact du
 | extract t i=>exact lift_pure (by rw [ho]; rfl) ae1
 | slice t x lo hi mx=>
  show Fm P o (sF P t x lo hi mx)
  have a6:compile P o.op=F4 P t x lo hi mx:=by rw [ho]; rfl
  unfold sF
  unfold F4 at a6
  split
  ·rename_i e hu
   rw [hu] at a6
   simp only at a6
   split
   ·rename_i n hn
    rw [hn] at a6
    simp only at a6
    cases hc:(Nat.ble 1 n&&mx.isNone) with
    | false=>exact du
    | true=>
     simp only [Bool.and_eq_true] at hc
     rw [hc.1] at a6
     have hmx:mx=none:=Option.isNone_iff_eq_none.1 hc.2
     subst hmx
     simp only [cond_true,fV,List.append_nil,Option.isSome_none] at a6
     exact Ih a6 (ae8 (Nat.le_of_ble_eq_true hc.1))
   ·exact du
  ·rename_i len e hu
   rw [hu] at a6
   simp only at a6
   split
   ·rename_i n hn
    rw [hn] at a6
    simp only at a6
    cases hc:(Nat.ble 1 n&&mx.isNone) with
    | false=>exact du
    | true=>
     simp only [Bool.and_eq_true] at hc
     rw [hc.1] at a6
     have hmx:mx=none:=Option.isNone_iff_eq_none.1 hc.2
     subst hmx
     simp only [cond_true,fV,List.append_nil,Option.isSome_none] at a6
     exact Ih a6 ady
   ·exact du
  ·rename_i hu
   rw [hu] at a6
   simp only at a6
   cases hc:mx.isNone with
   | false=>exact du
   | true=>rw [hc] at a6; exact lift_pure a6 adz
  ·exact du
 | makeSlice t l c=>
  show Fm P o (uG P cfg.x.mt t l c)
  have a6:compile P o.op=wI P t l c:=by rw [ho]; rfl
  unfold uG
  unfold wI at a6
  split
  ·rename_i e hu
   rw [hu] at a6
   simp only at a6
   split
   ·rename_i i hi
    rw [hi] at a6
    simp only at a6
    split
    ·rename_i z hz
     rw [hz] at a6
     simp only at a6
     cases hmz:cfg.x.mt (e+1000000) with
     | true=>
      rw [cond_true]
      cases hc:(Nat.ble 1 i.size&&Nat.ble 1 i.bytes&&Nat.beq z.cells.size i.size&&flat z&&z.cells.toList.all scalar&&Nat.beq (bt P e).ks.length i.size&&dv (bt P e) (gu (bt P e) (gS z))) with
      | false=>exact du
      | true=>
       simp only [Bool.and_eq_true] at hc
       obtain ⟨⟨⟨⟨⟨⟨h1,h2⟩,h3⟩,h4⟩,h5⟩,h6⟩,h7⟩:=hc
       rw [h1,h2,h3,h4,h5] at a6
       exact acp a6 (aiM (Nat.eq_of_beq_eq_true h6) (Nat.le_of_ble_eq_true h1) (Nat.eq_of_beq_eq_true h3) h7)
     | false=>
     rw [cond_false]
     cases hmt:cfg.x.mt e with
     | true=>
      rw [cond_true]
      cases hc:(Nat.ble 1 i.size&&Nat.ble 1 i.bytes&&Nat.beq z.cells.size i.size&&flat z&&z.cells.toList.all scalar&&Nat.beq (bt P e).ks.length i.size&&dv (bt P e) (gu (bt P e) (gS z))) with
      | false=>exact du
      | true=>
       simp only [Bool.and_eq_true] at hc
       obtain ⟨⟨⟨⟨⟨⟨h1,h2⟩,h3⟩,h4⟩,h5⟩,h6⟩,h7⟩:=hc
       rw [h1,h2,h3,h4,h5] at a6
       exact Dl a6 (afc (Nat.eq_of_beq_eq_true h6) (Nat.le_of_ble_eq_true h1) (Nat.eq_of_beq_eq_true h3) h7)
     | false=>
     rw [cond_false]
     cases hc:(Nat.ble 1 i.size&&Nat.ble 1 i.bytes&&Nat.beq z.cells.size i.size&&flat z&&z.cells.toList.all scalar&&ig (gS z).cells) with
     | false=>exact du
     | true=>
      simp only [Bool.and_eq_true] at hc
      obtain ⟨⟨⟨⟨⟨h1,h2⟩,h3⟩,h4⟩,h5⟩,h6⟩:=hc
      rw [h1,h2,h3,h4,h5] at a6
      exact Dl a6 (abz h6)
    ·exact du
   ·exact du
  ·exact du
 | call c=>
  show Fm P o (lY P cfg c)
  unfold lY
  split
  ·split
   ·cases cfg.aeQ _ <;> trivial
   ·trivial
  ·trivial
  ·rename_i b hb
   obtain ⟨callee,args,argTypes⟩:=c
   simp only at hb
   subst hb
   have a6:compile P o.op=Ed P b argTypes.toList args.toList:=by rw [ho]; rfl
   unfold yT
   unfold Ed at a6
   split
   ·
    simp only at a6
    unfold YP
    unfold XR at a6
    split
    ·rename_i t ht
     rw [ht] at a6
     simp only at a6
     split
     ·rename_i e hu
      rw [hu] at a6
      exact lift_pure a6 aiF
     ·rename_i hu
      rw [hu] at a6
      exact lift_pure a6 agI
     ·exact du
    ·exact du
   ·simp only at a6
    exact lift_pure (f:=Gj false) a6 Y5
   ·simp only at a6
    exact lift_pure (f:=Gj true) a6 Y5
   ·
    simp only at a6
    unfold Ej
    unfold HP at a6
    split
    ·rename_i t u ht
     rw [ht] at a6
     simp only at a6
     split
     ·rename_i e eu hu huu
      rw [hu] at a6
      simp only at a6
      split
      ·rename_i i hi
       rw [hi] at a6
       simp only at a6
       split
       ·rename_i z hz
        rw [hz] at a6
        simp only at a6
        cases hc:(Nat.ble 1 i.size&&Nat.beq z.cells.size i.size&&Nat.beq (bt P e).ks.length i.size) with
        | false=>exact du
        | true=>
         simp only [Bool.and_eq_true] at hc
         have ang:HO P u=true:=by unfold HO; rw [huu]
         rw [hc.1.1,hc.1.2,ang] at a6
         exact TU a6 (aff (Nat.eq_of_beq_eq_true hc.2) (Nat.le_of_ble_eq_true hc.1.1))
       ·exact du
      ·exact du
     ·exact du
    ·exact du
   ·
    simp only at a6
    show Fm P o (Mw P argTypes.toList args.toList)
    unfold Mw
    unfold Qv at a6
    split
    ·rename_i t u ht
     rw [ht] at a6
     simp only at a6
     split
     ·rename_i e eu hu huu
      rw [hu] at a6
      simp only at a6
      split
      ·rename_i n hn
       rw [hn] at a6
       simp only at a6
       cases hc:(Nat.ble 1 n&&Nat.beq (bt P e).ks.length n) with
       | false=>exact du
       | true=>
        simp only [Bool.and_eq_true] at hc
        rw [hc.1] at a6
        exact TU a6 (aj0 (Nat.eq_of_beq_eq_true hc.2) (Nat.le_of_ble_eq_true hc.1))
      ·exact du
     ·exact du
    ·exact du
   ·trivial
  ·trivial
 | _=>trivial
end Go.K
end
section
namespace Go.K
open Go Go.aE
variable {P:Program} {E:Env}
theorem rO (t:bz):∀ xs,lM t xs=xs.map (kW t)
 | []=>rfl
 | x::xs=>by rw [lM,rO t xs]; rfl
structure ln (P:Program) (E:Env) (ρ:aW) (t:bz) (N:Nat) (a:Act):Prop where
 size:a.tmps.size=N
 val:∀ i,VC P E ρ ((t.get i).getD .aw) (a.tmps.getD i undef)
 none:∀ i,N≤i→t.get i=Option.none
theorem ln.ev {ρ:aW} {t:bz} {N:Nat} {a:Act} (h:ln P E ρ t N a) (x:Operand):VC P E ρ (kW t x) (a.eval x):=by
 cases x with
 | tmp i=>exact h.val i
 | const v=>
  simp only [kW,Act.eval]
  cases hf:flat v with
  | true=>exact ⟨v,.gS v,VR.of_flat hf⟩
  | false=>exact .aw
 | global g=>exact .aw
 | func f=>exact ⟨.func (.func f) ⟨[]⟩ ⟨[]⟩,.aeX .nil .nil,VR.XT (l:=[]) (m:=[]) (.func f) rfl .nil .nil⟩
theorem ln.mono {E' : Env} {ρ aX:aW} {t:bz} {N:Nat} {a:Act} (h:ln P E ρ t N a) (k:E.le E') (m:ρ.le aX):ln P E' aX t N a:=⟨h.size,fun i=>(h.val i).mono k m,h.none⟩
theorem ln.put {ρ:aW} {t:bz} {N:Nat} {a:Act} {dst:Option Tmp} {v:KV} {v' : Value} (h:ln P E ρ t N a) (hd:∀ d,dst=some d→d < N) (hv:VC P E ρ v v'):ln P E ρ (pj t dst v) N (a.put dst v'):=by
 cases dst with
 | none=>exact h
 | some d=>
  have hd:=hd d rfl
  refine ⟨by simp [Act.put,h.size],fun i=>?_,fun i hi=>?_⟩
  ·simp only [pj,Trie.om,Act.put]
   by_cases e:i=d
   ·subst e
    have:i < a.tmps.size:=by rw [h.size]; exact hd
    simp [Array.getD_eq_getD_getElem?,this,hv]
   ·have:=h.val i
    simp only [if_neg e]
    simpa [Array.getD_eq_getD_getElem?,Array.getElem?_setIfInBounds_ne (Ne.symm e)] using this
  ·simp only [pj,Trie.om]
   have dJ:i≠d:=fun e=>absurd hi (by rw [e]; exact Nat.not_le_of_lt hd)
   rw [if_neg dJ]
   exact h.none i hi
theorem ln.same {ρ:aW} {t t' : bz} {N:Nat} {a:Act} (h:ln P E ρ t N a) (hs:∀ i,t'.get i=t.get i):ln P E ρ t' N a:=
 ⟨h.size,fun i=>by rw [hs]; exact h.val i,fun i hi=>by rw [hs]; exact h.none i hi⟩
theorem Bo {v:KV} {b:Bool} (h:tJ v = .bool b):v = .bool b:=by cases v <;> simp [tJ] at h; rw [h]
theorem Zp {v:KV} (h:tJ v = .kk):∃ l,v = .kk l:=by cases v <;> simp [tJ] at h; exact ⟨_,rfl⟩
theorem Iv {t:bz} {d:Tmp} {b:Bool} (h:tJ ((t.get d).getD .aw) = .bool b):∀ i,(Trie.set (.bool b) t d).get i=t.get i:=by
 intro i
 have:=Bo h
 rw [Trie.om]
 split
 ·rename_i e
  subst e
  cases ht:t.get i with
  | none=>rw [ht] at this; simp at this
  | some v=>rw [ht] at this; simp at this; rw [this]
 ·rfl
theorem VC.gf {ρ:aW} {b:Bool} {v:Value} (h:VC P E ρ (.bool b) v):v = .bool b:=by
 obtain ⟨u,h1,h2⟩:=h
 have:=h1.gf; subst this
 exact h2.gf
theorem adD {R:Type} {ρ:aW} {t:bz} {N:Nat} {a:Act} {all:List Oper} {o:Oper} {j:Nat} {want:Bool} {yes no:bz→Option R} {r:R} (hg:o.guard=some (j,want)) (ht:ln P E ρ t N a)
  (h:aeR t ((all[j]?).bind (·.dst)) want yes no=some r) :
  ∃ t',(∀ i,t'.get i=t.get i)∧((Region.wanted o (yielded ⟨all⟩ a.tmps)=true∧yes t' = some r)∨(Region.wanted o (yielded ⟨all⟩ a.tmps)=false∧no t' = some r)):=by
 unfold aeR at h
 cases hd:(all[j]?).bind (·.dst) with
 | none=>rw [hd] at h; exact absurd h (by simp)
 | some d=>
  rw [hd] at h
  have hw:∀ u,a.tmps[d]? = some u→Region.wanted o (yielded ⟨all⟩ a.tmps)=(match u with
    | .bool b=>b==want
    | _=>false):=by
   intro u hu
   unfold Region.wanted
   rw [hg]
   simp only
   unfold yielded
   have e:(⟨all⟩:Array Oper)[j]? = all[j]?:=by simp
   rw [e,hd]
   simp only [Option.bind_some,hu]
   cases u <;> rfl
  have wS:=ht.val d
  have h:BK.rec (motive:=fun _=>Option R)
   (fun b=>Bool.rec (motive:=fun _=>Option R)
    (Bool.rec (motive:=fun _=>Option R) (yes (t.set (.bool false) d)) (no (t.set (.bool false) d)) want)
    (Bool.rec (motive:=fun _=>Option R) (no (t.set (.bool true) d)) (yes (t.set (.bool true) d)) want) b)
   (no t) none (tJ ((t.get d).getD .aw))=some r:=h
  cases hb:tJ ((t.get d).getD .aw) with
  | no=>rw [hb] at h; exact absurd h (by simp)
  | kk=>
   rw [hb] at h
   obtain ⟨l,hl⟩:=Zp hb
   rw [hl] at wS
   obtain ⟨u,h1,h2⟩:=wS
   obtain ⟨m,rfl,_⟩:=h1.KD
   obtain ⟨m',h3,_⟩:=h2.OZ
   refine ⟨t,fun _=>rfl,.inr ⟨?_,h⟩⟩
   cases hc:a.tmps[d]? with
   | none=>
    unfold Region.wanted
    rw [hg]
    simp only
    unfold yielded
    have e:(⟨all⟩:Array Oper)[j]? = all[j]?:=by simp
    rw [e,hd]
    simp [hc]
   | some u=>
    have:u = .tuple m':=by rw [← h3]; simp [Array.getD_eq_getD_getElem?,hc]
    rw [hw u hc,this]
  | bool b=>
   rw [hb] at h
   have hbv:=Bo hb
   rw [hbv] at wS
   have hcv:=wS.gf
   have hc:a.tmps[d]? = some (.bool b):=by
    cases hc:a.tmps[d]? with
    | none=>simp [Array.getD_eq_getD_getElem?,hc,undef] at hcv
    | some u=>have:u = .bool b:=by rw [← hcv]; simp [Array.getD_eq_getD_getElem?,hc]
              rw [this]
   have hwd:=hw _ hc
   refine ⟨t.set (.bool b) d,Iv hb,?_⟩
   cases b <;> cases want
   ·exact .inl ⟨hwd,h⟩
   ·exact .inr ⟨hwd,h⟩
   ·exact .inr ⟨hwd,h⟩
   ·exact .inl ⟨hwd,h⟩
def BQ (P:Program) (E:Env) (ρ:aW) (l:List KV) (l' : List Value):Prop:=∃ m,bb P E l m∧dT ρ m l'
def Gz (P : Program) (g : FuncId) : Prop := Nat.blt g yB = true ∧ ∃ fn, P.funcs[g]? = some fn ∧ fn.body.isSome = true ∧ (fn.name == "runtime.NumGoroutine") = false
def GA {R:Type} (P:Program) (bw:np R):Prop:=
 ∀ f args A k r,bw f args A k=some r→Gz P f∧∀ (E:Env) (B:St) (ρ:aW) (base:Nat) (w:World) (kv:List Value),BQ P E ρ args kv→KJ P E A B ρ base w→
  Calls P f kv.toArray w fun e w'=>∃ v v' E' A' B' aX,e = .returned v'∧VC P E' aX v v'∧Ev P base E A B ρ w E' A' B' aX w'∧k v A' = some r
def ca (P:Program) (g:FuncId) (F:List KV→KR KV):Prop:=
 ∀ args v,a5 (F (normArgs P (aJ P g) args)) v→args.length=(aJ P g).length→Gz P g∧∀ (E:Env) (A:ax) (B:St) (ρ:aW) (base:Nat) (w:World) (kv:List Value),BQ P E ρ args kv→KJ P E A B ρ base w→
  Calls P g kv.toArray w fun e w'=>∃ v' E' B' aX,e = .returned v'∧VC P E' aX v v'∧Ev P base E A B ρ w E' A B' aX w'
def ra (P:Program) (pc:FuncId→Option (List KV→KR KV)):Prop:=∀ g F,pc g=some F→ca P g F
theorem adE {o:Oper} {f:Operand} {args:List Operand} (a6:compile P o.op = .call f args) {ρ:aW} {t:bz} {N:Nat} {a:Act} (ht:ln P E ρ t N a) {g:FuncId} {vs:List KV} (hc:Di (lM t args) (kW t f)=some (g,vs)) (hg:Gz P g) :
  ∃ cS,BQ P E ρ vs cS∧∀ w,(execOp a.eval o).run P w = .ok (.enter g cS.toArray) w:=by
 have b9:=qj P o
 rw [a6] at b9
 obtain ⟨em,h1,h2⟩:=cn (xs:=f::args) (ev:=kW t) (cX:=a.eval) fun x _=>ht.ev x
 obtain ⟨y,ys,e,h3,h4⟩:=h1.cons_inv
 simp only [List.map_cons,List.cons.injEq] at e
 obtain ⟨rfl,rfl⟩:=e
 have hv:∃ us,uA (args.map em) (em f)=some (g,us)∧bb P E vs us:=by
  unfold Di at hc
  split at hc
  ·rename_i g' first cap e
   simp only [Option.some.injEq,Prod.mk.injEq] at hc
   obtain ⟨rfl,rfl⟩:=hc
   rw [e] at h3
   obtain ⟨l,m,e2,h5,h6⟩:=h3.Em
   rw [e2]
   refine ⟨l++args.map em++m,by simp only [uA]; rw [hg.1]; rfl,?_⟩
   rw [rO]
   exact (h5.append h4).append h6
  ·simp at hc
 obtain ⟨us,h5,h6⟩:=hv
 obtain ⟨cS,h7,h8⟩:=b9.2 ρ em a.eval g us h2 hg.1 h5 hg.2
 exact ⟨cS,⟨us,h6,h7⟩,h8⟩
def dM:qm→Bool
 | .call _ _=>false
 | .Ae _ _ _=>false
 | .Dh _ _ _=>false
 | _=>true
theorem eA {c:Bool} {x:qm} (h:dM x=true):dM (cond c x .bad)=true:=by
 cases c with
 | false=>rfl
 | true=>exact h
theorem Al (mt:TypeId→Bool) (b:Builtin) (ts:List TypeId) (args:List Operand):dM (yT P mt b ts args)=true:=by
 unfold yT YP Ej Mw
 repeat' split
 all_goals first | rfl | exact eA rfl
theorem xE (mt:TypeId→Bool) (t:TypeId) (l c:Operand):dM (uG P mt t l c)=true:=by
 unfold uG
 split
 ·rename_i e he
  split
  ·split
   ·cases mt (e+1000000)
    ·cases mt e <;> exact eA rfl
    ·exact eA rfl
   ·rfl
  ·rfl
 ·rfl
theorem VW {cfg:eJ} {op:Op} {f:Operand} {args:List Operand} (h:bW P cfg op = .call f args):compile P op = .call f args:=by
 have key:dM (bW P cfg op)=true→compile P op = .call f args:=fun hn=>by rw [h] at hn; simp [dM] at hn
 cases op with
 | call c=>
  have h:lY P cfg c = .call f args:=h
  show yG P c=_
  unfold lY at h
  unfold yG
  split at h
  ·rename_i g hc
   split at h
   ·cases hz:cfg.aeQ g <;> rw [hz] at h <;> simp at h
   ·simp at h; obtain ⟨rfl,rfl⟩:=h; rw [hc]
  ·rename_i f' dJ hc; simp at h; obtain ⟨rfl,rfl⟩:=h; rw [hc]
  ·rename_i b hc
   have:=Al (P:=P) cfg.x.mt b c.argTypes.toList c.args.toList
   rw [h] at this
   simp [dM] at this
  ·simp at h
 | alloc t=>exact key (by show dM (oZ P t)=true; unfold oZ; split <;> first | rfl | exact eA rfl)
 | build t ps=>exact key (by show dM (sB P t _ _)=true; unfold sB; (repeat' split); all_goals first | rfl | exact eA rfl)
 | buildSlice t n ps=>exact key (by show dM (lE P t n _ _)=true; unfold lE; (repeat' split); all_goals first | rfl | exact eA (by cases H4 _ <;> first | rfl | exact eA rfl))
 | convert s d x=>exact key (by show dM (oB P s d x)=true; unfold oB; (repeat' split); all_goals first | rfl | exact eA rfl)
 | makeFunc fn a b=>exact key (by show dM (cond (wP fn) .bad _)=true; cases wP fn <;> rfl)
 | fieldAddr s x i=>exact key (by show dM (mG P s x i)=true; unfold mG; (repeat' split); all_goals rfl)
 | field s x i=>exact key (by show dM (sD P s x i)=true; unfold sD; (repeat' split); all_goals rfl)
 | indexAddr s x i=>exact key (by show dM (mH P s x i)=true; unfold mH; (repeat' split); all_goals rfl)
 | index s x i=>exact key (by show dM (sE P s x i)=true; unfold sE; (repeat' split); all_goals rfl)
 | slice t x lo hi mx=>exact key (by show dM (sF P t x lo hi mx)=true; unfold sF; (repeat' split); all_goals first | rfl | exact eA rfl)
 | makeSlice t l c=>exact key (xE _ t l c)
 | _=>exact key rfl
theorem adF {cfg:eJ} {op:Op} {g:FuncId} {F:List KV→KR KV} {args:List Operand} (h:bW P cfg op = .Ae g F args):compile P op = .call (.func g) args∧∃ F0,cfg.pc g=some F0∧F=fun vs=>cond (Nat.beq vs.length (aJ P g).length) (F0 (normArgs P (aJ P g) vs)) .no:=by
 have key:dM (bW P cfg op)=true→compile P op = .call (.func g) args∧∃ F0,cfg.pc g=some F0∧F=fun vs=>cond (Nat.beq vs.length (aJ P g).length) (F0 (normArgs P (aJ P g) vs)) .no:=fun hn=>by rw [h] at hn; simp [dM] at hn
 cases op with
 | call c=>
  have h:lY P cfg c = .Ae g F args:=h
  show yG P c=_∧_
  unfold lY at h
  unfold yG
  split at h
  ·rename_i g' hc
   split at h
   ·rename_i F0 hF
    cases hz:cfg.aeQ g' with
    | true=>rw [hz] at h; simp at h
    | false=>
     rw [hz] at h
     simp at h; obtain ⟨rfl,rfl,rfl⟩:=h; rw [hc]
     exact ⟨rfl,F0,hF,rfl⟩
   ·simp at h
  ·simp at h
  ·rename_i b hc
   have:=Al (P:=P) cfg.x.mt b c.argTypes.toList c.args.toList
   rw [h] at this
   simp [dM] at this
  ·simp at h
 | alloc t=>exact key (by show dM (oZ P t)=true; unfold oZ; split <;> first | rfl | exact eA rfl)
 | build t ps=>exact key (by show dM (sB P t _ _)=true; unfold sB; (repeat' split); all_goals first | rfl | exact eA rfl)
 | buildSlice t n ps=>exact key (by show dM (lE P t n _ _)=true; unfold lE; (repeat' split); all_goals first | rfl | exact eA (by cases H4 _ <;> first | rfl | exact eA rfl))
 | convert s d x=>exact key (by show dM (oB P s d x)=true; unfold oB; (repeat' split); all_goals first | rfl | exact eA rfl)
 | makeFunc fn a b=>exact key (by show dM (cond (wP fn) .bad _)=true; cases wP fn <;> rfl)
 | fieldAddr s x i=>exact key (by show dM (mG P s x i)=true; unfold mG; (repeat' split); all_goals rfl)
 | field s x i=>exact key (by show dM (sD P s x i)=true; unfold sD; (repeat' split); all_goals rfl)
 | indexAddr s x i=>exact key (by show dM (mH P s x i)=true; unfold mH; (repeat' split); all_goals rfl)
 | index s x i=>exact key (by show dM (sE P s x i)=true; unfold sE; (repeat' split); all_goals rfl)
 | slice t x lo hi mx=>exact key (by show dM (sF P t x lo hi mx)=true; unfold sF; (repeat' split); all_goals first | rfl | exact eA rfl)
 | makeSlice t l c=>exact key (xE _ t l c)
 | _=>exact key rfl
theorem adG {cfg:eJ} {op:Op} {g:FuncId} {F:List KV→KR KV} {args:List Operand} (h:bW P cfg op = .Dh g F args):compile P op = .call (.func g) args∧∃ F0,cfg.pc g=some F0∧F=fun vs=>cond (Nat.beq vs.length (aJ P g).length) (F0 (normArgs P (aJ P g) vs)) .no:=by
 have key:dM (bW P cfg op)=true→compile P op = .call (.func g) args∧∃ F0,cfg.pc g=some F0∧F=fun vs=>cond (Nat.beq vs.length (aJ P g).length) (F0 (normArgs P (aJ P g) vs)) .no:=fun hn=>by rw [h] at hn; simp [dM] at hn
 cases op with
 | call c=>
  have h:lY P cfg c = .Dh g F args:=h
  show yG P c=_∧_
  unfold lY at h
  unfold yG
  split at h
  ·rename_i g' hc
   split at h
   ·rename_i F0 hF
    cases hz:cfg.aeQ g' with
    | false=>rw [hz] at h; simp at h
    | true=>
     rw [hz] at h
     simp at h; obtain ⟨rfl,rfl,rfl⟩:=h; rw [hc]
     exact ⟨rfl,F0,hF,rfl⟩
   ·simp at h
  ·simp at h
  ·rename_i b hc
   have:=Al (P:=P) cfg.x.mt b c.argTypes.toList c.args.toList
   rw [h] at this
   simp [dM] at this
  ·simp at h
 | alloc t=>exact key (by show dM (oZ P t)=true; unfold oZ; split <;> first | rfl | exact eA rfl)
 | build t ps=>exact key (by show dM (sB P t _ _)=true; unfold sB; (repeat' split); all_goals first | rfl | exact eA rfl)
 | buildSlice t n ps=>exact key (by show dM (lE P t n _ _)=true; unfold lE; (repeat' split); all_goals first | rfl | exact eA (by cases H4 _ <;> first | rfl | exact eA rfl))
 | convert s d x=>exact key (by show dM (oB P s d x)=true; unfold oB; (repeat' split); all_goals first | rfl | exact eA rfl)
 | makeFunc fn a b=>exact key (by show dM (cond (wP fn) .bad _)=true; cases wP fn <;> rfl)
 | fieldAddr s x i=>exact key (by show dM (mG P s x i)=true; unfold mG; (repeat' split); all_goals rfl)
 | field s x i=>exact key (by show dM (sD P s x i)=true; unfold sD; (repeat' split); all_goals rfl)
 | indexAddr s x i=>exact key (by show dM (mH P s x i)=true; unfold mH; (repeat' split); all_goals rfl)
 | index s x i=>exact key (by show dM (sE P s x i)=true; unfold sE; (repeat' split); all_goals rfl)
 | slice t x lo hi mx=>exact key (by show dM (sF P t x lo hi mx)=true; unfold sF; (repeat' split); all_goals first | rfl | exact eA rfl)
 | makeSlice t l c=>exact key (xE _ t l c)
 | _=>exact key rfl
noncomputable def tQ (ins:qm) (t:bz) (A:ax):KR (KV×ax):=
 match ins with
 | .pure f xs=>(f (lM t xs)).map fun v=>(v,A)
 | .read f xs=>(f A (lM t xs)).map fun v=>(v,A)
 | .act f xs=>f A (lM t xs)
 | .look f xs=>(f (lM t xs)).map fun v=>(v,A)
 | .Ae _ f xs=>(f (lM t xs)).map fun v=>(v,A)
 | .Dh _ f xs=>(f (v7 A (lM t xs)).1).map fun v=>(v,(v7 A (lM t xs)).2)
 | .call _ _=>.no
 | .bad=>.no
theorem a5.yW {α β:Type} {r:KR α} {f:α→β} {u:α} (h:a5 r u):a5 (r.map f) (f u):=by
 cases r with
 | no=>exact h.elim
 | ok x=>have h:x=u:=h; subst h; exact rfl
 | mj c x=>obtain ⟨h1,rfl⟩:=h; exact ⟨h1,rfl⟩
 | br c x y=>exact h.imp (fun h=>⟨h.1,a5.yW (r:=x) h.2⟩) (fun h=>⟨h.1,a5.yW (r:=y) h.2⟩)
theorem Er {R:Type} {bw:np R} {t:bz} {A:ax} {k:KV→ax→Option R} {ins:qm} {r:R} (hn:∀ f args,ins≠.call f args) (h:KB bw t A k ins=some r):∃ v A',a5 (tQ ins t A) (v,A')∧k v A' = some r:=by
 cases ins with
 | pure f xs=>obtain ⟨v,h1,h2⟩:=KR.yc h; exact ⟨v,A,h1.yW,h2⟩
 | read f xs=>obtain ⟨v,h1,h2⟩:=KR.yc h; exact ⟨v,A,h1.yW,h2⟩
 | act f xs=>obtain ⟨v,h1,h2⟩:=KR.yc h; exact ⟨v.1,v.2,h1,h2⟩
 | look f xs=>obtain ⟨v,h1,h2⟩:=KR.yc h; exact ⟨v,A,h1.yW,h2⟩
 | Ae g f xs=>obtain ⟨v,h1,h2⟩:=KR.yc h; exact ⟨v,A,h1.yW,h2⟩
 | Dh g f xs=>obtain ⟨v,h1,h2⟩:=KR.yc h; exact ⟨v,(v7 A (lM t xs)).2,h1.yW (f:=fun v=>(v,(v7 A (lM t xs)).2)),h2⟩
 | call f args=>exact absurd rfl (hn f args)
 | bad=>exact absurd h (by simp [KB])
theorem VX {cfg:eJ} (iu:ra P cfg.pc) {o:Oper} {g:FuncId} {xs:List Operand} (a6:compile P o.op = .call (.func g) xs) {F0:List KV→KR KV} (hF0:cfg.pc g=some F0) {t:bz} {vs0:List KV} {v:KV}
  (hf:a5 (F0 (normArgs P (aJ P g) vs0)) v) (hlen:vs0.length=(aJ P g).length) {E:Env} {ρ:aW} {a:Act} (hv:∀ x∈xs,VC P E ρ (kW t x) (a.eval x)) {A A1:ax} {B:St} {base:Nat} {w:World}
  (anh:∀ us,bb P E (xs.map (kW t)) us→∃ E1,Ev P base E A B ρ w E1 A1 B ρ w∧bb P E1 vs0 us) {next:Act→World→Prop} {Q:Exit→Act→World→Prop}
  (hk:∀ E' B' aX v' w',VC P E' aX v v'→Ev P base E A B ρ w E' A1 B' aX w'→next (a.put o.dst v') w'):o.upon P a next Q ((execOp a.eval o).run P w):=by
 obtain ⟨hg,mZ⟩:=iu g F0 hF0 _ _ hf hlen
 have VY:=qj P o
 rw [a6] at VY
 obtain ⟨em,h3,h4⟩:=cn (xs:=xs) hv
 let em2:Operand→Value:=fun x=>match x with
  | .func f=>.func (.func f) #[] #[]
  | x=>em x
 have e3:∀ x∈xs,VK P E (kW t x) (em2 x)∧VR ρ (em2 x) (a.eval x):=by
  intro x hx
  have key:∀ (l:List Operand),bb P E (l.map (kW t)) (l.map em)→x∈l→VK P E (kW t x) (em x):=by
   intro l
   induction l with
   | nil=>intro _ h; simp at h
   | cons y l ih=>
    intro h hm
    obtain ⟨z,zs,e,q1,q2⟩:=h.cons_inv
    simp only [List.map_cons,List.cons.injEq] at e
    obtain ⟨rfl,rfl⟩:=e
    rcases List.mem_cons.1 hm with rfl | hm
    ·exact q1
    ·exact ih q2 hm
  cases x with
  | func f=>exact ⟨.aeX .nil .nil,VR.XT (l:=[]) (m:=[]) (.func f) rfl .nil .nil⟩
  | tmp i=>exact ⟨key xs h3 hx,h4 _ hx⟩
  | const c=>exact ⟨key xs h3 hx,h4 _ hx⟩
  | global q=>exact ⟨key xs h3 hx,h4 _ hx⟩
 have e4:bb P E (xs.map (kW t)) (xs.map em2):=by
  have:∀ (l:List Operand),(∀ x∈l,VK P E (kW t x) (em2 x))→bb P E (l.map (kW t)) (l.map em2):=by
   intro l
   induction l with
   | nil=>intro _; exact .nil
   | cons y l ih=>intro h; exact .cons (h y (by simp)) (ih fun z hz=>h z (by simp [hz]))
  exact this xs fun x hx=>(e3 x hx).1
 obtain ⟨cS,h5,h6⟩:=VY.2 ρ em2 a.eval g (xs.map em2) (fun x hx=>by
   rcases List.mem_cons.1 hx with rfl | hx
   ·exact VR.XT (l:=[]) (m:=[]) (.func g) rfl .nil .nil
   ·exact (e3 x hx).2) hg.1 (by simp only [em2,uA]; rw [hg.1]; simp) hg.2
 rw [h6 w]
 obtain ⟨E1,q1,q2⟩:=anh _ e4
 refine (mZ E1 A1 B ρ base w cS ⟨xs.map em2,q2,h5⟩ q1.kj).mono ?_
 rintro e w' ⟨v',E',B',aX,rfl,h7,h8⟩
 exact hk E' B' aX v' w' h7 (q1.trans h8)
theorem Iw {cfg:eJ} (iu:ra P cfg.pc) {o:Oper} {t:bz} {A A' : ax} {v:KV} {base:Nat} {B:St} {ρ:aW} {a:Act} {w:World} {next:Act→World→Prop} {Q:Exit→Act→World→Prop}
  (h:a5 (tQ (bW P cfg o.op) t A) (v,A')) (hv:∀ x∈XZ (bW P cfg o.op),VC P E ρ (kW t x) (a.eval x)) (hj:KJ P E A B ρ base w)
  (hk:∀ E' B' aX v' w',VC P E' aX v v'→Ev P base E A B ρ w E' A' B' aX w'→next (a.put o.dst v') w'):o.wp P a w next Q:=by
 have b9:=aiN P cfg o
 have ah0:=@adF P cfg o.op
 have ah1:=@adG P cfg o.op
 generalize bW P cfg o.op=ins at h b9 hv ah0 ah1
 unfold Oper.wp
 cases ins with
 | pure f xs=>
  obtain ⟨u,h1,h2⟩:=a5.map h
  simp only [Prod.mk.injEq] at h2
  obtain ⟨rfl,rfl⟩:=h2
  rw [rO] at h1
  obtain ⟨v',h3,h4⟩:=b9 E ρ (kW t) a.eval u hv h1
  rw [h4 w]
  exact hk E B ρ v' w h3 (.refl hj.k hj.s)
 | read f xs=>
  obtain ⟨u,h1,h2⟩:=a5.map h
  simp only [Prod.mk.injEq] at h2
  obtain ⟨rfl,rfl⟩:=h2
  rw [rO] at h1
  obtain ⟨v',h3,h4⟩:=b9 E A B ρ base w (kW t) a.eval u hj hv h1
  rw [h4]
  exact hk E B ρ v' w h3 (.refl hj.k hj.s)
 | act f xs=>
  have h:a5 (f A (lM t xs)) (v,A'):=h
  rw [rO] at h
  obtain ⟨E',B',aX,v',nx,w',h1,h2,h3,h4⟩:=b9 E A A' B ρ base w (kW t) a.eval v hj hv h
  rw [h1]
  have hd:=hk E' B' aX v' w' h3 h4
  cases nx with
  | value u=>have:u=v':=h2; subst this; exact hd
  | skip=>have:v' = undef:=h2; subst this; exact hd
  | _=>exact h2.elim
 | look f xs=>
  obtain ⟨u,h1,h2⟩:=a5.map h
  simp only [Prod.mk.injEq] at h2
  obtain ⟨rfl,rfl⟩:=h2
  rw [rO] at h1
  obtain ⟨E',B',aX,v',nx,w',h3,h4,h5,h6⟩:=b9 E A B ρ base w (kW t) a.eval u hj hv h1
  rw [h3]
  have hd:=hk E' B' aX v' w' h5 h6
  cases nx with
  | value u=>have:u=v':=h4; subst this; exact hd
  | skip=>have:v' = undef:=h4; subst this; exact hd
  | _=>exact h4.elim
 | Ae g f xs=>
  obtain ⟨u,h1,h2⟩:=a5.map h
  simp only [Prod.mk.injEq] at h2
  obtain ⟨rfl,rfl⟩:=h2
  obtain ⟨a6,F0,hF0,rfl⟩:=ah0 rfl
  obtain ⟨hlen,hf⟩:=a5.cond h1
  exact VX iu a6 hF0 hf (Nat.eq_of_beq_eq_true hlen) hv (fun us q=>⟨E,.refl hj.k hj.s,by rw [rO]; exact q⟩) hk
 | Dh g f xs=>
  obtain ⟨u,h1,h2⟩:=a5.map h
  simp only [Prod.mk.injEq] at h2
  obtain ⟨rfl,rfl⟩:=h2
  obtain ⟨a6,F0,hF0,rfl⟩:=ah1 rfl
  obtain ⟨hlen,hf⟩:=a5.cond h1
  refine VX iu a6 hF0 hf (Nat.eq_of_beq_eq_true hlen) hv (fun us q=>?_) hk
  obtain ⟨E1,p1,p2⟩:=Ep hj.k q
  rw [rO]
  exact ⟨E1,p1.ev (.refl hj.s),p2⟩
 | call f args=>exact h.elim
 | bad=>exact h.elim
end Go.K
end
section
namespace Go.K
open Go Go.aE
variable {P:Program} {E:Env}
theorem VZ {R:Type} {cfg:eJ} {bw:np R} (iu:ra P cfg.pc) (uu:GA P bw) {o:Oper} {t:bz} {A:ax} {k:KV→ax→Option R} {r:R} {N base:Nat} {B:St} {ρ:aW} {a:Act} {w:World} {next:Act→World→Prop} {Q:Exit→Act→World→Prop}
  (h:KB bw t A k (bW P cfg o.op)=some r) (ht:ln P E ρ t N a) (hj:KJ P E A B ρ base w)
  (hk:∀ E' A' B' aX v v' w',k v A' = some r→VC P E' aX v v'→Ev P base E A B ρ w E' A' B' aX w'→next (a.put o.dst v') w'):o.wp P a w next Q:=by
 by_cases hc:∃ f args,bW P cfg o.op = .call f args
 ·obtain ⟨f,args,hc⟩:=hc
  rw [hc] at h
  have h:Option.rec (motive:=fun _=>Option R) none (fun p=>bw p.1 p.2 A k) (Di (lM t args) (kW t f))=some r:=h
  cases aeI:Di (lM t args) (kW t f) with
  | none=>rw [aeI] at h; exact absurd h (by simp)
  | some p=>
   obtain ⟨g,vs⟩:=p
   rw [aeI] at h
   have h:bw g vs A k=some r:=h
   obtain ⟨hg,mZ⟩:=uu g vs A k r h
   obtain ⟨cS,h1,h2⟩:=adE (VW hc) ht aeI hg
   unfold Oper.wp
   rw [h2 w]
   refine (mZ E B ρ base w cS h1 hj).mono ?_
   rintro e w' ⟨v,v',E',A',B',aX,rfl,h3,h4,h5⟩
   exact hk E' A' B' aX v v' w' h5 h3 h4
 ·obtain ⟨v,A',h1,h2⟩:=Er (fun f args e=>hc ⟨f,args,e⟩) h
  exact Iw iu h1 (fun x _=>ht.ev x) hj fun E' B' aX v' w' h3 h4=>hk E' A' B' aX v v' w' h2 h3 h4
theorem afh {R:Type} {cfg:eJ} {bw:np R} {all:List Oper} {o:Oper} {k:bz→ax→Option R} {t:bz} {A:ax} {r:R} {N:Nat} {ρ:aW} {a:Act} (ht:ln P E ρ t N a) (h:xB P cfg bw all o k t A=some r) :
  ∃ t1,(∀ i,t1.get i=t.get i)∧((Region.wanted o (yielded ⟨all⟩ a.tmps)=true∧KB bw t1 A (fun v A=>k (pj t1 o.dst v) A) (bW P cfg o.op)=some r)∨
   (Region.wanted o (yielded ⟨all⟩ a.tmps)=false∧k (pj t1 o.dst rp) A=some r)):=by
 unfold xB at h
 cases hg:o.guard with
 | none=>
  rw [hg] at h
  refine ⟨t,fun _=>rfl,.inl ⟨?_,h⟩⟩
  unfold Region.wanted
  rw [hg]
 | some p=>
  obtain ⟨j,want⟩:=p
  rw [hg] at h
  exact adD hg ht h
theorem KS {R:Type} {cfg:eJ} {bw:np R} (iu:ra P cfg.pc) (uu:GA P bw) {N base:Nat} {Q:Exit→Act→World→Prop} {all:List Oper} (hd:all.all (Fa N)=true) {k:bz→ax→Option R} {r:R} :
  ∀ (os:List Oper) (j:Nat) (t:bz) (E:Env) (A:ax) (B:St) (ρ:aW) (a:Act) (w:World),all.drop j=os→sj P cfg bw all k os t A=some r→ln P E ρ t N a→KJ P E A B ρ base w→
   (∀ t' E' A' B' aX a' w',k t' A' = some r→ln P E' aX t' N a'→a'.defers=a.defers→Ev P base E A B ρ w E' A' B' aX w'→Q .normal a' w')→wpOps P ⟨all⟩ Q (List.range' j os.length) a w
 | [],j,t,E,A,B,ρ,a,w,_,h,ht,hj,hq=>hq t E A B ρ a w h ht rfl (.refl hj.k hj.s)
 | o::os,j,t,E,A,B,ρ,a,w,hk,h,ht,hj,hq=>by
  have ho:(⟨all⟩:Array Oper)[j]? = some o:=by
   have:(all.drop j)[0]? = some o:=by rw [hk]; rfl
   rw [List.getElem?_drop] at this
   simpa using this
  have te:all.drop (j+1)=os:=by rw [← List.drop_drop,hk]; rfl
  have Dq:∀ d,o.dst=some d→d < N:=by
   intro d e
   have hm:o∈all:=List.mem_of_getElem? (by simpa using ho)
   have:=List.all_eq_true.1 hd o hm
   unfold Fa at this
   rw [e] at this
   simp only at this
   rw [Nat.blt_eq] at this
   exact this
  rw [List.length_cons,List.range'_succ]
  simp only [wpOps,ho]
  have h:xB P cfg bw all o (sj P cfg bw all k os) t A=some r:=h
  obtain ⟨t1,Ff,h⟩:=afh ht h
  have wc:=ht.same Ff
  rcases h with ⟨hw,h⟩ | ⟨hw,h⟩
  ·rw [hw]
   refine .inl (VZ iu uu h wc hj fun E' A' B' aX v v' w' h1 h2 h3=>?_)
   refine KS iu uu hd os (j+1) _ E' A' B' aX _ w' te h1 ((wc.mono h3.le (h3.fP.le hj.s)).put Dq h2) h3.kj fun t' GB A'' Ix uC Zq Ga h4 h5 h6 h7=>?_
   exact hq t' GB A'' Ix uC Zq Ga h4 h5 (by rw [h6,put_defers]) (h3.trans h7)
  ·rw [hw]
   refine KS iu uu hd os (j+1) _ E A B ρ _ w te h (wc.put Dq .undef) hj fun t' GB A'' Ix uC Zq Ga h4 h5 h6 h7=>?_
   exact hq t' GB A'' Ix uC Zq Ga h4 h5 (by rw [h6,put_defers]) h7
abbrev Out:=Bool×KV×ax
inductive Run (P:Program) (cfg:eJ) (all:List Oper):List Oper→bz→ax→List Out→bz→ax→Prop where
 | nil {t:bz} {A:ax} : Run P cfg all [] t A [] t A
 | cons {o:Oper} {os:List Oper} {t t1 t' : bz} {A A1 A' : ax} {wd:Bool} {v:KV} {L:List Out}
   (same:∀ i,t1.get i=t.get i)
   (want:(o.guard=none∧wd=true)∨∃ j want d,o.guard=some (j,want)∧(all[j]?).bind (·.dst)=some d∧((∃ b,t.get d=some (.bool b)∧wd=(b==want))∨(∃ l,t.get d=some (.kk l)∧wd=false)))
   (yes:wd=true→a5 (tQ (bW P cfg o.op) t1 A) (v,A1)) (no:wd=false→v=rp∧A1=A)
   (rest:Run P cfg all os (pj t1 o.dst v) A1 L t' A'):Run P cfg all (o::os) t A ((wd,v,A1)::L) t' A'
theorem Iy {R:Type} {t:bz} {d:Option Tmp} {want:Bool} {yes no:bz→Option R} {r:R} (h:aeR t d want yes no=some r) :
  ∃ d',d=some d'∧((∃ b t',t.get d' = some (.bool b)∧(∀ i,t'.get i=t.get i)∧((b==want)=true∧yes t' = some r∨(b==want)=false∧no t' = some r))∨∃ l,t.get d' = some (.kk l)∧no t=some r):=by
 unfold aeR at h
 cases d with
 | none=>exact absurd h (by simp)
 | some d=>
  refine ⟨d,rfl,?_⟩
  have h:BK.rec (motive:=fun _=>Option R)
   (fun b=>Bool.rec (motive:=fun _=>Option R)
    (Bool.rec (motive:=fun _=>Option R) (yes (t.set (.bool false) d)) (no (t.set (.bool false) d)) want)
    (Bool.rec (motive:=fun _=>Option R) (no (t.set (.bool true) d)) (yes (t.set (.bool true) d)) want) b)
   (no t) none (tJ ((t.get d).getD .aw))=some r:=h
  have nf:∀ v,(t.get d).getD .aw=v→v≠.aw→t.get d=some v:=by
   intro v e dJ
   cases hg:t.get d with
   | none=>rw [hg] at e; exact absurd e.symm dJ
   | some u=>rw [hg] at e; simp at e; rw [e]
  cases hb:tJ ((t.get d).getD .aw) with
  | no=>rw [hb] at h; exact absurd h (by simp)
  | kk=>
   rw [hb] at h
   obtain ⟨l,hl⟩:=Zp hb
   exact .inr ⟨l,nf _ hl (by simp),h⟩
  | bool b=>
   rw [hb] at h
   refine .inl ⟨b,t.set (.bool b) d,nf _ (Bo hb) (by simp),Iv hb,?_⟩
   cases b <;> cases want
   ·exact .inl ⟨rfl,h⟩
   ·exact .inr ⟨rfl,h⟩
   ·exact .inr ⟨rfl,h⟩
   ·exact .inl ⟨rfl,h⟩
theorem Q8 {R:Type} {cfg:eJ} {bw:np R} {all:List Oper} {k:bz→ax→Option R} {r:R} : ∀ {os:List Oper} {t:bz} {A:ax},(∀ o∈os,∀ f args,bW P cfg o.op≠.call f args)→sj P cfg bw all k os t A=some r→
  ∃ L t' A',Run P cfg all os t A L t' A'∧k t' A' = some r
 | [],t,A,_,h=>⟨[],t,A,.nil,h⟩
 | o::os,t,A,hn,h=>by
  have h:xB P cfg bw all o (sj P cfg bw all k os) t A=some r:=h
  have H0:=fun q hq=>hn q (List.mem_cons_of_mem o hq)
  unfold xB at h
  cases hg:o.guard with
  | none=>
   rw [hg] at h
   obtain ⟨v,A1,h1,h2⟩:=Er (hn o (by simp)) h
   obtain ⟨L,t',A',h3,h4⟩:=Q8 H0 h2
   exact ⟨_,t',A',.cons (fun _=>rfl) (.inl ⟨hg,rfl⟩) (fun _=>h1) (fun e=>by simp at e) h3,h4⟩
  | some p=>
   obtain ⟨j,want⟩:=p
   rw [hg] at h
   obtain ⟨d,hd,h⟩:=Iy h
   rcases h with ⟨b,t1,h1,h2,h3⟩ | ⟨l,h1,h2⟩
   ·rcases h3 with ⟨h3,h4⟩ | ⟨h3,h4⟩
    ·obtain ⟨v,A1,h5,h6⟩:=Er (hn o (by simp)) h4
     obtain ⟨L,t',A',h7,h8⟩:=Q8 H0 h6
     exact ⟨_,t',A',.cons h2 (.inr ⟨j,want,d,hg,hd,.inl ⟨b,h1,h3.symm⟩⟩) (fun _=>h5) (fun e=>by simp at e) h7,h8⟩
    ·obtain ⟨L,t',A',h7,h8⟩:=Q8 H0 h4
     exact ⟨_,t',A',.cons h2 (.inr ⟨j,want,d,hg,hd,.inl ⟨b,h1,h3.symm⟩⟩) (fun e=>by simp at e) (fun _=>⟨rfl,rfl⟩) h7,h8⟩
   ·obtain ⟨L,t',A',h7,h8⟩:=Q8 H0 h2
    exact ⟨_,t',A',.cons (fun _=>rfl) (.inr ⟨j,want,d,hg,hd,.inr ⟨l,h1,rfl⟩⟩) (fun e=>by simp at e) (fun _=>⟨rfl,rfl⟩) h7,h8⟩
noncomputable def turns (P:Program) (cfg:eJ) (o:Oper) (x:Out):Bool:=x.1&&Nat.ble 3 (dA (bW P cfg o.op))
noncomputable def iY (S:Nat→Bool):List Oper→List Out→Nat→bz→bz
 | o::os,x::L,i,t=>iY S os L (i+1) (cond (S i) (pj t o.dst x.2.1) t)
 | _,_,_,t=>t
noncomputable def nh (P:Program) (cfg:eJ) (S:Nat→Bool):List Oper→List Out→Nat→ax→ax
 | o::os,x::L,i,A=>nh P cfg S os L (i+1) (cond (S i&&turns P cfg o x) x.2.2 A)
 | _,_,_,A=>A
theorem rP (t:bz) (dst:Option Tmp) (v:KV) (x:Tmp):(pj t dst v).get x=if dst=some x then some v else t.get x:=by
 cases dst with
 | none=>rfl
 | some d=>
  simp only [pj,Trie.om,Option.some.injEq]
  by_cases h:x=d
  ·rw [if_pos h,if_pos h.symm]
  ·rw [if_neg h,if_neg (Ne.symm h)]
theorem Ao (S:Nat→Bool):∀ (os:List Oper) (L:List Out) (k:Nat) (t:bz),iY S os L (k+1) t=iY (fun i=>S (i+1)) os L k t
 | [],L,k,t=>by cases L <;> rfl
 | o::os,[],k,t=>rfl
 | o::os,x::L,k,t=>by simp only [iY]; exact Ao S os L (k+1) _
theorem Pd {cfg:eJ} (S:Nat→Bool):∀ (os:List Oper) (L:List Out) (k:Nat) (A:ax),nh P cfg S os L (k+1) A=nh P cfg (fun i=>S (i+1)) os L k A
 | [],L,k,t=>by cases L <;> rfl
 | o::os,[],k,t=>rfl
 | o::os,x::L,k,t=>by simp only [nh]; exact Pd S os L (k+1) _
theorem l7 {S S' : Nat→Bool} {y:Tmp} : ∀ {os:List Oper} {L:List Out} {k:Nat} {t t' : bz},t.get y=t'.get y→(∀ i o,os[i]? = some o→o.dst=some y→S (k+i)=S' (k+i))→(iY S os L k t).get y=(iY S' os L k t').get y
 | [],L,k,t,t',h,_=>by cases L <;> exact h
 | o::os,[],k,t,t',h,_=>h
 | o::os,x::L,k,t,t',h,hs=>by
  simp only [iY]
  refine l7 ?_ fun i o' ho hd=>by have:=hs (i+1) o' (by simpa using ho) hd; rwa [show k+(i+1)=k+1+i by omega] at this
  by_cases hd:o.dst=some y
  ·have:=hs 0 o rfl hd
   rw [Nat.add_zero] at this
   rw [this]
   cases S' k with
   | true=>simp only [cond_true,rP,if_pos hd]
   | false=>exact h
  ·have e:∀ (b:Bool) (u:bz),(cond b (pj u o.dst x.2.1) u).get y=u.get y:=by
    intro b u
    cases b with
    | true=>rw [cond_true,rP,if_neg hd]
    | false=>rfl
   rw [e,e]; exact h
theorem Zr {S:Nat→Bool} {y:Tmp} : ∀ {os:List Oper} {L:List Out} {k i:Nat} {t:bz} {o:Oper} {x:Out},os[i]? = some o→L[i]? = some x→o.dst=some y→(∀ j q,os[j]? = some q→q.dst=some y→i < j→S (k+j)=false)→
  (iY (cV S (k+i)) os L k t).get y=some x.2.1
 | [],L,k,i,t,o,x,ho,_,_,_=>by simp at ho
 | q::os,[],k,i,t,o,x,_,hx,_,_=>by simp at hx
 | q::os,u::L,k,0,t,o,x,ho,hx,hd,hs=>by
  simp at ho hx
  subst ho hx
  simp only [iY,Nat.add_zero]
  have hk:cV S k k=true:=by simp [cV]
  rw [hk,cond_true]
  have:=l7 (S:=cV S k) (S':=fun _=>false) (y:=y) (os:=os) (L:=L) (k:=k+1) (t:=pj t q.dst u.2.1) (t':=pj t q.dst u.2.1) rfl (fun j q' hq Zs=>by
   have h1:=hs (j+1) q' (by simpa using hq) Zs (by omega)
   rw [show k+(j+1)=k+1+j by omega] at h1
   simp only [cV,h1,Bool.false_or]
   cases hb:Nat.beq (k+1+j) k with
   | false=>rfl
   | true=>have:=Nat.eq_of_beq_eq_true hb; omega)
  rw [this]
  have BR:∀ (os:List Oper) (L:List Out) (k:Nat) (t:bz),iY (fun _=>false) os L k t=t:=by
   intro os
   induction os with
   | nil=>intro L k t; cases L <;> rfl
   | cons o os ih=>intro L k t; cases L with
    | nil=>rfl
    | cons x L=>simp only [iY,cond_false]; exact ih L _ t
  rw [BR,rP,if_pos hd]
 | q::os,u::L,k,i+1,t,o,x,ho,hx,hd,hs=>by
  simp only [iY]
  rw [show k+(i+1)=k+1+i by omega]
  exact Zr (by simpa using ho) (by simpa using hx) hd fun j q' hq Zs bV=>by
   have:=hs (j+1) q' (by simpa using hq) Zs (by omega)
   rwa [show k+(j+1)=k+1+j by omega] at this
theorem Es {cfg:eJ} {S S' : Nat→Bool} : ∀ {os:List Oper} {L:List Out} {k:Nat} {A:ax},(∀ i o x,os[i]? = some o→L[i]? = some x→turns P cfg o x=true→S (k+i)=S' (k+i))→nh P cfg S os L k A=nh P cfg S' os L k A
 | [],L,k,A,_=>by cases L <;> rfl
 | o::os,[],k,A,_=>rfl
 | o::os,x::L,k,A,h=>by
  simp only [nh]
  have h0:(S k&&turns P cfg o x)=(S' k&&turns P cfg o x):=by
   cases ht:turns P cfg o x with
   | false=>simp
   | true=>have:=h 0 o x rfl rfl ht; rw [Nat.add_zero] at this; rw [this]
  rw [h0]
  exact Es fun i o' x' ho hx ht=>by have:=h (i+1) o' x' (by simpa using ho) (by simpa using hx) ht; rwa [show k+(i+1)=k+1+i by omega] at this
def Iz (all:List Oper) (o:Oper) (t:bz) (wd:Bool):Prop:=(o.guard=none∧wd=true)∨∃ j want d,o.guard=some (j,want)∧(all[j]?).bind (·.dst)=some d∧((∃ b,t.get d=some (.bool b)∧wd=(b==want))∨(∃ l,t.get d=some (.kk l)∧wd=false))
theorem Ap {cfg:eJ} {o:Oper} {t:bz} {A A1:ax} {v:KV} (h:a5 (tQ (bW P cfg o.op) t A) (v,A1)) (hk:Nat.ble 3 (dA (bW P cfg o.op))=false):A1=A:=by
 generalize bW P cfg o.op=ins at h hk
 cases ins with
 | pure f xs=>obtain ⟨u,_,h2⟩:=a5.map h; simp at h2; exact h2.2.symm
 | read f xs=>obtain ⟨u,_,h2⟩:=a5.map h; simp at h2; exact h2.2.symm
 | act f xs=>exact absurd hk (by simp [dA])
 | look f xs=>obtain ⟨u,_,h2⟩:=a5.map h; simp at h2; exact h2.2.symm
 | Ae g f xs=>obtain ⟨u,_,h2⟩:=a5.map h; simp at h2; exact h2.2.symm
 | Dh g f xs=>exact absurd hk (by simp [dA])
 | call f xs=>exact h.elim
 | bad=>exact h.elim
theorem Run.at {cfg:eJ} {all:List Oper} : ∀ {os:List Oper} {t t' : bz} {A A' : ax} {L:List Out},Run P cfg all os t A L t' A'→
  L.length=os.length∧(∀ y,t'.get y=(iY (fun _=>true) os L 0 t).get y)∧A' = nh P cfg (fun _=>true) os L 0 A∧
  ∀ i o x,os[i]? = some o→L[i]? = some x→∃ t1,(∀ y,t1.get y=(iY (fun j=>Nat.blt j i) os L 0 t).get y)∧Iz all o t1 x.1∧(x.1=true→a5 (tQ (bW P cfg o.op) t1 (nh P cfg (fun j=>Nat.blt j i) os L 0 A)) (x.2.1,x.2.2))∧(x.1=false→x.2.1=rp)
 | _,_,_,_,_,_,.nil=>⟨rfl,fun _=>rfl,rfl,fun i o x ho=>by simp at ho⟩
 | o::os,t,t',A,A',(wd,v,A1)::L,.cons (t1:=t1) same want yes no rest=>by
  obtain ⟨h1,h2,h3,h4⟩:=rest.at
  have hA1:cond (turns P cfg o (wd,v,A1)) A1 A=A1:=by
   cases ht:turns P cfg o (wd,v,A1) with
   | true=>rfl
   | false=>
    rw [cond_false]
    cases wd with
    | false=>exact (no rfl).2.symm
    | true=>exact (Ap (yes rfl) (by simpa [turns] using ht)).symm
  have V0:∀ y,(pj t1 o.dst v).get y=(pj t o.dst v).get y:=fun y=>by rw [rP,rP,same]
  refine ⟨by simp [h1],fun y=>?_,?_,fun i q x hq hx=>?_⟩
  ·rw [h2 y]
   simp only [iY,cond_true]
   rw [Ao]
   exact l7 (V0 y) fun _ _ _ _=>rfl
  ·rw [h3]
   simp only [nh,Bool.true_and]
   rw [Pd,hA1]
  ·cases i with
   | zero=>
    simp at hq hx
    subst hq hx
    have e0:∀ (os:List Oper) (L:List Out) (k:Nat) (t:bz),iY (fun j=>Nat.blt j 0) os L k t=t:=by
     intro os
     induction os with
     | nil=>intro L k t; cases L <;> rfl
     | cons o os ih=>intro L k t; cases L with
      | nil=>rfl
      | cons x L=>simp only [iY]; exact ih L _ t
    have e1:∀ (os:List Oper) (L:List Out) (k:Nat) (A:ax),nh P cfg (fun j=>Nat.blt j 0) os L k A=A:=by
     intro os
     induction os with
     | nil=>intro L k t; cases L <;> rfl
     | cons o os ih=>intro L k t; cases L with
      | nil=>rfl
      | cons x L=>simp only [nh]; exact ih L _ t
    refine ⟨t1,fun y=>by rw [e0]; exact same y,?_,fun e=>by rw [e1]; exact yes e,fun e=>(no e).1⟩
    rcases want with h | ⟨j,wt,d,e2,e3,e4⟩
    ·exact .inl h
    ·exact .inr ⟨j,wt,d,e2,e3,by rw [same]; exact e4⟩
   | succ i=>
    obtain ⟨t2,h5,h6,h7,h8⟩:=h4 i q x (by simpa using hq) (by simpa using hx)
    have hsh:(fun j=>Nat.blt (j+1) (i+1))=fun j=>Nat.blt j i:=by
     funext j
     cases hb:Nat.blt j i with
     | true=>rw [Nat.blt_eq] at hb ⊢; omega
     | false=>
      cases hc:Nat.blt (j+1) (i+1) with
      | false=>rfl
      | true=>rw [Nat.blt_eq] at hc; rw [show Nat.blt j i=true from by rw [Nat.blt_eq]; omega] at hb; simp at hb
    have h01:Nat.blt 0 (i+1)=true:=by rw [Nat.blt_eq]; omega
    have iX:nh P cfg (fun j=>Nat.blt j (i+1)) (o::os) ((wd,v,A1)::L) 0 A=nh P cfg (fun j=>Nat.blt j i) os L 0 A1:=by
     simp only [nh,h01,Bool.true_and]
     rw [Pd,hA1,hsh]
    refine ⟨t2,fun y=>?_,h6,fun e=>by rw [iX]; exact h7 e,h8⟩
    rw [h5 y]
    simp only [iY,h01,cond_true]
    rw [Ao,hsh]
    exact l7 (V0 y) fun _ _ _ _=>rfl
end Go.K
end
section
namespace Go.K
open Go Go.aE
variable {P:Program} {E:Env}
theorem Q9 {cfg:eJ} {all:List Oper} {b:List Nat} {i:Nat} {y:Oper} : ∀ (xs:List Oper) (k:Nat),Mz P cfg all b i y xs k=true→∀ (j:Nat) (x:Oper),xs[j]? = some x→k+j < i→Fj P cfg all x y=true→pf b i (k+j)=true∨(sG P cfg all x y=false∧(VN all (k+j) x i y).isSome=true)
 | [],k,_,j,x,hx,_,_=>by simp at hx
 | x0::xs,k,h,0,x,hx,bV,hc=>by
  simp at hx
  subst hx
  simp only [Mz,Bool.and_eq_true,Bool.or_eq_true,Bool.not_eq_true'] at h
  rcases h.1 with ((h1 | h1) | h1) | h1
  ·have:=Nat.le_of_ble_eq_true h1; omega
  ·rw [hc] at h1; simp at h1
  ·exact .inl h1
  ·exact .inr h1
 | x0::xs,k,h,j+1,x,hx,bV,hc=>by
  simp only [Mz,Bool.and_eq_true] at h
  have:=Q9 xs (k+1) h.2 j x (by simpa using hx) (by omega) hc
  rwa [show k+1+j=k+(j+1) by omega] at this
theorem KT {cfg:eJ} {all:List Oper} {b:List Nat} : ∀ (os:List Oper) (k:Nat),Gm P cfg all b os k=true→∀ (i:Nat) (o:Oper),os[i]? = some o→Mz P cfg all b (k+i) o all 0=true
 | [],k,_,i,o,ho=>by simp at ho
 | o0::os,k,h,0,o,ho=>by
  simp at ho
  subst ho
  simp only [Gm,Bool.and_eq_true] at h
  exact h.1
 | o0::os,k,h,i+1,o,ho=>by
  simp only [Gm,Bool.and_eq_true] at h
  have:=KT os (k+1) h.2 i o (by simpa using ho)
  rwa [show k+1+i=k+(i+1) by omega] at this
theorem Ra {cfg:eJ} {all:List Oper} {b:List Nat} {i:Nat} {y:Oper} {p:Option Operand×Operand} : ∀ (xs:List Oper) (k j:Nat) (x:Oper),xs[j]? = some x→k+j < i→Fj P cfg all x y=true→pf b i (k+j)=false→VN all (k+j) x i y=some p→p∈Bk P cfg all b i y xs k
 | [],k,j,x,hx,_,_,_,_=>by simp at hx
 | x0::xs,k,0,x,hx,bV,hm,hb,he=>by
  simp at hx
  subst hx
  have h1:(Nat.ble i k||!Fj P cfg all x0 y||pf b i k)=false:=by
   rw [hm,show pf b i k=false from hb]
   cases h:Nat.ble i k with
   | false=>rfl
   | true=>have:=Nat.le_of_ble_eq_true h; omega
  simp only [Bk]
  rw [h1,cond_false,show VN all k x0 i y=some p from he]
  exact List.mem_cons_self
 | x0::xs,k,j+1,x,hx,bV,hm,hb,he=>by
  have e:k+(j+1)=k+1+j:=by omega
  have:=Ra (b:=b) (p:=p) xs (k+1) j x (by simpa using hx) (show k+1+j < i by omega) hm (by rw [← e]; exact hb) (by rw [← e]; exact he)
  simp only [Bk]
  cases (Nat.ble i k||!Fj P cfg all x0 y||pf b i k) with
  | true=>exact this
  | false=>
   rw [cond_false]
   split
   ·exact List.mem_cons_of_mem _ this
   ·exact this
theorem NR {cfg:eJ} {all:List Oper} {b:List Nat} {p:Option Operand×Operand} : ∀ (os:List Oper) (k i:Nat) (y:Oper),os[i]? = some y→p∈Bk P cfg all b (k+i) y all 0→p∈TQ P cfg all b os k
 | [],k,i,y,hy,_=>by simp at hy
 | o::os,k,0,y,hy,h=>by
  simp at hy
  subst hy
  exact List.mem_append_left _ h
 | o::os,k,i+1,y,hy,h=>by
  refine List.mem_append_right _ (NR os (k+1) i y (by simpa using hy) ?_)
  rwa [show k+1+i=k+(i+1) by omega]
structure NS (P:Program) (cfg:eJ) (all:List Oper):Prop where
 Ua:qk P all
 kind:∀ o∈all,dA (bW P cfg o.op)≤3
 ord:∀ i j x y,all[i]? = some y→all[j]? = some x→j < i→Fj P cfg all x y=true→pf (eK [] all) i j=true∨(sG P cfg all x y=false∧∃ p,VN all j x i y=some p∧p∈Fk P cfg all)
 plain:∀ p,p∈Fk P cfg all→O7 P cfg all=true
theorem afi {cfg:eJ} {all:List Oper} (h:aeS P cfg all=true):NS P cfg all:=by
 unfold aeS at h
 simp only [Bool.and_eq_true] at h
 refine ⟨BO h.1.1.1,fun o ho=>Nat.le_of_ble_eq_true (List.all_eq_true.1 h.1.1.2 o ho),fun i j x y hy hx bV hm=>?_,fun p hp=>?_⟩
 ·have:=KT all 0 h.1.2 i y hy
  rw [Nat.zero_add] at this
  have:=Q9 all 0 this j x hx (by omega) hm
  rw [Nat.zero_add] at this
  cases hb:pf (eK [] all) i j with
  | true=>exact .inl rfl
  | false=>
   rcases this with h1 | ⟨h1,h2⟩
   ·rw [hb] at h1; simp at h1
   ·obtain ⟨p,hp⟩:=Option.isSome_iff_exists.1 h2
    refine .inr ⟨h1,p,hp,NR all 0 i y hy ?_⟩
    rw [Nat.zero_add]
    exact Ra all 0 j x hx (by omega) hm (by rw [Nat.zero_add]; exact hb) (by rw [Nat.zero_add]; exact hp)
 ·have h2:=h.2
  simp only [Bool.or_eq_true] at h2
  rcases h2 with h2 | h2
  ·rw [List.isEmpty_iff] at h2
   rw [h2] at hp
   simp at hp
  ·exact h2
structure Zt (P:Program) (cfg:eJ) (all:List Oper):Prop where
 Ua:qk P all
 BJ:∀ {i j:Nat} {x y:Oper},all[i]? = some y→all[j]? = some x→j < i→sG P cfg all x y=true→pf (eK [] all) i j=true
theorem NS.toT {cfg:eJ} {all:List Oper} (hf:NS P cfg all):Zt P cfg all:=⟨hf.Ua,fun {i j x y} hy hx bV hc=>by
 rcases hf.ord i j x y hy hx bV (by unfold Fj; rw [hc]; rfl) with h | ⟨h,_⟩
 ·exact h
 ·rw [hc] at h; simp at h⟩
def Rb (P:Program) (cfg:eJ) (all:List Oper) (i:Nat):Prop:=∀ j q,all[j]? = some q→Nat.ble 3 (dA (bW P cfg q.op))=true→(j < i→pf (eK [] all) i j=true)∧(i < j→pf (eK [] all) j i=true)
theorem yX {x y:Oper} {p:Option Operand×Operand} (h:H9 x y=some p):(∃ T,y.op = .load T p.2)∧((p.1=none∧Mx x.op=true)∨∃ T a v,p.1=some a∧x.op = .store T a v):=by
 unfold H9 at h
 split at h
 ·rename_i a ha
  have hl:∃ T,y.op = .load T a:=by
   unfold ahJ at ha
   split at ha
   ·rename_i T a' e; simp at ha; subst ha; exact ⟨T,e⟩
   ·simp at ha
  cases hs:Mx x.op with
  | true=>
   rw [hs,cond_true] at h
   simp at h
   subst h
   exact ⟨hl,.inl ⟨rfl,rfl⟩⟩
  | false=>
   rw [hs,cond_false] at h
   split at h
   ·rename_i a2 Ys
    simp at h
    subst h
    refine ⟨hl,.inr ?_⟩
    unfold QS at Ys
    split at Ys
    ·rename_i T a3 v e; simp at Ys; subst Ys; exact ⟨T,_,v,rfl,e⟩
    ·simp at Ys
   ·simp at h
 ·simp at h
theorem Zu {all:List Oper} {i j:Nat} {x y:Oper} {p:Option Operand×Operand} (h:VN all j x i y=some p) :
  (H9 x y=some p∧uH i p.2 all 0=true∧H8 j p.1 all=true)∨(H9 y x=some p∧uH j p.2 all 0=true∧H8 i p.1 all=true):=by
 unfold VN at h
 split at h
 ·rename_i q hq
  cases hb:(uH i q.2 all 0&&H8 j q.1 all) with
  | false=>rw [hb] at h; simp at h
  | true=>
   rw [hb,cond_true] at h
   simp at h
   subst h
   simp only [Bool.and_eq_true] at hb
   exact .inl ⟨hq,hb.1,hb.2⟩
 ·split at h
  ·rename_i q hq
   cases hb:(uH j q.2 all 0&&H8 i q.1 all) with
   | false=>rw [hb] at h; simp at h
   | true=>
    rw [hb,cond_true] at h
    simp at h
    subst h
    simp only [Bool.and_eq_true] at hb
    exact .inr ⟨hq,hb.1,hb.2⟩
  ·simp at h
theorem Dr {cfg:eJ} {o:Oper} {T:TypeId} {a:Operand} (h:o.op = .load T a):dA (bW P cfg o.op)=1:=by rw [h]; rfl
theorem unordered {cfg:eJ} {all:List Oper} (hf:NS P cfg all) {i j:Nat} {o q:Oper} (ho:all[i]? = some o) (hq:all[j]? = some q) (hk:dA (bW P cfg o.op)≠0) (h3:Nat.ble 3 (dA (bW P cfg q.op))=true) :
  ((j < i→pf (eK [] all) i j=true)∧(i < j→pf (eK [] all) j i=true))∨∃ p,p∈Fk P cfg all∧H9 q o=some p∧uH i p.2 all 0=true∧H8 j p.1 all=true:=by
 have te:Nat.beq (dA (bW P cfg o.op)) 0=false:=by
  cases hb:Nat.beq (dA (bW P cfg o.op)) 0 with
  | false=>rfl
  | true=>exact absurd (Nat.eq_of_beq_eq_true hb) hk
 have hnl:∀ T a,q.op≠.load T a:=fun T a e=>by rw [Dr e] at h3; simp at h3
 rcases Nat.lt_trichotomy j i with h | h | h
 ·rcases hf.ord i j q o ho hq h (by unfold Fj; rw [h3,te]; simp) with h1 | ⟨_,p,h1,h2⟩
  ·exact .inl ⟨fun _=>h1,fun h'=>by omega⟩
  ·rcases Zu h1 with ⟨e1,e2,e3⟩ | ⟨e1,e2,e3⟩
   ·exact .inr ⟨p,h2,e1,e2,e3⟩
   ·obtain ⟨⟨T,e⟩,_⟩:=yX e1
    exact absurd e (hnl _ _)
 ·exact .inl ⟨fun h'=>by omega,fun h'=>by omega⟩
 ·rcases hf.ord j i o q hq ho h (by unfold Fj; rw [h3,te]; simp) with h1 | ⟨_,p,h1,h2⟩
  ·exact .inl ⟨fun h'=>by omega,fun _=>h1⟩
  ·rcases Zu h1 with ⟨e1,e2,e3⟩ | ⟨e1,e2,e3⟩
   ·obtain ⟨⟨T,e⟩,_⟩:=yX e1
    exact absurd e (hnl _ _)
   ·exact .inr ⟨p,h2,e1,e2,e3⟩
theorem KU {cfg:eJ} {all:List Oper} (hf:NS P cfg all) {i:Nat} {o:Oper} (ho:all[i]? = some o) (hk:dA (bW P cfg o.op)≠0) (hn:∀ T a,o.op≠.load T a):Rb P cfg all i:=fun j q hq h3=>by
 rcases unordered hf ho hq hk h3 with h | ⟨p,_,h,_⟩
 ·exact h
 ·obtain ⟨⟨T,e⟩,_⟩:=yX h
  exact absurd e (hn _ _)
theorem Aq {cfg:eJ} {o:Oper} (h:dA (bW P cfg o.op)≤3):∀ f args,bW P cfg o.op≠.call f args:=by
 intro f args e
 rw [e] at h
 simp [dA] at h
theorem yY {d:Tmp} {l:List Tmp} (h:d∈l):Kp (some d) l=true:=by
 simp only [Kp,List.any_eq_true]
 exact ⟨d,h,by simp⟩
theorem kT {x:Tmp} : ∀ {xs:List Operand},Operand.tmp x∈xs→x∈qi xs
 | [],h=>by simp at h
 | y::ys,h=>by
  rcases List.mem_cons.1 h with h | h
  ·subst h; simp [qi]
  ·have:=kT h
   cases y <;> simp [qi,this]
section
variable {cfg:eJ} {all:List Oper} {L:List Out} {t0:bz} {A0:ax}
theorem Zv (hf:Zt P cfg all) {S:Nat→Bool} (hc:pL all S) {i:Nat} {o:Oper} (ho:all[i]? = some o) (oY:S i=false) (sA:tB all S i) {y:Tmp} (hy:y∈na P cfg all o) :
  (iY S all L 0 t0).get y=(iY (fun j=>Nat.blt j i) all L 0 t0).get y:=by
 refine l7 rfl fun j q hq hd=>?_
 rw [Nat.zero_add]
 rcases Nat.lt_trichotomy j i with h | h | h
 ·have:pf (eK [] all) i j=true:=hf.BJ ho hq h (by
   unfold sG
   rw [hd,yY hy]
   rfl)
  rw [hc.ready hf.Ua ho sA j this]
  symm; rw [Nat.blt_eq]; exact h
 ·subst h
  rw [oY]
  symm
  cases hb:Nat.blt j j with
  | false=>rfl
  | true=>rw [Nat.blt_eq] at hb; omega
 ·have hb:pf (eK [] all) j i=true:=hf.BJ hq ho h (by
   unfold sG
   rw [hd,yY hy]
   simp)
  have:S j=false:=by
   cases hs:S j with
   | false=>rfl
   | true=>have:=hc j i hs hb; rw [oY] at this; simp at this
  rw [this]
  symm
  cases hbb:Nat.blt j i with
  | false=>rfl
  | true=>rw [Nat.blt_eq] at hbb; omega
theorem Rc (hf:NS P cfg all) {S:Nat→Bool} (hc:pL all S) {i:Nat} {o:Oper} (ho:all[i]? = some o) (oY:S i=false) (sA:tB all S i) (iX:Rb P cfg all i) :
  nh P cfg S all L 0 A0=nh P cfg (fun j=>Nat.blt j i) all L 0 A0:=by
 refine Es fun j q x hq hx ht=>?_
 rw [Nat.zero_add]
 have h3:Nat.ble 3 (dA (bW P cfg q.op))=true:=by unfold turns at ht; simp only [Bool.and_eq_true] at ht; exact ht.2
 rcases Nat.lt_trichotomy j i with h | h | h
 ·have:pf (eK [] all) i j=true:=(iX j q hq h3).1 h
  rw [hc.ready hf.Ua ho sA j this]
  symm; rw [Nat.blt_eq]; exact h
 ·subst h
  rw [oY]
  symm
  cases hb:Nat.blt j j with
  | false=>rfl
  | true=>rw [Nat.blt_eq] at hb; omega
 ·have hb:pf (eK [] all) j i=true:=(iX j q hq h3).2 h
  have:S j=false:=by
   cases hs:S j with
   | false=>rfl
   | true=>have:=hc j i hs hb; rw [oY] at this; simp at this
  rw [this]
  symm
  cases hbb:Nat.blt j i with
  | false=>rfl
  | true=>rw [Nat.blt_eq] at hbb; omega
theorem GC (hf:Zt P cfg all) {S:Nat→Bool} (hc:pL all S) {i:Nat} {o:Oper} {x:Out} (ho:all[i]? = some o) (hx:L[i]? = some x) (oY:S i=false) (y:Tmp) :
  (iY (cV S i) all L 0 t0).get y=(pj (iY S all L 0 t0) o.dst x.2.1).get y:=by
 rw [rP]
 by_cases hd:o.dst=some y
 ·rw [if_pos hd]
  have:=Zr (S:=S) (y:=y) (os:=all) (L:=L) (k:=0) (i:=i) (t:=t0) ho hx hd (fun j q hq Zs bV=>by
   rw [Nat.zero_add]
   have hb:pf (eK [] all) j i=true:=hf.BJ hq ho bV (by
    unfold sG
    rw [Zs,hd]
    simp [Qw])
   cases hs:S j with
   | false=>rfl
   | true=>have:=hc j i hs hb; rw [oY] at this; simp at this)
  rw [Nat.zero_add] at this
  exact this
 ·rw [if_neg hd]
  refine l7 rfl fun j q hq Zs=>?_
  rw [Nat.zero_add]
  have dJ:j≠i:=by
   intro e
   subst e
   rw [ho] at hq
   simp at hq
   subst hq
   exact hd Zs
  unfold cV
  have:Nat.beq j i=false:=by
   cases hb:Nat.beq j i with
   | false=>rfl
   | true=>exact absurd (Nat.eq_of_beq_eq_true hb) dJ
  rw [this,Bool.or_false]
theorem xg {S:Nat→Bool} {i:Nat} {o:Oper} {x:Out} (ho:all[i]? = some o) (hx:L[i]? = some x) (ht:turns P cfg o x=false):nh P cfg (cV S i) all L 0 A0=nh P cfg S all L 0 A0:=by
 refine Es fun j q y hq hy hty=>?_
 rw [Nat.zero_add]
 have dJ:j≠i:=by
  intro e
  subst e
  rw [ho] at hq; rw [hx] at hy
  simp at hq hy
  subst hq hy
  rw [ht] at hty; simp at hty
 unfold cV
 have:Nat.beq j i=false:=by
  cases hb:Nat.beq j i with
  | false=>rfl
  | true=>exact absurd (Nat.eq_of_beq_eq_true hb) dJ
 rw [this,Bool.or_false]
theorem afj {i:Nat} {o:Oper} {x:Out} (ho:all[i]? = some o) (hx:L[i]? = some x) (ht:turns P cfg o x=true):nh P cfg (fun j=>Nat.blt j (i+1)) all L 0 A0=x.2.2:=by
 have key:∀ (os:List Oper) (L:List Out) (k i:Nat) (A:ax) (o:Oper) (x:Out),os[i]? = some o→L[i]? = some x→turns P cfg o x=true→nh P cfg (fun j=>Nat.blt j (k+i+1)) os L k A=x.2.2:=by
  intro os
  induction os with
  | nil=>intro L k i A o x ho; simp at ho
  | cons q os ih=>
   intro L k i A o x ho hx ht
   cases L with
   | nil=>simp at hx
   | cons u L=>
    simp only [nh]
    have bV:Nat.blt k (k+i+1)=true:=by rw [Nat.blt_eq]; omega
    rw [bV,Bool.true_and]
    cases i with
    | zero=>
     simp at ho hx
     subst ho hx
     rw [ht,cond_true]
     have:∀ (os:List Oper) (L:List Out) (m:Nat) (A:ax),k+1≤m→nh P cfg (fun j=>Nat.blt j (k+0+1)) os L m A=A:=by
      intro os
      induction os with
      | nil=>intro L m A _; cases L <;> rfl
      | cons q os ih=>
       intro L m A hm
       cases L with
       | nil=>rfl
       | cons u L=>
        simp only [nh]
        have:Nat.blt m (k+0+1)=false:=by
         cases hb:Nat.blt m (k+0+1) with
         | false=>rfl
         | true=>rw [Nat.blt_eq] at hb; omega
        rw [this,Bool.false_and,cond_false]
        exact ih L _ A (by omega)
     exact this os L (k+1) _ (Nat.le_refl _)
    | succ i=>
     have:=ih L (k+1) i (cond (turns P cfg q u) u.2.2 A) o x (by simpa using ho) (by simpa using hx) ht
     rwa [show k+1+i+1=k+(i+1)+1 by omega] at this
 have:=key all L 0 i A0 o x ho hx ht
 rwa [Nat.zero_add] at this
theorem agX (hf:NS P cfg all) {S:Nat→Bool} (hc:pL all S) {i:Nat} {o:Oper} {x:Out} (ho:all[i]? = some o) (hx:L[i]? = some x) (oY:S i=false) (sA:tB all S i) (ht:turns P cfg o x=true) :
  nh P cfg (cV S i) all L 0 A0=x.2.2:=by
 have h3:Nat.ble 3 (dA (bW P cfg o.op))=true:=by unfold turns at ht; simp only [Bool.and_eq_true] at ht; exact ht.2
 have hk:dA (bW P cfg o.op)≠0:=by have:=Nat.le_of_ble_eq_true h3; omega
 have h1:nh P cfg (cV S i) all L 0 A0=nh P cfg (fun j=>Nat.blt j (i+1)) all L 0 A0:=by
  refine Es fun j q y hq hy hty=>?_
  rw [Nat.zero_add]
  have hq3:Nat.ble 3 (dA (bW P cfg q.op))=true:=by unfold turns at hty; simp only [Bool.and_eq_true] at hty; exact hty.2
  have iX:Rb P cfg all i:=KU hf ho hk fun T a e=>by rw [Dr e] at h3; simp at h3
  rcases Nat.lt_trichotomy j i with h | h | h
  ·have:pf (eK [] all) i j=true:=(iX j q hq hq3).1 h
   have:=hc.ready hf.Ua ho sA j this
   unfold cV
   rw [this,Bool.true_or]
   symm; rw [Nat.blt_eq]; omega
  ·subst h
   have:cV S j j=true:=by simp [cV]
   rw [this]
   symm; rw [Nat.blt_eq]; omega
  ·have hb:pf (eK [] all) j i=true:=(iX j q hq hq3).2 h
   have:S j=false:=by
    cases hs:S j with
    | false=>rfl
    | true=>have:=hc j i hs hb; rw [oY] at this; simp at this
   unfold cV
   have dJ:Nat.beq j i=false:=by
    cases hb:Nat.beq j i with
    | false=>rfl
    | true=>have:=Nat.eq_of_beq_eq_true hb; omega
   rw [this,dJ]
   symm
   cases hbb:Nat.blt j (i+1) with
   | false=>rfl
   | true=>rw [Nat.blt_eq] at hbb; omega
 rw [h1]
 exact afj ho hx ht
end
theorem abC {all:List Oper} {o:Oper} {j:Nat} {want:Bool} {d:Tmp} (hg:o.guard=some (j,want)) (hd:(all[j]?).bind (·.dst)=some d):d∈CS all o:=by
 unfold CS
 rw [hg]
 simp [hd]
theorem Bp {all:List Oper} {o:Oper} {t t1:bz} {wd:Bool} {N:Nat} {ρ:aW} {a:Act} (ht:ln P E ρ t N a) (hl:∀ y∈CS all o,t1.get y=t.get y) (h:Iz all o t1 wd):Region.wanted o (yielded ⟨all⟩ a.tmps)=wd:=by
 rcases h with ⟨hg,rfl⟩ | ⟨j,want,d,hg,hd,h⟩
 ·unfold Region.wanted
  rw [hg]
 ·have Ff:=hl d (abC hg hd)
  have wS:=ht.val d
  unfold Region.wanted
  rw [hg]
  simp only
  unfold yielded
  have e:(⟨all⟩:Array Oper)[j]? = all[j]?:=by simp
  rw [e,hd]
  simp only [Option.bind_some]
  rcases h with ⟨b,h1,rfl⟩ | ⟨l,h1,rfl⟩
  ·rw [← Ff,h1] at wS
   have hcv:=wS.gf
   cases hc:a.tmps[d]? with
   | none=>simp [Array.getD_eq_getD_getElem?,hc,undef] at hcv
   | some u=>
    have:u = .bool b:=by rw [← hcv]; simp [Array.getD_eq_getD_getElem?,hc]
    subst this
    rfl
  ·rw [← Ff,h1] at wS
   obtain ⟨u,h2,h3⟩:=wS
   obtain ⟨m,rfl,_⟩:=h2.KD
   obtain ⟨m',h4,_⟩:=h3.OZ
   cases hc:a.tmps[d]? with
   | none=>rfl
   | some u=>
    have:u = .tuple m':=by rw [← h4]; simp [Array.getD_eq_getD_getElem?,hc]
    subst this
    rfl
theorem KW {t t1:bz} {N:Nat} {ρ:aW} {a:Act} (ht:ln P E ρ t N a) {x:Operand} (h:∀ y,x = .tmp y→t1.get y=t.get y):VC P E ρ (kW t1 x) (a.eval x):=by
 have:=ht.ev x
 cases x with
 | tmp y=>simp only [kW] at this ⊢; rw [h y rfl]; exact this
 | const v=>exact this
 | global g=>exact this
 | func f=>exact this
theorem afk {cfg:eJ} {o:Oper} {t:bz} {A A1 A' : ax} {v:KV} (h:a5 (tQ (bW P cfg o.op) t A) (v,A1)) (hk:dA (bW P cfg o.op)=0):a5 (tQ (bW P cfg o.op) t A') (v,A'):=by
 generalize bW P cfg o.op=ins at h hk
 cases ins with
 | pure f xs=>obtain ⟨u,h1,h2⟩:=a5.map h; simp at h2; obtain ⟨rfl,_⟩:=h2; exact h1.yW
 | read f xs=>simp [dA] at hk
 | act f xs=>simp [dA] at hk
 | look f xs=>obtain ⟨u,h1,h2⟩:=a5.map h; simp at h2; obtain ⟨rfl,_⟩:=h2; exact h1.yW
 | Ae g f xs=>obtain ⟨u,h1,h2⟩:=a5.map h; simp at h2; obtain ⟨rfl,_⟩:=h2; exact h1.yW
 | Dh g f xs=>simp [dA] at hk
 | call f xs=>exact h.elim
 | bad=>exact h.elim
theorem Pe {cfg:eJ} {S:Nat→Bool} (h:∀ i,S i=false):∀ {os:List Oper} {L:List Out} {k:Nat} {A:ax},nh P cfg S os L k A=A
 | [],L,k,A=>by cases L <;> rfl
 | o::os,[],k,A=>rfl
 | o::os,x::L,k,A=>by simp only [nh]; rw [h,Bool.false_and,cond_false]; exact Pe h
theorem IA {S:Nat→Bool} (h:∀ i,S i=false):∀ {os:List Oper} {L:List Out} {k:Nat} {t:bz},iY S os L k t=t
 | [],L,k,A=>by cases L <;> rfl
 | o::os,[],k,A=>rfl
 | o::os,x::L,k,A=>by simp only [iY]; rw [h,cond_false]; exact IA h
theorem aj2 {A:ax} {o:jA} {b:Nat} (hb:b < A.next) (cs:List KV) (e:Nat):A.get b=some (.row cs e)↔(A.new o).get b=some (.row cs e):=by
 rw [ax.dr,if_neg (by omega)]
theorem KX {A:ax} {o:jA} {b c:Nat} (h:b≠c∨((∀ cs e,A.get b≠some (.row cs e))∧∀ cs e,o≠.row cs e)) (cs:List KV) (e:Nat):A.get b=some (.row cs e)↔(A.put c o).get b=some (.row cs e):=by
 rw [ax.cd]
 by_cases Yz:b=c
 ·rw [if_pos Yz]
  rcases h with h | ⟨h1,h2⟩
  ·exact absurd Yz h
  ·exact ⟨fun q=>absurd q (h1 _ _),fun q=>absurd (by simpa using q) (h2 cs e)⟩
 ·rw [if_neg Yz]
def NT (A A' : ax):Prop:=A.next≤A'.next∧∀ b,b < A.next→∀ cs e,A.get b=some (.row cs e)↔A'.get b=some (.row cs e)
theorem CX {A:ax} {o:jA} : NT A (A.new o):=⟨by simp,fun _ hb cs e=>aj2 hb cs e⟩
theorem MF {A:ax} {c:Nat} {o o' : jA} (hc:A.get c=some o') (h' : ∀ cs e,o'≠.row cs e) (h:∀ cs e,o≠.row cs e):NT A (A.put c o):=⟨by simp,fun b _ cs e=>by
 by_cases Yz:b=c
 ·subst Yz
  exact KX (.inr ⟨fun cs e q=>by rw [hc] at q; simp at q; exact h' cs e q,h⟩) cs e
 ·exact KX (.inl Yz) cs e⟩
theorem NT.trans {A B C:ax} (h:NT A B) (k:NT B C):NT A C:=⟨Nat.le_trans h.1 k.1,fun b hb cs e=>(h.2 b hb cs e).trans (k.2 b (Nat.lt_of_lt_of_le hb h.1) cs e)⟩
theorem IB {e sz b n f m:Nat} {base new:List KV} {ab an:Nat→KV} {A A' : ax} {v:KV} {more:Bool} (h:a5 (QQ e sz b n base ab A f m new an more) (v,A')):A' = A.put f (.bc (n+m) sz):=by
 obtain ⟨_,h⟩:=a5.mj h
 simp only [Prod.mk.injEq] at h
 exact h.2.symm
theorem Rd {e b n m:Nat} {base new:List KV} {ab an:Nat→KV} {A A' : ax} {v:KV} {more:Bool} (h:a5 (XY e b n base ab A m new an more) (v,A')):∃ o,A' = A.new (.arr o):=by
 obtain ⟨_,h⟩:=a5.mj h
 simp only [Prod.mk.injEq] at h
 exact ⟨_,h.2.symm⟩
theorem adH {e sz b:Nat} {A A' : ax} {xs:List KV} {v:KV} (h:a5 (Ky e sz b A xs) (v,A')):NT A A':=by
 unfold Ky at h
 split at h
 ·obtain ⟨_,h⟩:=a5.cond h
  rw [IB h]
  exact CX.trans (MF (o':=.bc 0 sz) (by simp) (by simp) (by simp))
 ·obtain ⟨_,h⟩:=a5.cond h
  rw [IB h]
  exact CX.trans (MF (o':=.bc 0 sz) (by simp) (by simp) (by simp))
 ·split at h
  ·rename_i hf
   obtain ⟨_,h⟩:=a5.cond h
   rw [IB h]
   exact MF hf (by simp) (by simp)
  ·exact h.elim
 ·exact h.elim
theorem NU {e b:Nat} {A A' : ax} {xs:List KV} {v:KV} (h:a5 (CV e b A xs) (v,A')):NT A A':=by
 unfold CV at h
 split at h
 ·obtain ⟨_,h⟩:=a5.cond h
  obtain ⟨o,rfl⟩:=Rd h
  exact CX
 ·split at h
  ·rename_i hf
   obtain ⟨_,h⟩:=a5.cond h
   obtain ⟨o,rfl⟩:=Rd h
   exact (MF hf (by simp) (by simp)).trans CX
  ·exact h.elim
 ·exact h.elim
theorem abD {e sz b:Nat} {mt:Bool} {A A' : ax} {xs:List KV} {v:KV} (h:a5 (Gk e sz b mt A xs) (v,A')):NT A A':=by
 unfold Gk at h
 split at h
 ·split at h
  ·rename_i y' _
   revert h
   cases ajM _ with
   | true=>exact fun h=>NU h
   | false=>
    cases mt with
    | true=>exact fun h=>NU h
    | false=>exact fun h=>adH h
  ·exact h.elim
 ·exact h.elim
theorem aiO {c:Bool} {i:qm} {t:bz} {A:ax} {x:KV×ax} (h:a5 (tQ (cond c i .bad) t A) x):a5 (tQ i t A) x:=by
 cases c with
 | true=>exact h
 | false=>exact h.elim
theorem Zw {cfg:eJ} {o:Oper} {t:bz} {A A' : ax} {v:KV} (hs:Mx o.op=true) (h:a5 (tQ (bW P cfg o.op) t A) (v,A')):NT A A':=by
 revert hs h
 cases hop:o.op <;> intro hs h <;> simp [Mx] at hs
 ·rename_i T
  have h:a5 (tQ (oZ P T) t A) (v,A'):=h
  unfold oZ at h
  split at h
  ·rename_i z _
   cases hb:(flat z&&z.cells.toList.all scalar&&ig (gS z).cells) with
   | false=>rw [hb] at h; exact h.elim
   | true=>
    rw [hb,cond_true] at h
    have h:(KV.ptr A.next 0,A.new (.row (gS z).cells (nN P T)))=(v,A'):=h
    simp only [Prod.mk.injEq] at h
    rw [← h.2]
    exact CX
  ·exact h.elim
 ·rename_i T x
  have h:a5 (zS (nN P T) A [kW t x]) (v,A'):=h
  unfold zS at h
  simp only at h
  obtain ⟨_,h⟩:=a5.cond h
  have h:(KV.ptr A.next 0,A.new (.row (kW t x).cells (nN P T)))=(v,A'):=h
  simp only [Prod.mk.injEq] at h
  rw [← h.2]
  exact CX
 ·rename_i c
  split at hs
  ·rename_i hc
   have h:a5 (tQ (lY P cfg c) t A) (v,A'):=h
   unfold lY at h
   rw [hc] at h
   simp only [yT] at h
   unfold Ej at h
   split at h
   ·split at h
    ·split at h
     ·split at h
      ·exact abD (aiO h)
      ·exact h.elim
     ·exact h.elim
    ·exact h.elim
   ·exact h.elim
  ·simp at hs
theorem V1 {cfg:eJ} {o:Oper} {T:TypeId} {a x:Operand} {t:bz} {A A' : ax} {v:KV} (ho:o.op = .store T a x) (h:a5 (tQ (bW P cfg o.op) t A) (v,A')) :
  A'.next=A.next∧∀ b,((∃ b2 off,kW t a = .ptr b2 off∧b≠b2)∨∃ U Tc c i k,kW t a = .ap U Tc c i k)→∀ cs e,A.get b=some (.row cs e)↔A'.get b=some (.row cs e):=by
 rw [ho] at h
 have h:a5 (QO P T A [kW t a,kW t x]) (v,A'):=h
 unfold QO at h
 split at h
 ·rename_i c off w heq
  simp only [List.cons.injEq,and_true] at heq
  obtain ⟨_,h⟩:=a5.cond h
  split at h
  ·split at h
   ·have h:(rp,_)=(v,A'):=h
    simp only [Prod.mk.injEq] at h
    rw [← h.2]
    refine ⟨rfl,fun b hb cs e=>KX (.inl ?_) cs e⟩
    rcases hb with ⟨b2,ajZ,h1,h2⟩ | ⟨U,Tc,c',i,k,h1⟩
    ·rw [heq.1] at h1; simp at h1; rw [h1.1]; exact h2
    ·rw [heq.1] at h1; simp at h1
   ·exact h.elim
  ·exact h.elim
 ·rename_i U Tc c i k w heq
  split at h
  ·rename_i hA
   obtain ⟨_,h⟩:=a5.cond h
   split at h
   ·have h:(rp,_)=(v,A'):=h
    simp only [Prod.mk.injEq] at h
    rw [← h.2]
    refine ⟨rfl,fun b _ cs e=>?_⟩
    by_cases Yz:b=c
    ·subst Yz
     exact KX (.inr ⟨fun cs e q=>by rw [hA] at q; simp at q,by simp⟩) cs e
    ·exact KX (.inl Yz) cs e
   ·exact h.elim
  ·exact h.elim
 ·exact h.elim
theorem Pf {t:bz} {nx:Nat} : ∀ {l:List (Option Operand×Operand)},O6 t nx l=true→∀ p∈l,Gl t nx p=true
 | [],_,p,hp=>by simp at hp
 | q::l,h,p,hp=>by
  have h:Bool.rec (motive:=fun _=>Bool) false (O6 t nx l) (Gl t nx q)=true:=h
  cases hq:Gl t nx q with
  | false=>rw [hq] at h; simp at h
  | true=>
   rw [hq] at h
   rcases List.mem_cons.1 hp with rfl | hp
   ·exact hq
   ·exact Pf h p hp
theorem V2 {i:Nat} {x:Tmp} : ∀ (os:List Oper) (k:Nat),uH i (.tmp x) os k=true→∀ j o,os[j]? = some o→i≤k+j→o.dst≠some x
 | [],k,_,j,o,ho,_=>by simp at ho
 | q::os,k,h,0,o,ho,hle=>by
  simp at ho
  subst ho
  simp only [uH,Bool.and_eq_true,Bool.or_eq_true,Bool.not_eq_true'] at h
  rcases h.1 with h1 | h1
  ·rw [Nat.blt_eq] at h1; omega
  ·intro e
   rw [e,yY (by simp [qi])] at h1
   simp at h1
 | q::os,k,h,j+1,o,ho,hle=>by
  simp only [uH,Bool.and_eq_true] at h
  exact V2 os (k+1) h.2 j o (by simpa using ho) (by omega)
section
variable {cfg:eJ} {all:List Oper} {L:List Out} {t0:bz} {A0:ax}
theorem adI {tn t1:bz} {i:Nat} {x:Operand} (M7:∀ y,tn.get y=(iY (fun _=>true) all L 0 t0).get y) (wc:∀ y,t1.get y=(iY (fun j=>Nat.blt j i) all L 0 t0).get y) (h:uH i x all 0=true):kW tn x=kW t1 x:=by
 cases x with
 | tmp y=>
  simp only [kW]
  rw [M7 y,wc y,l7 (S':=fun j=>Nat.blt j i) rfl fun j o ho hd=>?_]
  rw [Nat.zero_add]
  symm
  rw [Nat.blt_eq]
  refine Nat.lt_of_not_le fun hle=>?_
  exact V2 all 0 h j o ho (by omega) hd
 | const v=>rfl
 | global g=>rfl
 | func f=>rfl
theorem afl (j:Nat):(∃ q x,all[j]? = some q∧L[j]? = some x∧turns P cfg q x=true∧nh P cfg (fun k=>Nat.blt k (j+1)) all L 0 A0=x.2.2)∨
  ((∀ q x,all[j]? = some q→L[j]? = some x→turns P cfg q x=false)∧nh P cfg (fun k=>Nat.blt k (j+1)) all L 0 A0=nh P cfg (fun k=>Nat.blt k j) all L 0 A0):=by
 by_cases h:∃ q x,all[j]? = some q∧L[j]? = some x∧turns P cfg q x=true
 ·obtain ⟨q,x,h1,h2,h3⟩:=h
  refine .inl ⟨q,x,h1,h2,h3,?_⟩
  have:=afj (A0:=A0) h1 h2 h3
  exact this
 ·have hn:∀ q x,all[j]? = some q→L[j]? = some x→turns P cfg q x=false:=fun q x h1 h2=>by
   cases ht:turns P cfg q x with
   | false=>rfl
   | true=>exact absurd ⟨q,x,h1,h2,ht⟩ h
  refine .inr ⟨hn,Es fun k q x hq hx ht=>?_⟩
  rw [Nat.zero_add]
  have dJ:k≠j:=fun e=>by subst e; rw [hn q x hq hx] at ht; simp at ht
  cases hb:Nat.blt k j with
  | true=>rw [Nat.blt_eq] at hb ⊢; omega
  | false=>
   cases rG:Nat.blt k (j+1) with
   | false=>rfl
   | true=>
    rw [Nat.blt_eq] at rG
    have : ¬ k < j:=fun h=>by rw [← Nat.blt_eq,hb] at h; simp at h
    omega
theorem V3 (hf:NS P cfg all) {S:Nat→Bool} (hc:pL all S):∀ n,∃ m,m≤n∧∀ j q x,j < n→all[j]? = some q→L[j]? = some x→turns P cfg q x=true→S j=Nat.blt j m
 | 0=>⟨0,Nat.le_refl 0,fun j q x hj=>by omega⟩
 | n+1=>by
  obtain ⟨m,hm,h⟩:=V3 hf hc n
  by_cases hn:∃ q x,all[n]? = some q∧L[n]? = some x∧turns P cfg q x=true∧S n=true
  ·obtain ⟨q,x,h1,h2,h3,h4⟩:=hn
   have hq3:Nat.ble 3 (dA (bW P cfg q.op))=true:=by unfold turns at h3; simp only [Bool.and_eq_true] at h3; exact h3.2
   have hk:dA (bW P cfg q.op)≠0:=by have:=Nat.le_of_ble_eq_true hq3; omega
   have iX:=KU hf h1 hk fun T a e=>by rw [Dr e] at hq3; simp at hq3
   refine ⟨n+1,Nat.le_refl _,fun j q' x' hj h5 h6 h7=>?_⟩
   have hb:Nat.blt j (n+1)=true:=by rw [Nat.blt_eq]; exact hj
   rw [hb]
   by_cases hjn:j=n
   ·subst hjn; exact h4
   ·have ani:Nat.ble 3 (dA (bW P cfg q'.op))=true:=by unfold turns at h7; simp only [Bool.and_eq_true] at h7; exact h7.2
    exact hc n j h4 ((iX j q' h5 ani).1 (by omega))
  ·refine ⟨m,by omega,fun j q x hj h5 h6 h7=>?_⟩
   by_cases hjn:j=n
   ·subst hjn
    have hb:Nat.blt j m=false:=by
     cases hb:Nat.blt j m with
     | false=>rfl
     | true=>rw [Nat.blt_eq] at hb; omega
    rw [hb]
    cases hs:S j with
    | false=>rfl
    | true=>exact absurd ⟨q,x,h5,h6,h7,hs⟩ hn
   ·exact h j q x (by omega) h5 h6 h7
theorem aiP (hf:NS P cfg all) {S:Nat→Bool} (hc:pL all S):∃ m,(∀ j q x,all[j]? = some q→L[j]? = some x→turns P cfg q x=true→S j=Nat.blt j m)∧nh P cfg S all L 0 A0=nh P cfg (fun j=>Nat.blt j m) all L 0 A0:=by
 obtain ⟨m,_,h⟩:=V3 (L:=L) hf hc all.length
 have h' : ∀ j q x,all[j]? = some q→L[j]? = some x→turns P cfg q x=true→S j=Nat.blt j m:=fun j q x h1 h2 h3=>h j q x (List.getElem?_eq_some_iff.1 h1).1 h1 h2 h3
 exact ⟨m,h',Es fun j q x h1 h2 h3=>by rw [Nat.zero_add]; exact h' j q x h1 h2 h3⟩
def AtK (P:Program) (cfg:eJ) (all:List Oper) (L:List Out) (t0:bz) (A0:ax):Prop:=∀ i o x,all[i]? = some o→L[i]? = some x→∃ t1,(∀ y,t1.get y=(iY (fun j=>Nat.blt j i) all L 0 t0).get y)∧(x.1=true→a5 (tQ (bW P cfg o.op) t1 (nh P cfg (fun j=>Nat.blt j i) all L 0 A0)) (x.2.1,x.2.2))
theorem afm (yM:AtK P cfg all L t0 A0) (hpl:O7 P cfg all=true):∀ j,A0.next≤(nh P cfg (fun k=>Nat.blt k j) all L 0 A0).next
 | 0=>by rw [Pe (fun i=>by
   cases hb:Nat.blt i 0 with
   | false=>rfl
   | true=>rw [Nat.blt_eq] at hb; omega)]; exact Nat.le_refl _
 | j+1=>by
  have ih:=afm yM hpl j
  rcases afl (P:=P) (cfg:=cfg) (all:=all) (L:=L) (A0:=A0) j with ⟨q,x,h1,h2,h3,h4⟩ | ⟨_,h4⟩
  ·rw [h4]
   obtain ⟨t1,_,hg⟩:=yM j q x h1 h2
   unfold turns at h3
   simp only [Bool.and_eq_true] at h3
   have hg:=hg h3.1
   have hp:=List.all_eq_true.1 hpl q (List.mem_of_getElem? h1)
   simp only [Bool.or_eq_true,h3.2,Bool.not_true,Bool.false_eq_true,false_or] at hp
   rcases hp with hp | hp
   ·exact Nat.le_trans ih (Zw hp hg).1
   ·obtain ⟨a2,Ys⟩:=Option.isSome_iff_exists.1 hp
    unfold QS at Ys
    split at Ys
    ·rename_i T a3 v e
     rw [(V1 e hg).1]; exact ih
    ·simp at Ys
  ·rw [h4]; exact ih
theorem afn (hf:NS P cfg all) {S:Nat→Bool} (hc:pL all S) {i:Nat} {o:Oper} {T:TypeId} {a:Operand} (ho:all[i]? = some o) (BN:o.op = .load T a) (oY:S i=false) (sA:tB all S i) (hns : ¬ Rb P cfg all i)
  (yM:AtK P cfg all L t0 A0) {tn:bz} (M7:∀ y,tn.get y=(iY (fun _=>true) all L 0 t0).get y) (ah2:O6 tn A0.next (Fk P cfg all)=true)
  {t1:bz} (wc:∀ y,t1.get y=(iY (fun j=>Nat.blt j i) all L 0 t0).get y) {v:KV} {A1:ax} (hg:a5 (tQ (bW P cfg o.op) t1 (nh P cfg (fun j=>Nat.blt j i) all L 0 A0)) (v,A1)) :
  a5 (tQ (bW P cfg o.op) t1 (nh P cfg S all L 0 A0)) (v,nh P cfg S all L 0 A0):=by
 have hk:dA (bW P cfg o.op)≠0:=by rw [Dr BN]; simp
 have hex:∃ p,p∈Fk P cfg all∧p.2=a∧uH i a all 0=true:=by
  refine Classical.byContradiction fun dJ=>hns fun j q hq h3=>?_
  rcases unordered hf ho hq hk h3 with h | ⟨p,h1,h2,h3,_⟩
  ·exact h
  ·obtain ⟨⟨T',e⟩,_⟩:=yX h2
   rw [BN] at e
   simp only [Op.load.injEq] at e
   exact absurd ⟨p,h1,e.2.symm,by rw [e.2]; exact h3⟩ dJ
 obtain ⟨p,hp,hpa,hnd⟩:=hex
 have wS:=adI M7 wc hnd
 have hpd:=Pf ah2 p hp
 have hpl:=hf.plain p hp
 rw [BN] at hg ⊢
 have anj:∀ A,tQ (bW P cfg (.load T a)) t1 A=(TK P T A [kW t1 a]).map fun v=>(v,A):=fun _=>rfl
 rw [anj] at hg ⊢
 obtain ⟨u,Zh,he⟩:=a5.map hg
 simp only [Prod.mk.injEq] at he
 obtain ⟨rfl,_⟩:=he
 clear hg
 have hg:=Zh
 clear Zh
 refine a5.yW (f:=fun v=>(v,nh P cfg S all L 0 A0)) ?_
 unfold Gl at hpd
 rw [hpa,wS] at hpd
 cases hv:kW t1 a with
 | tp U Tc m k es acc=>rw [hv] at hg; exact hg
 | ptr b off=>
  rw [hv] at hg hpd
  simp only [Bool.and_eq_true] at hpd
  have hb:=hpd.1
  rw [Nat.blt_eq] at hb
  have jI:∃ cs e,(nh P cfg (fun j=>Nat.blt j i) all L 0 A0).get b=some (.row cs e):=by
   have hg:a5 (match Qq P T,size? P T with
    | some ag,some n=>match (K.rowAt (nh P cfg (fun j=>Nat.blt j i) all L 0 A0) b).bind fun cs=>uF n (Af off cs) with
     | some l=>cond ag (.ok (.agg l)) (match l with | [v]=>.ok v | _=>.no)
     | none=>.no
    | _,_=>.no) u:=hg
   split at hg
   ·split at hg
    ·rename_i l hl
     obtain ⟨cs,h1,_⟩:=Option.bind_eq_some_iff.1 hl
     unfold K.rowAt at h1
     split at h1
     ·rename_i b8 e h2; exact ⟨b8,e,h2⟩
     ·simp at h1
    ·exact hg.elim
   ·exact hg.elim
  obtain ⟨cs,e,jI⟩:=jI
  obtain ⟨m,hm,iX⟩:=aiP (L:=L) (A0:=A0) hf hc
  have step:∀ k,(∀ q x,all[k]? = some q→L[k]? = some x→turns P cfg q x=true→¬ ((k < i→pf (eK [] all) i k=true)∧(i < k→pf (eK [] all) k i=true)))→
    ((nh P cfg (fun j=>Nat.blt j k) all L 0 A0).get b=some (.row cs e)↔(nh P cfg (fun j=>Nat.blt j (k+1)) all L 0 A0).get b=some (.row cs e)):=by
   intro k Pg
   rcases afl (P:=P) (cfg:=cfg) (all:=all) (L:=L) (A0:=A0) k with ⟨q,x,h1,h2,h3,h4⟩ | ⟨_,h4⟩
   ·rw [h4]
    have h3':=h3
    unfold turns at h3'
    simp only [Bool.and_eq_true] at h3'
    rcases unordered hf ho h1 hk h3'.2 with h5 | ⟨p',h5,h6,h7,h8⟩
    ·exact absurd h5 (Pg q x h1 h2 h3)
    ·obtain ⟨tk,htk,hgk⟩:=yM k q x h1 h2
     have hgk:=hgk h3'.1
     obtain ⟨⟨T',e1⟩,e2⟩:=yX h6
     rw [BN] at e1
     simp only [Op.load.injEq] at e1
     have afo:=Pf ah2 p' h5
     unfold Gl at afo
     rw [← e1.2,wS,hv] at afo
     simp only [Bool.and_eq_true] at afo
     rcases e2 with ⟨e2,e3⟩ | ⟨U,a2,v2,e2,e3⟩
     ·exact (Zw e3 hgk).2 b (Nat.lt_of_lt_of_le hb (afm yM hpl k)) cs e
     ·refine (V1 e3 hgk).2 b ?_ cs e
      rw [e2] at afo h8
      have OX:=adI M7 htk h8
      have h9:=afo.2
      simp only at h9
      rw [OX] at h9
      split at h9
      ·rename_i b2 ajZ e4
       refine .inl ⟨b2,ajZ,e4,fun e5=>?_⟩
       subst e5
       simp at h9
      ·rename_i U' Tc' c' i' k' e4; exact .inr ⟨_,_,_,_,_,e4⟩
      ·simp at h9
   ·rw [h4]
  have amB:(nh P cfg S all L 0 A0).get b=some (.row cs e):=by
   rw [iX]
   rcases Nat.le_total m i with hle | hle
   ·have down:∀ d k,k+d=i→m≤k→(nh P cfg (fun j=>Nat.blt j k) all L 0 A0).get b=some (.row cs e):=by
     intro d
     induction d with
     | zero=>intro k hk _; have:k=i:=by omega
             rw [this]; exact jI
     | succ d ih=>
      intro k hk WN
      refine (step k fun q x h1 h2 h3 GD=>?_).2 (ih (k+1) (by omega) (by omega))
      have h4:=hm k q x h1 h2 h3
      have h5:S k=true:=hc.ready hf.Ua ho sA k (GD.1 (by omega))
      rw [h5] at h4
      have h4:=h4.symm
      rw [Nat.blt_eq] at h4
      omega
    exact down (i - m) m (by omega) (Nat.le_refl m)
   ·have up:∀ d,i+d≤m→(nh P cfg (fun j=>Nat.blt j (i+d)) all L 0 A0).get b=some (.row cs e):=by
     intro d
     induction d with
     | zero=>intro _; exact jI
     | succ d ih=>
      intro hd
      refine (step (i+d) fun q x h1 h2 h3 GD=>?_).1 (ih (by omega))
      have h4:=hm (i+d) q x h1 h2 h3
      have h5:Nat.blt (i+d) m=true:=by rw [Nat.blt_eq]; omega
      rw [h5] at h4
      by_cases hd0:d=0
      ·subst hd0
       rw [Nat.add_zero] at h4
       rw [oY] at h4; simp at h4
      ·have:=hc (i+d) i h4 (GD.2 (by omega))
       rw [oY] at this; simp at this
    have:=up (m - i) (by omega)
    rwa [show i+(m - i)=m by omega] at this
  have Ff:K.rowAt (nh P cfg S all L 0 A0) b=K.rowAt (nh P cfg (fun j=>Nat.blt j i) all L 0 A0) b:=by
   unfold K.rowAt
   rw [jI,amB]
  show a5 (match Qq P T,size? P T with
    | some ag,some n=>match (K.rowAt (nh P cfg S all L 0 A0) b).bind fun cs=>uF n (Af off cs) with
     | some l=>cond ag (.ok (.agg l)) (match l with | [v]=>.ok v | _=>.no)
     | none=>.no
    | _,_=>.no) u
  rw [Ff]
  exact hg
 | _=>rw [hv] at hpd; simp at hpd
end
theorem abE {R:Type} {cfg:eJ} {bw:np R} (iu:ra P cfg.pc) (hm:P.follows .mixedOrders=true) {id:Nat} {all:List Oper} {N base:Nat} (hdN:all.all (Fa N)=true) {k:bz→ax→Option R} {r:R} {t:bz} {A:ax} {B:St} {ρ:aW} {a:Act} {w:World} {Q:Exit→Act→World→Prop}
  (GD:aeS P cfg all=true) (h:sj P cfg bw all (fun t' A'=>Bool.rec (motive:=fun _=>Option R) none (k t' A') (O6 t' A.next (Fk P cfg all))) all t A=some r) (ht:ln P E ρ t N a) (hj:KJ P E A B ρ base w)
  (hq:∀ t' E' A' B' aX a' w',k t' A' = some r→ln P E' aX t' N a'→a'.defers=a.defers→Ev P base E A B ρ w E' A' B' aX w'→Q .normal a' w'):(Code.region id ⟨all⟩ true).wp P Q a w:=by
 have hf:=afi GD
 obtain ⟨L,tn,An,mZ,hk⟩:=Q8 (fun o ho f args=>Aq (hf.kind o ho) f args) h
 obtain ⟨hlen,M7,hAn,yM⟩:=mZ.at
 have hdk:O6 tn A.next (Fk P cfg all)=true∧k tn An=some r:=by
  cases hd:O6 tn A.next (Fk P cfg all) with
  | false=>simp only [hd] at hk; exact absurd hk (by simp)
  | true=>simp only [hd] at hk; exact ⟨rfl,hk⟩
 obtain ⟨ah2,hk⟩:=hdk
 have ank:AtK P cfg all L t A:=fun i o x ho hx=>by obtain ⟨t1,q1,_,q3,_⟩:=yM i o x ho hx; exact ⟨t1,q1,q3⟩
 have KY:Ev P base E A B ρ w E A B ρ w.drew:=(ee.refl hj.k).ev (ml.drew hj.s)
 refine wp_region_any hm ?_
 show wpAny P .any ⟨all⟩ Q all.length (Array.replicate all.length false) a w.drew
 have BR:∀ i,(Array.replicate all.length false).getD i false=false:=by
  intro i
  rw [Array.getD_eq_getD_getElem?,Array.getElem?_replicate]
  split <;> rfl
 let Inv:(Nat→Bool)→Act→World→Prop:=fun S a' w'=>∃ E' B' aX,a'.defers=a.defers∧Ev P base E A B ρ w.drew E' (nh P cfg S all L 0 A) B' aX w'∧ln P E' aX (iY S all L 0 t) N a'
 refine Ct hf.Ua Inv ?_ ?_ ?_ all.length _ a w.drew (by simp) ?_ (fun i j hi _=>by
   have h2:(Array.replicate all.length false).getD i false=true:=hi
   rw [BR] at h2; simp at h2) ⟨E,B,ρ,rfl,?_,?_⟩
 ·
  rintro S S' a' w' hSS ⟨E',B',aX,h1,h2,h3⟩
  have e1:nh P cfg S all L 0 A=nh P cfg S' all L 0 A:=Es fun i o x ho _ _=>by rw [Nat.zero_add]; exact hSS i (List.getElem?_eq_some_iff.1 ho).1
  refine ⟨E',B',aX,h1,by rw [← e1]; exact h2,h3.same fun y=>?_⟩
  exact l7 rfl fun i o ho _=>by rw [Nat.zero_add]; exact (hSS i (List.getElem?_eq_some_iff.1 ho).1).symm
 ·
  rintro S a' w' i o ⟨E',B',aX,h1,h2,h3⟩ hc ho oY sA _
  have hi:i < L.length:=by rw [hlen]; exact (List.getElem?_eq_some_iff.1 ho).1
  have hx:L[i]? = some L[i]:=List.getElem?_eq_getElem hi
  obtain ⟨t1,wc,hw,afp,Pg⟩:=yM i o L[i] ho hx
  have Ar:∀ y∈na P cfg all o,t1.get y=(iY S all L 0 t).get y:=fun y hy=>by rw [wc y,Zv hf.toT hc ho oY sA hy]
  have IC:=Bp h3 (fun y hy=>Ar y (by unfold na; exact List.mem_append_left _ hy)) hw
  have Dq:∀ d,o.dst=some d→d < N:=by
   intro d ed
   have:=List.all_eq_true.1 hdN o (List.mem_of_getElem? ho)
   unfold Fa at this
   rw [ed] at this
   simp only at this
   rw [Nat.blt_eq] at this
   exact this
  have hoA:(⟨all⟩:Array Oper)[i]? = some o:=by simpa using ho
  unfold wpOp
  rw [hoA]
  simp only [IC]
  cases Cz:L[i].1 with
  | false=>
   simp only [Bool.false_eq_true,if_false]
   have hv:=Pg Cz
   refine ⟨E',B',aX,by rw [put_defers]; exact h1,?_,?_⟩
   ·rw [xg ho hx (by unfold turns; rw [Cz]; rfl)]
    exact h2
   ·refine (h3.put Dq VC.undef).same fun y=>?_
    rw [GC hf.toT hc ho hx oY y,hv]
  | true=>
   simp only [if_true]
   refine .inl ?_
   have hg:=afp Cz
   have hgS:∃ A1,a5 (tQ (bW P cfg o.op) t1 (nh P cfg S all L 0 A)) (L[i].2.1,A1)∧nh P cfg (cV S i) all L 0 A=A1:=by
    by_cases D5:dA (bW P cfg o.op)=0
    ·refine ⟨_,afk hg D5,xg ho hx ?_⟩
     unfold turns
     rw [D5,show Nat.ble 3 0=false from rfl,Bool.and_false]
    ·by_cases iX:Rb P cfg all i
     ·rw [Rc (L:=L) (A0:=A) hf hc ho oY sA iX]
      refine ⟨_,hg,?_⟩
      cases M7:turns P cfg o L[i] with
      | true=>exact agX hf hc ho hx oY sA M7
      | false=>
       have h4:=Ap hg (by simpa [turns,Cz] using M7)
       rw [xg ho hx M7,Rc (L:=L) (A0:=A) hf hc ho oY sA iX,h4]
     ·have hex:∃ T a,o.op = .load T a:=Classical.byContradiction fun dJ=>iX (KU hf ho D5 fun T a e=>dJ ⟨T,a,e⟩)
      obtain ⟨T,a',BN⟩:=hex
      refine ⟨_,afn hf hc ho BN oY sA iX ank M7 ah2 wc hg,xg ho hx ?_⟩
      unfold turns
      rw [Dr BN,show Nat.ble 3 1=false from rfl,Bool.and_false]
   obtain ⟨A1,hg1,hA1⟩:=hgS
   refine Iw iu hg1 (fun x hxm=>KW h3 fun y e=>Ar y ?_) h2.kj fun GB Ix uC v' Ga h4 h5=>?_
   ·unfold na
    subst e
    exact List.mem_append_right _ (kT hxm)
   ·refine ⟨GB,Ix,uC,by rw [put_defers]; exact h1,?_,?_⟩
    ·rw [hA1]; exact h2.trans h5
    ·refine ((h3.mono h5.le (h5.fP.le h2.fP.jy)).put Dq h4).same fun y=>?_
     rw [GC hf.toT hc ho hx oY y]
 ·
  rintro S a' w' pg ⟨E',B',aX,h1,h2,h3⟩
  have e1:nh P cfg S all L 0 A=An:=by rw [hAn]; exact Es fun i o x ho _ _=>by rw [Nat.zero_add]; exact pg i (List.getElem?_eq_some_iff.1 ho).1
  rw [e1] at h2
  refine hq tn E' An B' aX a' w' hk (h3.same fun y=>?_) h1 (KY.trans h2)
  rw [M7 y]
  exact l7 rfl fun i o ho _=>by rw [Nat.zero_add]; exact (pg i (List.getElem?_eq_some_iff.1 ho).1).symm
 ·simp
 ·rw [Pe BR]
  exact .refl hj.k KY.fP.jy
 ·refine ht.same fun y=>?_
  rw [IA BR]
end Go.K
end
