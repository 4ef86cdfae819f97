/- Part of the proof of PathsWhole: the machine, shown to be the model's, and plain models. No conditions. -/
import Derived.Test.YtckbdndhmcoihaaGreatEq
set_option linter.unusedSimpArgs false
set_option linter.unusedVariables false
section
namespace Go.K
open Go Go.aA
variable {P:Program} {E:Env}
theorem cE.afs {A A1:ai} {B:St} {T:TypeId} {acc:Nat->KV} (h:du P E A B) (qq:A1.next=A.next) (zT:∀ c o,A1.get c=some o->A.get c=some o\/(o = .dead/\c < A.next)) (cS:1<=aJ P T) :
  cE P E A B E (A1.new (.arr (.ts T .any 0 [] acc))) B:=by
 have aiJ:E.α A.next=none:=by
  cases hq:E.α A.next with
  | none=>rfl
  | some p=>have:=h.ar.fZ _ p hq; omega
 have gi:∀ c o,(A1.new (.arr (.ts T .any 0 [] acc))).get c=some o->(c=A.next/\o = .arr (.ts T .any 0 [] acc))\/(o = .dead/\c < A.next)\/A.get c=some o:=fun c o hc=>by
  rw [ai.cV,qq] at hc;split at hc
  ·rename_i e; simp at hc; exact .inl ⟨e,hc.symm⟩
  ·rcases zT c o hc with e | e
   ·exact .inr (.inr e)
   ·exact .inr (.inl e)
 have iP:∀ c v,(A1.new (.arr (.ts T .any 0 [] acc))).get c=some (.arr v)->E.α c=none\/A.get c=some (.arr v):=fun c v hc=>by
  rcases gi c _ hc with ⟨e,_⟩ | ⟨e,_⟩ | e
  ·exact .inl (by rw [e]; exact aiJ)
  ·simp at e
  ·exact .inr e
 have hA:∀ c v y L N,(A1.new (.arr (.ts T .any 0 [] acc))).get c=some (.arr v)->E.α c=some (y,L,N)->A.get c=some (.arr v):=fun c v y L N hc hy=>by
  rcases iP c v hc with e | e
  ·rw [e] at hy; simp at hy
  ·exact e
 have po:∀ y,AR (A1.new (.arr (.ts T .any 0 [] acc))) E y->AR A E y:=fun y ⟨c,v,L,N,h1,h2⟩=>⟨c,v,L,N,hA c v _ _ _ h1 h2,h2⟩
 have IW:∀ g,AF (A1.new (.arr (.ts T .any 0 [] acc))) E B g->AF A E B g:=fun g ⟨c,v,x,L,N,cs,e,own,k,h1,h2,h3⟩=>⟨c,v,x,L,N,cs,e,own,k,hA c v _ _ _ h1 h2,h2,h3⟩
 refine ⟨⟨fun c cs aQ hc=>?_,fun c top sz hc=>?_,h.z,h.apart,h.inj,?_,fun b x e=>by rw [ai.cw,qq]; have:=h.fZ b x e; omega,fun b g e=>by rw [ai.cw,qq]; have:=h.lk b g e; omega,fun c o hc=>?_,h.eD,h.lT,h.iU,h.fresh,h.mem,?_⟩,Env.le_refl _,by rw [ai.cw,qq]; omega,fun _ _ _ _=>rfl,fun _ _ e=>.inl e,fun _ _ e=>.inl e,fun _ _ e=>.inl e,fun _ _ _ _=>rfl,fun x q=>.inl (po x q),fun g q=>.inl (IW g q),fun _ _ q=>.inl q,fun y q=>.inl (q.imp (po y) fun ⟨g,q1,q2⟩=>⟨g,IW g q1,q2⟩),ll fun _ _=>rfl⟩
 ·rcases gi c _ hc with ⟨_,e⟩ | ⟨e,_⟩ | e
  ·simp at e
  ·simp at e
  ·exact h.row c cs aQ e
 ·rcases gi c _ hc with ⟨_,e⟩ | ⟨e,_⟩ | e
  ·simp at e
  ·simp at e
  ·exact h.aF c top sz e
 ·intro b c g tb sb tc sc hb hc e1 e2
  rcases gi b _ hb with ⟨_,e⟩ | ⟨e,_⟩ | hb
  ·simp at e
  ·simp at e
  rcases gi c _ hc with ⟨_,e⟩ | ⟨e,_⟩ | hc
  ·simp at e
  ·simp at e
  exact h.iB b c g _ _ _ _ hb hc e1 e2
 ·rw [ai.cw,qq]
  rcases gi c _ hc with ⟨e,_⟩ | ⟨_,e⟩ | e
  ·omega
  ·omega
  ·have:=h.live c o e; omega
 ·refine ⟨fun c v hc=>?_,fun c v hc=>?_,fun x q=>h.ar.z x (po x q),fun b c v u x L N L' N' h1 h2 h3 h4=>h.ar.inj b c v u x L N L' N' (hA b v _ _ _ h1 h3) (hA c u _ _ _ h2 h4) h3 h4,fun b c v u x y L N L' N' cs e own g k b5 e' nJ k' h1 h2 h3 h4=>h.ar.rC b c v u x y L N L' N' cs e own g k b5 e' nJ k' (hA b v _ _ _ h1 h3) (hA c u _ _ _ h2 h4) h3 h4,h.ar.WT,fun b p e=>by rw [ai.cw,qq]; have:=h.ar.fZ b p e; omega,h.ar.eD,fun b v x L N cs e own g k h1 h2 h3=>?_,fun c v hc=>?_⟩
  ·rcases gi c _ hc with ⟨e,e2⟩ | ⟨e,_⟩ | e
   ·simp at e2
    subst e2;exact ⟨T,0,[],acc,rfl,⟨rfl,fun i hi=>by omega,rfl⟩,cS,.inl ⟨rfl,by rw [e]; exact aiJ⟩⟩
   ·simp at e
   ·exact h.ar.arr c v e
  ·rcases gi c _ hc with ⟨_,e⟩ | ⟨e,_⟩ | e
   ·simp at e
   ·simp at e
   ·exact h.ar.iI c v e
  ·obtain ⟨q1,q2,q3⟩:=h.ar.p7 b v x L N cs e own g k (hA b v _ _ _ h1 h2) h2 h3
   exact ⟨q1,q2,fun y hy bA=>⟨(q3 y hy bA).1,fun q=>(q3 y hy bA).2.1 (po y q),(q3 y hy bA).2.2⟩⟩
  ·rw [ai.cw,qq]
   rcases gi c _ hc with ⟨e,_⟩ | ⟨e,_⟩ | e
   ·rw [e]
    refine ⟨yJ _,?_⟩;cases hk:E.κ A.next with
    | none=>rfl
    | some x=>have:=h.fZ _ x hk; omega
   ·simp at e
   ·obtain ⟨q1,q2⟩:=h.ar.nk c v e
    exact ⟨by omega,q2⟩
theorem UX {E:Env} {T:TypeId} {b x L N n c:Nat} (oM:E.α b=some (x,L,N)) (h1:n<=c) (h2:n<=N) (h3:c * aJ P T=L):VK P E (.al T b 0 n) (.slice (some ⟨x,0,none⟩) n c):=
 .IE (.inr ⟨x,L,N,c,oM,by simp,h1,by omega,by rw [bF]; exact h3⟩)
theorem abx {T b n:Nat} {z:Value} (hn:aJ P T=n) (h1n:1<=n) (hz:z.cells.size=n) (he:cf (aH P T) (K.dv (aH P T) (fC z))=true):UG P (Qx T b (K.dv (aH P T) (fC z))) (y4 n b z):=by
 intro E A A' B vs us v h hv hg;unfold Qx at hg;split at hg
 ·rename_i k l k' c
  obtain ⟨x,y,rfl,h1,h2⟩:=hv.ja;have:=h1.bO; subst this;have:=h2.bO; subst this;obtain ⟨hc,hg⟩:=az.iJ hg;simp only [bG] at hg;obtain ⟨rfl,rfl⟩:=hg;simp only [aj,jR] at hc;obtain ⟨⟨h3,h4⟩,h5⟩:=hc;obtain ⟨l',rfl⟩:=Int.eq_ofNat_of_zero_le h3;obtain ⟨c',rfl⟩:=Int.eq_ofNat_of_zero_le (Int.le_trans h3 h4);have h6:Nat.ble l' c' = true:=Nat.ble_eq_true_of_le (by omega);have hs:∀ v∈List.replicate c' z,v.cells.size=n:=fun v hv=>by rw [List.eq_of_mem_replicate hv]; exact hz
  have hlen:(bj (List.replicate c' z)).length=c' * n:=by rw [fX hs,List.length_replicate]
  have GA:∀ m,cM [K.dv (aH P T) (fC z)] m=List.replicate m (K.dv (aH P T) (fC z)):=fun m=>by
   induction m with
   | zero=>rfl
   | succ m ih=>simp [cM,ih,List.replicate_succ]
  have eZ:=cE.Gx (P:=P) (X:=fun _=>False) (G:=fun _=>False) (y2:=B.next) (N2:=c') (T:=T) (mu:=cM [K.dv (aH P T) (fC z)] c') (fg:=fun _=>K.dv (aH P T) (fC z)) (zf:=List.replicate c' z) (iw:=bj (List.replicate c' z)) (oi:=none) (A1:=A) (B':=B.new (.row (bj (List.replicate c' z)) n true none)) h rfl (fun _ _ e=>.inl e) (fun _ _ _ _ _ _ _=>⟨id,fun _ _ _ _ _ _=>id⟩) (fun _ e=>e.elim) (fun _ e=>e.elim) (.inr (ao _)) (by simp) (by simp [hn]) (fun _ _ e=>by simp at e)
   (fun y hy _=>.inl (by rw [St.cV,ae (by omega)])) (fun _ e=>e.elim) (fun q y hy=>.inl (by simpa using hy)) (fun q _=>by simp) (by simp) (fun g hg=>by rw [St.j3]; exact h.fresh g (by rw [St.cw] at hg; omega)) (fun g y hy=>by rw [St.j3] at hy; rw [St.cw]; have:=h.mem g y hy; omega)
   (by omega) ⟨by rw [GA]; simp,fun i hi=>by rw [GA,eO,List.getElem?_replicate,ax hi]; rfl,by
    rw [GA];exact lV fun i x hx=>by rw [List.getElem?_replicate] at hx; split at hx <;> simp at hx; subst hx; exact he⟩ (by
    rw [GA];generalize c' = m
    induction m with
    | zero=>exact .nil
    | succ m ih=>exact .cons (VK.fC z).dv ih) (by rw [hn]; exact jK hs)
  refine ⟨.row (eK z.cells.toList c') n true none,fun k=>.slice (some ⟨k,0,none⟩) l' c',E.xN A.next (B.next,(bj (List.replicate c' z)).length,c'),?_,?_,?_⟩
  ·have h5:Nat.ble (b * c') 281474976710656=true:=h5
   show cond (Nat.ble l' c'&&Nat.ble (b * c') 281474976710656) _ _=_;rw [h6,h5];rfl
  ·exact UX Env.sS (by omega) (by show l'<=c'; omega) (by rw [hn,hlen])
  ·rw [wO]; exact eZ
 ·exact hg.elim
theorem ZA {e:TypeId} {n len:Nat} {z:Value} {is:List Nat} (hn:(aH P e).ks.length=n) (h1n:1<=n) (hz:z.cells.size=n) (hb:yg len is=true) :
  UG P (Ml (aH P e) e (K.dv (aH P e) (fC z)) len is) (od n z len is):=by
 intro E A A' B vs us v h hv hg;unfold Ml at hg;obtain ⟨hc,hg⟩:=az.cond hg;simp only [aj] at hc;obtain ⟨⟨hk,TU⟩,wN⟩:=hc;have hg:(KV.al e A.next 0 len,A.new (.arr (.ts e .any len _ _)))=(v,A'):=hg;simp only [bG] at hg;obtain ⟨rfl,rfl⟩:=hg;have HJ:VK P E (K.dv (aH P e) (fC z)) z:=(VK.fC z).dv;have hrel:=MD (l:=aH P e) (is:=is) hv (Gv HJ len);have hlen:(zR (cM [K.dv (aH P e) (fC z)] len) ((tC is vs).map fun p=>(p.1,K.dv (aH P e) p.2))).length=len:=by
  rw [D5,uE]; simp
 have Zs:∀ p∈zipIdx is us,p.2.cells.size=n/\p.1 < (List.replicate len z).length:=by
  intro p hp;obtain ⟨h5,h6⟩:=Zr us hb p hp;have hm:aK P E (vs.map (K.dv (aH P e))) us:=QH hv;exact ⟨by rw [<- hn]; exact (kb TU hm p.2 h6).1,by simpa using h5⟩
 obtain ⟨h3,h4⟩:=MB h1n (ps:=zipIdx is us) (es:=List.replicate len z) (fun u hu=>by rw [(List.mem_replicate.1 hu).2]; exact hz) Zs;have uA:=kb wN hrel;have gV:(bj (nN (List.replicate len z) (zipIdx is us))).all scalar=true:=dS.2 (uf fun u hu=>(uA u hu).2);have iM:(nN (List.replicate len z) (zipIdx is us)).length=len:=by rw [D3]; simp
 have eZ:=cE.Gx (P:=P) (X:=fun _=>False) (G:=fun _=>False) (y2:=B.next) (N2:=len) (T:=e) (mu:=zR (cM [K.dv (aH P e) (fC z)] len) ((tC is vs).map fun p=>(p.1,K.dv (aH P e) p.2))) (fg:=qk _) (zf:=nN (List.replicate len z) (zipIdx is us)) (iw:=bj (nN (List.replicate len z) (zipIdx is us))) (oi:=none) (A1:=A) (B':=B.new (.row (bj (nN (List.replicate len z) (zipIdx is us))) n true none)) h rfl (fun _ _ e=>.inl e) (fun _ _ _ _ _ _ _=>⟨id,fun _ _ _ _ _ _=>id⟩) (fun _ e=>e.elim) (fun _ e=>e.elim) (.inr (ao _)) (by simp) (by simp [aJ,hn]) (fun _ _ e=>by simp at e)
  (fun y hy _=>.inl (by rw [St.cV,ae (by omega)])) (fun _ e=>e.elim) (fun q y hy=>.inl (by simpa using hy)) (fun q _=>by simp) (by simp) (fun g hg=>by rw [St.j3]; exact h.fresh g (by rw [St.cw] at hg; omega)) (fun g y hy=>by rw [St.j3] at hy; rw [St.cw]; have:=h.mem g y hy; omega)
  (by unfold aJ; omega) ⟨hlen.symm,fun i _=>rfl,wN⟩ hrel (by unfold aJ; rw [hn]; exact jK h4)
 refine ⟨.row (bj (nN (List.replicate len z) (zipIdx is us))) n true none,fun b=>.slice (some ⟨b,0,none⟩) len len,E.xN A.next (B.next,(bj (nN (List.replicate len z) (zipIdx is us))).length,len),?_,?_,eZ⟩
 ·unfold od
  rw [wO,h3];simp only [cA];rw [gV,BS hv hk];rfl
 ·exact UX Env.sS (ao _) (ao _) (by unfold aJ; rw [hn,fX h4,iM])
theorem agZ {T b n:Nat} {z:Value} (hn:aJ P T=n) (_:1<=n) (hz:z.cells.size=n) (he:cf (aH P T) (K.dv (aH P T) (fC z))=true):aiF P (Ze T b (K.dv (aH P T) (fC z))) (y4 n b z):=by
 intro E A B vs us v h hv hg;unfold Ze at hg;split at hg
 ·rename_i k l k' c
  obtain ⟨x,y,rfl,h1,h2⟩:=hv.ja;have:=h1.bO; subst this;have:=h2.bO; subst this;obtain ⟨hc,hg⟩:=az.iJ hg;subst hg;simp only [aj,jR] at hc;obtain ⟨⟨h3,h4⟩,h5⟩:=hc;obtain ⟨l',rfl⟩:=Int.eq_ofNat_of_zero_le h3;obtain ⟨c',rfl⟩:=Int.eq_ofNat_of_zero_le (Int.le_trans h3 h4);have AK:l'<=c':=by omega
  have h6:Nat.ble l' c' = true:=Nat.ble_eq_true_of_le AK;have hs:∀ v∈List.replicate c' z,v.cells.size=n:=fun v hv=>by rw [List.eq_of_mem_replicate hv]; exact hz
  have GA:∀ m,cM [K.dv (aH P T) (fC z)] m=List.replicate m (K.dv (aH P T) (fC z)):=fun m=>by
   induction m with
   | zero=>rfl
   | succ m ih=>simp [cM,ih,List.replicate_succ]
  have hrel:∀ m,aK P E (List.replicate m (K.dv (aH P T) (fC z))) (List.replicate m z):=fun m=>by
   induction m with
   | zero=>exact .nil
   | succ m ih=>exact .cons (VK.fC z).dv ih
  refine ⟨.row (eK z.cells.toList c') n true none,fun k=>.slice (some ⟨k,0,none⟩) l' c',E.dV B.next ⟨bj (List.replicate c' z),n,true,none⟩,?_,?_,?_⟩
  ·have h5:Nat.ble (b * c') 281474976710656=true:=h5
   show cond (Nat.ble l' c'&&Nat.ble (b * c') 281474976710656) _ _=_;rw [h6,h5];rfl
  ·have adF:=(hrel l').mono (cE.UI (b5:=bj (List.replicate c' z)) (aQ:=n) h).le
   simp only [VK];refine ⟨⟨by rw [GA]; simp,fun i hi=>by rw [GA,eO,List.getElem?_replicate,ax hi]; rfl,by
    rw [GA];exact lV fun i x hx=>by rw [List.getElem?_replicate] at hx; split at hx <;> simp at hx; subst hx; exact he⟩,List.replicate l' z,by rw [GA]; exact adF,some ⟨B.next,0,none⟩,c',rfl,AK,.inr ⟨B.next,0,⟨bj (List.replicate c' z),n,true,none⟩,rfl,by simp [Env.dV],hn.symm,?_⟩,trivial⟩
   rw [hn];intro i x hx;rw [List.getElem?_replicate] at hx;split at hx
   ·rename_i hi
    refine jK hs i x ?_;rw [List.getElem?_replicate,ax (by have hi:i < l':=hi; omega)];exact hx
   ·simp at hx
  ·rw [wO]; exact cE.UI h
 ·exact hg.elim
theorem QK {sz:Nat} {cs:List Value} {xs ys:List Value} (h:mJ sz 0 cs xs) (k:mJ sz (xs.length * sz) cs ys):mJ sz 0 cs (xs++ys):=fun i x hi=>by
 by_cases aI:i < xs.length
 ·rw [mL aI] at hi; exact h i x hi
 ·rw [n4 (by omega)] at hi
  obtain ⟨h1,h2⟩:=k _ x hi;refine ⟨h1,fun j y hy=>?_⟩;rw [<- h2 j y hy];congr 1;have:i * sz=xs.length * sz+(i - xs.length) * sz:=by rw [<- Nat.add_mul]; congr 1; omega
  omega
theorem RW {sz o:Nat} {cs r news:List Value} (hs:∀ v∈news,v.cells.size=sz) (hw:fc (o * sz) cs (bj news)=some r):mJ sz (o * sz) r news:=fun i x hi=>by
 have CO:=jK hs i x hi;have hlen:=fX hs;obtain ⟨_,_,h3⟩:=fG hw;refine ⟨CO.1,fun k y hy=>?_⟩;have h4:=CO.2 k y hy;rw [bF] at h4;rw [h3,ax ⟨by omega,by have:=(cp.1 h4).1; omega⟩,<- h4];congr 1;omega
theorem UY {sz o:Nat} {cs r vs es:List Value} (hl:mJ sz 0 cs es) (ho:es.length<=o) (hw:fc (o * sz) cs vs=some r) (_:1<=sz):mJ sz 0 r es:=fun i x hi=>by
 obtain ⟨h1,h2⟩:=hl i x hi;obtain ⟨_,_,h3⟩:=fG hw;refine ⟨h1,fun k y hy=>?_⟩;have hk:k < sz:=by have:=(jh.1 hy).1; omega
 have KC:=(cp.1 hi).1;have aI:0+i * sz+k < o * sz:=by
  have:(i+1) * sz<=o * sz:=Nat.mul_le_mul_right _ (by omega);rw [Nat.add_mul] at this;omega
 rw [h3,ae (by omega)];exact h2 k y hy
theorem UZ {A:ai} {B:St} {f:Nat} {o0:gJ} (h:du P E A B) (hA:A.get f=some o0):∀ c o,(A.put f .dead).get c=some o->A.get c=some o\/(o = .dead/\c < A.next):=fun c o hc=>by
 rw [ai.b6] at hc;split at hc
 ·rename_i e; simp at hc; subst hc e; exact .inr ⟨rfl,h.live _ _ hA⟩
 ·exact .inl hc
theorem OL {B:St} {g k:Nat} {c:List Value} {n:Nat} (_:g<=B.next):(∀ x,(B.grow g k c n).get x=if x=B.next then some (.row c n true (some (g,k))) else B.get x)/\(∀ q,(B.grow g k c n).members q=if q=g then B.next::B.members g else B.members q)/\(B.grow g k c n).next=B.next+1:=
 ⟨fun x=>by simp [St.grow],fun q=>by simp [St.grow,St.yM],rfl⟩
theorem U0 {e b:Nat} {E:Env} {A A' : ai} {B:St} {x v:KV} {u w:Value} {e' : TypeId} {mk:Mk} {k:Nat} {new:List KV} {acc:Nat->KV} (rJ:1<=aJ P e) (h:du P E A B) (h1:VK P E x u)
  (WY:Nat.beq e e' = true->∃ aP,Src P E B e' k new acc w aP) (hg:az (Bn e b A [x,.ts e' mk k new acc]) (v,A')):∃ r B' E',iE (aJ P e) b B [u,w] = some (r,B')/\VK P E' v r/\cE P E A B E' A' B':=by
 have put:∀ (A1:ai) (m:Nat) (base:List KV) (ab:Nat->KV) (more:Bool) (A2:ai) (v:KV),az (Th e b m base ab A1 k new acc more) (v,A2)->
   (more=true/\Nat.ble ((m+k) * b) 140737488355328=true/\Nat.ble (m+k) 17592186044416=true)/\v = .al e A1.next 0 (m+k)/\A2=A1.new (.arr (.ts e .any (m+k) (base++new) (dU m ab acc))):=by
  intro A1 m base ab more A2 v hp;obtain ⟨hc,hp⟩:=az.iJ hp;simp only [afe,aj] at hc;simp only [bG] at hp;exact ⟨⟨hc.1,hc.2.1,hc.2.2⟩,hp.1.symm,hp.2.symm⟩
 have nil:∀ (A1:ai) (base:List KV) (ab:Nat->KV),base = []->A1.next=A.next->(∀ c o,A1.get c=some o->A.get c=some o\/(o = .dead/\c < A.next))->(∃ aP,Src P E B e k new acc w aP)->Nat.ble ((0+k) * b) 140737488355328=true->Nat.ble (0+k) 17592186044416=true->
   ∃ r B' E',iE (aJ P e) b B [.slice none 0 0,w] = some (r,B')/\VK P E' (.al e A.next 0 (0+k)) r/\cE P E A B E' (A1.new (.arr (.ts e .any (0+k) (base++new) (dU 0 ab acc)))) B':=by
  intro A1 base ab Gz Qd hr1 ⟨bJ,iy⟩ u6 qg;subst Gz;have hj:fV P e (0+k) ([]++new) (dU 0 ab acc):=(fV.none (P:=P) (T:=e) (g:=ab)).join iy.tree;cases k with
  | zero=>
   have mi:new = []:=lD.1 iy.tree.len.symm;subst mi;refine ⟨.slice none 0 0,B,E,?_,.IE (.inl ⟨rfl,rfl,rfl⟩),cE.afs h Qd hr1 rJ⟩;simp only [iE,iy.len,cA,iy.all];rfl
  | succ k=>
   obtain ⟨g1,g2,g3⟩:=OL (B:=B) (g:=B.next) (k:=0) (c:=bj bJ) (n:=aJ P e) (ao _);have hlen:(bj bJ).length=(k+1) * aJ P e:=by rw [fX iy.size,iy.length]
   refine ⟨.slice (some ⟨B.next,0,none⟩) (k+1) (k+1),B.grow B.next 0 (bj bJ) (aJ P e),E.xN A.next (B.next,(bj bJ).length,0+(k+1)),?_,?_,?_⟩
   ·simp only [bF] at u6 qg
    simp only [iE,iy.len,cA,bF];rw [show Nat.ble (k+1) 0=false from rfl,ay,u6,qg,iy.all];rfl
   ·rw [bF]; exact UX Env.sS (ao _) (by omega) (by rw [hlen])
   ·generalize B.grow B.next 0 (bj bJ) (aJ P e)=B' at g1 g2 g3
    exact cE.Gx (X:=fun _=>False) (G:=fun _=>False) (y2:=B.next) (oi:=some (B.next,0)) h Qd hr1 (fun _ _ _ _ _ _ _=>⟨id,fun _ _ _ _ _ _=>id⟩) (fun _ e=>e.elim) (fun _ e=>e.elim) (.inr (ao _)) (by omega) (by rw [g1,ax rfl]) (fun g k e=>by simp at e; exact .inr (by omega))
     (fun y hy _=>.inl (by rw [g1,ae (by omega)])) (fun _ e=>e.elim) (fun q y hy=>by
      rw [g2] at hy;split at hy
      ·rename_i e
       subst e;rcases bd.1 hy with hy | hy
       ·exact .inr ⟨hy,ao _,0,rfl⟩
       ·exact .inl hy
      ·exact .inl hy) (fun q hq=>by rw [g2,ae (fun e=>hq 0 (by rw [e]))]) (by omega) (fun g hg=>by rw [g2,ae (by omega)]; exact h.fresh g (by omega)) (fun g y hy=>by
      rw [g2] at hy;split at hy
      ·rcases bd.1 hy with hy | hy
       ·omega
       ·have:=h.mem _ y hy; omega
      ·have:=h.mem g y hy; omega) rJ hj (by simpa using iy.rel) (jK iy.size)
 unfold Bn at hg;split at hg
 ·rename_i e9 mk9 k9 afq afr heq
  simp only [List.cons.injEq,KV.ts.injEq,and_true] at heq;obtain ⟨rfl,rfl,rfl,rfl,rfl,rfl⟩:=heq;have:=h1.mv; subst this;obtain ⟨he,HJ⟩:=hg.cond;have iy:=WY he;have:=aE he;subst this;obtain ⟨⟨_,u6,qg⟩,rfl,rfl⟩:=put _ _ _ _ _ _ _ HJ;exact nil A [] mI rfl rfl (fun _ _ e=>.inl e) iy u6 qg
 ·rename_i e1 f o n e9 mk9 k9 afq afr heq
  simp only [List.cons.injEq,KV.ts.injEq,and_true] at heq;obtain ⟨rfl,rfl,rfl,rfl,rfl,rfl⟩:=heq;split at hg
  ·rename_i e2 mk2 N es ac hf
   obtain ⟨he,HJ⟩:=hg.cond;simp only [aj] at he;obtain ⟨bJ,iy⟩:=WY he.1.1;have:=aE he.1.1;subst this;have:=aE he.1.2;subst this;have:=aE he.2;subst this;obtain ⟨⟨ho,u6,qg⟩,rfl,rfl⟩:=put _ _ _ _ _ _ _ HJ;have:=aE ho;subst this;have zT:=UZ h hf;rcases h1.rH with ⟨rfl,_,rfl⟩ | ⟨x,L,N0,c,h2,rfl,h3,h4,h5⟩
   ·exact nil (A.put f .dead) (es.take 0) ac (by simp) rfl zT ⟨bJ,iy⟩ u6 qg
   ·obtain ⟨T2,N2,mu,fg,e2,ht,_,rp⟩:=h.ar.arr f _ hf
    simp only [KV.ts.injEq] at e2;obtain ⟨rfl,rfl,rfl,rfl,rfl⟩:=e2;rcases rp with ⟨_,e2⟩ | ⟨x2,cs,aZ,aP,e2,h6,h7,h8⟩
    ·rw [h2] at e2; simp at e2
    rw [h2] at e2;simp only [aR,bG] at e2;obtain ⟨rfl,rfl,rfl⟩:=e2;have po:AR A E x:=⟨f,_,_,_,hf,h2⟩
    have alr:x < B.next:=h.Df po;have MI:aP.length=N0:=by rw [h7.length]; exact ht.len.symm
    have hs:=kb ht.typed h7;have htk:fV P e n (es.take n) ac:=⟨by rw [jw,<- ht.len]; omega,fun i hi=>by rw [ht.acc i (by omega),eO,eO,kR,ax hi],lV fun i x hi=>by
     rw [kR] at hi;split at hi
     ·exact fI ht.typed hi
     ·simp at hi⟩
    have hj:=htk.join iy.tree;have EX:(aP.take n).length=n:=by rw [jw]; omega
    have ann:∀ v∈aP.take n,v.cells.size=aJ P e:=fun v hv=>(hs v (List.mem_of_mem_take hv)).1;have hrel:=(h7.take n).append iy.rel;have h5:c * aJ P e=cs.length:=by simpa using h5
    have mh:∀ c v,(A.put f .dead).get c=some (.arr v)->c≠f/\A.get c=some (.arr v):=fun c v hc=>by
     rw [ai.b6] at hc;split at hc
     ·simp at hc
     ·rename_i e; exact ⟨e,hc⟩
    have hf1:∀ c v,(A.put f .dead).get c=some (.arr v)->∀ y L N,E.α c=some (y,L,N)->¬ (y=x)/\∀ mc e1 own g k1,B.get y=some (.row mc e1 own (some (g,k1)))->¬ (∃ k,aZ=some (g,k)):=fun c v hc y L N hy=>by
     obtain ⟨bA,hc⟩:=mh c v hc;refine ⟨fun e=>bA (h.ar.inj c f v _ x L N _ _ hc hf (by rw [<- e]; exact hy) h2),fun mc e1 own g k1 hr ⟨k2,hk⟩=>?_⟩;rw [hk] at h6;exact bA (h.ar.rC c f v _ y x L N _ _ _ _ _ g k1 _ _ _ k2 hc hf hy h2 hr h6)
    have hf3:∀ g,(∃ k,aZ=some (g,k))->AF A E B g/\g < B.next/\(∀ f,E.φ f≠some g)/\∀ y∈B.members g,¬ (y=x)->E.z y=none/\¬ AR A E y/\∀ c,E.κ c≠some y:=fun g ⟨k2,hk⟩=>by
     rw [hk] at h6;obtain ⟨q1,q2,q3⟩:=h.ar.p7 f _ x _ _ _ _ _ g k2 hf h2 h6;exact ⟨⟨f,_,x,_,_,_,_,_,k2,hf,h2,h6⟩,q1,q2,fun y hy bA=>q3 y hy bA⟩
    have aft:bH (⟨x,0 * aJ P e,none⟩:Addr)=true:=rfl;by_cases jI:n+k<=c
    ·
     have hle:n * aJ P e+(bj bJ).length<=cs.length:=by
      rw [fX iy.size,iy.length,<- h5,<- Nat.add_mul];exact Nat.mul_le_mul_right _ jI
     obtain ⟨iw,hw⟩:=wP (n * aJ P e) cs (bj bJ) hle;have BL:iw.length=cs.length:=(fG hw).1;have y8:(bj bJ).all scalar=true:=dS.2 (uf fun v hv=>(kb iy.tree.typed iy.rel v hv).2);have hb:Nat.ble (n+k) c=true:=Nat.ble_eq_true_of_le jI;have key:∃ B' : St,iE (aJ P e) b B [.slice (some ⟨x,0 * aJ P e,none⟩) n c,w] = some (.slice (some ⟨x,0 * aJ P e,none⟩) (n+k) c,B')/\B'.get x=some (.row iw (aJ P e) true aZ)/\
       (∀ y,y≠x->B'.get y=B.get y\/(B'.get y=some .dead/\∃ g,(∃ k,aZ=some (g,k))/\y∈B.members g))/\B'.members=B.members/\B'.next=B.next:=by
      cases oJ:Nat.beq k 0 with
      | true=>
       have EU:bJ = []:=lD.1 (by rw [iy.length]; exact aE oJ);have AJ:iw=cs:=by
        rw [EU] at hw;refine List.ext_getElem? fun i=>?_;rw [(fG hw).2.2 i,ae (by simp [bj])]
       refine ⟨B,?_,by rw [AJ]; exact h6,fun _ _=>.inl rfl,rfl,rfl⟩;simp only [iE,iy.len,cA,hb,ah,iy.all,aft,oJ]
      | false=>
       refine ⟨(B.put x (.row iw (aJ P e) true aZ)).eH x aZ (n * aJ P e) (n * aJ P e+(bj bJ).length),?_,?_,?_,by rw [Fa]; simp,by rw [Lv]; simp⟩
       ·simp only [iE,iy.len,cA,hb,ah,ay,iy.all,aft,oJ]
        simp only [St.rD,bH,Option.isNone_none,uu,y8,ah,Nat.zero_mul,bF,h6,hw,Option.map_some]
       ·rcases AX (B:=B.put x (.row iw (aJ P e) true aZ)) (x:=x) (y:=x) (lo:=n * aJ P e) (hi:=n * aJ P e+(bj bJ).length) (aZ:=aZ) with e | ⟨g,k,_,_,h3,_⟩
        ·rw [e]; simp
        ·exact absurd rfl h3
       ·intro y hy
        rcases AX (B:=B.put x (.row iw (aJ P e) true aZ)) (x:=x) (y:=y) (lo:=n * aJ P e) (hi:=n * aJ P e+(bj bJ).length) (aZ:=aZ) with e | ⟨g,k,h1,h2,_,h4,_⟩
        ·exact .inl (by rw [e,St.b6,ae hy])
        ·exact .inr ⟨h4,g,⟨k,h1⟩,by simpa using h2⟩
     obtain ⟨B',kx,eV,hgy,jV,gd⟩:=key;refine ⟨_,B',E.xN A.next (x,iw.length,n+k),kx,?_,?_⟩
     ·rw [Nat.zero_mul]; exact UX Env.sS jI (ao _) (by rw [BL]; exact h5)
     ·
      have hli:mJ (aJ P e) 0 iw (aP.take n++bJ):=QK (UY (h8.take n) (by omega) hw rJ) (by rw [EX]; exact RW iy.size hw);exact cE.Gx (A1:=A.put f .dead) (X:=fun y=>y=x) (G:=fun g=>∃ k,aZ=some (g,k)) (y2:=x) (oi:=aZ) h rfl zT hf1 (fun y hy=>by rw [hy]; exact po) hf3 (.inl rfl) (by omega) eV (fun g k hk=>.inl ⟨k,hk⟩)
       (fun y _ bA=>hgy y bA) (fun y hy mc e1 own Lw hr=>by
        rw [hy,eV] at hr;simp at hr;obtain ⟨rfl,rfl,rfl,rfl⟩:=hr;rw [hy];exact ⟨cs,h6,BL.symm⟩) (fun q y hy=>.inl (by rw [jV] at hy; exact hy)) (fun q _=>by rw [jV]) (by omega) (fun g hg=>by rw [jV]; exact h.fresh g (by omega)) (fun g y hy=>by rw [jV] at hy; rw [gd]; exact h.mem g y hy) rJ hj hrel hli
    ·
     have hb:Nat.ble (n+k) c=false:=by
      cases hq:Nat.ble (n+k) c with
      | false=>rfl
      | true=>exact absurd (cL hq) jI
     have hex:ng B (aJ P e) c (some ⟨x,0 * aJ P e,none⟩)=true:=by
      simp only [ng,h6];cases aZ with
      | none=>simp [h5]
      | some p=>rfl
     have hold:B.nK ⟨x,0 * aJ P e,none⟩ (n * aJ P e)=some (bj (aP.take n)):=by
      have:=Gy (B:=B) (b:=x) (off:=0) (n:=n) (sz:=aJ P e) (r:=⟨cs,aJ P e,true,aZ⟩) (aP:=aP.take n) h6 (h8.take n) EX rJ;simpa using this
     have adL:∀ v∈aP.take n++bJ,v.cells.size=aJ P e:=fun v hv=>by
      rcases eP.1 hv with hv | hv
      ·exact ann v hv
      ·exact iy.size v hv
     have hlen:(bj (aP.take n++bJ)).length=(n+k) * aJ P e:=by rw [fX adL,fE,EX,iy.length]
     cases aZ with
     | none=>
      obtain ⟨g1,g2,g3⟩:=OL (B:=B) (g:=B.next) (k:=0) (c:=bj (aP.take n++bJ)) (n:=aJ P e) (ao _);refine ⟨.slice (some ⟨B.next,0,none⟩) (n+k) (n+k),B.grow B.next 0 (bj (aP.take n++bJ)) (aJ P e),E.xN A.next (B.next,(bj (aP.take n++bJ)).length,n+k),?_,?_,?_⟩
      ·simp only [iE,iy.len,cA,hb,ay,u6,qg,hex,cY,ah,iy.all]
       simp only [Bz,bH,Option.isNone_none,ah,hold,cA,h6,p9,<- ue]
      ·exact UX Env.sS (ao _) (ao _) (by rw [hlen])
      ·generalize B.grow B.next 0 (bj (aP.take n++bJ)) (aJ P e)=B' at g1 g2 g3
       exact cE.Gx (A1:=A.put f .dead) (X:=fun _=>False) (G:=fun _=>False) (y2:=B.next) (oi:=some (B.next,0)) h rfl zT (fun _ _ _ _ _ _ _=>⟨id,fun _ _ _ _ _ _=>id⟩) (fun _ e=>e.elim) (fun _ e=>e.elim) (.inr (ao _)) (by omega) (by rw [g1,ax rfl]) (fun g k e=>by simp at e; exact .inr (by omega))
        (fun y hy _=>.inl (by rw [g1,ae (by omega)])) (fun _ e=>e.elim) (fun q y hy=>by
         rw [g2] at hy;split at hy
         ·rename_i e
          subst e;rcases bd.1 hy with hy | hy
          ·exact .inr ⟨hy,ao _,0,rfl⟩
          ·exact .inl hy
         ·exact .inl hy) (fun q hq=>by rw [g2,ae (fun e=>hq 0 (by rw [e]))]) (by omega) (fun g hg=>by rw [g2,ae (by omega)]; exact h.fresh g (by omega)) (fun g y hy=>by
         rw [g2] at hy;split at hy
         ·rcases bd.1 hy with hy | hy
          ·omega
          ·have:=h.mem _ y hy; omega
         ·have:=h.mem g y hy; omega) rJ hj hrel (jK adL)
     | some p=>
      obtain ⟨g,k0⟩:=p;have hgB:g < B.next:=(hf3 g ⟨k0,rfl⟩).2.1;have kg:∀ y,(B.kill B.next (k0+(0+n * aJ P e)) (k0+(0+n * aJ P e)+(bj bJ).length) (B.members g)).get y=B.get y\/((B.kill B.next (k0+(0+n * aJ P e)) (k0+(0+n * aJ P e)+(bj bJ).length) (B.members g)).get y=some .dead/\y∈B.members g):=fun y=>by
       rw [x7];by_cases hc:y∈B.members g/\y≠B.next/\np (B.get y) (k0+(0+n * aJ P e)) (k0+(0+n * aJ P e)+(bj bJ).length)=true
       ·exact .inr ⟨by rw [ax hc],hc.1⟩
       ·exact .inl (by rw [ae hc])
      have km:(B.kill B.next (k0+(0+n * aJ P e)) (k0+(0+n * aJ P e)+(bj bJ).length) (B.members g)).members=B.members:=by simp
      have kn:(B.kill B.next (k0+(0+n * aJ P e)) (k0+(0+n * aJ P e)+(bj bJ).length) (B.members g)).next=B.next:=by simp
      obtain ⟨g1,g2,g3⟩:=OL (B:=B.kill B.next (k0+(0+n * aJ P e)) (k0+(0+n * aJ P e)+(bj bJ).length) (B.members g)) (g:=g) (k:=k0+0) (c:=bj (aP.take n++bJ)) (n:=aJ P e) (by omega);rw [kn] at g3;have g1:∀ y,y≠B.next->_:=fun y hy=>(g1 y).trans (ae (by rw [kn]; exact hy));have g1':=(OL (B:=B.kill B.next (k0+(0+n * aJ P e)) (k0+(0+n * aJ P e)+(bj bJ).length) (B.members g)) (g:=g) (k:=k0+0) (c:=bj (aP.take n++bJ)) (n:=aJ P e) (by omega)).1 B.next;rw [kn,ax rfl] at g1';simp only [km,kn] at g2;refine ⟨.slice (some ⟨B.next,0,none⟩) (n+k) (n+k),(B.kill B.next (k0+(0+n * aJ P e)) (k0+(0+n * aJ P e)+(bj bJ).length) (B.members g)).grow g (k0+0) (bj (aP.take n++bJ)) (aJ P e),E.xN A.next (B.next,(bj (aP.take n++bJ)).length,n+k),?_,?_,?_⟩
      ·simp only [iE,iy.len,cA,hb,ay,u6,qg,hex,cY,ah,iy.all]
       have Zy:=hold;rw [Nat.zero_mul] at Zy;simp only [Bz,bH,Option.isNone_none,ah,Nat.zero_mul,Zy,cA,h6,p9,<- ue]
      ·exact UX Env.sS (ao _) (ao _) (by rw [hlen])
      ·generalize (B.kill B.next (k0+(0+n * aJ P e)) (k0+(0+n * aJ P e)+(bj bJ).length) (B.members g)).grow g (k0+0) (bj (aP.take n++bJ)) (aJ P e)=B' at g1 g1' g2 g3
       have gy:∀ y,y≠B.next->B'.get y=B.get y\/(B'.get y=some .dead/\y∈B.members g):=fun y hy=>by
        rw [g1 y hy]; exact kg y
       exact cE.Gx (A1:=A.put f .dead) (X:=fun y=>y=x) (G:=fun q=>∃ k,some (g,k0)=some (q,k)) (y2:=B.next) (oi:=some (g,k0+0)) h rfl zT hf1 (fun y hy=>by rw [hy]; exact po) hf3 (.inr (ao _)) (by omega) g1' (fun q k e=>by simp at e; exact .inl ⟨k0,by rw [e.1]⟩)
        (fun y hy _=>(gy y (by omega)).imp id fun ⟨q1,q2⟩=>⟨q1,g,⟨k0,rfl⟩,q2⟩) (fun y hy mc e1 own Lw hr=>by
         have hy:y=x:=hy;rcases gy y (by omega) with q | ⟨q,_⟩
         ·rw [q] at hr; exact ⟨mc,hr,rfl⟩
         ·rw [q] at hr; simp at hr) (fun q y hy=>by
         rw [g2] at hy;split at hy
         ·rename_i e
          subst e;rcases bd.1 hy with hy | hy
          ·exact .inr ⟨hy,ao _,k0+0,rfl⟩
          ·exact .inl hy
         ·exact .inl hy) (fun q hq=>by rw [g2,ae (fun e=>hq (k0+0) (by rw [e]))]) (by omega) (fun q hq=>by rw [g2,ae (by omega)]; exact h.fresh q (by omega)) (fun q y hy=>by
         rw [g2] at hy;split at hy
         ·rcases bd.1 hy with hy | hy
          ·omega
          ·have:=h.mem _ y hy; omega
         ·have:=h.mem q y hy; omega) rJ hj hrel (jK adL)
  ·exact hg.elim
 ·exact hg.elim
def als (P:Program) (f:FA) (g:St->List Value->Option Value):Prop:=
 ∀ (E:Env) (A A' : ai) (B:St) (vs:List KV) (us:List Value) (v:KV),du P E A B->aK P E vs us->az (f A vs) (v,A')->∃ u E',g B us=some u/\VK P E' v u/\cE P E A B E' A' B
theorem adM {o:Oper} {f:FA} {g:St->List Value->Option Value} {xs:List Operand} (hc:compile P o.op = .read g xs) (hs:als P f g):BU P o (.act f xs):=by
 intro E A A' B ρ base w ev ck v hj hv hg;obtain ⟨em,h1,h2⟩:=Zp hv;obtain ⟨u,E',h3,h4,h5⟩:=hs E A A' B _ _ v hj.k h1 hg;have bL:=nf P o;rw [hc] at bL;obtain ⟨v',h6,h7⟩:=bL ρ B base w em ck u hj.s.rel h2 h3;exact ⟨E',B,ρ,v',.value v',w,h7,rfl,⟨u,h4,h6⟩,h5.ev (.refl hj.s)⟩
theorem aby {n:Nat} {lo hi:Bool} (h1n:1<=n):als P (Qv P n lo hi) (o7 n lo hi false):=by
 intro E A A' B vs us v h hv hg;unfold Qv at hg;split at hg
 ·rename_i T f o m r
  split at hg
  ·rename_i T' mk N es ac hf
   split at hg
   ·rename_i x y hb
    obtain ⟨he,ye⟩:=hg.cond;simp only [aj,jR] at he;obtain ⟨⟨⟨cS,hT⟩,ho⟩,rfl⟩:=he;have cS:aJ P T=n:=aE cS;have:=aE hT;subst this;have:=aE ho;subst this;obtain ⟨hc,hg3⟩:=az.iJ ye;simp only [aj,jR] at hc;obtain ⟨h0,h1⟩:=hc;simp only [bG] at hg3;obtain ⟨rfl,rfl⟩:=hg3;obtain ⟨u,r',rfl,hu,h4⟩:=hv.cons_inv;have zT:=UZ h hf;rcases hu.rH with ⟨rfl,_,rfl⟩ | ⟨x,L,N0,c,h2,rfl,h3,Zz,h5⟩
    ·have DN:=zo (cap:=0) hb h4 (Int.le_refl _) h0 h1 (ao _)
     have hy:y.toNat=0:=by omega
     refine ⟨.slice none 0 0,E,by simp [o7,DN,hy],?_,?_⟩
     ·rw [hy]; exact .IE (.inl ⟨rfl,rfl,rfl⟩)
     ·rw [hy]; exact cE.afs h rfl zT (by omega)
    ·obtain ⟨T2,N2,mu,fg,e2,ht,_,rp⟩:=h.ar.arr f _ hf
     simp only [KV.ts.injEq] at e2;obtain ⟨rfl,rfl,rfl,rfl,rfl⟩:=e2;rcases rp with ⟨_,e2⟩ | ⟨x2,cs,aZ,aP,e2,h6,h7,h8⟩
     ·rw [h2] at e2; simp at e2
     rw [h2] at e2;simp only [aR,bG] at e2;obtain ⟨rfl,rfl,rfl⟩:=e2;have po:AR A E x:=⟨f,_,_,_,hf,h2⟩
     have alr:x < B.next:=h.Df po;have MI:aP.length=N0:=by rw [h7.length]; exact ht.len.symm
     have hym:y.toNat<=N0:=by omega
     have htk:fV P T y.toNat (es.take y.toNat) ac:=⟨by rw [jw,<- ht.len]; omega,fun i hi=>by rw [ht.acc i (by omega),eO,eO,kR,ax hi],lV fun i x hi=>by
      rw [kR] at hi;split at hi
      ·exact fI ht.typed hi
      ·simp at hi⟩
     have mh:∀ c v,(A.put f .dead).get c=some (.arr v)->c≠f/\A.get c=some (.arr v):=fun c v hc=>by
      rw [ai.b6] at hc;split at hc
      ·simp at hc
      ·rename_i e; exact ⟨e,hc⟩
     have hf1:∀ c v,(A.put f .dead).get c=some (.arr v)->∀ y L N,E.α c=some (y,L,N)->¬ (y=x)/\∀ mc e1 own g k1,B.get y=some (.row mc e1 own (some (g,k1)))->¬ (∃ k,aZ=some (g,k)):=fun c v hc y L N hy=>by
      obtain ⟨bA,hc⟩:=mh c v hc;refine ⟨fun e=>bA (h.ar.inj c f v _ x L N _ _ hc hf (by rw [<- e]; exact hy) h2),fun mc e1 own g k1 hr ⟨k2,hk⟩=>?_⟩;rw [hk] at h6;exact bA (h.ar.rC c f v _ y x L N _ _ _ _ _ g k1 _ _ _ k2 hc hf hy h2 hr h6)
     have hf3:∀ g,(∃ k,aZ=some (g,k))->AF A E B g/\g < B.next/\(∀ f,E.φ f≠some g)/\∀ y∈B.members g,¬ (y=x)->E.z y=none/\¬ AR A E y/\∀ c,E.κ c≠some y:=fun g ⟨k2,hk⟩=>by
      rw [hk] at h6;obtain ⟨q1,q2,q3⟩:=h.ar.p7 f _ x _ _ _ _ _ g k2 hf h2 h6;exact ⟨⟨f,_,x,_,_,_,_,_,k2,hf,h2,h6⟩,q1,q2,fun y hy bA=>q3 y hy bA⟩
     have h5:c * aJ P T=cs.length:=by simpa using h5
     have DN:=zo (cap:=c) hb h4 (Int.le_refl _) h0 h1 (by omega);refine ⟨.slice (some ⟨x,0,none⟩) y.toNat c,E.xN A.next (x,cs.length,y.toNat),?_,UX Env.sS (by omega) (ao _) h5,?_⟩
     ·simp [o7,DN,bH,sI,h6,cS]
     ·exact cE.Gx (A1:=A.put f .dead) (X:=fun y=>y=x) (G:=fun g=>∃ k,aZ=some (g,k)) (y2:=x) (oi:=aZ) h rfl zT hf1 (fun y hy=>by rw [hy]; exact po) hf3 (.inl rfl) alr h6 (fun g k hk=>.inl ⟨k,hk⟩)
       (fun y _ _=>.inl rfl) (fun y hy mc e1 own Lw hr=>⟨mc,hr,rfl⟩) (fun q y hy=>.inl hy) (fun q _=>rfl) (ao _) h.fresh h.mem (by omega) htk (h7.take _) (h8.take _)
   ·exact hg.elim
  ·exact hg.elim
 ·exact hg.elim
theorem cE.amh {A:ai} {B:St} {b:Nat} {v2:KV} (h:du P E A B) (hb:∃ v,A.get b=some (.arr v)) (bL:Uw P E B b v2):cE P E A B E (A.put b (.arr v2)) B:=by
 obtain ⟨v0,hb⟩:=hb;have gi:∀ c o,(A.put b (.arr v2)).get c=some o->(c=b/\o = .arr v2)\/A.get c=some o:=fun c o hc=>by
  rw [ai.b6] at hc;split at hc
  ·rename_i e; simp at hc; exact .inl ⟨e,hc.symm⟩
  ·exact .inr hc
 have hA:∀ c v,(A.put b (.arr v2)).get c=some (.arr v)->∃ u,A.get c=some (.arr u):=fun c v hc=>by
  rcases gi c _ hc with ⟨e,_⟩ | e
  ·exact ⟨v0,by rw [e]; exact hb⟩
  ·exact ⟨v,e⟩
 have po:∀ y,AR (A.put b (.arr v2)) E y->AR A E y:=fun y ⟨c,v,L,N,h1,h2⟩=>by
  obtain ⟨u,hu⟩:=hA c v h1;exact ⟨c,u,L,N,hu,h2⟩
 have IW:∀ g,AF (A.put b (.arr v2)) E B g->AF A E B g:=fun g ⟨c,v,x,L,N,cs,e,own,k,h1,h2,h3⟩=>by
  obtain ⟨u,hu⟩:=hA c v h1;exact ⟨c,u,x,L,N,cs,e,own,k,hu,h2,h3⟩
 refine ⟨⟨fun c cs aQ hc=>?_,fun c top sz hc=>?_,h.z,h.apart,h.inj,?_,h.fZ,h.lk,fun c o hc=>?_,h.eD,h.lT,h.iU,h.fresh,h.mem,?_⟩,Env.le_refl _,ao _,fun _ _ _ _=>rfl,fun _ _ e=>.inl e,fun _ _ e=>.inl e,fun _ _ e=>.inl e,fun _ _ _ _=>rfl,fun x q=>.inl (po x q),fun g q=>.inl (IW g q),fun _ _ q=>.inl q,fun y q=>.inl (q.imp (po y) fun ⟨g,q1,q2⟩=>⟨g,IW g q1,q2⟩),ll fun _ _=>rfl⟩
 ·rcases gi c _ hc with ⟨_,e⟩ | e
  ·simp at e
  ·exact h.row c cs aQ e
 ·rcases gi c _ hc with ⟨_,e⟩ | e
  ·simp at e
  ·exact h.aF c top sz e
 ·exact h.iB.put (.inl fun t s=>by simp)
 ·rw [ai.o8]
  rcases gi c _ hc with ⟨e,_⟩ | e
  ·rw [e]; exact h.live b _ hb
  ·exact h.live c o e
 ·refine ⟨fun c v hc=>?_,fun c v hc=>?_,fun x q=>h.ar.z x (po x q),fun c d v u x L N L' N' h1 h2 h3 h4=>?_,fun c d v u x y L N L' N' cs e own g k b5 e' nJ k' h1 h2 h3 h4=>?_,h.ar.WT,h.ar.fZ,h.ar.eD,fun c v x L N cs e own g k h1 h2 h3=>?_,fun c v hc=>?_⟩
  ·rcases gi c _ hc with ⟨e,e2⟩ | e
   ·simp at e2; rw [e2,e]; exact bL
   ·exact h.ar.arr c v e
  ·rcases gi c _ hc with ⟨_,e⟩ | e
   ·simp at e
   ·exact h.ar.iI c v e
  ·obtain ⟨v',h1⟩:=hA c v h1
   obtain ⟨u',h2⟩:=hA d u h2;exact h.ar.inj c d v' u' x L N L' N' h1 h2 h3 h4
  ·obtain ⟨v',h1⟩:=hA c v h1
   obtain ⟨u',h2⟩:=hA d u h2;exact h.ar.rC c d v' u' x y L N L' N' cs e own g k b5 e' nJ k' h1 h2 h3 h4
  ·obtain ⟨v',h1⟩:=hA c v h1
   obtain ⟨q1,q2,q3⟩:=h.ar.p7 c v' x L N cs e own g k h1 h2 h3;exact ⟨q1,q2,fun y hy bA=>⟨(q3 y hy bA).1,fun q=>(q3 y hy bA).2.1 (po y q),(q3 y hy bA).2.2⟩⟩
  ·obtain ⟨v',h1⟩:=hA c v hc
   rw [ai.o8];exact h.ar.nk c v' h1
theorem U1 {es new:List KV} {o:Nat} (h:o+new.length<=es.length):(wH es o new).length=es.length:=by
 simp only [wH,fE,jw,List.length_drop];omega
theorem abz {es new:List KV} {o i:Nat} (h:o+new.length<=es.length):(wH es o new)[i]? = if i < o then es[i]? else if i < o+new.length then new[i - o]? else es[i]?:=by
 unfold wH;by_cases h1:i < o
 ·rw [ax h1,JO,mL (by rw [jw]; omega),kR,ax h1]
 ·rw [ae h1]
  by_cases h2:i < o+new.length
  ·rw [ax h2,mL (by rw [fE,jw]; omega),n4 (by rw [jw]; omega),jw]
   congr 1;omega
  ·rw [ae h2,n4 (by rw [fE,jw]; omega),lE,fE,jw]
   congr 1;omega
theorem XU {T:TypeId} {N m o k:Nat} {es new:List KV} {acc an:Nat->KV} (ht:fV P T N es acc) (hn:fV P T m new an) (hk:k<=m) (ho:o+k<=N):fV P T N (wH es o (new.take k)) (J4 o k acc an):=by
 have hl:(new.take k).length=k:=by rw [jw,<- hn.len]; omega
 have jI:o+(new.take k).length<=es.length:=by rw [hl,<- ht.len]; exact ho
 have fA:=fun i=>abz (i:=i) jI;rw [hl] at fA;refine ⟨by rw [U1 jI]; exact ht.len,fun i hi=>?_,lV fun i x hx=>?_⟩
 ·rw [eO,fA]
  unfold J4;by_cases h1:i < o
  ·rw [ax h1,show Nat.blt i o=true from b8 ▸ h1,ah,ht.acc i hi,eO]
  ·have e1:Nat.blt i o=false:=by
    cases hb:Nat.blt i o with
    | false=>rfl
    | true=>exact absurd (b8 ▸ hb) h1
   rw [ae h1,e1,ay];by_cases h2:i < o+k
   ·rw [ax h2,show Nat.blt i (o+k)=true from b8 ▸ h2,ah,kR,ax (by omega),hn.acc (i - o) (by omega),eO]
   ·have e2:Nat.blt i (o+k)=false:=by
     cases hb:Nat.blt i (o+k) with
     | false=>rfl
     | true=>exact absurd (b8 ▸ hb) h2
    rw [ae h2,e2,ay,ht.acc i hi,eO]
 ·rw [fA] at hx
  split at hx
  ·exact fI ht.typed hx
  ·split at hx
   ·rw [kR] at hx
    split at hx
    ·exact fI hn.typed hx
    ·simp at hx
   ·exact fI ht.typed hx
theorem abA {sz o:Nat} {cs r vs es:List Value} (hl:mJ sz (o * sz+vs.length) cs es) (hw:fc (o * sz) cs vs=some r):mJ sz (o * sz+vs.length) r es:=fun i x hi=>by
 obtain ⟨h1,h2⟩:=hl i x hi;obtain ⟨_,_,h3⟩:=fG hw;exact ⟨h1,fun k y hy=>by rw [h3,ae (by omega)]; exact h2 k y hy⟩
theorem aiP {e n:Nat} (hn:aJ P e=n) (h1n:1<=n):afk P (adA e) (TD n):=by
 intro E A A' B vs us v h hv hg;unfold adA at hg;split at hg
 ·rename_i e1 b o q y
  obtain ⟨u,w,rfl,h1,h2⟩:=hv.ja;split at hg
  ·rename_i e' mk m new an e2 mk2 N es acc hy hb
   obtain ⟨he,ye⟩:=hg.cond;clear hg;simp only [aj] at he;have:=aE he.1.1;subst this;have:=aE he.1.2;subst this;have:=aE he.2;subst this;have rJ:1<=aJ P e:=by omega
   obtain ⟨bJ,iy⟩:=afp h h2 hy rJ;have ye:(KV.int .i64 (Nat.min m q:Nat),A.put b (.arr (.ts e .any N (wH es o (new.take (Nat.min m q))) (J4 o (Nat.min m q) acc an))))=(v,A'):=ye;simp only [bG] at ye;obtain ⟨rfl,rfl⟩:=ye;obtain ⟨T2,N2,mu,fg,e2,ht,_,rp⟩:=h.ar.arr b _ hb;simp only [KV.ts.injEq] at e2;obtain ⟨rfl,rfl,rfl,rfl,rfl⟩:=e2;have PZ:Nat.min m q<=m:=Nat.min_le_left _ _;have hkq:Nat.min m q<=q:=Nat.min_le_right _ _;have hf:=iy.first _ PZ
   rw [hn] at hf;rcases h1.rH with ⟨rfl,rfl,rfl⟩ | ⟨x,L,N0,c,p2,rfl,p3,p4,p5⟩
   ·
    have oJ:Nat.min m 0=0:=Nat.min_zero m;refine ⟨.int .i64 (Int.ofNat (Nat.min m 0)),B,E,?_,.mkInt,cE.amh h ⟨_,hb⟩ ?_⟩
    ·simp only [TD,iy.len,cA,hf]
    ·have hp:=XU (o:=0) ht iy.tree PZ (by rw [oJ]; omega)
     refine ⟨_,_,_,_,rfl,hp,rJ,?_⟩;have MH:wH es 0 (new.take (Nat.min m 0))=es:=by rw [oJ]; simp [wH]
     rw [MH];exact rp
   ·rcases rp with ⟨_,e2⟩ | ⟨x2,cs,aZ,aP,e2,h6,h7,h8⟩
    ·rw [p2] at e2; simp at e2
    rw [p2] at e2;simp only [aR,bG] at e2;obtain ⟨rfl,rfl,rfl⟩:=e2;have MI:aP.length=N0:=by rw [h7.length]; exact ht.len.symm
    have eZ:∀ v∈bJ.take (Nat.min m q),v.cells.size=aJ P e:=fun v hv=>iy.size v (List.mem_of_mem_take hv);have alu:(bJ.take (Nat.min m q)).length=Nat.min m q:=by rw [jw,iy.length]; exact Nat.min_eq_left PZ
    have CO:(bj (bJ.take (Nat.min m q))).length=Nat.min m q * aJ P e:=by rw [fX eZ,alu]
    have hle:o * aJ P e+(bj (bJ.take (Nat.min m q))).length<=cs.length:=by
     rw [CO,<- p5,<- Nat.add_mul];exact Nat.mul_le_mul_right _ (by omega)
    obtain ⟨iw,hw⟩:=wP (o * aJ P e) cs (bj (bJ.take (Nat.min m q))) hle;have BL:iw.length=cs.length:=(fG hw).1;have y8:(bj (bJ.take (Nat.min m q))).all scalar=true:=dS.2 (uf fun v hv=>(kb iy.tree.typed iy.rel v (List.mem_of_mem_take hv)).2);have hp:=XU (o:=o) ht iy.tree PZ (by omega);have hon:(aP.take o).length=o:=by rw [jw]; omega
    have hrel:aK P E (wH es o (new.take (Nat.min m q))) (aP.take o++bJ.take (Nat.min m q)++aP.drop (o+Nat.min m q)):=by
     unfold wH;have hlk:(new.take (Nat.min m q)).length=Nat.min m q:=by rw [jw,<- iy.tree.len]; exact Nat.min_eq_left PZ
     rw [hlk];exact ((h7.take o).append (iy.rel.take _)).append (h7.drop _)
    have hli:mJ (aJ P e) 0 iw (aP.take o++bJ.take (Nat.min m q)++aP.drop (o+Nat.min m q)):=by
     refine QK (QK (UY (h8.take o) (by omega) hw rJ) (by rw [hon]; exact RW eZ hw)) ?_;have e3:(aP.take o++bJ.take (Nat.min m q)).length * aJ P e=o * aJ P e+(bj (bJ.take (Nat.min m q))).length:=by rw [fE,hon,alu,CO,Nat.add_mul]
     rw [e3];refine abA ?_ hw;have:=h8.drop (o+Nat.min m q);rw [bF,Nat.add_mul] at this;rw [CO];exact this
    have eZ:=cE.afm (lo:=o * aJ P e) (hi:=o * aJ P e+(bj (bJ.take (Nat.min m q))).length) h ⟨_,hb⟩ p2 h6 BL rJ hp hrel hli;refine ⟨.int .i64 (Int.ofNat (Nat.min m q)),_,E,?_,.mkInt,eZ⟩;subst hn;simp only [TD,iy.len,cA,hf,St.rD,bH,Option.isNone_none,uu,y8,ah,h6,hw,Option.map_some]
  ·exact hg.elim
 ·exact hg.elim
theorem abB {e n b:Nat} {mt:Bool} (hn:aJ P e=n) (h1n:1<=n):afk P (E4 e n b mt) (iE n b):=by
 intro E A A' B vs us v h hv hg;unfold E4 at hg;split at hg
 ·rename_i x y
  obtain ⟨u,w,rfl,h1,h2⟩:=hv.ja;split at hg
  ·rename_i y' hy
   have rJ:1<=aJ P e:=by omega
   have hts:∃ T m k es acc,y' = .ts T m k es acc:=by
    unfold Iz at hy;split at hy
    ·unfold Zd at hy
     split at hy
     ·rename_i T' b' o' n' _ T2 _ _ mu fg _
      cases hb:Nat.beq T' T2 with
      | false=>rw [hb] at hy; simp at hy
      | true=>rw [hb,ah] at hy; simp only [aR] at hy; exact ⟨_,_,_,_,_,hy.symm⟩
     ·simp at hy
    ·simp only [aR] at hy; exact ⟨_,_,_,_,_,hy.symm⟩
    ·simp at hy
   obtain ⟨T,m,k,es,acc,rfl⟩:=hts;have WY:Nat.beq e T=true->∃ aP,Src P E B T k es acc w aP:=fun he=>by
    have:=aE he;subst this;exact afp h h2 hy rJ
   subst hn;cases hx:aiB x with
   | true=>rw [hx,ah] at hg; exact U0 rJ h h1 WY hg
   | false=>
    rw [hx,ay] at hg;cases mt with
    | true=>rw [ah] at hg; exact U0 rJ h h1 WY hg
    | false=>rw [ay] at hg; exact adK rfl rJ h h1 WY hg
  ·exact hg.elim
 ·exact hg.elim
end Go.K
end
section
namespace Go.K
open Go Go.aA
variable {P:Program} {E:Env}
theorem cE.afu {E1 E2:Env} {A A1 A2:ai} {B:St} (h:cE P E A B E1 A1 B) (k:cE P E1 A1 B E2 A2 B):cE P E A B E2 A2 B where
 dI:=k.dI
 le:=Env.le_trans h.le k.le
 next:=dx h.next k.next
 di _ _ _ _:=rfl
 new b x e:=(k.new b x e).elim (h.new b x) fun q=>.inr ⟨dx h.next q.1,q.2⟩
 qN b r e:=by
  rcases k.qN b r e with e | e | e
  ·exact h.qN b r e
  ·exact .inr (h.jT b e)
  ·exact .inr (.inr e)
 pj b g e:=(k.pj b g e).elim (h.pj b g) .inr
 nw _ _ _ _:=rfl
 jT x q:=(k.jT x q).elim (h.jT x) .inr
 j9 g q:=(k.j9 g q).elim (h.j9 g) .inr
 rI _ _ q:=.inl q
 lU y q:=(k.lU y q).elim (h.lU y) .inr
 rows:=ll fun _ _=>rfl
theorem cE.refl {A:ai} {B:St} (h:du P E A B):cE P E A B E A B:=
 ⟨h,Env.le_refl _,ao _,fun _ _ _ _=>rfl,fun _ _ e=>.inl e,fun _ _ e=>.inl e,fun _ _ e=>.inl e,fun _ _ _ _=>rfl,fun _ q=>.inl q,fun _ q=>.inl q,fun _ _ q=>.inl q,fun _ q=>.inl q,ll fun _ _=>rfl⟩
theorem Env.aiQ {A:ai} {B:St} {x:Nat} {r:abe} (h:du P E A B) (hx:AR A E x):E.le (E.dV x r):=⟨fun _ _ e=>e,fun _ _ e=>e,fun b q e=>by
 simp only [Env.dV];rw [ae]
 ·exact e
 ·intro e2; subst e2
  have:=(h.ar.z b hx).1;rw [e] at this; simp at this,fun _ _ e=>e⟩
theorem cE.iI {A:ai} {B:St} {b x N:Nat} {T:TypeId} {m:Mk} {es:List KV} {acc:Nat->KV} {cs:List Value} {aZ:Option (Nat×Nat)} {aP:List Value} (h:du P E A B) (hb:A.get b=some (.arr (.ts T m N es acc))) (hx:E.α b=some (x,cs.length,N))
  (dB:B.get x=some (.row cs (aJ P T) true aZ)) (ht:fV P T N es acc) (hm:m = .any) (cS:1<=aJ P T) (MH:aK P E es aP) (hl:mJ (aJ P T) 0 cs aP) :
  cE P E A B (E.dV x ⟨cs,aJ P T,true,aZ⟩) (A.put b (.iI (.ts T m N es acc))) B:=by
 subst hm;have po:AR A E x:=⟨b,_,_,_,hb,hx⟩
 have hle:=Env.aiQ (r:=⟨cs,aJ P T,true,aZ⟩) h po;have hzx:(E.dV x ⟨cs,aJ P T,true,aZ⟩).z x=some ⟨cs,aJ P T,true,aZ⟩:=by simp [Env.dV]
 have IM:∀ c r,(E.dV x ⟨cs,aJ P T,true,aZ⟩).z c=some r->E.z c=some r\/(c=x/\r=⟨cs,aJ P T,true,aZ⟩):=fun c r e=>by
  simp only [Env.dV] at e;split at e
  ·rename_i e2; simp at e; exact .inr ⟨e2,e.symm⟩
  ·exact .inl e
 have gi:∀ c o,(A.put b (.iI (.ts T .any N es acc))).get c=some o->(c=b/\o = .iI (.ts T .any N es acc))\/(c≠b/\A.get c=some o):=fun c o hc=>by
  rw [ai.b6] at hc;split at hc
  ·rename_i e; simp at hc; exact .inl ⟨e,hc.symm⟩
  ·rename_i e; exact .inr ⟨e,hc⟩
 have hA:∀ c v,(A.put b (.iI (.ts T .any N es acc))).get c=some (.arr v)->c≠b/\A.get c=some (.arr v):=fun c v hc=>by
  rcases gi c _ hc with ⟨_,e⟩ | e
  ·simp at e
  ·exact e
 have afv:∀ y,AR (A.put b (.iI (.ts T .any N es acc))) E y->AR A E y/\y≠x:=fun y ⟨c,v,L,M,h1,h2⟩=>by
  obtain ⟨h3,h4⟩:=hA c v h1;refine ⟨⟨c,v,L,M,h4,h2⟩,fun e=>h3 ?_⟩;subst e;exact h.ar.inj c b v _ y L M _ _ h4 hb h2 hx
 have IW:∀ g,AF (A.put b (.iI (.ts T .any N es acc))) E B g->AF A E B g:=fun g ⟨c,v,y,L,M,cs,e,own,k,h1,h2,h3⟩=>⟨c,v,y,L,M,cs,e,own,k,(hA c v h1).2,h2,h3⟩
 refine ⟨⟨fun c mc aQ hc=>?_,fun c top sz hc=>?_,fun y r hy=>?_,fun c y hc=>?_,h.inj,?_,h.fZ,h.lk,fun c o hc=>?_,h.eD,fun y r hy=>?_,h.iU,h.fresh,h.mem,?_⟩,hle,ao _,fun _ _ _ _=>rfl,fun _ _ e=>.inl e,fun y r e=>?_,fun _ _ e=>.inl e,fun _ _ _ _=>rfl,fun y q=>.inl (afv y q).1,fun g q=>.inl (IW g q),fun _ _ q=>.inl q,fun y q=>.inl (q.imp (fun q=>(afv y q).1) fun ⟨g,q1,q2⟩=>⟨g,IW g q1,q2⟩),ll fun _ _=>rfl⟩
 ·rcases gi c _ hc with ⟨_,e⟩ | ⟨_,e⟩
  ·simp at e
  ·obtain ⟨y,d,h1,h2,h3⟩:=h.row c mc aQ e
   exact ⟨y,d,h1,h2,h3.mono hle⟩
 ·rcases gi c _ hc with ⟨_,e⟩ | ⟨_,e⟩
  ·simp at e
  ·exact h.aF c top sz e
 ·rcases IM y r hy with e | ⟨rfl,rfl⟩
  ·exact h.z y r e
  ·exact dB
 ·have hc:E.κ c=some y:=hc
  cases hz:(E.dV x ⟨cs,aJ P T,true,aZ⟩).z y with
  | none=>rfl
  | some r=>
   rcases IM y r hz with e | ⟨rfl,_⟩
   ·rw [h.apart c y hc] at e; simp at e
   ·exact absurd hc ((h.ar.z y po).2 c)
 ·exact h.iB.put (.inl fun t s=>by simp)
 ·rw [ai.o8]
  rcases gi c _ hc with ⟨e,_⟩ | ⟨_,e⟩
  ·rw [e]; exact h.live b _ hb
  ·exact h.live c o e
 ·rcases IM y r hy with e | ⟨rfl,_⟩
  ·exact h.lT y r e
  ·exact h.Df po
 ·refine ⟨fun c v hc=>?_,fun c v hc=>?_,fun y q=>?_,fun c d v u y L M L' M' h1 h2 h3 h4=>h.ar.inj c d v u y L M L' M' (hA c v h1).2 (hA d u h2).2 h3 h4,fun c d v u y w L M L' M' mc e own g k b5 e' nJ k' h1 h2 h3 h4=>h.ar.rC c d v u y w L M L' M' mc e own g k b5 e' nJ k' (hA c v h1).2 (hA d u h2).2 h3 h4,h.ar.WT,h.ar.fZ,h.ar.eD,fun c v y L M mc e own g k h1 h2 h3=>?_,fun c v hc=>h.ar.nk c v (hA c v hc).2⟩
  ·exact (h.ar.arr c v (hA c v hc).2).mono hle rfl fun _ _ _ _=>rfl
  ·rcases gi c _ hc with ⟨e,e2⟩ | ⟨_,e⟩
   ·simp at e2
    subst e2;exact ⟨T,N,es,acc,rfl,ht,cS,.inr ⟨x,⟨cs,aJ P T,true,aZ⟩,aP,by rw [e]; exact hx,hzx,rfl,MH.mono hle,hl⟩⟩
   ·exact (h.ar.iI c v e).mono hle rfl
  ·obtain ⟨q1,q2⟩:=afv y q
   refine ⟨?_,(h.ar.z y q1).2⟩;simp only [Env.dV];rw [ae q2];exact (h.ar.z y q1).1
  ·obtain ⟨bA,h1⟩:=hA c v h1
   obtain ⟨q1,q2,q3⟩:=h.ar.p7 c v y L M mc e own g k h1 h2 h3;refine ⟨q1,q2,fun z hz hzy=>?_⟩;obtain ⟨q4,q5,q6⟩:=q3 z hz hzy;refine ⟨?_,fun q=>q5 (afv z q).1,q6⟩;simp only [Env.dV];rw [ae]
   ·exact q4
   ·intro e2
    subst e2;exact q5 po
 ·rcases IM y r e with e | ⟨rfl,_⟩
  ·exact .inl e
  ·exact .inr (.inl po)
theorem cE.ami {A:ai} {B:St} {b:Nat} {T:TypeId} {m:Mk} {N:Nat} {es:List KV} {acc:Nat->KV} (h:du P E A B) (hb:A.get b=some (.arr (.ts T m N es acc))) (bL:OE P E b (.ts T m N es acc)) (oM:E.α b=none):cE P E A B E (A.put b (.iI (.ts T m N es acc))) B:=by
 have gi:∀ c o,(A.put b (.iI (.ts T m N es acc))).get c=some o->(c=b/\o = .iI (.ts T m N es acc))\/A.get c=some o:=fun c o hc=>by
  rw [ai.b6] at hc;split at hc
  ·rename_i e; simp at hc; exact .inl ⟨e,hc.symm⟩
  ·exact .inr hc
 have hA:∀ c v,(A.put b (.iI (.ts T m N es acc))).get c=some (.arr v)->A.get c=some (.arr v):=fun c v hc=>by
  rcases gi c _ hc with ⟨_,e⟩ | e
  ·simp at e
  ·exact e
 have po:∀ y,AR (A.put b (.iI (.ts T m N es acc))) E y->AR A E y:=fun y ⟨c,v,L,M,h1,h2⟩=>⟨c,v,L,M,hA c v h1,h2⟩
 have IW:∀ g,AF (A.put b (.iI (.ts T m N es acc))) E B g->AF A E B g:=fun g ⟨c,v,y,L,M,cs,e,own,k,h1,h2,h3⟩=>⟨c,v,y,L,M,cs,e,own,k,hA c v h1,h2,h3⟩
 have _:=oM;refine ⟨⟨fun c mc aQ hc=>?_,fun c top sz hc=>?_,h.z,h.apart,h.inj,?_,h.fZ,h.lk,fun c o hc=>?_,h.eD,h.lT,h.iU,h.fresh,h.mem,?_⟩,Env.le_refl _,ao _,fun _ _ _ _=>rfl,fun _ _ e=>.inl e,fun y r e=>.inl e,fun _ _ e=>.inl e,fun _ _ _ _=>rfl,fun y q=>.inl (po y q),fun g q=>.inl (IW g q),fun _ _ q=>.inl q,fun y q=>.inl (q.imp (po y) fun ⟨g,q1,q2⟩=>⟨g,IW g q1,q2⟩),ll fun _ _=>rfl⟩
 ·rcases gi c _ hc with ⟨_,e⟩ | e
  ·simp at e
  ·exact h.row c mc aQ e
 ·rcases gi c _ hc with ⟨_,e⟩ | e
  ·simp at e
  ·exact h.aF c top sz e
 ·exact h.iB.put (.inl fun t s=>by simp)
 ·rw [ai.o8]
  rcases gi c _ hc with ⟨e,_⟩ | e
  ·rw [e]; exact h.live b _ hb
  ·exact h.live c o e
 ·refine ⟨fun c v hc=>h.ar.arr c v (hA c v hc),fun c v hc=>?_,fun y q=>h.ar.z y (po y q),fun c d v u y L M L' M' h1 h2 h3 h4=>h.ar.inj c d v u y L M L' M' (hA c v h1) (hA d u h2) h3 h4,fun c d v u y w L M L' M' mc e own g k b5 e' nJ k' h1 h2 h3 h4=>h.ar.rC c d v u y w L M L' M' mc e own g k b5 e' nJ k' (hA c v h1) (hA d u h2) h3 h4,h.ar.WT,h.ar.fZ,h.ar.eD,fun c v y L M mc e own g k h1 h2 h3=>?_,fun c v hc=>h.ar.nk c v (hA c v hc)⟩
  ·rcases gi c _ hc with ⟨e,e2⟩ | e
   ·simp at e2; rw [e2,e]; exact bL
   ·exact h.ar.iI c v e
  ·obtain ⟨q1,q2,q3⟩:=h.ar.p7 c v y L M mc e own g k (hA c v h1) h2 h3
   exact ⟨q1,q2,fun z hz hzy=>⟨(q3 z hz hzy).1,fun q=>(q3 z hz hzy).2.1 (po z q),(q3 z hz hzy).2.2⟩⟩
theorem QL {T:TypeId} {m:Mk} {b o n N:Nat} {es:List KV} {acc:Nat->KV} {u:Value} {A:ai} {B:St} (h:du P E A B) (hv:VK P E (.al T b o n) u) (ha:A.get b=some (.iI (.ts T m N es acc))) :
  VK P E (.ts T .any n ((es.drop o).take n) (fun i=>acc (o+i))) u:=by
 obtain ⟨T2,N2,mu,fg,e,ht,cS,rp⟩:=h.ar.iI b _ ha;simp only [KV.ts.injEq] at e;obtain ⟨rfl,rfl,rfl,rfl,rfl⟩:=e;simp only [VK];rcases hv.rH with ⟨rfl,rfl,rfl⟩ | ⟨x,L,N0,c,h1,rfl,h3,h4,h5⟩
 ·exact ⟨⟨by simp,fun i hi=>by omega,rfl⟩,[],by simpa using aK.nil,none,0,rfl,ao _,.inl ⟨rfl,rfl⟩,trivial⟩
 ·rcases rp with ⟨_,e⟩ | ⟨x2,r,aP,e,h6,h6',h7,h8⟩
  ·rw [h1] at e; simp at e
  rw [h1] at e;simp only [aR,bG] at e;obtain ⟨rfl,rfl,rfl⟩:=e;have adJ:((es.drop o).take n).length=n:=by rw [jw,List.length_drop,<- ht.len]; omega
  refine ⟨⟨adJ.symm,fun i hi=>?_,lV fun i x hi=>?_⟩,(aP.drop o).take n,(h7.drop o).take n,_,c,rfl,h3,.inr ⟨x,o * aJ P T,r,rfl,h6,h6',?_⟩,trivial⟩
  ·rw [ht.acc (o+i) (by omega),eO,eO,kR,ax hi,lE]
  ·rw [kR] at hi
   split at hi
   ·rw [lE] at hi; exact fI ht.typed hi
   ·simp at hi
  ·have:=(h8.drop o).take n
   rw [bF] at this;exact this
theorem RX {A:ai} {B:St} {v:KV} {u:Value} (h:du P E A B) (hv:VK P E v u):∃ E',cE P E A B E' (Ut A v).2 B/\VK P E' (Ut A v).1 u:=by
 unfold Ut;split
 ·rename_i T b o n
  split
  ·rename_i T' m N es acc hb
   cases ht:Nat.beq T T' with
   | false=>exact ⟨E,.refl h,.qp⟩
   | true=>
    have:=aE ht;subst this;rw [ah];have bL:=h.ar.arr b _ hb;obtain ⟨T2,N2,mu,fg,e,DR,cS,rp⟩:=bL;simp only [KV.ts.injEq] at e;obtain ⟨rfl,rfl,rfl,rfl,rfl⟩:=e;rcases rp with ⟨h1,h2⟩ | ⟨x,cs,aZ,aP,h2,h3,h4,h5⟩
    ·have eZ:=cE.ami h hb ⟨_,_,_,_,rfl,DR,cS,.inl ⟨h1,h2⟩⟩ h2
     exact ⟨E,eZ,QL eZ.dI hv ((ai.b6 _ _ _ _).trans (ax rfl))⟩
    ·have eZ:=cE.iI h hb h2 h3 DR rfl cS h4 h5
     exact ⟨_,eZ,QL eZ.dI (hv.mono eZ.le) ((ai.b6 _ _ _ _).trans (ax rfl))⟩
  ·rename_i T' m N es acc hb
   cases ht:Nat.beq T T' with
   | false=>exact ⟨E,.refl h,.qp⟩
   | true=>
    have:=aE ht;subst this;rw [ah];exact ⟨E,.refl h,QL h hv hb⟩
  ·exact ⟨E,.refl h,.qp⟩
 ·exact ⟨E,.refl h,hv⟩
theorem az.map {α β:Type} {r:KR α} {f:α->β} {v:β} (h:az (r.map f) v):∃ u,az r u/\f u=v:=by
 cases r with
 | no=>exact h.elim
 | ok u=>exact ⟨u,rfl,h⟩
 | iJ c u=>exact ⟨u,⟨h.1,rfl⟩,h.2⟩
 | br c x y=>
  rcases h with ⟨h1,h2⟩ | ⟨h1,h2⟩
  ·obtain ⟨u,h3,h4⟩:=az.map (r:=x) h2; exact ⟨u,.inl ⟨h1,h3⟩,h4⟩
  ·obtain ⟨u,h3,h4⟩:=az.map (r:=y) h2; exact ⟨u,.inr ⟨h1,h3⟩,h4⟩
theorem OM {B:St} : ∀ {vs:List KV} {us:List Value} {E:Env} {A:ai},du P E A B->aK P E vs us->∃ E',cE P E A B E' (Qw A vs).2 B/\aK P E' (Qw A vs).1 us
 | [],us,E,A,h,hv=>⟨E,.refl h,hv⟩
 | v::vs,us,E,A,h,hv=>by
  obtain ⟨u,WQ,rfl,h1,h2⟩:=hv.cons_inv;obtain ⟨E1,h3,h4⟩:=RX h h1;obtain ⟨E2,h5,h6⟩:=OM h3.dI (h2.mono h3.le);exact ⟨E2,h3.afu h5,.cons (h4.mono h5.le) h6⟩
theorem abC {A:ai} {B:St} {v:KV} {u:Value} (h:du P E A B) (hv:VK P E v u):∃ E',cE P E A B E' (XN A v).2 B/\VK P E' (XN A v).1 u:=by
 unfold XN;split
 ·rename_i cs
  obtain ⟨l,rfl,h1⟩:=hv.ju;obtain ⟨E1,h2,h3⟩:=OM h h1;exact ⟨E1,h2,.nt h3⟩
 ·exact RX h hv
theorem GB:∀ (A:ai) (vs:List KV),(xL A vs).1.length=vs.length
 | _,[]=>rfl
 | A,v::vs=>by simp [xL,GB]
theorem Dg {B:St} : ∀ {vs:List KV} {us:List Value} {E:Env} {A:ai},du P E A B->aK P E vs us->∃ E',cE P E A B E' (xL A vs).2 B/\aK P E' (xL A vs).1 us
 | [],us,E,A,h,hv=>⟨E,.refl h,hv⟩
 | v::vs,us,E,A,h,hv=>by
  obtain ⟨u,WQ,rfl,h1,h2⟩:=hv.cons_inv;obtain ⟨E1,h3,h4⟩:=abC h h1;obtain ⟨E2,h5,h6⟩:=Dg h3.dI (h2.mono h3.le);exact ⟨E2,h3.afu h5,.cons (h4.mono h5.le) h6⟩
end Go.K
end
section
namespace Go.K
open Go Go.aA
variable {P:Program}
theorem cF {o:Oper} : BU P o .bad:=trivial
theorem ag0 (P:Program) (cfg:gf) (o:Oper):BU P o (dp P cfg o.op):=by
 cases ho:o.op with
 | move x=>exact lift_pure (by rw [ho]; rfl) abi
 | assign x=>exact lift_pure (by rw [ho]; rfl) agQ
 | pick c a b=>exact lift_pure (by rw [ho]; rfl) aiE
 | alloc t=>
  show BU P o (pd P t);unfold pd;split
  ·rename_i z hz
   cases hc:(flat z&&z.cells.toList.all scalar&&jk (fC z).cells) with
   | false=>exact cF
   | true=>
    simp only [aj] at hc;exact yj (by rw [ho]; rfl) (agV hz hc.1.1 hc.1.2 hc.2)
  ·exact cF
 | box t x=>exact yj (by rw [ho]; rfl) aku
 | build t parts=>
  show BU P o (qj P t (parts.toList.map (·.1)) (parts.toList.map (·.2)));have aG:compile P o.op=Eo P t (parts.toList.map (·.1)) (parts.toList.map (·.2)):=by rw [ho]; rfl
  unfold qj;unfold Eo at aG;split
  ·rename_i z fields hz hu
   rw [hz,hu] at aG;simp only at aG;split
   ·rename_i l hl
    rw [hl] at aG;cases hc:(flat z&&jk (fC z).cells) with
    | false=>exact cF
    | true=>
     simp only [aj] at hc;exact lift_pure aG (XQ hc.1 hc.2)
   ·exact cF
  ·rename_i z len e hz hu
   rw [hz,hu] at aG;simp only at aG;split
   ·rename_i n hn
    rw [hn] at aG;cases hc:(flat z&&jk (fC z).cells) with
    | false=>exact cF
    | true=>
     simp only [aj] at hc;exact lift_pure aG (XQ hc.1 hc.2)
   ·exact cF
  ·exact cF
 | buildSlice t len parts=>
  show BU P o (jB P cfg.x.mt t len (parts.toList.map (·.1)) (parts.toList.map (·.2)));have aG:compile P o.op=rT P t len (parts.toList.map (·.1)) (parts.toList.map (·.2)):=by rw [ho]; rfl
  unfold jB;unfold rT at aG;split
  ·rename_i e hu
   rw [hu] at aG;simp only at aG;split
   ·rename_i i z hi hz
    have cS:size? P e=some i.size:=by simp [size?,hi]
    rw [cS,hz] at aG;simp only at aG;cases hc:(Nat.ble (len * i.size) 16777216&&Nat.beq z.cells.size i.size&&Nat.ble 1 i.size&&flat z&&Nat.beq (aH P e).ks.length i.size&&yg len (parts.toList.map (·.1))) with
    | false=>exact cF
    | true=>
     simp only [aj] at hc;obtain ⟨⟨⟨⟨⟨h1,h2⟩,h3⟩,h4⟩,h5⟩,h6⟩:=hc;rw [h1,h2,h3,h4] at aG;cases Gh (aH P e).ks with
     | true=>
      cases cfg.x.mt (e+3000000) with
      | true=>exact yj aG (ZA (aE h5) (cL h3) (aE h2) h6)
      | false=>exact XT aG (WX (aE h5) (cL h3) (aE h2) h6)
     | false=>
      cases h7:jk (fC z).cells with
      | true=>exact yj aG (Zt h7)
      | false=>exact cF
   ·exact cF
  ·exact cF
 | load t a=>exact Gs (by rw [ho]; rfl) abp
 | store t a x=>exact QG (by rw [ho]; rfl) agY
 | nilCheck x=>exact lift_pure (by rw [ho]; rfl) aks
 | binOp op t x y yt=>exact lift_pure (by rw [ho]; rfl) akt
 | unOp op t x=>exact lift_pure (by rw [ho]; rfl) amb
 | convert src dst x=>
  show BU P o (mQ P src dst x);have aG:compile P o.op=y6 P src dst x:=by rw [ho]; rfl
  unfold mQ;unfold y6 at aG;split
  ·rename_i k k' hs hd
   rw [hs,hd] at aG;exact lift_pure aG (agU hd hs)
  ·rename_i hs hd
   rw [hs,hd] at aG;exact lift_pure aG agT
  ·rename_i e hs hd
   rw [hs,hd] at aG;simp only at aG;cases hb:isByte P e with
   | false=>exact cF
   | true=>rw [hb] at aG; exact Gs aG Zw
  ·rename_i e hs hd
   rw [hs,hd] at aG;simp only at aG;cases hb:isByte P e with
   | false=>exact cF
   | true=>rw [hb] at aG; exact adD aG (Zx hb)
  ·exact cF
 | makeFunc fn first cap=>
  show BU P o (cond (ud fn) .bad (.pure (Gj fn first.size) (first.toList++cap.toList)));cases hy:ud fn with
  | true=>exact cF
  | false=>
   have hn:Bk fn=true:=by cases fn <;> first | rfl | simp [ud] at hy
   exact lift_pure (by rw [ho]; show cond (Bk fn) _ _=_; rw [hn]; rfl) Zm
 | fieldAddr s x f=>
  show BU P o (j7 P s x f);have aG:compile P o.op=ra P s x f:=by rw [ho]; rfl
  unfold j7;unfold ra at aG;split
  ·rename_i fd hf
   rw [hf] at aG;simp only at aG;split
   ·rename_i m hm
    rw [hm] at aG;exact lift_pure aG (WU rfl)
   ·exact cF
  ·exact cF
 | field t x f=>
  show BU P o (ql P t x f);have aG:compile P o.op=Ex P t x f:=by rw [ho]; rfl
  unfold ql;unfold Ex at aG;split
  ·rename_i fd hf
   rw [hf] at aG;exact lift_pure aG agR
  ·exact cF
 | indexAddr t x ix=>
  show BU P o (j8 P t x ix);have aG:compile P o.op=rb P t x ix:=by rw [ho]; rfl
  unfold j8;unfold rb at aG;split
  ·rename_i len e hu
   rw [hu] at aG;simp only at aG;split
   ·rename_i n hn
    rw [hn] at aG;exact lift_pure aG Zj
   ·exact cF
  ·rename_i e hu
   rw [hu] at aG;simp only at aG;split
   ·rename_i n hn
    rw [hn] at aG;exact lift_pure aG (abk rfl)
   ·exact cF
  ·exact cF
 | index t x ix=>
  show BU P o (qm P t x ix);have aG:compile P o.op=Ey P t x ix:=by rw [ho]; rfl
  unfold qm;unfold Ey at aG;split
  ·rename_i len e hu
   rw [hu] at aG;simp only at aG;split
   ·rename_i n hn
    rw [hn] at aG;exact lift_pure aG Zk
   ·exact cF
  ·rename_i hu
   rw [hu] at aG;exact lift_pure aG Zl
  ·exact cF
 | extract t i=>exact lift_pure (by rw [ho]; rfl) abl
 | slice t x lo hi mx=>
  show BU P o (qo P cfg.x.mt t x lo hi mx);have aG:compile P o.op=Et P t x lo hi mx:=by rw [ho]; rfl
  unfold qo;unfold Et at aG;split
  ·rename_i e hu
   rw [hu] at aG;simp only at aG;split
   ·rename_i n hn
    rw [hn] at aG;simp only at aG;cases hc:(Nat.ble 1 n&&mx.isNone) with
    | false=>exact cF
    | true=>
     simp only [aj] at hc;rw [hc.1] at aG;have SI:mx=none:=Option.isNone_iff_eq_none.1 hc.2;subst SI;simp only [ah,eh,n5,Option.isSome_none] at aG;show BU P o (cond (cfg.x.mt (e+4000000)) _ _);cases cfg.x.mt (e+4000000) with
     | true=>exact adM aG (aby (cL hc.1))
     | false=>exact Gs aG (abt (cL hc.1))
   ·exact cF
  ·rename_i len e hu
   rw [hu] at aG;simp only at aG;split
   ·rename_i n hn
    rw [hn] at aG;simp only at aG;cases hc:(Nat.ble 1 n&&mx.isNone) with
    | false=>exact cF
    | true=>
     simp only [aj] at hc;rw [hc.1] at aG;have SI:mx=none:=Option.isNone_iff_eq_none.1 hc.2;subst SI;simp only [ah,eh,n5,Option.isSome_none] at aG;exact Gs aG Zu
   ·exact cF
  ·rename_i hu
   rw [hu] at aG;simp only at aG;cases hc:mx.isNone with
   | false=>exact cF
   | true=>rw [hc] at aG; exact lift_pure aG Zv
  ·exact cF
 | makeSlice t l c=>
  show BU P o (r6 P cfg.x.mt t l c);have aG:compile P o.op=tU P t l c:=by rw [ho]; rfl
  unfold r6;unfold tU at aG;split
  ·rename_i e hu
   rw [hu] at aG;simp only at aG;split
   ·rename_i i hi
    rw [hi] at aG;simp only at aG;split
    ·rename_i z hz
     rw [hz] at aG;simp only at aG;cases hmz:cfg.x.mt (e+1000000) with
     | true=>
      rw [ah];cases hc:(Nat.ble 1 i.size&&Nat.ble 1 i.bytes&&Nat.beq z.cells.size i.size&&flat z&&z.cells.toList.all scalar&&Nat.beq (aH P e).ks.length i.size&&cf (aH P e) (dv (aH P e) (fC z))) with
      | false=>exact cF
      | true=>
       simp only [aj] at hc;obtain ⟨⟨⟨⟨⟨⟨h1,h2⟩,h3⟩,h4⟩,h5⟩,h6⟩,h7⟩:=hc;rw [h1,h2,h3,h4,h5] at aG;exact XT aG (agZ (aE h6) (cL h1) (aE h3) h7)
     | false=>
     rw [ay];cases hmt:cfg.x.mt e with
     | true=>
      rw [ah];cases hc:(Nat.ble 1 i.size&&Nat.ble 1 i.bytes&&Nat.beq z.cells.size i.size&&flat z&&z.cells.toList.all scalar&&Nat.beq (aH P e).ks.length i.size&&cf (aH P e) (dv (aH P e) (fC z))) with
      | false=>exact cF
      | true=>
       simp only [aj] at hc;obtain ⟨⟨⟨⟨⟨⟨h1,h2⟩,h3⟩,h4⟩,h5⟩,h6⟩,h7⟩:=hc;rw [h1,h2,h3,h4,h5] at aG;exact yj aG (abx (aE h6) (cL h1) (aE h3) h7)
     | false=>
     rw [ay];cases hc:(Nat.ble 1 i.size&&Nat.ble 1 i.bytes&&Nat.beq z.cells.size i.size&&flat z&&z.cells.toList.all scalar&&jk (fC z).cells) with
     | false=>exact cF
     | true=>
      simp only [aj] at hc;obtain ⟨⟨⟨⟨⟨h1,h2⟩,h3⟩,h4⟩,h5⟩,h6⟩:=hc;rw [h1,h2,h3,h4,h5] at aG;exact yj aG (WV h6)
    ·exact cF
   ·exact cF
  ·exact cF
 | call c=>
  show BU P o (pf P cfg c);unfold pf;split
  ·split
   ·cases cfg.aba _ <;> trivial
   ·trivial
  ·trivial
  ·rename_i b hb
   obtain ⟨callee,args,argTypes⟩:=c;simp only at hb;subst hb;have aG:compile P o.op=y7 P b argTypes.toList args.toList:=by rw [ho]; rfl
   unfold wI;unfold y7 at aG;split
   ·
    simp only at aG;unfold Ur;unfold NJ at aG;split
    ·rename_i t ht
     rw [ht] at aG;simp only at aG;split
     ·rename_i e hu
      rw [hu] at aG;exact lift_pure aG agS
     ·rename_i hu
      rw [hu] at aG;exact lift_pure aG adB
     ·exact cF
    ·exact cF
   ·simp only at aG
    exact lift_pure (f:=EZ false) aG UF
   ·simp only at aG
    exact lift_pure (f:=EZ true) aG UF
   ·
    simp only at aG;unfold Da;unfold FV at aG;split
    ·rename_i t u ht
     rw [ht] at aG;simp only at aG;split
     ·rename_i e eu hu huu
      rw [hu] at aG;simp only at aG;split
      ·rename_i i hi
       rw [hi] at aG;simp only at aG;split
       ·rename_i z hz
        rw [hz] at aG;simp only at aG;cases hc:(Nat.ble 1 i.size&&Nat.beq z.cells.size i.size&&Nat.beq (aH P e).ks.length i.size) with
        | false=>exact cF
        | true=>
         simp only [aj] at hc;have abD:BA P u=true:=by unfold BA; rw [huu]
         rw [hc.1.1,hc.1.2,abD] at aG;exact QG aG (abB (aE hc.2) (cL hc.1.1))
       ·exact cF
      ·exact cF
     ·exact cF
    ·exact cF
   ·
    simp only at aG;show BU P o (J5 P argTypes.toList args.toList);unfold J5;unfold NI at aG;split
    ·rename_i t u ht
     rw [ht] at aG;simp only at aG;split
     ·rename_i e eu hu huu
      rw [hu] at aG;simp only at aG;split
      ·rename_i n hn
       rw [hn] at aG;simp only at aG;cases hc:(Nat.ble 1 n&&Nat.beq (aH P e).ks.length n) with
       | false=>exact cF
       | true=>
        simp only [aj] at hc;rw [hc.1] at aG;exact QG aG (aiP (aE hc.2) (cL hc.1))
      ·exact cF
     ·exact cF
    ·exact cF
   ·trivial
  ·trivial
 | _=>trivial
end Go.K
end
section
namespace Go.K
open Go Go.aA
variable {P:Program} {E:Env}
theorem vK (t:bI):∀ xs,rG t xs=xs.map (nM t)
 | []=>rfl
 | x::xs=>by rw [rG,vK t xs]; rfl
structure jD (P:Program) (E:Env) (ρ:Ren) (t:bI) (N:Nat) (a:Act):Prop where
 size:a.tmps.size=N
 val:∀ i,VC P E ρ ((t.get i).getD .bx) (a.tmps.getD i undef)
 none:∀ i,N<=i->t.get i=Option.none
theorem jD.ev {ρ:Ren} {t:bI} {N:Nat} {a:Act} (h:jD P E ρ t N a) (x:Operand):VC P E ρ (nM t x) (a.eval x):=by
 cases x with
 | tmp i=>exact h.val i
 | const v=>
  simp only [nM,Act.eval];cases hf:flat v with
  | true=>exact ⟨v,.fC v,VR.of_flat hf⟩
  | false=>exact .bx
 | global g=>exact .bx
 | func f=>exact ⟨.func (.func f) ⟨[]⟩ ⟨[]⟩,.abh .nil .nil,VR.JW (l:=[]) (m:=[]) (.func f) rfl .nil .nil⟩
theorem jD.mono {E' : Env} {ρ ak:Ren} {t:bI} {N:Nat} {a:Act} (h:jD P E ρ t N a) (k:E.le E') (m:ρ.le ak):jD P E' ak t N a:=⟨h.size,fun i=>(h.val i).mono k m,h.none⟩
theorem jD.put {ρ:Ren} {t:bI} {N:Nat} {a:Act} {dst:Option Tmp} {v:KV} {v' : Value} (h:jD P E ρ t N a) (hd:∀ d,dst=some d->d < N) (hv:VC P E ρ v v'):jD P E ρ (xM t dst v) N (a.put dst v'):=by
 cases dst with
 | none=>exact h
 | some d=>
  have hd:=hd d rfl;refine ⟨by simp [Act.put,h.size],fun i=>?_,fun i hi=>?_⟩
  ·simp only [xM,Trie.iY,Act.put]
   by_cases e:i=d
   ·subst e
    have:i < a.tmps.size:=by rw [h.size]; exact hd
    simp [dF,this,hv]
   ·have:=h.val i
    simp only [ae e];simpa [dF,Array.getElem?_setIfInBounds_ne (Ne.symm e)] using this
  ·simp only [xM,Trie.iY]
   have bA:i≠d:=fun e=>absurd hi (by rw [e]; exact Nat.not_le_of_lt hd);rw [ae bA];exact h.none i hi
theorem jD.same {ρ:Ren} {t t' : bI} {N:Nat} {a:Act} (h:jD P E ρ t N a) (hs:∀ i,t'.get i=t.get i):jD P E ρ t' N a:=
 ⟨h.size,fun i=>by rw [hs]; exact h.val i,fun i hi=>by rw [hs]; exact h.none i hi⟩
theorem zq {v:KV} {b:Bool} (h:rl v = .bool b):v = .bool b:=by cases v <;> simp [rl] at h; rw [h]
theorem U2 {v:KV} (h:rl v = .nh):∃ l,v = .nh l:=by cases v <;> simp [rl] at h; exact ⟨_,rfl⟩
theorem GC {t:bI} {d:Tmp} {b:Bool} (h:rl ((t.get d).getD .bx) = .bool b):∀ i,(Trie.set (.bool b) t d).get i=t.get i:=by
 intro i;have:=zq h;rw [Trie.iY];split
 ·rename_i e
  subst e;cases ht:t.get i with
  | none=>rw [ht] at this; simp at this
  | some v=>rw [ht] at this; simp at this; rw [this]
 ·rfl
theorem VC.dq {ρ:Ren} {b:Bool} {v:Value} (h:VC P E ρ (.bool b) v):v = .bool b:=by
 obtain ⟨u,h1,h2⟩:=h;have:=h1.dq; subst this;exact h2.dq
theorem ZB {R:Type} {ρ:Ren} {t:bI} {N:Nat} {a:Act} {all:List Oper} {o:Oper} {j:Nat} {want:Bool} {yes no:bI->Option R} {r:R} (hg:o.guard=some (j,want)) (ht:jD P E ρ t N a)
  (h:abb t ((all[j]?).bind (·.dst)) want yes no=some r) :
  ∃ t',(∀ i,t'.get i=t.get i)/\((Region.wanted o (yielded ⟨all⟩ a.tmps)=true/\yes t' = some r)\/(Region.wanted o (yielded ⟨all⟩ a.tmps)=false/\no t' = some r)):=by
 unfold abb at h;cases hd:(all[j]?).bind (·.dst) with
 | none=>rw [hd] at h; exact absurd h (by simp)
 | some d=>
  rw [hd] at h;have hw:∀ u,a.tmps[d]? = some u->Region.wanted o (yielded ⟨all⟩ a.tmps)=(match u with
    | .bool b=>b==want
    | _=>false):=by
   intro u hu;unfold Region.wanted;rw [hg];simp only;unfold yielded;have e:(⟨all⟩:Array Oper)[j]? = all[j]?:=by simp
   rw [e,hd];simp only [cA,hu];cases u <;> rfl
  have uc:=ht.val d;have h:BK.rec (motive:=fun _=>Option R)
   (fun b=>Bool.rec (motive:=fun _=>Option R)
    (Bool.rec (motive:=fun _=>Option R) (yes (t.set (.bool false) d)) (no (t.set (.bool false) d)) want)
    (Bool.rec (motive:=fun _=>Option R) (no (t.set (.bool true) d)) (yes (t.set (.bool true) d)) want) b)
   (no t) none (rl ((t.get d).getD .bx))=some r:=h
  cases hb:rl ((t.get d).getD .bx) with
  | no=>rw [hb] at h; exact absurd h (by simp)
  | nh=>
   rw [hb] at h;obtain ⟨l,hl⟩:=U2 hb;rw [hl] at uc;obtain ⟨u,h1,h2⟩:=uc;obtain ⟨m,rfl,_⟩:=h1.ID;obtain ⟨m',h3,_⟩:=h2.BD;refine ⟨t,fun _=>rfl,.inr ⟨?_,h⟩⟩;cases hc:a.tmps[d]? with
   | none=>
    unfold Region.wanted;rw [hg];simp only;unfold yielded;have e:(⟨all⟩:Array Oper)[j]? = all[j]?:=by simp
    rw [e,hd];simp [hc]
   | some u=>
    have:u = .tuple m':=by rw [<- h3]; simp [dF,hc]
    rw [hw u hc,this]
  | bool b=>
   rw [hb] at h;have hbv:=zq hb;rw [hbv] at uc;have hcv:=uc.dq;have hc:a.tmps[d]? = some (.bool b):=by
    cases hc:a.tmps[d]? with
    | none=>simp [dF,hc,undef] at hcv
    | some u=>have:u = .bool b:=by rw [<- hcv]; simp [dF,hc]
              rw [this]
   have HG:=hw _ hc;refine ⟨t.set (.bool b) d,GC hb,?_⟩;cases b <;> cases want
   ·exact .inl ⟨HG,h⟩
   ·exact .inr ⟨HG,h⟩
   ·exact .inr ⟨HG,h⟩
   ·exact .inl ⟨HG,h⟩
def ny (P:Program) (E:Env) (ρ:Ren) (l:List KV) (l' : List Value):Prop:=∃ m,aK P E l m/\cD ρ m l'
def pq (P : Program) (g : FuncId) : Prop := Nat.blt g yB = true ∧ ∃ fn, P.funcs[g]? = some fn ∧ fn.body.isSome = true ∧ (fn.name == "runtime.NumGoroutine") = false
def IX {R:Type} (P:Program) (cT:rm R):Prop:=
 ∀ f args A k r,cT f args A k=some r->pq P f/\∀ (E:Env) (B:St) (ρ:Ren) (base:Nat) (w:World) (bM:List Value),ny P E ρ args bM->KJ P E A B ρ base w->
  Calls P f bM.toArray w fun e w'=>∃ v v' E' A' B' ak,e = .returned v'/\VC P E' ak v v'/\Ev P base E A B ρ w E' A' B' ak w'/\k v A' = some r
def cB (P:Program) (g:FuncId) (F:List KV->KR KV):Prop:=
 ∀ args v,az (F (normArgs P (bK P g) args)) v->args.length=(bK P g).length->pq P g/\∀ (E:Env) (A:ai) (B:St) (ρ:Ren) (base:Nat) (w:World) (bM:List Value),ny P E ρ args bM->KJ P E A B ρ base w->
  Calls P g bM.toArray w fun e w'=>∃ v' E' B' ak,e = .returned v'/\VC P E' ak v v'/\Ev P base E A B ρ w E' A B' ak w'
def oW (P:Program) (pc:FuncId->Option (List KV->KR KV)):Prop:=∀ g F,pc g=some F->cB P g F
theorem ZC {o:Oper} {f:Operand} {args:List Operand} (aG:compile P o.op = .call f args) {ρ:Ren} {t:bI} {N:Nat} {a:Act} (ht:jD P E ρ t N a) {g:FuncId} {vs:List KV} (hc:IB (rG t args) (nM t f)=some (g,vs)) (hg:pq P g) :
  ∃ bw,ny P E ρ vs bw/\∀ w,(execOp a.eval o).run P w = .ok (.enter g bw.toArray) w:=by
 have bL:=nf P o;rw [aG] at bL;obtain ⟨em,h1,h2⟩:=Zp (xs:=f::args) (ev:=nM t) (ck:=a.eval) fun x _=>ht.ev x;obtain ⟨y,ys,e,h3,h4⟩:=h1.cons_inv;simp only [List.map_cons,List.cons.injEq] at e;obtain ⟨rfl,rfl⟩:=e;have hv:∃ us,jd (args.map em) (em f)=some (g,us)/\aK P E vs us:=by
  unfold IB at hc;split at hc
  ·rename_i g' first cap e
   simp only [aR,bG] at hc;obtain ⟨rfl,rfl⟩:=hc;rw [e] at h3;obtain ⟨l,m,e2,h5,h6⟩:=h3.Gm;rw [e2];refine ⟨l++args.map em++m,by simp only [jd]; rw [hg.1]; rfl,?_⟩;rw [vK];exact (h5.append h4).append h6
  ·simp at hc
 obtain ⟨us,h5,h6⟩:=hv;obtain ⟨bw,h7,h8⟩:=bL.2 ρ em a.eval g us h2 hg.1 h5 hg.2;exact ⟨bw,⟨us,h6,h7⟩,h8⟩
def cG:oV->Bool
 | .call _ _=>false
 | .DT _ _ _=>false
 | .DU _ _ _=>false
 | _=>true
theorem cI {c:Bool} {x:oV} (h:cG x=true):cG (cond c x .bad)=true:=by
 cases c with
 | false=>rfl
 | true=>exact h
theorem BZ {c:Bool} {x y:oV} (h:cG x=true) (k:cG y=true):cG (cond c x y)=true:=by
 cases c with
 | false=>exact k
 | true=>exact h
theorem yk (mt:TypeId->Bool) (b:Builtin) (ts:List TypeId) (args:List Operand):cG (wI P mt b ts args)=true:=by
 unfold wI Ur Da J5
 repeat' split
 all_goals first | rfl | exact cI rfl
theorem ve (mt:TypeId->Bool) (t:TypeId) (l c:Operand):cG (r6 P mt t l c)=true:=by
 unfold r6;split
 ·rename_i e he
  split
  ·split
   ·cases mt (e+1000000)
    ·cases mt e <;> exact cI rfl
    ·exact cI rfl
   ·rfl
  ·rfl
 ·rfl
theorem abE {cfg:gf} {op:Op} {f:Operand} {args:List Operand} (h:dp P cfg op = .call f args):compile P op = .call f args:=by
 have key:cG (dp P cfg op)=true->compile P op = .call f args:=fun hn=>by rw [h] at hn; simp [cG] at hn
 cases op with
 | call c=>
  have h:pf P cfg c = .call f args:=h;show tV P c=_;unfold pf at h;unfold tV;split at h
  ·rename_i g hc
   split at h
   ·cases hz:cfg.aba g <;> rw [hz] at h <;> simp at h
   ·simp at h; obtain ⟨rfl,rfl⟩:=h; rw [hc]
  ·rename_i f' bA hc; simp at h; obtain ⟨rfl,rfl⟩:=h; rw [hc]
  ·rename_i b hc
   have:=yk (P:=P) cfg.x.mt b c.argTypes.toList c.args.toList;rw [h] at this;simp [cG] at this
  ·simp at h
 | alloc t=>exact key (by show cG (pd P t)=true; unfold pd; split <;> first | rfl | exact cI rfl)
 | build t ps=>exact key (by show cG (qj P t _ _)=true; unfold qj; (repeat' split); all_goals first | rfl | exact cI rfl)
 | buildSlice t n ps=>exact key (by show cG (jB P cfg.x.mt t n _ _)=true; unfold jB; (repeat' split); all_goals first | rfl | exact cI (by cases Gh _ <;> first | exact cI rfl | (cases cfg.x.mt _ <;> rfl) | rfl))
 | convert s d x=>exact key (by show cG (mQ P s d x)=true; unfold mQ; (repeat' split); all_goals first | rfl | exact cI rfl)
 | makeFunc fn a b=>exact key (by show cG (cond (ud fn) .bad _)=true; cases ud fn <;> rfl)
 | fieldAddr s x i=>exact key (by show cG (j7 P s x i)=true; unfold j7; (repeat' split); all_goals rfl)
 | field s x i=>exact key (by show cG (ql P s x i)=true; unfold ql; (repeat' split); all_goals rfl)
 | indexAddr s x i=>exact key (by show cG (j8 P s x i)=true; unfold j8; (repeat' split); all_goals rfl)
 | index s x i=>exact key (by show cG (qm P s x i)=true; unfold qm; (repeat' split); all_goals rfl)
 | slice t x lo hi mx=>exact key (by show cG (qo P cfg.x.mt t x lo hi mx)=true; unfold qo; (repeat' split); all_goals first | rfl | exact cI rfl | exact cI (BZ rfl rfl))
 | makeSlice t l c=>exact key (ve _ t l c)
 | _=>exact key rfl
theorem ZD {cfg:gf} {op:Op} {g:FuncId} {F:List KV->KR KV} {args:List Operand} (h:dp P cfg op = .DT g F args):compile P op = .call (.func g) args/\∃ F0,cfg.pc g=some F0/\F=fun vs=>cond (Nat.beq vs.length (bK P g).length) (F0 (normArgs P (bK P g) vs)) .no:=by
 have key:cG (dp P cfg op)=true->compile P op = .call (.func g) args/\∃ F0,cfg.pc g=some F0/\F=fun vs=>cond (Nat.beq vs.length (bK P g).length) (F0 (normArgs P (bK P g) vs)) .no:=fun hn=>by rw [h] at hn; simp [cG] at hn
 cases op with
 | call c=>
  have h:pf P cfg c = .DT g F args:=h;show tV P c=_/\_;unfold pf at h;unfold tV;split at h
  ·rename_i g' hc
   split at h
   ·rename_i F0 hF
    cases hz:cfg.aba g' with
    | true=>rw [hz] at h; simp at h
    | false=>
     rw [hz] at h;simp at h; obtain ⟨rfl,rfl,rfl⟩:=h; rw [hc];exact ⟨rfl,F0,hF,rfl⟩
   ·simp at h
  ·simp at h
  ·rename_i b hc
   have:=yk (P:=P) cfg.x.mt b c.argTypes.toList c.args.toList;rw [h] at this;simp [cG] at this
  ·simp at h
 | alloc t=>exact key (by show cG (pd P t)=true; unfold pd; split <;> first | rfl | exact cI rfl)
 | build t ps=>exact key (by show cG (qj P t _ _)=true; unfold qj; (repeat' split); all_goals first | rfl | exact cI rfl)
 | buildSlice t n ps=>exact key (by show cG (jB P cfg.x.mt t n _ _)=true; unfold jB; (repeat' split); all_goals first | rfl | exact cI (by cases Gh _ <;> first | exact cI rfl | (cases cfg.x.mt _ <;> rfl) | rfl))
 | convert s d x=>exact key (by show cG (mQ P s d x)=true; unfold mQ; (repeat' split); all_goals first | rfl | exact cI rfl)
 | makeFunc fn a b=>exact key (by show cG (cond (ud fn) .bad _)=true; cases ud fn <;> rfl)
 | fieldAddr s x i=>exact key (by show cG (j7 P s x i)=true; unfold j7; (repeat' split); all_goals rfl)
 | field s x i=>exact key (by show cG (ql P s x i)=true; unfold ql; (repeat' split); all_goals rfl)
 | indexAddr s x i=>exact key (by show cG (j8 P s x i)=true; unfold j8; (repeat' split); all_goals rfl)
 | index s x i=>exact key (by show cG (qm P s x i)=true; unfold qm; (repeat' split); all_goals rfl)
 | slice t x lo hi mx=>exact key (by show cG (qo P cfg.x.mt t x lo hi mx)=true; unfold qo; (repeat' split); all_goals first | rfl | exact cI rfl | exact cI (BZ rfl rfl))
 | makeSlice t l c=>exact key (ve _ t l c)
 | _=>exact key rfl
theorem ZE {cfg:gf} {op:Op} {g:FuncId} {F:List KV->KR KV} {args:List Operand} (h:dp P cfg op = .DU g F args):compile P op = .call (.func g) args/\∃ F0,cfg.pc g=some F0/\F=fun vs=>cond (Nat.beq vs.length (bK P g).length) (F0 (normArgs P (bK P g) vs)) .no:=by
 have key:cG (dp P cfg op)=true->compile P op = .call (.func g) args/\∃ F0,cfg.pc g=some F0/\F=fun vs=>cond (Nat.beq vs.length (bK P g).length) (F0 (normArgs P (bK P g) vs)) .no:=fun hn=>by rw [h] at hn; simp [cG] at hn
 cases op with
 | call c=>
  have h:pf P cfg c = .DU g F args:=h;show tV P c=_/\_;unfold pf at h;unfold tV;split at h
  ·rename_i g' hc
   split at h
   ·rename_i F0 hF
    cases hz:cfg.aba g' with
    | false=>rw [hz] at h; simp at h
    | true=>
     rw [hz] at h;simp at h; obtain ⟨rfl,rfl,rfl⟩:=h; rw [hc];exact ⟨rfl,F0,hF,rfl⟩
   ·simp at h
  ·simp at h
  ·rename_i b hc
   have:=yk (P:=P) cfg.x.mt b c.argTypes.toList c.args.toList;rw [h] at this;simp [cG] at this
  ·simp at h
 | alloc t=>exact key (by show cG (pd P t)=true; unfold pd; split <;> first | rfl | exact cI rfl)
 | build t ps=>exact key (by show cG (qj P t _ _)=true; unfold qj; (repeat' split); all_goals first | rfl | exact cI rfl)
 | buildSlice t n ps=>exact key (by show cG (jB P cfg.x.mt t n _ _)=true; unfold jB; (repeat' split); all_goals first | rfl | exact cI (by cases Gh _ <;> first | exact cI rfl | (cases cfg.x.mt _ <;> rfl) | rfl))
 | convert s d x=>exact key (by show cG (mQ P s d x)=true; unfold mQ; (repeat' split); all_goals first | rfl | exact cI rfl)
 | makeFunc fn a b=>exact key (by show cG (cond (ud fn) .bad _)=true; cases ud fn <;> rfl)
 | fieldAddr s x i=>exact key (by show cG (j7 P s x i)=true; unfold j7; (repeat' split); all_goals rfl)
 | field s x i=>exact key (by show cG (ql P s x i)=true; unfold ql; (repeat' split); all_goals rfl)
 | indexAddr s x i=>exact key (by show cG (j8 P s x i)=true; unfold j8; (repeat' split); all_goals rfl)
 | index s x i=>exact key (by show cG (qm P s x i)=true; unfold qm; (repeat' split); all_goals rfl)
 | slice t x lo hi mx=>exact key (by show cG (qo P cfg.x.mt t x lo hi mx)=true; unfold qo; (repeat' split); all_goals first | rfl | exact cI rfl | exact cI (BZ rfl rfl))
 | makeSlice t l c=>exact key (ve _ t l c)
 | _=>exact key rfl
noncomputable def xO (ins:oV) (t:bI) (A:ai):KR (KV×ai):=
 match ins with
 | .pure f xs=>(f (rG t xs)).map fun v=>(v,A)
 | .read f xs=>(f A (rG t xs)).map fun v=>(v,A)
 | .act f xs=>f A (rG t xs)
 | .look f xs=>(f (rG t xs)).map fun v=>(v,A)
 | .DT _ f xs=>(f (rG t xs)).map fun v=>(v,A)
 | .DU _ f xs=>(f (xL A (rG t xs)).1).map fun v=>(v,(xL A (rG t xs)).2)
 | .call _ _=>.no
 | .bad=>.no
theorem az.wQ {α β:Type} {r:KR α} {f:α->β} {u:α} (h:az r u):az (r.map f) (f u):=by
 cases r with
 | no=>exact h.elim
 | ok x=>have h:x=u:=h; subst h; exact rfl
 | iJ c x=>obtain ⟨h1,rfl⟩:=h; exact ⟨h1,rfl⟩
 | br c x y=>exact h.imp (fun h=>⟨h.1,az.wQ (r:=x) h.2⟩) (fun h=>⟨h.1,az.wQ (r:=y) h.2⟩)
theorem ZF {R:Type} {cT:rm R} {t:bI} {A:ai} {k:KV->ai->Option R} {ins:oV} {r:R} (hn:∀ f args,ins≠.call f args) (h:XO cT t A k ins=some r):∃ v A',az (xO ins t A) (v,A')/\k v A' = some r:=by
 cases ins with
 | pure f xs=>obtain ⟨v,h1,h2⟩:=KR.vH h; exact ⟨v,A,h1.wQ,h2⟩
 | read f xs=>obtain ⟨v,h1,h2⟩:=KR.vH h; exact ⟨v,A,h1.wQ,h2⟩
 | act f xs=>obtain ⟨v,h1,h2⟩:=KR.vH h; exact ⟨v.1,v.2,h1,h2⟩
 | look f xs=>obtain ⟨v,h1,h2⟩:=KR.vH h; exact ⟨v,A,h1.wQ,h2⟩
 | DT g f xs=>obtain ⟨v,h1,h2⟩:=KR.vH h; exact ⟨v,A,h1.wQ,h2⟩
 | DU g f xs=>obtain ⟨v,h1,h2⟩:=KR.vH h; exact ⟨v,(xL A (rG t xs)).2,h1.wQ (f:=fun v=>(v,(xL A (rG t xs)).2)),h2⟩
 | call f args=>exact absurd rfl (hn f args)
 | bad=>exact absurd h (by simp [XO])
theorem RY {cfg:gf} (e8:oW P cfg.pc) {o:Oper} {g:FuncId} {xs:List Operand} (aG:compile P o.op = .call (.func g) xs) {F0:List KV->KR KV} (hF0:cfg.pc g=some F0) {t:bI} {vs0:List KV} {v:KV}
  (hf:az (F0 (normArgs P (bK P g) vs0)) v) (hlen:vs0.length=(bK P g).length) {E:Env} {ρ:Ren} {a:Act} (hv:∀ x∈xs,VC P E ρ (nM t x) (a.eval x)) {A A1:ai} {B:St} {base:Nat} {w:World}
  (ano:∀ us,aK P E (xs.map (nM t)) us->∃ E1,Ev P base E A B ρ w E1 A1 B ρ w/\aK P E1 vs0 us) {next:Act->World->Prop} {Q:Exit->Act->World->Prop}
  (hk:∀ E' B' ak v' w',VC P E' ak v v'->Ev P base E A B ρ w E' A1 B' ak w'->next (a.put o.dst v') w'):o.upon P a next Q ((execOp a.eval o).run P w):=by
 obtain ⟨hg,kx⟩:=e8 g F0 hF0 _ _ hf hlen;have RK:=nf P o;rw [aG] at RK;obtain ⟨em,h3,h4⟩:=Zp (xs:=xs) hv
 let ZG:Operand->Value:=fun x=>match x with
  | .func f=>.func (.func f) #[] #[]
  | x=>em x
 have e3:∀ x∈xs,VK P E (nM t x) (ZG x)/\VR ρ (ZG x) (a.eval x):=by
  intro x hx;have key:∀ (l:List Operand),aK P E (l.map (nM t)) (l.map em)->x∈l->VK P E (nM t x) (em x):=by
   intro l
   induction l with
   | nil=>intro _ h; simp at h
   | cons y l ih=>
    intro h hm;obtain ⟨z,zs,e,q1,q2⟩:=h.cons_inv;simp only [List.map_cons,List.cons.injEq] at e;obtain ⟨rfl,rfl⟩:=e;rcases bd.1 hm with rfl | hm
    ·exact q1
    ·exact ih q2 hm
  cases x with
  | func f=>exact ⟨.abh .nil .nil,VR.JW (l:=[]) (m:=[]) (.func f) rfl .nil .nil⟩
  | tmp i=>exact ⟨key xs h3 hx,h4 _ hx⟩
  | const c=>exact ⟨key xs h3 hx,h4 _ hx⟩
  | global q=>exact ⟨key xs h3 hx,h4 _ hx⟩
 have e4:aK P E (xs.map (nM t)) (xs.map ZG):=by
  have:∀ (l:List Operand),(∀ x∈l,VK P E (nM t x) (ZG x))->aK P E (l.map (nM t)) (l.map ZG):=by
   intro l
   induction l with
   | nil=>intro _; exact .nil
   | cons y l ih=>intro h; exact .cons (h y (by simp)) (ih fun z hz=>h z (by simp [hz]))
  exact this xs fun x hx=>(e3 x hx).1
 obtain ⟨bw,h5,h6⟩:=RK.2 ρ ZG a.eval g (xs.map ZG) (fun x hx=>by
   rcases bd.1 hx with rfl | hx
   ·exact VR.JW (l:=[]) (m:=[]) (.func g) rfl .nil .nil
   ·exact (e3 x hx).2) hg.1 (by simp only [ZG,jd]; rw [hg.1]; simp) hg.2
 rw [h6 w];obtain ⟨E1,q1,q2⟩:=ano _ e4;refine (kx E1 A1 B ρ base w bw ⟨xs.map ZG,q2,h5⟩ q1.kj).mono ?_;rintro e w' ⟨v',E',B',ak,rfl,h7,h8⟩;exact hk E' B' ak v' w' h7 (q1.trans h8)
theorem U3 {cfg:gf} (e8:oW P cfg.pc) {o:Oper} {t:bI} {A A' : ai} {v:KV} {base:Nat} {B:St} {ρ:Ren} {a:Act} {w:World} {next:Act->World->Prop} {Q:Exit->Act->World->Prop}
  (h:az (xO (dp P cfg o.op) t A) (v,A')) (hv:∀ x∈aff (dp P cfg o.op),VC P E ρ (nM t x) (a.eval x)) (hj:KJ P E A B ρ base w)
  (hk:∀ E' B' ak v' w',VC P E' ak v v'->Ev P base E A B ρ w E' A' B' ak w'->next (a.put o.dst v') w'):o.wp P a w next Q:=by
 have bL:=ag0 P cfg o;have afw:=@ZD P cfg o.op;have afx:=@ZE P cfg o.op;generalize dp P cfg o.op=ins at h bL hv afw afx;unfold Oper.wp;cases ins with
 | pure f xs=>
  obtain ⟨u,h1,h2⟩:=az.map h;simp only [bG] at h2;obtain ⟨rfl,rfl⟩:=h2;rw [vK] at h1;obtain ⟨v',h3,h4⟩:=bL E ρ (nM t) a.eval u hv h1;rw [h4 w];exact hk E B ρ v' w h3 (.refl hj.k hj.s)
 | read f xs=>
  obtain ⟨u,h1,h2⟩:=az.map h;simp only [bG] at h2;obtain ⟨rfl,rfl⟩:=h2;rw [vK] at h1;obtain ⟨v',h3,h4⟩:=bL E A B ρ base w (nM t) a.eval u hj hv h1;rw [h4];exact hk E B ρ v' w h3 (.refl hj.k hj.s)
 | act f xs=>
  have h:az (f A (rG t xs)) (v,A'):=h;rw [vK] at h;obtain ⟨E',B',ak,v',nx,w',h1,h2,h3,h4⟩:=bL E A A' B ρ base w (nM t) a.eval v hj hv h;rw [h1];have hd:=hk E' B' ak v' w' h3 h4;cases nx with
  | value u=>have:u=v':=h2; subst this; exact hd
  | skip=>have:v' = undef:=h2; subst this; exact hd
  | _=>exact h2.elim
 | look f xs=>
  obtain ⟨u,h1,h2⟩:=az.map h;simp only [bG] at h2;obtain ⟨rfl,rfl⟩:=h2;rw [vK] at h1;obtain ⟨E',B',ak,v',nx,w',h3,h4,h5,h6⟩:=bL E A B ρ base w (nM t) a.eval u hj hv h1;rw [h3];have hd:=hk E' B' ak v' w' h5 h6;cases nx with
  | value u=>have:u=v':=h4; subst this; exact hd
  | skip=>have:v' = undef:=h4; subst this; exact hd
  | _=>exact h4.elim
 | DT g f xs=>
  obtain ⟨u,h1,h2⟩:=az.map h;simp only [bG] at h2;obtain ⟨rfl,rfl⟩:=h2;obtain ⟨aG,F0,hF0,rfl⟩:=afw rfl;obtain ⟨hlen,hf⟩:=az.cond h1;exact RY e8 aG hF0 hf (aE hlen) hv (fun us q=>⟨E,.refl hj.k hj.s,by rw [vK]; exact q⟩) hk
 | DU g f xs=>
  obtain ⟨u,h1,h2⟩:=az.map h;simp only [bG] at h2;obtain ⟨rfl,rfl⟩:=h2;obtain ⟨aG,F0,hF0,rfl⟩:=afx rfl;obtain ⟨hlen,hf⟩:=az.cond h1;refine RY e8 aG hF0 hf (aE hlen) hv (fun us q=>?_) hk;obtain ⟨E1,p1,p2⟩:=Dg hj.k q;rw [vK];exact ⟨E1,p1.ev (.refl hj.s),p2⟩
 | call f args=>exact h.elim
 | bad=>exact h.elim
end Go.K
end
section
namespace Go.K
open Go Go.aA
variable {P:Program} {E:Env}
theorem abF {R:Type} {cfg:gf} {cT:rm R} (e8:oW P cfg.pc) (vf:IX P cT) {o:Oper} {t:bI} {A:ai} {k:KV->ai->Option R} {r:R} {N base:Nat} {B:St} {ρ:Ren} {a:Act} {w:World} {next:Act->World->Prop} {Q:Exit->Act->World->Prop}
  (h:XO cT t A k (dp P cfg o.op)=some r) (ht:jD P E ρ t N a) (hj:KJ P E A B ρ base w)
  (hk:∀ E' A' B' ak v v' w',k v A' = some r->VC P E' ak v v'->Ev P base E A B ρ w E' A' B' ak w'->next (a.put o.dst v') w'):o.wp P a w next Q:=by
 by_cases hc:∃ f args,dp P cfg o.op = .call f args
 ·obtain ⟨f,args,hc⟩:=hc
  rw [hc] at h;have h:Option.rec (motive:=fun _=>Option R) none (fun p=>cT p.1 p.2 A k) (IB (rG t args) (nM t f))=some r:=h;cases Hd:IB (rG t args) (nM t f) with
  | none=>rw [Hd] at h; exact absurd h (by simp)
  | some p=>
   obtain ⟨g,vs⟩:=p;rw [Hd] at h;have h:cT g vs A k=some r:=h;obtain ⟨hg,kx⟩:=vf g vs A k r h;obtain ⟨bw,h1,h2⟩:=ZC (abE hc) ht Hd hg;unfold Oper.wp;rw [h2 w];refine (kx E B ρ base w bw h1 hj).mono ?_;rintro e w' ⟨v,v',E',A',B',ak,rfl,h3,h4,h5⟩;exact hk E' A' B' ak v v' w' h5 h3 h4
 ·obtain ⟨v,A',h1,h2⟩:=ZF (fun f args e=>hc ⟨f,args,e⟩) h
  exact U3 e8 h1 (fun x _=>ht.ev x) hj fun E' B' ak v' w' h3 h4=>hk E' A' B' ak v v' w' h2 h3 h4
theorem abG {R:Type} {cfg:gf} {cT:rm R} {all:List Oper} {o:Oper} {k:bI->ai->Option R} {t:bI} {A:ai} {r:R} {N:Nat} {ρ:Ren} {a:Act} (ht:jD P E ρ t N a) (h:Qy P cfg cT all o k t A=some r) :
  ∃ t1,(∀ i,t1.get i=t.get i)/\((Region.wanted o (yielded ⟨all⟩ a.tmps)=true/\XO cT t1 A (fun v A=>k (xM t1 o.dst v) A) (dp P cfg o.op)=some r)\/
   (Region.wanted o (yielded ⟨all⟩ a.tmps)=false/\k (xM t1 o.dst uC) A=some r)):=by
 unfold Qy at h;cases hg:o.guard with
 | none=>
  rw [hg] at h;refine ⟨t,fun _=>rfl,.inl ⟨?_,h⟩⟩;unfold Region.wanted;rw [hg]
 | some p=>
  obtain ⟨j,want⟩:=p;rw [hg] at h;exact ZB hg ht h
theorem IY {R:Type} {cfg:gf} {cT:rm R} (e8:oW P cfg.pc) (vf:IX P cT) {N base:Nat} {Q:Exit->Act->World->Prop} {all:List Oper} (hd:all.all (tF N)=true) {k:bI->ai->Option R} {r:R} :
  ∀ (os:List Oper) (j:Nat) (t:bI) (E:Env) (A:ai) (B:St) (ρ:Ren) (a:Act) (w:World),all.drop j=os->RO P cfg cT all k os t A=some r->jD P E ρ t N a->KJ P E A B ρ base w->
   (∀ t' E' A' B' ak a' w',k t' A' = some r->jD P E' ak t' N a'->a'.defers=a.defers->Ev P base E A B ρ w E' A' B' ak w'->Q .normal a' w')->wpOps P ⟨all⟩ Q (List.range' j os.length) a w
 | [],j,t,E,A,B,ρ,a,w,_,h,ht,hj,hq=>hq t E A B ρ a w h ht rfl (.refl hj.k hj.s)
 | o::os,j,t,E,A,B,ρ,a,w,hk,h,ht,hj,hq=>by
  have ho:(⟨all⟩:Array Oper)[j]? = some o:=by
   have:(all.drop j)[0]? = some o:=by rw [hk]; rfl
   rw [lE] at this;simpa using this
  have pb:all.drop (j+1)=os:=by rw [<- List.drop_drop,hk]; rfl
  have pY:∀ d,o.dst=some d->d < N:=by
   intro d e;have hm:o∈all:=eW (by simpa using ho);have:=dS.1 hd o hm;unfold tF at this;rw [e] at this;simp only at this;rw [b8] at this;exact this
  rw [lF,List.range'_succ];simp only [wpOps,ho];have h:Qy P cfg cT all o (RO P cfg cT all k os) t A=some r:=h;obtain ⟨t1,zM,h⟩:=abG ht h;have AU:=ht.same zM;rcases h with ⟨hw,h⟩ | ⟨hw,h⟩
  ·rw [hw]
   refine .inl (abF e8 vf h AU hj fun E' A' B' ak v v' w' h1 h2 h3=>?_);refine IY e8 vf hd os (j+1) _ E' A' B' ak _ w' pb h1 ((AU.mono h3.le (h3.gG.le hj.s)).put pY h2) h3.kj fun t' IZ ZH I0 mF BM xZ h4 h5 h6 h7=>?_;exact hq t' IZ ZH I0 mF BM xZ h4 h5 (by rw [h6,put_defers]) (h3.trans h7)
  ·rw [hw]
   refine IY e8 vf hd os (j+1) _ E A B ρ _ w pb h (AU.put pY .undef) hj fun t' IZ ZH I0 mF BM xZ h4 h5 h6 h7=>?_;exact hq t' IZ ZH I0 mF BM xZ h4 h5 (by rw [h6,put_defers]) h7
abbrev Out:=Bool×KV×ai
inductive Run (P:Program) (cfg:gf) (all:List Oper):List Oper->bI->ai->List Out->bI->ai->Prop where
 | nil {t:bI} {A:ai} : Run P cfg all [] t A [] t A
 | cons {o:Oper} {os:List Oper} {t t1 t' : bI} {A A1 A' : ai} {wd:Bool} {v:KV} {L:List Out}
   (same:∀ i,t1.get i=t.get i)
   (want:(o.guard=none/\wd=true)\/∃ j want d,o.guard=some (j,want)/\(all[j]?).bind (·.dst)=some d/\((∃ b,t.get d=some (.bool b)/\wd=(b==want))\/(∃ l,t.get d=some (.nh l)/\wd=false)))
   (yes:wd=true->az (xO (dp P cfg o.op) t1 A) (v,A1)) (no:wd=false->v=uC/\A1=A)
   (rest:Run P cfg all os (xM t1 o.dst v) A1 L t' A'):Run P cfg all (o::os) t A ((wd,v,A1)::L) t' A'
theorem adN {R:Type} {t:bI} {d:Option Tmp} {want:Bool} {yes no:bI->Option R} {r:R} (h:abb t d want yes no=some r) :
  ∃ d',d=some d'/\((∃ b t',t.get d' = some (.bool b)/\(∀ i,t'.get i=t.get i)/\((b==want)=true/\yes t' = some r\/(b==want)=false/\no t' = some r))\/∃ l,t.get d' = some (.nh l)/\no t=some r):=by
 unfold abb at h;cases d with
 | none=>exact absurd h (by simp)
 | some d=>
  refine ⟨d,rfl,?_⟩;have h:BK.rec (motive:=fun _=>Option R)
   (fun b=>Bool.rec (motive:=fun _=>Option R)
    (Bool.rec (motive:=fun _=>Option R) (yes (t.set (.bool false) d)) (no (t.set (.bool false) d)) want)
    (Bool.rec (motive:=fun _=>Option R) (no (t.set (.bool true) d)) (yes (t.set (.bool true) d)) want) b)
   (no t) none (rl ((t.get d).getD .bx))=some r:=h
  have fA:∀ v,(t.get d).getD .bx=v->v≠.bx->t.get d=some v:=by
   intro v e bA;cases hg:t.get d with
   | none=>rw [hg] at e; exact absurd e.symm bA
   | some u=>rw [hg] at e; simp at e; rw [e]
  cases hb:rl ((t.get d).getD .bx) with
  | no=>rw [hb] at h; exact absurd h (by simp)
  | nh=>
   rw [hb] at h;obtain ⟨l,hl⟩:=U2 hb;exact .inr ⟨l,fA _ hl (by simp),h⟩
  | bool b=>
   rw [hb] at h;refine .inl ⟨b,t.set (.bool b) d,fA _ (zq hb) (by simp),GC hb,?_⟩;cases b <;> cases want
   ·exact .inl ⟨rfl,h⟩
   ·exact .inr ⟨rfl,h⟩
   ·exact .inr ⟨rfl,h⟩
   ·exact .inl ⟨rfl,h⟩
theorem OO {R:Type} {cfg:gf} {cT:rm R} {all:List Oper} {k:bI->ai->Option R} {r:R} : ∀ {os:List Oper} {t:bI} {A:ai},(∀ o∈os,∀ f args,dp P cfg o.op≠.call f args)->RO P cfg cT all k os t A=some r->
  ∃ L t' A',Run P cfg all os t A L t' A'/\k t' A' = some r
 | [],t,A,_,h=>⟨[],t,A,.nil,h⟩
 | o::os,t,A,hn,h=>by
  have h:Qy P cfg cT all o (RO P cfg cT all k os) t A=some r:=h;have hn':=fun q hq=>hn q (rA o hq);unfold Qy at h;cases hg:o.guard with
  | none=>
   rw [hg] at h;obtain ⟨v,A1,h1,h2⟩:=ZF (hn o (by simp)) h;obtain ⟨L,t',A',h3,h4⟩:=OO hn' h2;exact ⟨_,t',A',.cons (fun _=>rfl) (.inl ⟨hg,rfl⟩) (fun _=>h1) (fun e=>by simp at e) h3,h4⟩
  | some p=>
   obtain ⟨j,want⟩:=p;rw [hg] at h;obtain ⟨d,hd,h⟩:=adN h;rcases h with ⟨b,t1,h1,h2,h3⟩ | ⟨l,h1,h2⟩
   ·rcases h3 with ⟨h3,h4⟩ | ⟨h3,h4⟩
    ·obtain ⟨v,A1,h5,h6⟩:=ZF (hn o (by simp)) h4
     obtain ⟨L,t',A',h7,h8⟩:=OO hn' h6;exact ⟨_,t',A',.cons h2 (.inr ⟨j,want,d,hg,hd,.inl ⟨b,h1,h3.symm⟩⟩) (fun _=>h5) (fun e=>by simp at e) h7,h8⟩
    ·obtain ⟨L,t',A',h7,h8⟩:=OO hn' h4
     exact ⟨_,t',A',.cons h2 (.inr ⟨j,want,d,hg,hd,.inl ⟨b,h1,h3.symm⟩⟩) (fun e=>by simp at e) (fun _=>⟨rfl,rfl⟩) h7,h8⟩
   ·obtain ⟨L,t',A',h7,h8⟩:=OO hn' h2
    exact ⟨_,t',A',.cons (fun _=>rfl) (.inr ⟨j,want,d,hg,hd,.inr ⟨l,h1,rfl⟩⟩) (fun e=>by simp at e) (fun _=>⟨rfl,rfl⟩) h7,h8⟩
noncomputable def turns (P:Program) (cfg:gf) (o:Oper) (x:Out):Bool:=x.1&&Nat.ble 3 (jf (dp P cfg o.op))
noncomputable def r8 (S:Nat->Bool):List Oper->List Out->Nat->bI->bI
 | o::os,x::L,i,t=>r8 S os L (i+1) (cond (S i) (xM t o.dst x.2.1) t)
 | _,_,_,t=>t
noncomputable def kU (P:Program) (cfg:gf) (S:Nat->Bool):List Oper->List Out->Nat->ai->ai
 | o::os,x::L,i,A=>kU P cfg S os L (i+1) (cond (S i&&turns P cfg o x) x.2.2 A)
 | _,_,_,A=>A
theorem Bo (t:bI) (dst:Option Tmp) (v:KV) (x:Tmp):(xM t dst v).get x=if dst=some x then some v else t.get x:=by
 cases dst with
 | none=>rfl
 | some d=>
  simp only [xM,Trie.iY,aR];by_cases h:x=d
  ·rw [ax h,ax h.symm]
  ·rw [ae h,ae (Ne.symm h)]
theorem ML (S:Nat->Bool):∀ (os:List Oper) (L:List Out) (k:Nat) (t:bI),r8 S os L (k+1) t=r8 (fun i=>S (i+1)) os L k t
 | [],L,k,t=>by cases L <;> rfl
 | o::os,[],k,t=>rfl
 | o::os,x::L,k,t=>by simp only [r8]; exact ML S os L (k+1) _
theorem MM {cfg:gf} (S:Nat->Bool):∀ (os:List Oper) (L:List Out) (k:Nat) (A:ai),kU P cfg S os L (k+1) A=kU P cfg (fun i=>S (i+1)) os L k A
 | [],L,k,t=>by cases L <;> rfl
 | o::os,[],k,t=>rfl
 | o::os,x::L,k,t=>by simp only [kU]; exact MM S os L (k+1) _
theorem wR {S S' : Nat->Bool} {y:Tmp} : ∀ {os:List Oper} {L:List Out} {k:Nat} {t t' : bI},t.get y=t'.get y->(∀ i o,os[i]? = some o->o.dst=some y->S (k+i)=S' (k+i))->(r8 S os L k t).get y=(r8 S' os L k t').get y
 | [],L,k,t,t',h,_=>by cases L <;> exact h
 | o::os,[],k,t,t',h,_=>h
 | o::os,x::L,k,t,t',h,hs=>by
  simp only [r8];refine wR ?_ fun i o' ho hd=>by have:=hs (i+1) o' (by simpa using ho) hd; rwa [show k+(i+1)=k+1+i by omega] at this
  by_cases hd:o.dst=some y
  ·have:=hs 0 o rfl hd
   rw [p8] at this;rw [this];cases S' k with
   | true=>simp only [ah,Bo,ax hd]
   | false=>exact h
  ·have e:∀ (b:Bool) (u:bI),(cond b (xM u o.dst x.2.1) u).get y=u.get y:=by
    intro b u;cases b with
    | true=>rw [ah,Bo,ae hd]
    | false=>rfl
   rw [e,e]; exact h
theorem abH {S:Nat->Bool} {y:Tmp} : ∀ {os:List Oper} {L:List Out} {k i:Nat} {t:bI} {o:Oper} {x:Out},os[i]? = some o->L[i]? = some x->o.dst=some y->(∀ j q,os[j]? = some q->q.dst=some y->i < j->S (k+j)=false)->
  (r8 (ca S (k+i)) os L k t).get y=some x.2.1
 | [],L,k,i,t,o,x,ho,_,_,_=>by simp at ho
 | q::os,[],k,i,t,o,x,_,hx,_,_=>by simp at hx
 | q::os,u::L,k,0,t,o,x,ho,hx,hd,hs=>by
  simp at ho hx;subst ho hx;simp only [r8,p8];have hk:ca S k k=true:=by simp [ca]
  rw [hk,ah];have:=wR (S:=ca S k) (S':=fun _=>false) (y:=y) (os:=os) (L:=L) (k:=k+1) (t:=xM t q.dst u.2.1) (t':=xM t q.dst u.2.1) rfl (fun j q' hq hqd=>by
   have h1:=hs (j+1) q' (by simpa using hq) hqd (by omega);rw [show k+(j+1)=k+1+j by omega] at h1;simp only [ca,h1,Bool.false_or];cases hb:Nat.beq (k+1+j) k with
   | false=>rfl
   | true=>have:=aE hb; omega)
  rw [this];have Im:∀ (os:List Oper) (L:List Out) (k:Nat) (t:bI),r8 (fun _=>false) os L k t=t:=by
   intro os
   induction os with
   | nil=>intro L k t; cases L <;> rfl
   | cons o os ih=>intro L k t; cases L with
    | nil=>rfl
    | cons x L=>simp only [r8,ay]; exact ih L _ t
  rw [Im,Bo,ax hd]
 | q::os,u::L,k,i+1,t,o,x,ho,hx,hd,hs=>by
  simp only [r8];rw [show k+(i+1)=k+1+i by omega];exact abH (by simpa using ho) (by simpa using hx) hd fun j q' hq hqd aI=>by
   have:=hs (j+1) q' (by simpa using hq) hqd (by omega);rwa [show k+(j+1)=k+1+j by omega] at this
theorem Dh {cfg:gf} {S S' : Nat->Bool} : ∀ {os:List Oper} {L:List Out} {k:Nat} {A:ai},(∀ i o x,os[i]? = some o->L[i]? = some x->turns P cfg o x=true->S (k+i)=S' (k+i))->kU P cfg S os L k A=kU P cfg S' os L k A
 | [],L,k,A,_=>by cases L <;> rfl
 | o::os,[],k,A,_=>rfl
 | o::os,x::L,k,A,h=>by
  simp only [kU];have h0:(S k&&turns P cfg o x)=(S' k&&turns P cfg o x):=by
   cases ht:turns P cfg o x with
   | false=>simp
   | true=>have:=h 0 o x rfl rfl ht; rw [p8] at this; rw [this]
  rw [h0];exact Dh fun i o' x' ho hx ht=>by have:=h (i+1) o' x' (by simpa using ho) (by simpa using hx) ht; rwa [show k+(i+1)=k+1+i by omega] at this
def afy (all:List Oper) (o:Oper) (t:bI) (wd:Bool):Prop:=(o.guard=none/\wd=true)\/∃ j want d,o.guard=some (j,want)/\(all[j]?).bind (·.dst)=some d/\((∃ b,t.get d=some (.bool b)/\wd=(b==want))\/(∃ l,t.get d=some (.nh l)/\wd=false))
theorem U4 {cfg:gf} {o:Oper} {t:bI} {A A1:ai} {v:KV} (h:az (xO (dp P cfg o.op) t A) (v,A1)) (hk:Nat.ble 3 (jf (dp P cfg o.op))=false):A1=A:=by
 generalize dp P cfg o.op=ins at h hk;cases ins with
 | pure f xs=>obtain ⟨u,_,h2⟩:=az.map h; simp at h2; exact h2.2.symm
 | read f xs=>obtain ⟨u,_,h2⟩:=az.map h; simp at h2; exact h2.2.symm
 | act f xs=>exact absurd hk (by simp [jf])
 | look f xs=>obtain ⟨u,_,h2⟩:=az.map h; simp at h2; exact h2.2.symm
 | DT g f xs=>obtain ⟨u,_,h2⟩:=az.map h; simp at h2; exact h2.2.symm
 | DU g f xs=>exact absurd hk (by simp [jf])
 | call f xs=>exact h.elim
 | bad=>exact h.elim
theorem Run.at {cfg:gf} {all:List Oper} : ∀ {os:List Oper} {t t' : bI} {A A' : ai} {L:List Out},Run P cfg all os t A L t' A'->
  L.length=os.length/\(∀ y,t'.get y=(r8 (fun _=>true) os L 0 t).get y)/\A' = kU P cfg (fun _=>true) os L 0 A/\
  ∀ i o x,os[i]? = some o->L[i]? = some x->∃ t1,(∀ y,t1.get y=(r8 (fun j=>Nat.blt j i) os L 0 t).get y)/\afy all o t1 x.1/\(x.1=true->az (xO (dp P cfg o.op) t1 (kU P cfg (fun j=>Nat.blt j i) os L 0 A)) (x.2.1,x.2.2))/\(x.1=false->x.2.1=uC)
 | _,_,_,_,_,_,.nil=>⟨rfl,fun _=>rfl,rfl,fun i o x ho=>by simp at ho⟩
 | o::os,t,t',A,A',(wd,v,A1)::L,.cons (t1:=t1) same want yes no rest=>by
  obtain ⟨h1,h2,h3,h4⟩:=rest.at;have hA1:cond (turns P cfg o (wd,v,A1)) A1 A=A1:=by
   cases ht:turns P cfg o (wd,v,A1) with
   | true=>rfl
   | false=>
    rw [ay];cases wd with
    | false=>exact (no rfl).2.symm
    | true=>exact (U4 (yes rfl) (by simpa [turns] using ht)).symm
  have Lb:∀ y,(xM t1 o.dst v).get y=(xM t o.dst v).get y:=fun y=>by rw [Bo,Bo,same]
  refine ⟨by simp [h1],fun y=>?_,?_,fun i q x hq hx=>?_⟩
  ·rw [h2 y]
   simp only [r8,ah];rw [ML];exact wR (Lb y) fun _ _ _ _=>rfl
  ·rw [h3]
   simp only [kU,uu];rw [MM,hA1]
  ·cases i with
   | zero=>
    simp at hq hx;subst hq hx;have e0:∀ (os:List Oper) (L:List Out) (k:Nat) (t:bI),r8 (fun j=>Nat.blt j 0) os L k t=t:=by
     intro os
     induction os with
     | nil=>intro L k t; cases L <;> rfl
     | cons o os ih=>intro L k t; cases L with
      | nil=>rfl
      | cons x L=>simp only [r8]; exact ih L _ t
    have e1:∀ (os:List Oper) (L:List Out) (k:Nat) (A:ai),kU P cfg (fun j=>Nat.blt j 0) os L k A=A:=by
     intro os
     induction os with
     | nil=>intro L k t; cases L <;> rfl
     | cons o os ih=>intro L k t; cases L with
      | nil=>rfl
      | cons x L=>simp only [kU]; exact ih L _ t
    refine ⟨t1,fun y=>by rw [e0]; exact same y,?_,fun e=>by rw [e1]; exact yes e,fun e=>(no e).1⟩;rcases want with h | ⟨j,wt,d,e2,e3,e4⟩
    ·exact .inl h
    ·exact .inr ⟨j,wt,d,e2,e3,by rw [same]; exact e4⟩
   | succ i=>
    obtain ⟨t2,h5,h6,h7,h8⟩:=h4 i q x (by simpa using hq) (by simpa using hx);have hsh:(fun j=>Nat.blt (j+1) (i+1))=fun j=>Nat.blt j i:=by
     funext j;cases hb:Nat.blt j i with
     | true=>rw [b8] at hb ⊢; omega
     | false=>
      cases hc:Nat.blt (j+1) (i+1) with
      | false=>rfl
      | true=>rw [b8] at hc; rw [show Nat.blt j i=true from by rw [b8]; omega] at hb; simp at hb
    have h01:Nat.blt 0 (i+1)=true:=by rw [b8]; omega
    have eZ:kU P cfg (fun j=>Nat.blt j (i+1)) (o::os) ((wd,v,A1)::L) 0 A=kU P cfg (fun j=>Nat.blt j i) os L 0 A1:=by
     simp only [kU,h01,uu];rw [MM,hA1,hsh]
    refine ⟨t2,fun y=>?_,h6,fun e=>by rw [eZ]; exact h7 e,h8⟩;rw [h5 y];simp only [r8,h01,ah];rw [ML,hsh];exact wR (Lb y) fun _ _ _ _=>rfl
end Go.K
end
section
namespace Go.K
open Go Go.aA
variable {P:Program} {E:Env}
theorem OP {cfg:gf} {all:List Oper} {b:List Nat} {i:Nat} {y:Oper} : ∀ (xs:List Oper) (k:Nat),J8 P cfg all b i y xs k=true->∀ (j:Nat) (x:Oper),xs[j]? = some x->k+j < i->DW P cfg all x y=true->eY b i (k+j)=true\/(Db P cfg all x y=false/\(RP all (k+j) x i y).isSome=true)
 | [],k,_,j,x,hx,_,_=>by simp at hx
 | x0::xs,k,h,0,x,hx,aI,hc=>by
  simp at hx;subst hx;simp only [J8,aj,oa,iA] at h;rcases h.1 with ((h1 | h1) | h1) | h1
  ·have:=cL h1; omega
  ·rw [hc] at h1; simp at h1
  ·exact .inl h1
  ·exact .inr h1
 | x0::xs,k,h,j+1,x,hx,aI,hc=>by
  simp only [J8,aj] at h;have:=OP xs (k+1) h.2 j x (by simpa using hx) (by omega) hc;rwa [show k+1+j=k+(j+1) by omega] at this
theorem I1 {cfg:gf} {all:List Oper} {b:List Nat} : ∀ (os:List Oper) (k:Nat),E6 P cfg all b os k=true->∀ (i:Nat) (o:Oper),os[i]? = some o->J8 P cfg all b (k+i) o all 0=true
 | [],k,_,i,o,ho=>by simp at ho
 | o0::os,k,h,0,o,ho=>by
  simp at ho;subst ho;simp only [E6,aj] at h;exact h.1
 | o0::os,k,h,i+1,o,ho=>by
  simp only [E6,aj] at h;have:=I1 os (k+1) h.2 i o (by simpa using ho);rwa [show k+1+i=k+(i+1) by omega] at this
theorem OQ {cfg:gf} {all:List Oper} {b:List Nat} {i:Nat} {y:Oper} {p:Option Operand×Operand} : ∀ (xs:List Oper) (k j:Nat) (x:Oper),xs[j]? = some x->k+j < i->DW P cfg all x y=true->eY b i (k+j)=false->RP all (k+j) x i y=some p->p∈zn P cfg all b i y xs k
 | [],k,j,x,hx,_,_,_,_=>by simp at hx
 | x0::xs,k,0,x,hx,aI,hm,hb,he=>by
  simp at hx;subst hx;have h1:(Nat.ble i k||!DW P cfg all x0 y||eY b i k)=false:=by
   rw [hm,show eY b i k=false from hb];cases h:Nat.ble i k with
   | false=>rfl
   | true=>have:=cL h; omega
  simp only [zn];rw [h1,ay,show RP all k x0 i y=some p from he];exact List.mem_cons_self
 | x0::xs,k,j+1,x,hx,aI,hm,hb,he=>by
  have e:k+(j+1)=k+1+j:=by omega
  have:=OQ (b:=b) (p:=p) xs (k+1) j x (by simpa using hx) (show k+1+j < i by omega) hm (by rw [<- e]; exact hb) (by rw [<- e]; exact he);simp only [zn];cases (Nat.ble i k||!DW P cfg all x0 y||eY b i k) with
  | true=>exact this
  | false=>
   rw [ay];split
   ·exact rA _ this
   ·exact this
theorem Lx {cfg:gf} {all:List Oper} {b:List Nat} {p:Option Operand×Operand} : ∀ (os:List Oper) (k i:Nat) (y:Oper),os[i]? = some y->p∈zn P cfg all b (k+i) y all 0->p∈Qz P cfg all b os k
 | [],k,i,y,hy,_=>by simp at hy
 | o::os,k,0,y,hy,h=>by
  simp at hy;subst hy;exact List.mem_append_left _ h
 | o::os,k,i+1,y,hy,h=>by
  refine List.mem_append_right _ (Lx os (k+1) i y (by simpa using hy) ?_);rwa [show k+1+i=k+(i+1) by omega]
structure Ly (P:Program) (cfg:gf) (all:List Oper):Prop where
 Uf:iR P all
 kind:∀ o∈all,jf (dp P cfg o.op)<=3
 ord:∀ i j x y,all[i]? = some y->all[j]? = some x->j < i->DW P cfg all x y=true->eY (aC [] all) i j=true\/(Db P cfg all x y=false/\∃ p,RP all j x i y=some p/\p∈DX P cfg all)
 plain:∀ p,p∈DX P cfg all->Ms P cfg all=true
theorem abI {cfg:gf} {all:List Oper} (h:abc P cfg all=true):Ly P cfg all:=by
 unfold abc at h;simp only [aj] at h;refine ⟨zP h.1.1.1,fun o ho=>cL (dS.1 h.1.1.2 o ho),fun i j x y hy hx aI hm=>?_,fun p hp=>?_⟩
 ·have:=I1 all 0 h.1.2 i y hy
  rw [bF] at this;have:=OP all 0 this j x hx (by omega) hm;rw [bF] at this;cases hb:eY (aC [] all) i j with
  | true=>exact .inl rfl
  | false=>
   rcases this with h1 | ⟨h1,h2⟩
   ·rw [hb] at h1; simp at h1
   ·obtain ⟨p,hp⟩:=NB.1 h2
    refine .inr ⟨h1,p,hp,Lx all 0 i y hy ?_⟩;rw [bF];exact OQ all 0 j x hx (by omega) hm (by rw [bF]; exact hb) (by rw [bF]; exact hp)
 ·have h2:=h.2
  simp only [oa] at h2;rcases h2 with h2 | h2
  ·rw [List.isEmpty_iff] at h2
   rw [h2] at hp;simp at hp
  ·exact h2
structure aiR (P:Program) (cfg:gf) (all:List Oper):Prop where
 Uf:iR P all
 xX:∀ {i j:Nat} {x y:Oper},all[i]? = some y->all[j]? = some x->j < i->Db P cfg all x y=true->eY (aC [] all) i j=true
theorem Ly.toT {cfg:gf} {all:List Oper} (hf:Ly P cfg all):aiR P cfg all:=⟨hf.Uf,fun {i j x y} hy hx aI hc=>by
 rcases hf.ord i j x y hy hx aI (by unfold DW; rw [hc]; rfl) with h | ⟨h,_⟩
 ·exact h
 ·rw [hc] at h; simp at h⟩
def OS (P:Program) (cfg:gf) (all:List Oper) (i:Nat):Prop:=∀ j q,all[j]? = some q->Nat.ble 3 (jf (dp P cfg q.op))=true->(j < i->eY (aC [] all) i j=true)/\(i < j->eY (aC [] all) j i=true)
theorem wS {x y:Oper} {p:Option Operand×Operand} (h:Gl x y=some p):(∃ T,y.op = .load T p.2)/\((p.1=none/\J7 x.op=true)\/∃ T a v,p.1=some a/\x.op = .store T a v):=by
 unfold Gl at h;split at h
 ·rename_i a ha
  have hl:∃ T,y.op = .load T a:=by
   unfold afg at ha;split at ha
   ·rename_i T a' e; simp at ha; subst ha; exact ⟨T,e⟩
   ·simp at ha
  cases hs:J7 x.op with
  | true=>
   rw [hs,ah] at h;simp at h;subst h;exact ⟨hl,.inl ⟨rfl,rfl⟩⟩
  | false=>
   rw [hs,ay] at h;split at h
   ·rename_i a2 NW
    simp at h;subst h;refine ⟨hl,.inr ?_⟩;unfold OC at NW;split at NW
    ·rename_i T a3 v e; simp at NW; subst NW; exact ⟨T,_,v,rfl,e⟩
    ·simp at NW
   ·simp at h
 ·simp at h
theorem U5 {all:List Oper} {i j:Nat} {x y:Oper} {p:Option Operand×Operand} (h:RP all j x i y=some p) :
  (Gl x y=some p/\wJ i p.2 all 0=true/\Gk j p.1 all=true)\/(Gl y x=some p/\wJ j p.2 all 0=true/\Gk i p.1 all=true):=by
 unfold RP at h;split at h
 ·rename_i q hq
  cases hb:(wJ i q.2 all 0&&Gk j q.1 all) with
  | false=>rw [hb] at h; simp at h
  | true=>
   rw [hb,ah] at h;simp at h;subst h;simp only [aj] at hb;exact .inl ⟨hq,hb.1,hb.2⟩
 ·split at h
  ·rename_i q hq
   cases hb:(wJ j q.2 all 0&&Gk i q.1 all) with
   | false=>rw [hb] at h; simp at h
   | true=>
    rw [hb,ah] at h;simp at h;subst h;simp only [aj] at hb;exact .inr ⟨hq,hb.1,hb.2⟩
  ·simp at h
theorem B4 {cfg:gf} {o:Oper} {T:TypeId} {a:Operand} (h:o.op = .load T a):jf (dp P cfg o.op)=1:=by rw [h]; rfl
theorem unordered {cfg:gf} {all:List Oper} (hf:Ly P cfg all) {i j:Nat} {o q:Oper} (ho:all[i]? = some o) (hq:all[j]? = some q) (hk:jf (dp P cfg o.op)≠0) (h3:Nat.ble 3 (jf (dp P cfg q.op))=true) :
  ((j < i->eY (aC [] all) i j=true)/\(i < j->eY (aC [] all) j i=true))\/∃ p,p∈DX P cfg all/\Gl q o=some p/\wJ i p.2 all 0=true/\Gk j p.1 all=true:=by
 have pb:Nat.beq (jf (dp P cfg o.op)) 0=false:=by
  cases hb:Nat.beq (jf (dp P cfg o.op)) 0 with
  | false=>rfl
  | true=>exact absurd (aE hb) hk
 have SS:∀ T a,q.op≠.load T a:=fun T a e=>by rw [B4 e] at h3; simp at h3
 rcases Nat.lt_trichotomy j i with h | h | h
 ·rcases hf.ord i j q o ho hq h (by unfold DW; rw [h3,pb]; simp) with h1 | ⟨_,p,h1,h2⟩
  ·exact .inl ⟨fun _=>h1,fun h'=>by omega⟩
  ·rcases U5 h1 with ⟨e1,e2,e3⟩ | ⟨e1,e2,e3⟩
   ·exact .inr ⟨p,h2,e1,e2,e3⟩
   ·obtain ⟨⟨T,e⟩,_⟩:=wS e1
    exact absurd e (SS _ _)
 ·exact .inl ⟨fun h'=>by omega,fun h'=>by omega⟩
 ·rcases hf.ord j i o q hq ho h (by unfold DW; rw [h3,pb]; simp) with h1 | ⟨_,p,h1,h2⟩
  ·exact .inl ⟨fun h'=>by omega,fun _=>h1⟩
  ·rcases U5 h1 with ⟨e1,e2,e3⟩ | ⟨e1,e2,e3⟩
   ·obtain ⟨⟨T,e⟩,_⟩:=wS e1
    exact absurd e (SS _ _)
   ·exact .inr ⟨p,h2,e1,e2,e3⟩
theorem I2 {cfg:gf} {all:List Oper} (hf:Ly P cfg all) {i:Nat} {o:Oper} (ho:all[i]? = some o) (hk:jf (dp P cfg o.op)≠0) (hn:∀ T a,o.op≠.load T a):OS P cfg all i:=fun j q hq h3=>by
 rcases unordered hf ho hq hk h3 with h | ⟨p,_,h,_⟩
 ·exact h
 ·obtain ⟨⟨T,e⟩,_⟩:=wS h
  exact absurd e (hn _ _)
theorem QM {cfg:gf} {o:Oper} (h:jf (dp P cfg o.op)<=3):∀ f args,dp P cfg o.op≠.call f args:=by
 intro f args e;rw [e] at h;simp [jf] at h
theorem U6 {d:Tmp} {l:List Tmp} (h:d∈l):NM (some d) l=true:=by
 simp only [NM,List.any_eq_true];exact ⟨d,h,by simp⟩
theorem pX {x:Tmp} : ∀ {xs:List Operand},Operand.tmp x∈xs->x∈qa xs
 | [],h=>by simp at h
 | y::ys,h=>by
  rcases bd.1 h with h | h
  ·subst h; simp [qa]
  ·have:=pX h
   cases y <;> simp [qa,this]
section
variable {cfg:gf} {all:List Oper} {L:List Out} {t0:bI} {A0:ai}
theorem adO (hf:aiR P cfg all) {S:Nat->Bool} (hc:ji all S) {i:Nat} {o:Oper} (ho:all[i]? = some o) (jF:S i=false) (j5:lh all S i) {y:Tmp} (hy:y∈J6 P cfg all o) :
  (r8 S all L 0 t0).get y=(r8 (fun j=>Nat.blt j i) all L 0 t0).get y:=by
 refine wR rfl fun j q hq hd=>?_;rw [bF];rcases Nat.lt_trichotomy j i with h | h | h
 ·have:eY (aC [] all) i j=true:=hf.xX ho hq h (by
   unfold Db;rw [hd,U6 hy];rfl)
  rw [hc.ready hf.Uf ho j5 j this]
  symm; rw [b8]; exact h
 ·subst h
  rw [jF]
  symm
  cases hb:Nat.blt j j with
  | false=>rfl
  | true=>rw [b8] at hb; omega
 ·have hb:eY (aC [] all) j i=true:=hf.xX hq ho h (by
   unfold Db;rw [hd,U6 hy];simp)
  have:S j=false:=by
   cases hs:S j with
   | false=>rfl
   | true=>have:=hc j i hs hb; rw [jF] at this; simp at this
  rw [this]
  symm
  cases hbb:Nat.blt j i with
  | false=>rfl
  | true=>rw [b8] at hbb; omega
theorem OT (hf:Ly P cfg all) {S:Nat->Bool} (hc:ji all S) {i:Nat} {o:Oper} (ho:all[i]? = some o) (jF:S i=false) (j5:lh all S i) (eZ:OS P cfg all i) :
  kU P cfg S all L 0 A0=kU P cfg (fun j=>Nat.blt j i) all L 0 A0:=by
 refine Dh fun j q x hq hx ht=>?_;rw [bF];have h3:Nat.ble 3 (jf (dp P cfg q.op))=true:=by unfold turns at ht; simp only [aj] at ht; exact ht.2
 rcases Nat.lt_trichotomy j i with h | h | h
 ·have:eY (aC [] all) i j=true:=(eZ j q hq h3).1 h
  rw [hc.ready hf.Uf ho j5 j this]
  symm; rw [b8]; exact h
 ·subst h
  rw [jF]
  symm
  cases hb:Nat.blt j j with
  | false=>rfl
  | true=>rw [b8] at hb; omega
 ·have hb:eY (aC [] all) j i=true:=(eZ j q hq h3).2 h
  have:S j=false:=by
   cases hs:S j with
   | false=>rfl
   | true=>have:=hc j i hs hb; rw [jF] at this; simp at this
  rw [this]
  symm
  cases hbb:Nat.blt j i with
  | false=>rfl
  | true=>rw [b8] at hbb; omega
theorem abJ (hf:aiR P cfg all) {S:Nat->Bool} (hc:ji all S) {i:Nat} {o:Oper} {x:Out} (ho:all[i]? = some o) (hx:L[i]? = some x) (jF:S i=false) (y:Tmp) :
  (r8 (ca S i) all L 0 t0).get y=(xM (r8 S all L 0 t0) o.dst x.2.1).get y:=by
 rw [Bo];by_cases hd:o.dst=some y
 ·rw [ax hd]
  have:=abH (S:=S) (y:=y) (os:=all) (L:=L) (k:=0) (i:=i) (t:=t0) ho hx hd (fun j q hq hqd aI=>by
   rw [bF];have hb:eY (aC [] all) j i=true:=hf.xX hq ho aI (by
    unfold Db;rw [hqd,hd];simp [y9])
   cases hs:S j with
   | false=>rfl
   | true=>have:=hc j i hs hb; rw [jF] at this; simp at this)
  rw [bF] at this;exact this
 ·rw [ae hd]
  refine wR rfl fun j q hq hqd=>?_;rw [bF];have bA:j≠i:=by
   intro e;subst e;rw [ho] at hq;simp at hq;subst hq;exact hd hqd
  unfold ca;have:Nat.beq j i=false:=by
   cases hb:Nat.beq j i with
   | false=>rfl
   | true=>exact absurd (aE hb) bA
  rw [this,Bool.or_false]
theorem uF {S:Nat->Bool} {i:Nat} {o:Oper} {x:Out} (ho:all[i]? = some o) (hx:L[i]? = some x) (ht:turns P cfg o x=false):kU P cfg (ca S i) all L 0 A0=kU P cfg S all L 0 A0:=by
 refine Dh fun j q y hq hy hty=>?_;rw [bF];have bA:j≠i:=by
  intro e;subst e;rw [ho] at hq; rw [hx] at hy;simp at hq hy;subst hq hy;rw [ht] at hty; simp at hty
 unfold ca;have:Nat.beq j i=false:=by
  cases hb:Nat.beq j i with
  | false=>rfl
  | true=>exact absurd (aE hb) bA
 rw [this,Bool.or_false]
theorem abK {i:Nat} {o:Oper} {x:Out} (ho:all[i]? = some o) (hx:L[i]? = some x) (ht:turns P cfg o x=true):kU P cfg (fun j=>Nat.blt j (i+1)) all L 0 A0=x.2.2:=by
 have key:∀ (os:List Oper) (L:List Out) (k i:Nat) (A:ai) (o:Oper) (x:Out),os[i]? = some o->L[i]? = some x->turns P cfg o x=true->kU P cfg (fun j=>Nat.blt j (k+i+1)) os L k A=x.2.2:=by
  intro os
  induction os with
  | nil=>intro L k i A o x ho; simp at ho
  | cons q os ih=>
   intro L k i A o x ho hx ht;cases L with
   | nil=>simp at hx
   | cons u L=>
    simp only [kU];have aI:Nat.blt k (k+i+1)=true:=by rw [b8]; omega
    rw [aI,uu];cases i with
    | zero=>
     simp at ho hx;subst ho hx;rw [ht,ah];have:∀ (os:List Oper) (L:List Out) (m:Nat) (A:ai),k+1<=m->kU P cfg (fun j=>Nat.blt j (k+0+1)) os L m A=A:=by
      intro os
      induction os with
      | nil=>intro L m A _; cases L <;> rfl
      | cons q os ih=>
       intro L m A hm;cases L with
       | nil=>rfl
       | cons u L=>
        simp only [kU];have:Nat.blt m (k+0+1)=false:=by
         cases hb:Nat.blt m (k+0+1) with
         | false=>rfl
         | true=>rw [b8] at hb; omega
        rw [this,Bool.false_and,ay];exact ih L _ A (by omega)
     exact this os L (k+1) _ (ao _)
    | succ i=>
     have:=ih L (k+1) i (cond (turns P cfg q u) u.2.2 A) o x (by simpa using ho) (by simpa using hx) ht;rwa [show k+1+i+1=k+(i+1)+1 by omega] at this
 have:=key all L 0 i A0 o x ho hx ht;rwa [bF] at this
theorem adP (hf:Ly P cfg all) {S:Nat->Bool} (hc:ji all S) {i:Nat} {o:Oper} {x:Out} (ho:all[i]? = some o) (hx:L[i]? = some x) (jF:S i=false) (j5:lh all S i) (ht:turns P cfg o x=true) :
  kU P cfg (ca S i) all L 0 A0=x.2.2:=by
 have h3:Nat.ble 3 (jf (dp P cfg o.op))=true:=by unfold turns at ht; simp only [aj] at ht; exact ht.2
 have hk:jf (dp P cfg o.op)≠0:=by have:=cL h3; omega
 have h1:kU P cfg (ca S i) all L 0 A0=kU P cfg (fun j=>Nat.blt j (i+1)) all L 0 A0:=by
  refine Dh fun j q y hq hy hty=>?_;rw [bF];have hq3:Nat.ble 3 (jf (dp P cfg q.op))=true:=by unfold turns at hty; simp only [aj] at hty; exact hty.2
  have eZ:OS P cfg all i:=I2 hf ho hk fun T a e=>by rw [B4 e] at h3; simp at h3
  rcases Nat.lt_trichotomy j i with h | h | h
  ·have:eY (aC [] all) i j=true:=(eZ j q hq hq3).1 h
   have:=hc.ready hf.Uf ho j5 j this;unfold ca;rw [this,Bool.true_or]
   symm; rw [b8]; omega
  ·subst h
   have:ca S j j=true:=by simp [ca]
   rw [this]
   symm; rw [b8]; omega
  ·have hb:eY (aC [] all) j i=true:=(eZ j q hq hq3).2 h
   have:S j=false:=by
    cases hs:S j with
    | false=>rfl
    | true=>have:=hc j i hs hb; rw [jF] at this; simp at this
   unfold ca;have bA:Nat.beq j i=false:=by
    cases hb:Nat.beq j i with
    | false=>rfl
    | true=>have:=aE hb; omega
   rw [this,bA]
   symm
   cases hbb:Nat.blt j (i+1) with
   | false=>rfl
   | true=>rw [b8] at hbb; omega
 rw [h1];exact abK ho hx ht
end
theorem WZ {all:List Oper} {o:Oper} {j:Nat} {want:Bool} {d:Tmp} (hg:o.guard=some (j,want)) (hd:(all[j]?).bind (·.dst)=some d):d∈vD all o:=by
 unfold vD;rw [hg];simp [hd]
theorem abL {all:List Oper} {o:Oper} {t t1:bI} {wd:Bool} {N:Nat} {ρ:Ren} {a:Act} (ht:jD P E ρ t N a) (hl:∀ y∈vD all o,t1.get y=t.get y) (h:afy all o t1 wd):Region.wanted o (yielded ⟨all⟩ a.tmps)=wd:=by
 rcases h with ⟨hg,rfl⟩ | ⟨j,want,d,hg,hd,h⟩
 ·unfold Region.wanted
  rw [hg]
 ·have zM:=hl d (WZ hg hd)
  have uc:=ht.val d;unfold Region.wanted;rw [hg];simp only;unfold yielded;have e:(⟨all⟩:Array Oper)[j]? = all[j]?:=by simp
  rw [e,hd];simp only [cA];rcases h with ⟨b,h1,rfl⟩ | ⟨l,h1,rfl⟩
  ·rw [<- zM,h1] at uc
   have hcv:=uc.dq;cases hc:a.tmps[d]? with
   | none=>simp [dF,hc,undef] at hcv
   | some u=>
    have:u = .bool b:=by rw [<- hcv]; simp [dF,hc]
    subst this;rfl
  ·rw [<- zM,h1] at uc
   obtain ⟨u,h2,h3⟩:=uc;obtain ⟨m,rfl,_⟩:=h2.ID;obtain ⟨m',h4,_⟩:=h3.BD;cases hc:a.tmps[d]? with
   | none=>rfl
   | some u=>
    have:u = .tuple m':=by rw [<- h4]; simp [dF,hc]
    subst this;rfl
theorem aiS {t t1:bI} {N:Nat} {ρ:Ren} {a:Act} (ht:jD P E ρ t N a) {x:Operand} (h:∀ y,x = .tmp y->t1.get y=t.get y):VC P E ρ (nM t1 x) (a.eval x):=by
 have:=ht.ev x;cases x with
 | tmp y=>simp only [nM] at this ⊢; rw [h y rfl]; exact this
 | const v=>exact this
 | global g=>exact this
 | func f=>exact this
theorem aiT {cfg:gf} {o:Oper} {t:bI} {A A1 A' : ai} {v:KV} (h:az (xO (dp P cfg o.op) t A) (v,A1)) (hk:jf (dp P cfg o.op)=0):az (xO (dp P cfg o.op) t A') (v,A'):=by
 generalize dp P cfg o.op=ins at h hk;cases ins with
 | pure f xs=>obtain ⟨u,h1,h2⟩:=az.map h; simp at h2; obtain ⟨rfl,_⟩:=h2; exact h1.wQ
 | read f xs=>simp [jf] at hk
 | act f xs=>simp [jf] at hk
 | look f xs=>obtain ⟨u,h1,h2⟩:=az.map h; simp at h2; obtain ⟨rfl,_⟩:=h2; exact h1.wQ
 | DT g f xs=>obtain ⟨u,h1,h2⟩:=az.map h; simp at h2; obtain ⟨rfl,_⟩:=h2; exact h1.wQ
 | DU g f xs=>simp [jf] at hk
 | call f xs=>exact h.elim
 | bad=>exact h.elim
theorem MN {cfg:gf} {S:Nat->Bool} (h:∀ i,S i=false):∀ {os:List Oper} {L:List Out} {k:Nat} {A:ai},kU P cfg S os L k A=A
 | [],L,k,A=>by cases L <;> rfl
 | o::os,[],k,A=>rfl
 | o::os,x::L,k,A=>by simp only [kU]; rw [h,Bool.false_and,ay]; exact MN h
theorem U7 {S:Nat->Bool} (h:∀ i,S i=false):∀ {os:List Oper} {L:List Out} {k:Nat} {t:bI},r8 S os L k t=t
 | [],L,k,A=>by cases L <;> rfl
 | o::os,[],k,A=>rfl
 | o::os,x::L,k,A=>by simp only [r8]; rw [h,ay]; exact U7 h
theorem aiU {A:ai} {o:gJ} {b:Nat} (hb:b < A.next) (cs:List KV) (e:Nat):A.get b=some (.row cs e)↔(A.new o).get b=some (.row cs e):=by
 rw [ai.cV,ae (by omega)]
theorem I3 {A:ai} {o:gJ} {b c:Nat} (h:b≠c\/((∀ cs e,A.get b≠some (.row cs e))/\∀ cs e,o≠.row cs e)) (cs:List KV) (e:Nat):A.get b=some (.row cs e)↔(A.put c o).get b=some (.row cs e):=by
 rw [ai.b6];by_cases SK:b=c
 ·rw [ax SK]
  rcases h with h | ⟨h1,h2⟩
  ·exact absurd SK h
  ·exact ⟨fun q=>absurd q (h1 _ _),fun q=>absurd (by simpa using q) (h2 cs e)⟩
 ·rw [ae SK]
def Lz (A A' : ai):Prop:=A.next<=A'.next/\∀ b,b < A.next->∀ cs e,A.get b=some (.row cs e)↔A'.get b=some (.row cs e)
theorem Bp {A:ai} {o:gJ} : Lz A (A.new o):=⟨by simp,fun _ hb cs e=>aiU hb cs e⟩
theorem Kd {A:ai} {c:Nat} {o o' : gJ} (hc:A.get c=some o') (h' : ∀ cs e,o'≠.row cs e) (h:∀ cs e,o≠.row cs e):Lz A (A.put c o):=⟨by simp,fun b _ cs e=>by
 by_cases SK:b=c
 ·subst SK
  exact I3 (.inr ⟨fun cs e q=>by rw [hc] at q; simp at q; exact h' cs e q,h⟩) cs e
 ·exact I3 (.inl SK) cs e⟩
theorem Lz.trans {A B C:ai} (h:Lz A B) (k:Lz B C):Lz A C:=⟨dx h.1 k.1,fun b hb cs e=>(h.2 b hb cs e).trans (k.2 b (dG hb h.1) cs e)⟩
theorem GD {e sz b n f m:Nat} {base new:List KV} {ab an:Nat->KV} {A A' : ai} {v:KV} {more:Bool} (h:az (OA e sz b n base ab A f m new an more) (v,A')):A' = A.put f (.aF (n+m) sz):=by
 obtain ⟨_,h⟩:=az.iJ h;simp only [bG] at h;exact h.2.symm
theorem OU {e b n m:Nat} {base new:List KV} {ab an:Nat->KV} {A A' : ai} {v:KV} {more:Bool} (h:az (Th e b n base ab A m new an more) (v,A')):∃ o,A' = A.new (.arr o):=by
 obtain ⟨_,h⟩:=az.iJ h;simp only [bG] at h;exact ⟨_,h.2.symm⟩
theorem ZI {e sz b:Nat} {A A' : ai} {xs:List KV} {v:KV} (h:az (Iy e sz b A xs) (v,A')):Lz A A':=by
 unfold Iy at h;split at h
 ·obtain ⟨_,h⟩:=az.cond h
  rw [GD h];exact Bp.trans (Kd (o':=.aF 0 sz) (by simp) (by simp) (by simp))
 ·obtain ⟨_,h⟩:=az.cond h
  rw [GD h];exact Bp.trans (Kd (o':=.aF 0 sz) (by simp) (by simp) (by simp))
 ·split at h
  ·rename_i hf
   obtain ⟨_,h⟩:=az.cond h;rw [GD h];exact Kd hf (by simp) (by simp)
  ·exact h.elim
 ·exact h.elim
theorem LB {e b:Nat} {A A' : ai} {xs:List KV} {v:KV} (h:az (Bn e b A xs) (v,A')):Lz A A':=by
 unfold Bn at h;split at h
 ·obtain ⟨_,h⟩:=az.cond h
  obtain ⟨o,rfl⟩:=OU h;exact Bp
 ·split at h
  ·rename_i hf
   obtain ⟨_,h⟩:=az.cond h;obtain ⟨o,rfl⟩:=OU h;exact (Kd hf (by simp) (by simp)).trans Bp
  ·exact h.elim
 ·exact h.elim
theorem W0 {e sz b:Nat} {mt:Bool} {A A' : ai} {xs:List KV} {v:KV} (h:az (E4 e sz b mt A xs) (v,A')):Lz A A':=by
 unfold E4 at h;split at h
 ·split at h
  ·rename_i y' _
   revert h
   cases aiB _ with
   | true=>exact fun h=>LB h
   | false=>
    cases mt with
    | true=>exact fun h=>LB h
    | false=>exact fun h=>ZI h
  ·exact h.elim
 ·exact h.elim
theorem ag1 {c:Bool} {i:oV} {t:bI} {A:ai} {x:KV×ai} (h:az (xO (cond c i .bad) t A) x):az (xO i t A) x:=by
 cases c with
 | true=>exact h
 | false=>exact h.elim
theorem U8 {cfg:gf} {o:Oper} {t:bI} {A A' : ai} {v:KV} (hs:J7 o.op=true) (h:az (xO (dp P cfg o.op) t A) (v,A')):Lz A A':=by
 revert hs h
 cases YA:o.op <;> intro hs h <;> simp [J7] at hs
 ·rename_i T
  have h:az (xO (pd P T) t A) (v,A'):=h;unfold pd at h;split at h
  ·rename_i z _
   cases hb:(flat z&&z.cells.toList.all scalar&&jk (fC z).cells) with
   | false=>rw [hb] at h; exact h.elim
   | true=>
    rw [hb,ah] at h;have h:(KV.ptr A.next 0,A.new (.row (fC z).cells (uY P T)))=(v,A'):=h;simp only [bG] at h;rw [<- h.2];exact Bp
  ·exact h.elim
 ·rename_i T x
  have h:az (aa7 (uY P T) A [nM t x]) (v,A'):=h;unfold aa7 at h;simp only at h;obtain ⟨_,h⟩:=az.cond h;have h:(KV.ptr A.next 0,A.new (.row (nM t x).cells (uY P T)))=(v,A'):=h;simp only [bG] at h;rw [<- h.2];exact Bp
 ·rename_i c
  split at hs
  ·rename_i hc
   have h:az (xO (pf P cfg c) t A) (v,A'):=h;unfold pf at h;rw [hc] at h;simp only [wI] at h;unfold Da at h;split at h
   ·split at h
    ·split at h
     ·split at h
      ·exact W0 (ag1 h)
      ·exact h.elim
     ·exact h.elim
    ·exact h.elim
   ·exact h.elim
  ·simp at hs
theorem RZ {cfg:gf} {o:Oper} {T:TypeId} {a x:Operand} {t:bI} {A A' : ai} {v:KV} (ho:o.op = .store T a x) (h:az (xO (dp P cfg o.op) t A) (v,A')) :
  A'.next=A.next/\∀ b,((∃ b2 off,nM t a = .ptr b2 off/\b≠b2)\/∃ U Tc c i k,nM t a = .ap U Tc c i k)->∀ cs e,A.get b=some (.row cs e)↔A'.get b=some (.row cs e):=by
 rw [ho] at h;have h:az (Oz P T A [nM t a,nM t x]) (v,A'):=h;unfold Oz at h;split at h
 ·rename_i c off w heq
  simp only [List.cons.injEq,and_true] at heq;obtain ⟨_,h⟩:=az.cond h;split at h
  ·split at h
   ·have h:(uC,_)=(v,A'):=h
    simp only [bG] at h;rw [<- h.2];refine ⟨rfl,fun b hb cs e=>I3 (.inl ?_) cs e⟩;rcases hb with ⟨b2,aiO,h1,h2⟩ | ⟨U,Tc,c',i,k,h1⟩
    ·rw [heq.1] at h1; simp at h1; rw [h1.1]; exact h2
    ·rw [heq.1] at h1; simp at h1
   ·exact h.elim
  ·exact h.elim
 ·rename_i U Tc c i k w heq
  split at h
  ·rename_i hA
   obtain ⟨_,h⟩:=az.cond h;split at h
   ·have h:(uC,_)=(v,A'):=h
    simp only [bG] at h;rw [<- h.2];refine ⟨rfl,fun b _ cs e=>?_⟩;by_cases SK:b=c
    ·subst SK
     exact I3 (.inr ⟨fun cs e q=>by rw [hA] at q; simp at q,by simp⟩) cs e
    ·exact I3 (.inl SK) cs e
   ·exact h.elim
  ·exact h.elim
 ·exact h.elim
theorem MO {t:bI} {nx:Nat} : ∀ {l:List (Option Operand×Operand)},Mr t nx l=true->∀ p∈l,E5 t nx p=true
 | [],_,p,hp=>by simp at hp
 | q::l,h,p,hp=>by
  have h:Bool.rec (motive:=fun _=>Bool) false (Mr t nx l) (E5 t nx q)=true:=h;cases hq:E5 t nx q with
  | false=>rw [hq] at h; simp at h
  | true=>
   rw [hq] at h;rcases bd.1 hp with rfl | hp
   ·exact hq
   ·exact MO h p hp
theorem R3 {i:Nat} {x:Tmp} : ∀ (os:List Oper) (k:Nat),wJ i (.tmp x) os k=true->∀ j o,os[j]? = some o->i<=k+j->o.dst≠some x
 | [],k,_,j,o,ho,_=>by simp at ho
 | q::os,k,h,0,o,ho,hle=>by
  simp at ho;subst ho;simp only [wJ,aj,oa,iA] at h;rcases h.1 with h1 | h1
  ·rw [b8] at h1; omega
  ·intro e
   rw [e,U6 (by simp [qa])] at h1;simp at h1
 | q::os,k,h,j+1,o,ho,hle=>by
  simp only [wJ,aj] at h;exact R3 os (k+1) h.2 j o (by simpa using ho) (by omega)
section
variable {cfg:gf} {all:List Oper} {L:List Out} {t0:bI} {A0:ai}
theorem afz {tn t1:bI} {i:Nat} {x:Operand} (MK:∀ y,tn.get y=(r8 (fun _=>true) all L 0 t0).get y) (AU:∀ y,t1.get y=(r8 (fun j=>Nat.blt j i) all L 0 t0).get y) (h:wJ i x all 0=true):nM tn x=nM t1 x:=by
 cases x with
 | tmp y=>
  simp only [nM];rw [MK y,AU y,wR (S':=fun j=>Nat.blt j i) rfl fun j o ho hd=>?_];rw [bF]
  symm
  rw [b8];refine Nat.lt_of_not_le fun hle=>?_;exact R3 all 0 h j o ho (by omega) hd
 | const v=>rfl
 | global g=>rfl
 | func f=>rfl
theorem abM (j:Nat):(∃ q x,all[j]? = some q/\L[j]? = some x/\turns P cfg q x=true/\kU P cfg (fun k=>Nat.blt k (j+1)) all L 0 A0=x.2.2)\/
  ((∀ q x,all[j]? = some q->L[j]? = some x->turns P cfg q x=false)/\kU P cfg (fun k=>Nat.blt k (j+1)) all L 0 A0=kU P cfg (fun k=>Nat.blt k j) all L 0 A0):=by
 by_cases h:∃ q x,all[j]? = some q/\L[j]? = some x/\turns P cfg q x=true
 ·obtain ⟨q,x,h1,h2,h3⟩:=h
  refine .inl ⟨q,x,h1,h2,h3,?_⟩;have:=abK (A0:=A0) h1 h2 h3;exact this
 ·have hn:∀ q x,all[j]? = some q->L[j]? = some x->turns P cfg q x=false:=fun q x h1 h2=>by
   cases ht:turns P cfg q x with
   | false=>rfl
   | true=>exact absurd ⟨q,x,h1,h2,ht⟩ h
  refine .inr ⟨hn,Dh fun k q x hq hx ht=>?_⟩;rw [bF];have bA:k≠j:=fun e=>by subst e; rw [hn q x hq hx] at ht; simp at ht
  cases hb:Nat.blt k j with
  | true=>rw [b8] at hb ⊢; omega
  | false=>
   cases qg:Nat.blt k (j+1) with
   | false=>rfl
   | true=>
    rw [b8] at qg;have : ¬ k < j:=fun h=>by rw [<- b8,hb] at h; simp at h
    omega
theorem R4 (hf:Ly P cfg all) {S:Nat->Bool} (hc:ji all S):∀ n,∃ m,m<=n/\∀ j q x,j < n->all[j]? = some q->L[j]? = some x->turns P cfg q x=true->S j=Nat.blt j m
 | 0=>⟨0,ao 0,fun j q x hj=>by omega⟩
 | n+1=>by
  obtain ⟨m,hm,h⟩:=R4 hf hc n;by_cases hn:∃ q x,all[n]? = some q/\L[n]? = some x/\turns P cfg q x=true/\S n=true
  ·obtain ⟨q,x,h1,h2,h3,h4⟩:=hn
   have hq3:Nat.ble 3 (jf (dp P cfg q.op))=true:=by unfold turns at h3; simp only [aj] at h3; exact h3.2
   have hk:jf (dp P cfg q.op)≠0:=by have:=cL hq3; omega
   have eZ:=I2 hf h1 hk fun T a e=>by rw [B4 e] at hq3; simp at hq3
   refine ⟨n+1,ao _,fun j q' x' hj h5 h6 h7=>?_⟩;have hb:Nat.blt j (n+1)=true:=by rw [b8]; exact hj
   rw [hb];by_cases U9:j=n
   ·subst U9; exact h4
   ·have anp:Nat.ble 3 (jf (dp P cfg q'.op))=true:=by unfold turns at h7; simp only [aj] at h7; exact h7.2
    exact hc n j h4 ((eZ j q' h5 anp).1 (by omega))
  ·refine ⟨m,by omega,fun j q x hj h5 h6 h7=>?_⟩
   by_cases U9:j=n
   ·subst U9
    have hb:Nat.blt j m=false:=by
     cases hb:Nat.blt j m with
     | false=>rfl
     | true=>rw [b8] at hb; omega
    rw [hb];cases hs:S j with
    | false=>rfl
    | true=>exact absurd ⟨q,x,h5,h6,h7,hs⟩ hn
   ·exact h j q x (by omega) h5 h6 h7
theorem ag2 (hf:Ly P cfg all) {S:Nat->Bool} (hc:ji all S):∃ m,(∀ j q x,all[j]? = some q->L[j]? = some x->turns P cfg q x=true->S j=Nat.blt j m)/\kU P cfg S all L 0 A0=kU P cfg (fun j=>Nat.blt j m) all L 0 A0:=by
 obtain ⟨m,_,h⟩:=R4 (L:=L) hf hc all.length;have h' : ∀ j q x,all[j]? = some q->L[j]? = some x->turns P cfg q x=true->S j=Nat.blt j m:=fun j q x h1 h2 h3=>h j q x (cp.1 h1).1 h1 h2 h3;exact ⟨m,h',Dh fun j q x h1 h2 h3=>by rw [bF]; exact h' j q x h1 h2 h3⟩
def AtK (P:Program) (cfg:gf) (all:List Oper) (L:List Out) (t0:bI) (A0:ai):Prop:=∀ i o x,all[i]? = some o->L[i]? = some x->∃ t1,(∀ y,t1.get y=(r8 (fun j=>Nat.blt j i) all L 0 t0).get y)/\(x.1=true->az (xO (dp P cfg o.op) t1 (kU P cfg (fun j=>Nat.blt j i) all L 0 A0)) (x.2.1,x.2.2))
theorem abN (pQ:AtK P cfg all L t0 A0) (hpl:Ms P cfg all=true):∀ j,A0.next<=(kU P cfg (fun k=>Nat.blt k j) all L 0 A0).next
 | 0=>by rw [MN (fun i=>by
   cases hb:Nat.blt i 0 with
   | false=>rfl
   | true=>rw [b8] at hb; omega)]; exact ao _
 | j+1=>by
  have ih:=abN pQ hpl j;rcases abM (P:=P) (cfg:=cfg) (all:=all) (L:=L) (A0:=A0) j with ⟨q,x,h1,h2,h3,h4⟩ | ⟨_,h4⟩
  ·rw [h4]
   obtain ⟨t1,_,hg⟩:=pQ j q x h1 h2;unfold turns at h3;simp only [aj] at h3;have hg:=hg h3.1;have hp:=dS.1 hpl q (eW h1);simp only [oa,h3.2,Bool.not_true,CU,false_or] at hp;rcases hp with hp | hp
   ·exact dx ih (U8 hp hg).1
   ·obtain ⟨a2,NW⟩:=NB.1 hp
    unfold OC at NW;split at NW
    ·rename_i T a3 v e
     rw [(RZ e hg).1]; exact ih
    ·simp at NW
  ·rw [h4]; exact ih
theorem abO (hf:Ly P cfg all) {S:Nat->Bool} (hc:ji all S) {i:Nat} {o:Oper} {T:TypeId} {a:Operand} (ho:all[i]? = some o) (zO:o.op = .load T a) (jF:S i=false) (j5:lh all S i) (hns : ¬ OS P cfg all i)
  (pQ:AtK P cfg all L t0 A0) {tn:bI} (MK:∀ y,tn.get y=(r8 (fun _=>true) all L 0 t0).get y) (afA:Mr tn A0.next (DX P cfg all)=true)
  {t1:bI} (AU:∀ y,t1.get y=(r8 (fun j=>Nat.blt j i) all L 0 t0).get y) {v:KV} {A1:ai} (hg:az (xO (dp P cfg o.op) t1 (kU P cfg (fun j=>Nat.blt j i) all L 0 A0)) (v,A1)) :
  az (xO (dp P cfg o.op) t1 (kU P cfg S all L 0 A0)) (v,kU P cfg S all L 0 A0):=by
 have hk:jf (dp P cfg o.op)≠0:=by rw [B4 zO]; simp
 have hex:∃ p,p∈DX P cfg all/\p.2=a/\wJ i a all 0=true:=by
  refine Classical.byContradiction fun bA=>hns fun j q hq h3=>?_;rcases unordered hf ho hq hk h3 with h | ⟨p,h1,h2,h3,_⟩
  ·exact h
  ·obtain ⟨⟨T',e⟩,_⟩:=wS h2
   rw [zO] at e;simp only [Op.load.injEq] at e;exact absurd ⟨p,h1,e.2.symm,by rw [e.2]; exact h3⟩ bA
 obtain ⟨p,hp,SM,hnd⟩:=hex;have uc:=afz MK AU hnd;have hpd:=MO afA p hp;have hpl:=hf.plain p hp;rw [zO] at hg ⊢;have anq:∀ A,xO (dp P cfg (.load T a)) t1 A=(Qs P T A [nM t1 a]).map fun v=>(v,A):=fun _=>rfl;rw [anq] at hg ⊢;obtain ⟨u,ye,he⟩:=az.map hg;simp only [bG] at he;obtain ⟨rfl,_⟩:=he;clear hg;have hg:=ye;clear ye;refine az.wQ (f:=fun v=>(v,kU P cfg S all L 0 A0)) ?_;unfold E5 at hpd;rw [SM,uc] at hpd;cases hv:nM t1 a with
 | tp U Tc m k es acc=>rw [hv] at hg; exact hg
 | ptr b off=>
  rw [hv] at hg hpd;simp only [aj] at hpd;have hb:=hpd.1;rw [b8] at hb;have dB:∃ cs e,(kU P cfg (fun j=>Nat.blt j i) all L 0 A0).get b=some (.row cs e):=by
   have hg:az (match HR P T,size? P T with
    | some ag,some n=>match (K.rowAt (kU P cfg (fun j=>Nat.blt j i) all L 0 A0) b).bind fun cs=>r5 n (yf off cs) with
     | some l=>cond ag (.ok (.agg l)) (match l with | [v]=>.ok v | _=>.no)
     | none=>.no
    | _,_=>.no) u:=hg
   split at hg
   ·split at hg
    ·rename_i l hl
     obtain ⟨cs,h1,_⟩:=aO.1 hl;unfold K.rowAt at h1;split at h1
     ·rename_i b5 e h2; exact ⟨b5,e,h2⟩
     ·simp at h1
    ·exact hg.elim
   ·exact hg.elim
  obtain ⟨cs,e,dB⟩:=dB;obtain ⟨m,hm,eZ⟩:=ag2 (L:=L) (A0:=A0) hf hc;have step:∀ k,(∀ q x,all[k]? = some q->L[k]? = some x->turns P cfg q x=true->¬ ((k < i->eY (aC [] all) i k=true)/\(i < k->eY (aC [] all) k i=true)))->
    ((kU P cfg (fun j=>Nat.blt j k) all L 0 A0).get b=some (.row cs e)↔(kU P cfg (fun j=>Nat.blt j (k+1)) all L 0 A0).get b=some (.row cs e)):=by
   intro k Oo;rcases abM (P:=P) (cfg:=cfg) (all:=all) (L:=L) (A0:=A0) k with ⟨q,x,h1,h2,h3,h4⟩ | ⟨_,h4⟩
   ·rw [h4]
    have Zz:=h3;unfold turns at Zz;simp only [aj] at Zz;rcases unordered hf ho h1 hk Zz.2 with h5 | ⟨p',h5,h6,h7,h8⟩
    ·exact absurd h5 (Oo q x h1 h2 h3)
    ·obtain ⟨tk,htk,hgk⟩:=pQ k q x h1 h2
     have hgk:=hgk Zz.1;obtain ⟨⟨T',e1⟩,e2⟩:=wS h6;rw [zO] at e1;simp only [Op.load.injEq] at e1;have abP:=MO afA p' h5;unfold E5 at abP;rw [<- e1.2,uc,hv] at abP;simp only [aj] at abP;rcases e2 with ⟨e2,e3⟩ | ⟨U,a2,v2,e2,e3⟩
     ·exact (U8 e3 hgk).2 b (dG hb (abN pQ hpl k)) cs e
     ·refine (RZ e3 hgk).2 b ?_ cs e
      rw [e2] at abP h8;have L8:=afz MK htk h8;have h9:=abP.2;simp only at h9;rw [L8] at h9;split at h9
      ·rename_i b2 aiO e4
       refine .inl ⟨b2,aiO,e4,fun e5=>?_⟩;subst e5;simp at h9
      ·rename_i U' Tc' c' i' k' e4; exact .inr ⟨_,_,_,_,_,e4⟩
      ·simp at h9
   ·rw [h4]
  have amj:(kU P cfg S all L 0 A0).get b=some (.row cs e):=by
   rw [eZ];rcases Nat.le_total m i with hle | hle
   ·have down:∀ d k,k+d=i->m<=k->(kU P cfg (fun j=>Nat.blt j k) all L 0 A0).get b=some (.row cs e):=by
     intro d
     induction d with
     | zero=>intro k hk _; have:k=i:=by omega
             rw [this]; exact dB
     | succ d ih=>
      intro k hk KG;refine (step k fun q x h1 h2 h3 Ov=>?_).2 (ih (k+1) (by omega) (by omega));have h4:=hm k q x h1 h2 h3;have h5:S k=true:=hc.ready hf.Uf ho j5 k (Ov.1 (by omega));rw [h5] at h4;have h4:=h4.symm;rw [b8] at h4;omega
    exact down (i - m) m (by omega) (ao m)
   ·have up:∀ d,i+d<=m->(kU P cfg (fun j=>Nat.blt j (i+d)) all L 0 A0).get b=some (.row cs e):=by
     intro d
     induction d with
     | zero=>intro _; exact dB
     | succ d ih=>
      intro hd;refine (step (i+d) fun q x h1 h2 h3 Ov=>?_).1 (ih (by omega));have h4:=hm (i+d) q x h1 h2 h3;have h5:Nat.blt (i+d) m=true:=by rw [b8]; omega
      rw [h5] at h4;by_cases hd0:d=0
      ·subst hd0
       rw [p8] at h4;rw [jF] at h4; simp at h4
      ·have:=hc (i+d) i h4 (Ov.2 (by omega))
       rw [jF] at this; simp at this
    have:=up (m - i) (by omega);rwa [show i+(m - i)=m by omega] at this
  have zM:K.rowAt (kU P cfg S all L 0 A0) b=K.rowAt (kU P cfg (fun j=>Nat.blt j i) all L 0 A0) b:=by
   unfold K.rowAt;rw [dB,amj]
  show az (match HR P T,size? P T with
    | some ag,some n=>match (K.rowAt (kU P cfg S all L 0 A0) b).bind fun cs=>r5 n (yf off cs) with
     | some l=>cond ag (.ok (.agg l)) (match l with | [v]=>.ok v | _=>.no)
     | none=>.no
    | _,_=>.no) u
  rw [zM];exact hg
 | _=>rw [hv] at hpd; simp at hpd
end
theorem W6 {R:Type} {cfg:gf} {cT:rm R} (e8:oW P cfg.pc) (hm:P.follows .mixedOrders=true) {id:Nat} {all:List Oper} {N base:Nat} (Qo:all.all (tF N)=true) {k:bI->ai->Option R} {r:R} {t:bI} {A:ai} {B:St} {ρ:Ren} {a:Act} {w:World} {Q:Exit->Act->World->Prop}
  (Ov:abc P cfg all=true) (h:RO P cfg cT all (fun t' A'=>Bool.rec (motive:=fun _=>Option R) none (k t' A') (Mr t' A.next (DX P cfg all))) all t A=some r) (ht:jD P E ρ t N a) (hj:KJ P E A B ρ base w)
  (hq:∀ t' E' A' B' ak a' w',k t' A' = some r->jD P E' ak t' N a'->a'.defers=a.defers->Ev P base E A B ρ w E' A' B' ak w'->Q .normal a' w'):(Code.region id ⟨all⟩ true).wp P Q a w:=by
 have hf:=abI Ov;obtain ⟨L,tn,An,kx,hk⟩:=OO (fun o ho f args=>QM (hf.kind o ho) f args) h;obtain ⟨hlen,MK,hAn,pQ⟩:=kx.at;have hdk:Mr tn A.next (DX P cfg all)=true/\k tn An=some r:=by
  cases hd:Mr tn A.next (DX P cfg all) with
  | false=>simp only [hd] at hk; exact absurd hk (by simp)
  | true=>simp only [hd] at hk; exact ⟨rfl,hk⟩
 obtain ⟨afA,hk⟩:=hdk;have anr:AtK P cfg all L t A:=fun i o x ho hx=>by obtain ⟨t1,q1,_,q3,_⟩:=pQ i o x ho hx; exact ⟨t1,q1,q3⟩
 have aiV:Ev P base E A B ρ w E A B ρ w.drew:=(cE.refl hj.k).ev (cq.drew hj.s);refine wp_region_any hm ?_;show wpAny P .any ⟨all⟩ Q all.length (Array.replicate all.length false) a w.drew;have Im:∀ i,(Array.replicate all.length false).getD i false=false:=by
  intro i;rw [dF,Array.getElem?_replicate];split <;> rfl
 let Inv:(Nat->Bool)->Act->World->Prop:=fun S a' w'=>∃ E' B' ak,a'.defers=a.defers/\Ev P base E A B ρ w.drew E' (kU P cfg S all L 0 A) B' ak w'/\jD P E' ak (r8 S all L 0 t) N a'
 refine Od hf.Uf Inv ?_ ?_ ?_ all.length _ a w.drew (by simp) ?_ (fun i j hi _=>by
   have h2:(Array.replicate all.length false).getD i false=true:=hi;rw [Im] at h2; simp at h2) ⟨E,B,ρ,rfl,?_,?_⟩
 ·
  rintro S S' a' w' hSS ⟨E',B',ak,h1,h2,h3⟩;have e1:kU P cfg S all L 0 A=kU P cfg S' all L 0 A:=Dh fun i o x ho _ _=>by rw [bF]; exact hSS i (cp.1 ho).1
  refine ⟨E',B',ak,h1,by rw [<- e1]; exact h2,h3.same fun y=>?_⟩;exact wR rfl fun i o ho _=>by rw [bF]; exact (hSS i (cp.1 ho).1).symm
 ·
  rintro S a' w' i o ⟨E',B',ak,h1,h2,h3⟩ hc ho jF j5 _;have hi:i < L.length:=by rw [hlen]; exact (cp.1 ho).1
  have hx:L[i]? = some L[i]:=cl hi;obtain ⟨t1,AU,hw,ans,Oo⟩:=pQ i o L[i] ho hx;have aiW:∀ y∈J6 P cfg all o,t1.get y=(r8 S all L 0 t).get y:=fun y hy=>by rw [AU y,adO hf.toT hc ho jF j5 hy]
  have adu:=abL h3 (fun y hy=>aiW y (by unfold J6; exact List.mem_append_left _ hy)) hw;have pY:∀ d,o.dst=some d->d < N:=by
   intro d ed;have:=dS.1 Qo o (eW ho);unfold tF at this;rw [ed] at this;simp only at this;rw [b8] at this;exact this
  have hoA:(⟨all⟩:Array Oper)[i]? = some o:=by simpa using ho
  unfold wpOp;rw [hoA];simp only [adu];cases MG:L[i].1 with
  | false=>
   simp only [CU,if_false];have hv:=Oo MG;refine ⟨E',B',ak,by rw [put_defers]; exact h1,?_,?_⟩
   ·rw [uF ho hx (by unfold turns; rw [MG]; rfl)]
    exact h2
   ·refine (h3.put pY VC.undef).same fun y=>?_
    rw [abJ hf.toT hc ho hx jF y,hv]
  | true=>
   simp only [if_true];refine .inl ?_;have hg:=ans MG;have hgS:∃ A1,az (xO (dp P cfg o.op) t1 (kU P cfg S all L 0 A)) (L[i].2.1,A1)/\kU P cfg (ca S i) all L 0 A=A1:=by
    by_cases oJ:jf (dp P cfg o.op)=0
    ·refine ⟨_,aiT hg oJ,uF ho hx ?_⟩
     unfold turns;rw [oJ,show Nat.ble 3 0=false from rfl,Bool.and_false]
    ·by_cases eZ:OS P cfg all i
     ·rw [OT (L:=L) (A0:=A) hf hc ho jF j5 eZ]
      refine ⟨_,hg,?_⟩;cases MK:turns P cfg o L[i] with
      | true=>exact adP hf hc ho hx jF j5 MK
      | false=>
       have h4:=U4 hg (by simpa [turns,MG] using MK);rw [uF ho hx MK,OT (L:=L) (A0:=A) hf hc ho jF j5 eZ,h4]
     ·have hex:∃ T a,o.op = .load T a:=Classical.byContradiction fun bA=>eZ (I2 hf ho oJ fun T a e=>bA ⟨T,a,e⟩)
      obtain ⟨T,a',zO⟩:=hex;refine ⟨_,abO hf hc ho zO jF j5 eZ anr MK afA AU hg,uF ho hx ?_⟩;unfold turns;rw [B4 zO,show Nat.ble 3 1=false from rfl,Bool.and_false]
   obtain ⟨A1,Oy,hA1⟩:=hgS;refine U3 e8 Oy (fun x hxm=>aiS h3 fun y e=>aiW y ?_) h2.kj fun IZ I0 mF v' xZ h4 h5=>?_
   ·unfold J6
    subst e;exact List.mem_append_right _ (pX hxm)
   ·refine ⟨IZ,I0,mF,by rw [put_defers]; exact h1,?_,?_⟩
    ·rw [hA1]; exact h2.trans h5
    ·refine ((h3.mono h5.le (h5.gG.le h2.gG.dI)).put pY h4).same fun y=>?_
     rw [abJ hf.toT hc ho hx jF y]
 ·
  rintro S a' w' gV ⟨E',B',ak,h1,h2,h3⟩;have e1:kU P cfg S all L 0 A=An:=by rw [hAn]; exact Dh fun i o x ho _ _=>by rw [bF]; exact gV i (cp.1 ho).1
  rw [e1] at h2;refine hq tn E' An B' ak a' w' hk (h3.same fun y=>?_) h1 (aiV.trans h2);rw [MK y];exact wR rfl fun i o ho _=>by rw [bF]; exact (gV i (cp.1 ho).1).symm
 ·simp
 ·rw [MN Im]
  exact .refl hj.k aiV.gG.dI
 ·refine ht.same fun y=>?_
  rw [U7 Im]
end Go.K
end
section
namespace Go.K
open Go Go.aA
variable {P:Program} {E:Env}
structure Fr (E:Env) (A:ai) (B:St) (b0 y:Nat):Prop where
 lo:b0<=y
 hi:y < B.next
 un:∀ b,E.κ b≠some y
 z:E.z y=none
 xJ : ¬ AT A E B y
end Go.K
end
section
namespace Go.K
open Go Go.aA
variable {P:Program} {E:Env}
theorem ZJ {a:Act} {d:Tmp} {v:Value} (h:d < a.tmps.size):(a.put (some d) v).tmps.getD d undef=v:=by
 simp [Act.put,dF,h]
theorem afB {a:Act} {dst:Option Tmp} {d:Tmp} {v:Value} (h:dst≠some d):(a.put dst v).tmps.getD d undef=a.tmps.getD d undef:=by
 cases dst with
 | none=>rfl
 | some e=>
  have bA:e≠d:=fun q=>h (by rw [q]);simp [Act.put,dF,Array.getElem?_setIfInBounds_ne bA]
end Go.K
end
section
namespace Go.K
open Go Go.aA
variable {P:Program} {E:Env}
section
variable {cfg:gf} {all os:List Oper} {L:List Out} {t0:bI} {m:Nat}
end
end Go.K
end
