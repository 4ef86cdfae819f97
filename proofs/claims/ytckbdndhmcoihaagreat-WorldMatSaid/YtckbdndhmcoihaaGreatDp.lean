/- Part of the proof of WorldMat: the machine, shown to be the model's, and plain models. No conditions. -/
import Derived.Test.YtckbdndhmcoihaaGreatCp
set_option linter.unusedSimpArgs false
set_option linter.unusedVariables false
section
namespace Go.K
open Go Go.aB
variable {P:Program} {E:Env}
def mkE (agg:Bool) (m:List Value):Value:=cond agg (.agg ⟨m⟩) (m.headD .nilIface)
theorem af6 {agg:Bool} {m:List Value} (hs:∀ v∈m,scalar v=true) (h:agg=true\/m.length=1):(mkE agg m).cells.toList=m:=by
 cases agg with
 | true=>rfl
 | false=>
  rcases h with h | h
  ·simp at h
  ·match m,h with
   | [v],_=>
    have:=hs v (by simp);show v.cells.toList = [v];cases v <;> first | rfl | simp [scalar] at this
theorem aaM {l:Lay} {ks:List KV} (h:aK l.ks ks=true) (ha:l.agg=true\/l.ks.length=1):cP l (P0 l.agg ks)=true:=by
 obtain ⟨agg,cs⟩:=l;cases agg with
 | true=>simpa [P0,cP] using h
 | false=>
  simp at ha
  match cs,ha,ks,h with
  | [c],_,[v],h=>
   have hk:kindOk c v=true:=by simpa [aK] using h
   show cP ⟨false,[c]⟩ v=true;cases v with
   | agg cs=>cases c <;> simp [kindOk] at hk
   | nb cs=>cases c <;> simp [kindOk] at hk
   | _=>simpa [cP] using h
  | [c],_,[],h=>simp [aK] at h
  | [c],_,_::_::_,h=>simp [aK] at h
theorem af7 {E:Env} {ks:List KV} {m:List Value} {agg:Bool} (h:bC P E ks m) (ha:agg=true\/m.length=1):VK P E (P0 agg ks) (mkE agg m):=by
 cases agg with
 | true=>exact .rW h
 | false=>
  rcases ha with ha | ha
  ·simp at ha
  ·match m,ha,ks,h with
   | [v],_,ks,h=>
    have hl:=h.length
    match ks,hl,h with
    | [k],_,h=>
     obtain ⟨y,ys,e,h1,_⟩:=h.cons_inv;simp at e;rw [e.1];exact h1
theorem N3 {α:Type} : ∀ {n:Nat} {l vs r:List α},mB n l vs=some r->
  r.length=l.length/\(vs≠[]->n+vs.length<=l.length)/\∀ (i:Nat),r[i]? = if n<=i/\i < n+vs.length then vs[i - n]? else l[i]?
 | 0,l,[],r,h=>by simp [mB] at h; subst h; simp
 | 0,[],_::_,r,h=>by simp [mB] at h
 | 0,x::l,v::vs,r,h=>by
  simp only [mB,cS] at h;obtain ⟨q,hq,rfl⟩:=h;obtain ⟨h1,h2,h3⟩:=N3 hq;refine ⟨by simp [h1],?_,fun i=>?_⟩
  ·intro _
   cases vs with
   | nil=>simp
   | cons u us=>have:=h2 (by simp); simp at this ⊢; omega
  ·cases i with
   | zero=>simp
   | succ i=>simp [h3 i]
 | n+1,[],[],r,h=>by simp [mB] at h; subst h; simp
 | n+1,[],_::_,r,h=>by simp [mB] at h
 | n+1,x::l,vs,r,h=>by
  simp only [mB,cS] at h;obtain ⟨q,hq,rfl⟩:=h;obtain ⟨h1,h2,h3⟩:=N3 hq;refine ⟨by simp [h1],?_,fun i=>?_⟩
  ·intro de
   have:=h2 de;simp at this ⊢;omega
  ·cases i with
   | zero=>simp
   | succ i=>
    simp only [Sz,h3 i];by_cases hc:n<=i/\i < n+vs.length
    ·rw [aY hc,aY (by omega),show i+1 - (n+1)=i - n by omega]
    ·rw [av hc,av (by omega)]
theorem VU (v:KV):∀ (es:List KV) (i j:Nat),(setAt es i v).getD j .ao=if j=i/\i < es.length then v else es.getD j .ao
 | [],0,j=>by simp [setAt]
 | [],_+1,j=>by simp [setAt]
 | e::es,0,0=>by simp [setAt]
 | e::es,0,j+1=>by simp [setAt]
 | e::es,i+1,0=>by simp [setAt]
 | e::es,i+1,j+1=>by
  have:=VU v es i j;simp only [setAt,List.getD_cons_succ,CI];rw [this];by_cases h:j=i/\i < es.length
  ·rw [aY h,aY ⟨by omega,by omega⟩]
  ·rw [av h,av (by omega)]
theorem C4:∀ (n:Nat) (l vs:List Value),n+vs.length<=l.length->∃ r,jK n l vs=some r
 | 0,l,[],_=>⟨l,rfl⟩
 | 0,[],_::_,h=>by simp at h
 | 0,x::l,v::vs,h=>by
  obtain ⟨r,hr⟩:=C4 0 l vs (by simp at h ⊢; omega);exact ⟨v::r,by rw [yu,hr]; rfl⟩
 | n+1,[],[],_=>⟨[],rfl⟩
 | n+1,[],_::_,h=>by simp at h
 | n+1,x::l,vs,h=>by
  obtain ⟨r,hr⟩:=C4 n l vs (by simp at h ⊢; omega);exact ⟨x::r,by rw [uf,hr]; rfl⟩
theorem acm:∀ {ks:List CK} {cs:List KV},cs.length=ks.length->(∀ (i:Nat) c v,ks[i]? = some c->cs[i]? = some v->kindOk c v=true)->aK ks cs=true
 | [],[],_,_=>rfl
 | [],_::_,h,_=>by simp at h
 | _::_,[],h,_=>by simp at h
 | c::ks,v::cs,h,k=>by
  simp only [aK,aA];exact ⟨k 0 c v rfl rfl,acm (by simpa using h) fun i d u e1 e2=>k (i+1) d u (by simpa using e1) (by simpa using e2)⟩
theorem apz {l:Lay} {e:KV} (h:cP l e=true):l.agg=true\/e.cells.length=1:=by
 by_cases ha:∃ cs,e = .agg cs
 ·obtain ⟨cs,rfl⟩:=ha
  simp only [cP,aA] at h;exact .inl h.1
 ·have hc:e.cells = [e]:=by cases e <;> first | rfl | exact absurd ⟨_,rfl⟩ ha
  rw [hc];exact .inr rfl
theorem ar6 {T t:TypeId} {k:Nat} {e vn e2:KV} {u w:Value} (hw:ae1 P T t k) (C2:cP (bB P T) e=true) (hu:VK P E e u) (hvn:cP (bB P t) vn=true) (hvw:VK P E vn w) (h:putCells P T k e vn.cells=some e2) :
  ∃ u2,VK P E e2 u2/\cP (bB P T) e2=true/\u2.cells.size=bD P T/\e2.cells.length=e.cells.length/\(∀ m,u2.cells.toList[m]? = if k<=m/\m < k+w.cells.toList.length then w.cells.toList[m - k]? else u.cells.toList[m]?)/\(w.cells.toList≠[]->k+w.cells.toList.length<=bD P T):=by
 unfold putCells at h;obtain ⟨l1,l2,_⟩:=NZ C2;rw [l1] at h;obtain ⟨nN,h1,rfl⟩:=cS.1 h;obtain ⟨CF,hk2⟩:=jz C2;obtain ⟨S8,Vu⟩:=jz hvn;have hcu:=hu.cells hk2;have hcw:=hvw.cells Vu;obtain ⟨r,h2,h3⟩:=bC.mB h1 hcu hcw;obtain ⟨s1,s2,s3⟩:=jL h2;obtain ⟨q1,q2,q3⟩:=N3 h1;have NK:e.cells.length=bD P T:=tG CF;have BP:=apz C2;have hlr:r.length=e.cells.length:=by rw [s1,hcu.length]
 have ug:aK (bB P T).ks nN=true:=by
  refine acm (by rw [q1]; exact NK) fun i c v e1 e3=>?_;rw [q3 i] at e3;split at e3
  ·rename_i hc
   obtain ⟨x,Hq,hx2⟩:∃ d,(bB P t).ks[i - k]? = some d/\d=c:=by
    have bG:i - k < (bB P t).ks.length:=by rw [<- tG S8]; omega
    refine ⟨_,dr bG,?_⟩;have:=hw.is (i - k) _ (dr bG);rw [show k+(i - k)=i by omega,e1] at this;simpa using this.symm
   subst hx2;obtain ⟨v',h4,h5⟩:=C1 S8 Hq;rw [e3] at h4;simp at h4; subst h4;exact h5
  ·obtain ⟨v',h4,h5⟩:=C1 CF e1
   rw [e3] at h4;simp at h4; subst h4;exact h5
 have auY:cP (bB P T) (P0 (bB P T).agg nN)=true:=aaM ug (by
  rcases BP with h | h
  ·exact .inl h
  ·exact .inr (by rw [<- tG CF]; exact h))
 have hsc:∀ v∈r,scalar v=true:=h3.scalar (Hp ug);have vR:(mkE (bB P T).agg r).cells.toList=r:=af6 hsc (BP.imp id fun h=>by rw [hlr]; exact h);refine ⟨mkE (bB P T).agg r,af7 h3 (BP.imp id fun h=>by rw [hlr]; exact h),auY,?_,?_,fun m=>?_,fun de=>?_⟩
 ·rw [<- Array.length_toList,vR,hlr]; exact NK
 ·exact (tG (jz auY).1).trans NK.symm
 ·rw [vR]; exact s3 m
 ·have:=s2 de
  rw [hcu.length] at this;omega
theorem ar7 {sz i k:Nat} {cs:List Value} {bK:List Value} {u u2:Value} {wl:List Value} (hl:qY sz 0 cs bK) (hi:bK[i]? = some u) (hsu:u.cells.size=sz) (pM:wl≠[]->k+wl.length<=sz) (hg:∀ m,u2.cells.toList[m]? = if k<=m/\m < k+wl.length then wl[m - k]? else u.cells.toList[m]?) (lA:u2.cells.size=sz) :
  ∃ nN,jK (i * sz+k) cs wl=some nN/\qY sz 0 nN (bK.set i u2)/\nN.length=cs.length:=by
 have hex:∃ nN,jK (i * sz+k) cs wl=some nN:=by
  cases hwl:wl with
  | nil=>exact ⟨cs,Qn _ _⟩
  | cons a l=>
   have hf:=pM (by rw [hwl]; simp);rw [hwl] at hf;obtain ⟨_,hc⟩:=hl i u hi;have bG:k+l.length < u.cells.size:=by rw [hsu]; simp at hf; omega
   have:=hc (k+l.length) u.cells[k+l.length] (by simp [bG]);have hb:=(dq.1 this).1;exact C4 _ _ _ (by simp; omega)
 obtain ⟨nN,h1⟩:=hex;obtain ⟨s1,s2,s3⟩:=jL h1;refine ⟨nN,h1,fun j x hx=>?_,s1⟩;rw [List.getElem?_set] at hx;split at hx
 ·rename_i e
  subst e;split at hx
  ·simp at hx; subst hx
   refine ⟨lA,fun m y hy=>?_⟩;have hy' : u2.cells.toList[m]? = some y:=by simpa using hy
   have hm:m < sz:=by rw [<- lA]; exact (vM.1 hy).1
   rw [hg m] at hy';rw [bM,s3];split at hy'
   ·rw [aY (by omega),show i * sz+m - (i * sz+k)=m - k by omega]; exact hy'
   ·rw [av (by omega)]
    have:=(hl i u hi).2 m y (by simpa using hy');rwa [bM] at this
  ·simp at hx
 ·rename_i de
  obtain ⟨h2,h3⟩:=hl j x hx;refine ⟨h2,fun m y hy=>?_⟩;have hm:m < sz:=by rw [<- h2]; exact (vM.1 hy).1
  rw [s3,av]
  ·exact h3 m y hy
  ·rintro ⟨ha,hb⟩
   cases hwl:wl with
   | nil=>rw [hwl] at hb; simp at hb; omega
   | cons a l=>
    have hf:=pM (by rw [hwl]; simp);rcases Nat.lt_or_gt_of_ne de with h | h
    ·have:(i+1) * sz<=j * sz:=Nat.mul_le_mul_right _ h
     rw [Nat.succ_mul] at this;omega
    ·have:(j+1) * sz<=i * sz:=Nat.mul_le_mul_right _ h
     rw [Nat.succ_mul] at this;omega
theorem apA {T:TypeId} {N i:Nat} {es:List KV} {acc:Nat->KV} {e:KV} (ht:ku P T N es acc) (hi:i < N) (he:cP (bB P T) e=true):ku P T N (setAt es i e) (cB acc i e) where
 len:=by rw [Fk]; exact ht.len
 acc j hj:=by
  rw [VU];unfold cB;cases hb:Nat.beq j i with
  | true=>have:=bu hb; rw [aY ⟨this,by rw [<- ht.len]; exact hi⟩]; rfl
  | false=>rw [av (fun h=>by rw [h.1,yZ] at hb; simp at hb)]; exact ht.acc j hj
 typed:=rK fun j x hx=>by
  have hx' : x=(setAt es i e).getD j .ao:=by rw [iL,hx]; rfl
  rw [VU] at hx';split at hx'
  ·rw [hx']; exact he
  ·rename_i de
   have bG:j < es.length:=by rw [<- Fk es i e]; exact (dq.1 hx).1
   exact kv ht.typed (i:=j) (by rw [hx',iL,dr bG]; rfl)
theorem Hr {B:St} {x y lo hi:Nat} {cp:Option (Nat×Nat)} : (B.hO x cp lo hi).get y=B.get y\/∃ g k,cp=some (g,k)/\y∈B.members g/\y≠x/\(B.hO x cp lo hi).get y=some .dead/\∃ cs e own f j,B.get y=some (.row cs e own (some (f,j))):=by
 cases cp with
 | none=>exact .inl rfl
 | some p=>
  obtain ⟨g,k⟩:=p;simp only [St.hO,Eg];by_cases hc:y∈B.members g/\y≠x/\rV (B.get y) (k+lo) (k+hi)=true
  ·refine .inr ⟨g,k,rfl,hc.1,hc.2.1,by rw [aY hc],?_⟩
   have hs:=hc.2.2;unfold rV at hs;split at hs
   ·rename_i cs e own f j hy; exact ⟨cs,e,own,f,j,hy⟩
   ·simp at hs
  ·exact .inl (by rw [av hc])
theorem Mt {B:St} {x lo hi:Nat} {cp:Option (Nat×Nat)} : (B.hO x cp lo hi).members=B.members:=by
 cases cp with
 | none=>rfl
 | some p=>simp [St.hO]
theorem T9 {B:St} {x lo hi:Nat} {cp:Option (Nat×Nat)} : (B.hO x cp lo hi).next=B.next:=by
 cases cp with
 | none=>rfl
 | some p=>simp [St.hO]
theorem dR.aqY {A:aw} {B:St} {b x N lo hi:Nat} {T:TypeId} {es:List KV} {acc:Nat->KV} {bK cs nM:List Value} {cp:Option (Nat×Nat)} (h:fX P E A B) (hb:∃ v,A.get b=some (.arr v)) (hx:E.α b=some (x,nM.length,N))
  (hQ:B.get x=some (.row nM (bD P T) true cp)) (hlen:cs.length=nM.length) (fZ:1<=bD P T) (ht:ku P T N es acc) (VV:bC P E es bK) (hl:qY (bD P T) 0 cs bK) :
  dR P E A B E (A.put b (.arr (.ts T .any N es acc))) ((B.put x (.row cs (bD P T) true cp)).hO x cp lo hi):=by
 obtain ⟨v0,hb⟩:=hb;have uh:AR A E x:=⟨b,v0,_,_,hb,hx⟩
 have lr:((B.put x (.row cs (bD P T) true cp)).hO x cp lo hi).get x=some (.row cs (bD P T) true cp):=by
  rcases Hr (B:=B.put x (.row cs (bD P T) true cp)) (x:=x) (y:=x) (lo:=lo) (hi:=hi) (cp:=cp) with e | ⟨g,k,_,_,h3,_⟩
  ·rw [e]; simp
  ·exact absurd rfl h3
 have hgy:∀ y,y≠x->((B.put x (.row cs (bD P T) true cp)).hO x cp lo hi).get y=B.get y\/(((B.put x (.row cs (bD P T) true cp)).hO x cp lo hi).get y=some .dead/\∃ g k,cp=some (g,k)/\y∈B.members g):=by
  intro y hy;rcases Hr (B:=B.put x (.row cs (bD P T) true cp)) (x:=x) (y:=y) (lo:=lo) (hi:=hi) (cp:=cp) with e | ⟨g,k,h1,h2,_,h4,_⟩
  ·exact .inl (by rw [e,St.cz,av hy])
  ·exact .inr ⟨h4,g,k,h1,by simpa using h2⟩
 have oh:((B.put x (.row cs (bD P T) true cp)).hO x cp lo hi).members=B.members:=by rw [Mt]; simp
 have j7:((B.put x (.row cs (bD P T) true cp)).hO x cp lo hi).next=B.next:=by rw [T9]; simp
 generalize (B.put x (.row cs (bD P T) true cp)).hO x cp lo hi=B' at lr hgy oh j7;have QM:∀ y,y≠x->(E.z y≠none\/AR A E y\/∃ c,E.κ c=some y)->B'.get y=B.get y:=by
  intro y hy hs;rcases hgy y hy with e | ⟨_,g,k,rfl,h2⟩
  ·exact e
  ·obtain ⟨_,_,h3⟩:=h.ar.vL b v0 x _ _ _ _ _ g k hb hx hQ
   obtain ⟨h4,h5,h6⟩:=h3 y h2 hy;rcases hs with hs | hs | ⟨c,hs⟩
   ·exact absurd h4 hs
   ·exact absurd hs h5
   ·exact absurd hs (h6 c)
 have hA:∀ (c:Nat) (v:KV),(A.put b (.arr (.ts T .any N es acc))).get c=some (.arr v)->∃ u,A.get c=some (.arr u):=fun c v hc=>by
  rw [aw.cz] at hc;split at hc
  ·rename_i e; exact ⟨v0,by rw [e]; exact hb⟩
  ·exact ⟨v,hc⟩
 have QN:∀ y,AR (A.put b (.arr (.ts T .any N es acc))) E y->AR A E y:=fun y q=>by
  obtain ⟨c,v,L,M,h1,h2⟩:=q;obtain ⟨u,h1⟩:=hA c v h1;exact ⟨c,u,L,M,h1,h2⟩
 have af8:∀ y,AR A E y->∀ ri e own XW,B'.get y=some (.row ri e own XW)->∃ nN,B.get y=some (.row nN e own XW)/\nN.length=ri.length:=fun y q ri e own XW hy=>by
  by_cases FQ:y=x
  ·subst FQ
   rw [lr] at hy;simp at hy;obtain ⟨rfl,rfl,rfl,rfl⟩:=hy;exact ⟨nM,hQ,hlen.symm⟩
  ·rw [QM y FQ (.inr (.inl q))] at hy
   exact ⟨ri,hy,rfl⟩
 have ant:∀ g,AF (A.put b (.arr (.ts T .any N es acc))) E B' g->AF A E B g:=fun g q=>by
  obtain ⟨c,v,y,L,M,ri,e,own,k,h1,h2,h3⟩:=q;obtain ⟨u,h1⟩:=hA c v h1;obtain ⟨nN,h3,_⟩:=af8 y ⟨c,u,L,M,h1,h2⟩ _ _ _ _ h3;exact ⟨c,u,y,L,M,nN,e,own,k,h1,h2,h3⟩
 refine ⟨⟨?_,?_,?_,h.apart,h.inj,h.kR.put (.inl fun _ _=>by simp),h.lW,h.nS,?_,fun b x e=>by rw [j7]; exact h.iW b x e,fun b r e=>by rw [j7]; exact h.nT b r e,fun b g e=>by rw [j7]; exact h.lu b g e,fun g hg=>by rw [j7] at hg; rw [oh]; exact h.fresh g hg,fun g y hy=>by rw [oh] at hy; rw [j7]; exact h.mem g y hy,?_⟩,Env.le_refl _,aU _,?_,fun _ _ e=>.inl e,fun _ _ e=>.inl e,fun _ _ e=>.inl e,fun _ _ _ _=>by rw [oh],fun y q=>.inl (QN y q),fun g q=>.inl (ant g q),fun g y q=>.inl (by rw [oh] at q; exact q),fun y q=>.inl ?_,?_⟩
 ·intro c ri cg hc
  rw [aw.cz] at hc;split at hc
  ·simp at hc
  ·obtain ⟨y,c1,h1,h2,h3⟩:=h.row c ri cg hc
   have hy:y≠x:=fun e=>(h.ar.z x uh).2 c (by rw [<- e]; exact h1);exact ⟨y,c1,h1,by rw [QM y hy (.inr (.inr ⟨c,h1⟩))]; exact h2,h3⟩
 ·intro c top Gu hc
  rw [aw.cz] at hc;split at hc
  ·simp at hc
  ·rcases h.bA c top Gu hc with h1 | ⟨g,h1,h2,h3⟩
   ·exact .inl h1
   ·refine .inr ⟨g,h1,h2,fun y hy ri e own f k hr=>?_⟩
    rw [oh] at hy;by_cases FQ:y=x
    ·subst FQ
     rw [lr] at hr;simp at hr;obtain ⟨rfl,_,_,rfl⟩:=hr;obtain ⟨h4,h5⟩:=h3 y hy nM _ _ f k hQ;exact ⟨h4,by rw [hlen]; exact h5⟩
    ·rcases hgy y FQ with e1 | ⟨e1,_⟩
     ·rw [e1] at hr; exact h3 y hy ri e own f k hr
     ·rw [e1] at hr; simp at hr
 ·intro y r hy
  have FQ:y≠x:=fun e=>by have:=(h.ar.z x uh).1; rw [<- e,hy] at this; simp at this
  rw [QM y FQ (.inl (by rw [hy]; simp))];exact h.z y r hy
 ·intro c o hc
  rw [aw.cz] at hc;split at hc
  ·rename_i e; rw [e]; exact h.live b _ hb
  ·exact h.live c o hc
 ·refine ⟨?_,?_,fun y q=>h.ar.z y (QN y q),?_,?_,h.ar.dis,h.ar.lW,fun b x L N e=>by rw [j7]; exact h.ar.iW b x L N e,?_,fun c v hc=>?_⟩
  ·intro c v hc
   rw [aw.cz] at hc;split at hc
   ·rename_i e
    simp at hc;subst hc e;exact ⟨T,N,es,acc,rfl,ht,fZ,.inr ⟨x,cs,cp,bK,by rw [hlen]; exact hx,lr,VV,hl⟩⟩
   ·rename_i de
    refine (h.ar.arr c v hc).mono (Env.le_refl _) rfl fun y L M e=>?_;have FQ:y≠x:=fun e2=>de (h.ar.inj c b v v0 x _ _ _ _ hc hb (by rw [<- e2]; exact e) hx);exact QM y FQ (.inr (.inl ⟨c,v,L,M,hc,e⟩))
  ·intro c v hc
   rw [aw.cz] at hc;split at hc
   ·simp at hc
   ·exact h.ar.kW c v hc
  ·intro c d v u y L M L' M' h1 h2 h3 h4
   obtain ⟨v',h1⟩:=hA c v h1;obtain ⟨u',h2⟩:=hA d u h2;exact h.ar.inj c d v' u' y L M L' M' h1 h2 h3 h4
  ·intro c d v u y w L M L' M' ri e own g k nN e' rJ k' h1 h2 h3 h4 h5 h6
   obtain ⟨v',h1⟩:=hA c v h1;obtain ⟨u',h2⟩:=hA d u h2;obtain ⟨_,h5,_⟩:=af8 y ⟨c,v',L,M,h1,h3⟩ _ _ _ _ h5;obtain ⟨_,h6,_⟩:=af8 w ⟨d,u',L',M',h2,h4⟩ _ _ _ _ h6;exact h.ar.xK c d v' u' y w L M L' M' _ e own g k _ e' rJ k' h1 h2 h3 h4 h5 h6
  ·intro c v y L M ri e own g k h1 h2 h3
   obtain ⟨v',h1⟩:=hA c v h1;obtain ⟨_,h3,_⟩:=af8 y ⟨c,v',L,M,h1,h2⟩ _ _ _ _ h3;obtain ⟨h4,h5,h6⟩:=h.ar.vL c v' y L M _ e own g k h1 h2 h3;refine ⟨by rw [j7]; exact h4,h5,fun z hz de=>?_⟩;rw [oh] at hz;obtain ⟨h7,h8,h9⟩:=h6 z hz de;exact ⟨h7,fun q=>h8 (QN z q),h9⟩
  ·rw [aw.cz] at hc
   rw [aw.uQ];split at hc
   ·rename_i e; rw [e]; exact h.ar.nk b _ hb
   ·exact h.ar.nk c v hc
 ·intro y hy hn ha
  by_cases FQ:y=x
  ·subst FQ; exact absurd (.inl uh) ha
  ·rcases hgy y FQ with e | ⟨_,g,k,rfl,h2⟩
   ·exact e
   ·exact absurd (.inr ⟨g,⟨b,v0,x,_,_,nM,_,_,k,hb,hx,hQ⟩,h2⟩) ha
 ·rcases q with q | ⟨g,h1,h2⟩
  ·exact .inl (QN y q)
  ·exact .inr ⟨g,ant g h1,by rw [oh] at h2; exact h2⟩
 ·intro y hy ri e own XW hr
  by_cases FQ:y=x
  ·exact af8 y (by rw [FQ]; exact uh) ri e own XW hr
  ·rcases hgy y FQ with e1 | ⟨e1,_⟩
   ·exact ⟨ri,by rw [<- e1]; exact hr,rfl⟩
   ·rw [e1] at hr; simp at hr
theorem ar8 {t:TypeId} : aqW P (XI P t) (JN P t):=by
 intro E A A' B vs us v h hv hg;unfold XI at hg;split at hg
 ·rename_i b off x
  obtain ⟨y,z,rfl,h1,h2⟩:=hv.lR;obtain ⟨c,hx,rfl⟩:=h1.j9;obtain ⟨hc,hg⟩:=hg.cond;simp only [aA,o7] at hc;obtain ⟨fZ,ho⟩:=hc;split at hg
  ·rename_i cs cg hQ
   split at hg
   ·rename_i cu hw
    have hg:(uE,A.put b (.row cu cg))=(v,A'):=hg;simp only [fS] at hg;obtain ⟨rfl,rfl⟩:=hg;obtain ⟨c',d,e1,e2,e3⟩:=h.row b cs cg hQ;rw [hx] at e1;simp at e1;subst e1;have K5:=h2.cells (AZ ho);obtain ⟨r,e4,e5⟩:=bC.mB hw e3 K5;have mj:z.cells.toList.all scalar=true:=ij.2 (K5.scalar ho);have atg:some z.cells.size=size? P t:=by rw [<- fZ,QD h2 (AZ ho)]
    refine ⟨undef,B.put c (.row r cg true none),E,?_,.undef,dR.putRow h ⟨_,_,hQ⟩ hx ⟨d,e2,(jL e4).1.symm⟩ e5⟩;simp [JN,storeAt,atg,St.Bm,dp,mj,e2,e4,St.hO]
   ·exact hg.elim
  ·exact hg.elim
 ·rename_i T Tc b i k x
  obtain ⟨y,z,rfl,h1,h2⟩:=hv.lR;split at hg
  ·rename_i T' mk N es acc hA
   obtain ⟨hc,Ta⟩:=hg.cond;clear hg;simp only [aA,o7] at hc;obtain ⟨⟨⟨hT,hTc⟩,C2⟩,fZ⟩:=hc;have:=bu hT;subst this;have:=bu hTc;subst this;split at Ta
   ·rename_i e2 he2
    have hg:(uE,A.put b (.arr (aqI T N i es acc e2)))=(v,A'):=Ta;simp only [fS] at hg;obtain ⟨rfl,rfl⟩:=hg;obtain ⟨c,L,N',h3,hw,hi,rfl⟩:=h1.JZ;obtain ⟨T2,N2,pQ,aE,Ij,ht,h1s,Ax⟩:=h.ar.arr b _ hA;simp only [KV.ts.injEq] at Ij;obtain ⟨rfl,rfl,rfl,rfl,rfl⟩:=Ij;rcases Ax with ⟨_,h4⟩ | ⟨c',cs,cp,bK,h4,h5,h6,h7⟩
    ·rw [h3] at h4; simp at h4
    rw [h3] at h4;simp only [di,fS] at h4;obtain ⟨rfl,rfl,rfl⟩:=h4;have bG:i < es.length:=by rw [<- ht.len]; exact hi
    have hei:es[i]? = some (acc i):=by rw [ht.acc i hi]; simp [List.getD,bG]
    obtain ⟨u,h8,h9⟩:=h6.get hei;obtain ⟨hsu,rb⟩:=h7 i u h8;rw [bM] at rb;have hvn:=h2.fe (l:=bB P Tc);obtain ⟨u2,p1,p2,p3,p4,p5,p6⟩:=ar6 (T:=T) (t:=Tc) hw (kv ht.typed hei) h9 C2 hvn he2;obtain ⟨nN,w1,w2,w3⟩:=ar7 h7 h8 hsu p6 p5 p3;have gR:=dR.aqY (lo:=i * bD P T+k) (hi:=i * bD P T+k+z.cells.toList.length) h ⟨_,hA⟩ h3 h5 (jL w1).1 h1s (apA ht hi p2) (bK:=bK.set i u2) (VS p1 i h6) w2;obtain ⟨CF,hk2⟩:=jz C2;have mj:z.cells.toList.all scalar=true:=ij.2 ((hvn.cells hk2).scalar (Hp CF));have hzs:some z.cells.size=size? P Tc:=by
     rw [fZ,<- tG CF];exact congrArg some (QD hvn hk2)
    refine ⟨undef,_,E,?_,.undef,gR⟩;simp [JN,storeAt,hzs,St.Bm,dp,mj,h5,w1]
   ·exact Ta.elim
  ·exact hg.elim
 ·exact hg.elim
end Go.K
end
section
namespace Go.K
open Go Go.aB
variable {P:Program} {E:Env}
def Env.FT (E:Env) (b:Nat) (p:Nat×Nat×Nat):Env:={ E with α:=fun c=>if c=b then some p else E.α c }
theorem Env.ath {A:aw} {B:St} {p:Nat×Nat×Nat} (h:fX P E A B):E.le (E.FT A.next p):=⟨fun b q e=>by
 have:=h.ar.lW b q e;simp only [Env.FT]; rw [av (by omega)]; exact e,fun _ _ e=>e,fun _ _ e=>e,fun _ _ e=>e⟩
theorem Env.Cm {b:Nat} {p:Nat×Nat×Nat} : (E.FT b p).α b=some p:=by simp [Env.FT]
theorem Env.Mu {b c:Nat} {p:Nat×Nat×Nat} (h:c≠b):(E.FT b p).α c=E.α c:=by simp [Env.FT,h]
theorem dR.SN {A A1:aw} {B B' : St} {X G:Nat->Prop} {y2 N2:Nat} {T:TypeId} {pQ:List KV} {aE:Nat->KV} {FN nN:List Value} {uw:Option (Nat×Nat)} (h:fX P E A B)
  (vY:A1.next=A.next) (N4:∀ c o,A1.get c=some o->A.get c=some o\/(o = .dead/\c < A.next))
  (f1:∀ c v,A1.get c=some (.arr v)->∀ y L N,E.α c=some (y,L,N)->¬ X y/\∀ cs e own g k,B.get y=some (.row cs e own (some (g,k)))->¬ G g)
  (f2:∀ y,X y->AR A E y) (f3:∀ g,G g->AF A E B g/\g < B.next/\(∀ f,E.φ f≠some g)/\∀ y∈B.members g,¬ X y->E.z y=none/\¬ AR A E y/\∀ c,E.κ c≠some y)
  (n1:X y2\/B.next<=y2) (n1' : y2 < B'.next) (anu:B'.get y2=some (.row nN (bD P T) true uw)) (n2:∀ g k,uw=some (g,k)->G g\/(B.next<=g/\g < B'.next))
  (b1:∀ y,y < B.next->¬ X y->B'.get y=B.get y\/(B'.get y=some .dead/\∃ g,G g/\y∈B.members g))
  (b2:∀ y,X y->∀ cs e own cp,B'.get y=some (.row cs e own cp)->∃ c,B.get y=some (.row c e own cp)/\c.length=cs.length)
  (b3:∀ q y,y∈B'.members q->y∈B.members q\/(y=y2/\B.next<=y2/\∃ k,uw=some (q,k))) (b3' : ∀ q,(∀ k,uw≠some (q,k))->B'.members q=B.members q)
  (b4:B.next<=B'.next) (b4' : ∀ g,B'.next<=g->B'.members g = []) (awk:∀ g y,y∈B'.members g->y < B'.next)
  (fZ:1<=bD P T) (ht:ku P T N2 pQ aE) (VV:bC P E pQ FN) (hl:qY (bD P T) 0 nN FN) :
  dR P E A B (E.FT A.next (y2,nN.length,N2)) (A1.new (.arr (.ts T .any N2 pQ aE))) B':=by
 have hle:=Env.ath (p:=(y2,nN.length,N2)) h;have ati:E.α A.next=none:=by
  cases hq:E.α A.next with
  | none=>rfl
  | some p=>have:=h.ar.lW _ p hq; omega
 have hXlt:∀ y,X y->y < B.next:=fun y hy=>h.J0 (f2 y hy);have QM:∀ y,y < B.next->¬ X y->(E.z y≠none\/AR A E y\/∃ c,E.κ c=some y)->B'.get y=B.get y:=by
  intro y bG hy hs;rcases b1 y bG hy with e | ⟨_,g,hg,h2⟩
  ·exact e
  ·obtain ⟨_,_,_,h3⟩:=f3 g hg
   obtain ⟨h4,h5,h6⟩:=h3 y h2 hy;rcases hs with hs | hs | ⟨c,hs⟩
   ·exact absurd h4 hs
   ·exact absurd hs h5
   ·exact absurd hs (h6 c)
 have hXz:∀ y,X y->E.z y=none/\∀ c,E.κ c≠some y:=fun y hy=>h.ar.z y (f2 y hy);have lD:∀ c o,(A1.new (.arr (.ts T .any N2 pQ aE))).get c=some o->(c=A.next/\o = .arr (.ts T .any N2 pQ aE))\/(c≠A.next/\A1.get c=some o):=fun c o hc=>by
  rw [aw.dz,vY] at hc;split at hc
  ·rename_i e; simp at hc; exact .inl ⟨e,hc.symm⟩
  ·rename_i e; exact .inr ⟨e,hc⟩
 have hold:∀ c o,A1.get c=some o->o≠.dead->A.get c=some o:=fun c o hc hd=>by
  rcases N4 c o hc with e | ⟨e,_⟩
  ·exact e
  ·exact absurd e hd
 have yH:∀ c v,(A1.new (.arr (.ts T .any N2 pQ aE))).get c=some (.arr v)->(c=A.next/\v = .ts T .any N2 pQ aE/\(E.FT A.next (y2,nN.length,N2)).α c=some (y2,nN.length,N2))\/(c≠A.next/\A1.get c=some (.arr v)/\A.get c=some (.arr v)/\(E.FT A.next (y2,nN.length,N2)).α c=E.α c):=fun c v hc=>by
  rcases lD c _ hc with ⟨e,e2⟩ | ⟨e,e2⟩
  ·simp at e2
   exact .inl ⟨e,e2,by rw [e]; exact Env.Cm⟩
  ·exact .inr ⟨e,e2,hold c _ e2 (by simp),Env.Mu e⟩
 have Hs:∀ c v y L N,A1.get c=some (.arr v)->E.α c=some (y,L,N)->AR A E y/\¬ X y/\y < B.next/\B'.get y=B.get y:=fun c v y L N h1 h2=>by
  have h3:AR A E y:=⟨c,v,L,N,hold c _ h1 (by simp),h2⟩
  obtain ⟨h4,_⟩:=f1 c v h1 y L N h2;have h5:=h.J0 h3;exact ⟨h3,h4,h5,QM y h5 h4 (.inr (.inl h3))⟩
 have QN:∀ y,AR (A1.new (.arr (.ts T .any N2 pQ aE))) (E.FT A.next (y2,nN.length,N2)) y->y=y2\/(AR A E y/\¬ X y):=fun y q=>by
  obtain ⟨c,v,L,M,h1,h2⟩:=q;rcases yH c v h1 with ⟨_,_,e⟩ | ⟨_,e1,e2,e⟩
  ·rw [e] at h2; simp at h2; exact .inl h2.1.symm
  ·rw [e] at h2
   obtain ⟨h3,h4,_⟩:=Hs c v y L M e1 h2;exact .inr ⟨h3,h4⟩
 have atj:∀ y,y=y2->AR A E y\/B.next<=y:=fun y e=>by
  subst e;exact n1.imp (f2 y) id
 have ant:∀ g,AF (A1.new (.arr (.ts T .any N2 pQ aE))) (E.FT A.next (y2,nN.length,N2)) B' g->(∃ k,uw=some (g,k))\/(AF A E B g/\¬ G g/\g < B.next):=fun g q=>by
  obtain ⟨c,v,y,L,M,ri,e,own,k,h1,h2,h3⟩:=q;rcases yH c v h1 with ⟨_,_,e⟩ | ⟨_,e1,e2,e⟩
  ·rw [e] at h2
   simp at h2;rw [<- h2.1,anu] at h3;simp at h3;exact .inl ⟨k,h3.2.2.2⟩
  ·rw [e] at h2
   obtain ⟨_,_,_,h4⟩:=Hs c v y L M e1 h2;rw [h4] at h3;refine .inr ⟨⟨c,v,y,L,M,ri,_,own,k,e2,h2,h3⟩,(f1 c v e1 y L M h2).2 _ _ _ _ _ h3,(h.ar.vL c v y L M _ _ _ g k e2 h2 h3).1⟩
 have auZ:∀ g,(∃ k,uw=some (g,k))->AF A E B g\/B.next<=g:=fun g ⟨k,e⟩=>by
  rcases n2 g k e with hg | ⟨hg,_⟩
  ·exact .inl (f3 g hg).1
  ·exact .inr hg
 refine ⟨⟨?_,?_,?_,h.apart,h.inj,?_,fun b x e=>by rw [aw.cC,vY]; have:=h.lW b x e; omega,fun b g e=>by rw [aw.cC,vY]; have:=h.nS b g e; omega,?_,fun b x e=>by have:=h.iW b x e; omega,fun b r e=>by have:=h.nT b r e; omega,fun b g e=>by have:=h.lu b g e; omega,b4',awk,?_⟩,hle,by rw [aw.cC,vY]; omega,?_,fun _ _ e=>.inl e,fun _ _ e=>.inl e,fun _ _ e=>.inl e,?_,fun y q=>?_,fun g q=>?_,fun g y q=>?_,fun y q=>?_,?_⟩
 ·intro c ri cg hc
  rcases lD c _ hc with ⟨_,e⟩ | ⟨_,e⟩
  ·simp at e
  ·obtain ⟨y,c1,h1,h2,h3⟩:=h.row c ri cg (hold c _ e (by simp))
   have hy : ¬ X y:=fun e=>(hXz y e).2 c h1;exact ⟨y,c1,h1,by rw [QM y (h.iW c y h1) hy (.inr (.inr ⟨c,h1⟩))]; exact h2,h3.mono hle⟩
 ·intro c top Gu hc
  rcases lD c _ hc with ⟨_,e⟩ | ⟨_,e⟩
  ·simp at e
  ·rcases h.bA c top Gu (hold c _ e (by simp)) with h1 | ⟨g,h1,h2,h3⟩
   ·exact .inl h1
   ·refine .inr ⟨g,h1,h2,fun y hy ri e own f k hr=>?_⟩
    have hgG:∀ k,uw≠some (g,k):=fun k e=>by
     rcases n2 g k e with hg | ⟨hg,_⟩
     ·exact (f3 g hg).2.2.1 c h1
     ·have:=h.lu c g h1; omega
    rw [b3' g hgG] at hy;have bG:=h.mem g y hy;by_cases FQ:X y
    ·obtain ⟨c0,h4,h5⟩:=b2 y FQ _ _ _ _ hr
     obtain ⟨h6,h7⟩:=h3 y hy c0 _ _ f k h4;exact ⟨h6,by rw [<- h5]; exact h7⟩
    ·rcases b1 y bG FQ with e1 | ⟨e1,_⟩
     ·rw [e1] at hr; exact h3 y hy ri _ own f k hr
     ·rw [e1] at hr; simp at hr
 ·intro y r hy
  have hy:E.z y=some r:=hy;have FQ : ¬ X y:=fun e=>by have:=(hXz y e).1; rw [hy] at this; simp at this
  rw [QM y (h.nT y r hy) FQ (.inl (by rw [hy]; simp))];exact h.z y r hy
 ·intro b c g tb sb tc sc hb hc e1 e2
  rcases lD b _ hb with ⟨_,e⟩ | ⟨_,hb⟩
  ·simp at e
  rcases lD c _ hc with ⟨_,e⟩ | ⟨_,hc⟩
  ·simp at e
  exact h.kR b c g _ _ _ _ (hold b _ hb (by simp)) (hold c _ hc (by simp)) e1 e2
 ·intro c o hc
  rw [aw.cC,vY];rcases lD c _ hc with ⟨e,_⟩ | ⟨_,e⟩
  ·omega
  ·rcases N4 c o e with e | ⟨_,e⟩
   ·have:=h.live c o e; omega
   ·omega
 ·refine ⟨?_,?_,?_,?_,?_,?_,?_,?_,?_,?_⟩
  ·intro c v hc
   rcases yH c v hc with ⟨_,rfl,e⟩ | ⟨_,e1,e2,e⟩
   ·exact ⟨T,N2,pQ,aE,rfl,ht,fZ,.inr ⟨y2,nN,uw,FN,e,anu,VV.mono hle,hl⟩⟩
   ·exact (h.ar.arr c v e2).mono hle e fun y L M hy=>(Hs c v y L M e1 hy).2.2.2
  ·intro c v hc
   rcases lD c _ hc with ⟨_,e⟩ | ⟨de,e⟩
   ·simp at e
   ·exact (h.ar.kW c v (hold c _ e (by simp))).mono hle (Env.Mu de)
  ·intro y q
   rcases QN y q with e | ⟨e,_⟩
   ·subst e
    rcases n1 with hx | hx
    ·exact hXz y hx
    ·refine ⟨?_,fun c e=>by have:=h.iW c y e; omega⟩
     cases hz:E.z y with
     | none=>exact hz
     | some r=>have:=h.nT y r hz; omega
   ·exact h.ar.z y e
  ·intro c d v u y L M L' M' h1 h2 h3 h4
   rcases yH c v h1 with ⟨e1,_,e⟩ | ⟨_,p1,p2,e⟩ <;> rcases yH d u h2 with ⟨e2,_,e'⟩ | ⟨_,q1,q2,e'⟩
   ·omega
   ·rw [e] at h3; rw [e'] at h4
    simp at h3;obtain ⟨_,h5,h6,_⟩:=Hs d u y L' M' q1 h4;rw [<- h3.1] at h5 h6;rcases n1 with hx | hx
    ·exact absurd hx h5
    ·omega
   ·rw [e] at h3; rw [e'] at h4
    simp at h4;obtain ⟨_,h5,h6,_⟩:=Hs c v y L M p1 h3;rw [<- h4.1] at h5 h6;rcases n1 with hx | hx
    ·exact absurd hx h5
    ·omega
   ·rw [e] at h3; rw [e'] at h4
    exact h.ar.inj c d v u y L M L' M' p2 q2 h3 h4
  ·intro c d v u y w L M L' M' ri e own g k cs3 e' rJ k' h1 h2 h3 h4 h5 h6
   have Iz:∀ {c v y L M ri e own k k2},A1.get c=some (.arr v)->E.α c=some (y,L,M)->B'.get y=some (.row ri e own (some (g,k)))->uw=some (g,k2)->False:=by
    intro c v y L M ri e own k k2 q1 q2 q3 q4;obtain ⟨r1,r2,r3,r4⟩:=Hs c v y L M q1 q2;rw [r4] at q3;rcases n2 g k2 q4 with hg | ⟨hg,_⟩
    ·exact (f1 c v q1 y L M q2).2 _ _ _ _ _ q3 hg
    ·have:=(h.ar.vL c v y L M _ _ _ g k (hold c _ q1 (by simp)) q2 q3).1; omega
   rcases yH c v h1 with ⟨e1,_,ea⟩ | ⟨_,p1,p2,ea⟩ <;> rcases yH d u h2 with ⟨e2,_,eb⟩ | ⟨_,q1,q2,eb⟩
   ·omega
   ·rw [ea] at h3; rw [eb] at h4
    simp at h3;rw [<- h3.1,anu] at h5;simp at h5;exact (Iz q1 h4 h6 h5.2.2.2).elim
   ·rw [ea] at h3; rw [eb] at h4
    simp at h4;rw [<- h4.1,anu] at h6;simp at h6;exact (Iz p1 h3 h5 h6.2.2.2).elim
   ·rw [ea] at h3; rw [eb] at h4
    rw [(Hs c v y L M p1 h3).2.2.2] at h5;rw [(Hs d u w L' M' q1 h4).2.2.2] at h6;exact h.ar.xK c d v u y w L M L' M' _ _ _ g k _ _ _ k' p2 q2 h3 h4 h5 h6
  ·intro b x e
   have hb:=h.lW b x e;rw [Env.Mu (by omega)];exact h.ar.dis b x e
  ·intro b p e
   rw [aw.cC,vY];by_cases hb:b=A.next
   ·omega
   ·rw [Env.Mu hb] at e; have:=h.ar.lW b p e; omega
  ·intro b x L N e
   by_cases hb:b=A.next
   ·subst hb; rw [Env.Cm] at e; simp at e; omega
   ·rw [Env.Mu hb] at e; have:=h.ar.iW b x L N e; omega
  ·intro c v y L M ri e own g k h1 h2 h3
   rcases yH c v h1 with ⟨_,_,ea⟩ | ⟨_,p1,p2,ea⟩
   ·rw [ea] at h2
    simp at h2;obtain ⟨rfl,_⟩:=h2;rw [anu] at h3;simp at h3;have hk:=h3.2.2.2;refine ⟨?_,fun f e=>?_,fun z hz de=>?_⟩
    ·rcases n2 g k hk with hg | ⟨_,hg⟩
     ·have:=(f3 g hg).2.1; omega
     ·exact hg
    ·rcases n2 g k hk with hg | ⟨hg,_⟩
     ·exact (f3 g hg).2.2.1 f e
     ·have:=h.lu f g e; omega
    ·rcases b3 g z hz with hz | ⟨e,_⟩
     ·rcases n2 g k hk with hg | ⟨hg,_⟩
      ·by_cases aqZ:X z
       ·exact ⟨(hXz z aqZ).1,fun q=>by
         rcases QN z q with e | ⟨_,e⟩
         ·exact de e
         ·exact e aqZ,(hXz z aqZ).2⟩
       ·obtain ⟨h7,h8,h9⟩:=(f3 g hg).2.2.2 z hz aqZ
        refine ⟨h7,fun q=>?_,h9⟩;rcases QN z q with e | ⟨e,_⟩
        ·exact de e
        ·exact h8 e
      ·rw [h.fresh g hg] at hz; simp at hz
     ·exact absurd e de
   ·rw [ea] at h2
    obtain ⟨r1,r2,r3,r4⟩:=Hs c v y L M p1 h2;rw [r4] at h3;obtain ⟨h4,h5,h6⟩:=h.ar.vL c v y L M _ _ _ g k p2 h2 h3;refine ⟨by omega,h5,fun z hz de=>?_⟩;have hnG:=(f1 c v p1 y L M h2).2 _ _ _ _ _ h3;rw [b3' g (fun k e=>by
     rcases n2 g k e with hg | ⟨hg,_⟩
     ·exact hnG hg
     ·omega)] at hz
    obtain ⟨h7,h8,h9⟩:=h6 z hz de;refine ⟨h7,fun q=>?_,h9⟩;rcases QN z q with e | ⟨e,_⟩
    ·subst e
     rcases n1 with hx | hx
     ·exact h8 (f2 z hx)
     ·have:=h.mem g z hz; omega
    ·exact h8 e
  ·intro c v hc
   rw [aw.cC,vY];rcases yH c v hc with ⟨e1,_,_⟩ | ⟨_,_,e2,_⟩
   ·subst e1
    refine ⟨Nat.lt_succ_self _,?_⟩;show E.κ A.next=none;cases hk:E.κ A.next with
    | none=>rfl
    | some x=>have:=h.lW _ x hk; omega
   ·obtain ⟨q1,q2⟩:=h.ar.nk c v e2
    exact ⟨by omega,q2⟩
 ·intro y hy hn ha
  by_cases FQ:X y
  ·exact absurd (.inl (f2 y FQ)) ha
  ·rcases b1 y hy FQ with e | ⟨_,g,hg,h2⟩
   ·exact e
   ·exact absurd (.inr ⟨g,(f3 g hg).1,h2⟩) ha
 ·intro g hg hn ha
  refine b3' g fun k e=>?_;rcases n2 g k e with hg' | ⟨hg',_⟩
  ·exact ha (f3 g hg').1
  ·omega
 ·rcases QN y q with e | ⟨e,_⟩
  ·exact atj y e
  ·exact .inl e
 ·rcases ant g q with e | ⟨e,_⟩
  ·exact auZ g e
  ·exact .inl e
 ·rcases b3 g y q with e | ⟨e,e2,_⟩
  ·exact .inl e
  ·exact .inr (by omega)
 ·rcases q with q | ⟨g,h1,h2⟩
  ·rcases QN y q with e | ⟨e,_⟩
   ·rcases atj y e with e | e
    ·exact .inl (.inl e)
    ·exact .inr e
   ·exact .inl (.inl e)
  ·rcases b3 g y h2 with e | ⟨e,e2,_⟩
   ·rcases ant g h1 with e1 | ⟨e1,_⟩
    ·rcases auZ g e1 with e2 | e2
     ·exact .inl (.inr ⟨g,e2,e⟩)
     ·rw [h.fresh g e2] at e; simp at e
    ·exact .inl (.inr ⟨g,e1,e⟩)
   ·exact .inr (by omega)
 ·intro y hy ri e own XW hr
  by_cases FQ:X y
  ·exact b2 y FQ ri e own XW hr
  ·rcases b1 y hy FQ with e1 | ⟨e1,_⟩
   ·exact ⟨ri,by rw [<- e1]; exact hr,rfl⟩
   ·rw [e1] at hr; simp at hr
end Go.K
end
section
namespace Go.K
open Go Go.aB
variable {P:Program} {E:Env}
theorem dR.avx {A:aw} {B:St} {c:List Value} {n:Nat} (h:fX P E A B):dR P E A B (E.il B.next ⟨c,n,true,some (B.next,0)⟩) A (B.grow B.next 0 c n):=by
 have pj:∀ x,(B.grow B.next 0 c n).get x=if x=B.next then some (.row c n true (some (B.next,0))) else B.get x:=fun x=>by simp [St.grow]
 have oh:∀ q,(B.grow B.next 0 c n).members q=if q=B.next then B.next::B.members B.next else B.members q:=fun q=>by simp [St.grow,St.Fg]
 have j7:(B.grow B.next 0 c n).next=B.next+1:=rfl;have hle:E.le (E.il B.next ⟨c,n,true,some (B.next,0)⟩):=⟨fun _ _ e=>e,fun _ _ e=>e,fun b r e=>by
  have:=h.nT b r e;simp only [Env.il]; rw [av (by omega)]; exact e,fun _ _ e=>e⟩
 generalize B.grow B.next 0 c n=B' at pj oh j7;have BT:∀ x,x < B.next->B'.get x=B.get x:=fun x hx=>by rw [pj,av (by omega)]
 have QJ:∀ b r,(E.il B.next ⟨c,n,true,some (B.next,0)⟩).z b=some r->E.z b=some r\/B.next<=b:=fun b r e=>by
  simp only [Env.il] at e;split at e
  ·exact .inr (by omega)
  ·exact .inl e
 have XV:∀ q,AF A E B q->B'.members q=B.members q:=fun q hq=>by
  rw [oh,av];intro e2;obtain ⟨b,v,x,L,N,cs,e,own,k,h1,h2,h3⟩:=hq;obtain ⟨h4,h5,_⟩:=h.ar.vL b v x L N cs e own q k h1 h2 h3;omega
 have apy:∀ q y,y∈B'.members q->y∈B.members q\/B.next<=y:=fun q y hy=>by
  rw [oh] at hy;split at hy
  ·rename_i e2
   subst e2;rcases fA.1 hy with hy | hy
   ·exact .inr (by omega)
   ·exact .inl hy
  ·exact .inl hy
 refine ⟨⟨?_,?_,?_,?_,h.inj,h.kR,h.lW,h.nS,h.live,?_,?_,?_,?_,?_,h.ar.ik hle (fun _=>rfl) (fun _ _ e=>e) (fun _ _ e=>e) (aU _) (by omega) (fun x q=>BT x (h.J0 q)) QJ (fun _ _ e=>.inl e) (fun b q e=>.inl ⟨b,e⟩) XV h.mem⟩,hle,aU _,?_,fun b x e=>.inl e,fun b r e=>(QJ b r e).imp id .inr,fun b q e=>.inl e,fun q hq hn _=>by rw [oh,av (by omega)],fun _ q=>.inl q,fun _ q=>.inl (q.of (fun _=>rfl) (fun _ _ e=>e) fun x q=>BT x (h.J0 q)),apy,fun _ q=>.inl (q.of (fun _=>rfl) (fun _ _ e=>e) (fun x q=>BT x (h.J0 q)) XV),nU BT⟩
 ·intro b nM QI hb
  obtain ⟨x,d,h1,h2,h3⟩:=h.row b nM QI hb;have:=h.iW b x h1;exact ⟨x,d,h1,by rw [pj,av (by omega)]; exact h2,h3.mono hle⟩
 ·intro b top Gu hb
  rcases h.bA b top Gu hb with h1 | ⟨g,h1,hp0,h2⟩
  ·exact .inl h1
  ·have hg:=h.lu b g h1
   refine .inr ⟨g,h1,hp0,fun x hx d e own f k hr=>?_⟩;rw [oh,av (by omega)] at hx;have:=h.mem g x hx;rw [pj,av (by omega)] at hr;exact h2 x hx d e own f k hr
 ·intro b r hb
  simp only [Env.il] at hb;rw [pj];split at hb
  ·rename_i e; simp at hb; subst hb; rw [aY e]
  ·rename_i e; rw [av e]; exact h.z b r hb
 ·intro b x hb
  have:=h.iW b x hb;simp only [Env.il];rw [av (by omega)];exact h.apart b x hb
 ·intro b x hb; have:=h.iW b x hb; omega
 ·intro b r hb
  simp only [Env.il] at hb;rw [j7];split at hb
  ·omega
  ·have:=h.nT b r hb; omega
 ·intro b g hb; have:=h.lu b g hb; omega
 ·intro g hg
  rw [j7] at hg;rw [oh,av (by omega)];exact h.fresh g (by omega)
 ·intro g x hx
  rw [j7];rw [oh] at hx;split at hx
  ·rcases fA.1 hx with hx | hx
   ·omega
   ·have:=h.mem _ x hx; omega
  ·have:=h.mem g x hx; omega
 ·intro x hx _ _; rw [pj,av (by omega)]
theorem dR.after {A A1 A2:aw} {B B2:St} {E2:Env} (h:dR P E A B E A1 B) (k:dR P E A1 B E2 A2 B2):dR P E A B E2 A2 B2 where
 kC:=k.kC
 le:=k.le
 next:=o9 h.next k.next
 ik x hx hn ha:=k.ik x hx hn fun q=>(h.p0 x q).elim ha fun e=>by omega
 new:=k.new
 wK b r e:=by
  rcases k.wK b r e with e | e | e
  ·exact .inl e
  ·exact .inr (h.oZ b e)
  ·exact .inr (.inr e)
 wL:=k.wL
 sA g hg hn ha:=k.sA g hg hn fun q=>(h.py g q).elim ha fun e=>by omega
 oZ x q:=(k.oZ x q).elim (h.oZ x) .inr
 py g q:=(k.py g q).elim (h.py g) .inr
 yE:=k.yE
 p0 y q:=(k.p0 y q).elim (h.p0 y) .inr
 rows:=k.rows
theorem dR.aq0 {A:aw} {B:St} {f t:Nat} (sz:Nat) (h:fX P E A B) {Gu:Nat} (hA:A.get f=some (.bA t Gu)) (JG:E.φ f=none):dR P E A B E (A.put f (.bA 0 sz)) B:=by
 have XU:∀ (b:Nat) (v:KV),(A.put f (.bA 0 sz)).get b=some (.arr v)->A.get b=some (.arr v):=fun b v hb=>by
  rw [aw.cz] at hb;split at hb
  ·simp at hb
  ·exact hb
 have hfz:∀ (b:Nat) (v:KV),(A.put f (.bA 0 sz)).get b=some (.kW v)->A.get b=some (.kW v):=fun b v hb=>by
  rw [aw.cz] at hb;split at hb
  ·simp at hb
  ·exact hb
 refine ⟨⟨fun b cs cg hb=>?_,fun b top Gu hb=>?_,h.z,h.apart,h.inj,h.kR.put (.inr JG),h.lW,h.nS,fun b o hb=>?_,h.iW,h.nT,h.lu,h.fresh,h.mem,h.ar.ik (Env.le_refl _) (fun _=>rfl) XU hfz (aU _) (aU _) (fun _ _=>rfl) (fun _ _ e=>.inl e) (fun _ _ e=>.inl e) (fun b g e=>.inl ⟨b,e⟩) (fun _ _=>rfl) h.mem⟩,Env.le_refl _,aU _,fun _ _ _ _=>rfl,fun _ _ e=>.inl e,fun _ _ e=>.inl e,fun _ _ e=>.inl e,fun _ _ _ _=>rfl,fun _ q=>.inl (q.of (fun _=>rfl) XU),fun _ q=>.inl (q.of (fun _=>rfl) XU fun _ _=>rfl),fun _ _ q=>.inl q,fun _ q=>.inl (q.of (fun _=>rfl) XU (fun _ _=>rfl) fun _ _=>rfl),nU fun _ _=>rfl⟩
 ·rw [aw.cz] at hb
  split at hb
  ·simp at hb
  ·exact h.row b cs cg hb
 ·rw [aw.cz] at hb
  split at hb
  ·rename_i e2; simp at hb; exact .inl ⟨hb.1.symm,by rw [e2]; exact JG⟩
  ·exact h.bA b top Gu hb
 ·rw [aw.cz] at hb
  split at hb
  ·rename_i e2; rw [e2]; exact h.live f _ hA
  ·exact h.live b o hb
theorem dR.atk {A:aw} {B:St} {f t sz:Nat} (h:fX P E A B) (hA:A.get f=some (.bA t sz)):dR P E A B E (A.put f (.bA t sz)) B:=by
 have hg:∀ b,(A.put f (.bA t sz)).get b=A.get b:=fun b=>by
  rw [aw.cz];split
  ·rename_i e; rw [e,hA]
  ·rfl
 have XU:∀ (b:Nat) (v:KV),(A.put f (.bA t sz)).get b=some (.arr v)->A.get b=some (.arr v):=fun b v hb=>by rwa [hg] at hb
 have hfz:∀ (b:Nat) (v:KV),(A.put f (.bA t sz)).get b=some (.kW v)->A.get b=some (.kW v):=fun b v hb=>by rwa [hg] at hb
 refine ⟨⟨fun b cs cg hb=>h.row b cs cg (by rwa [hg] at hb),fun b top Gu hb=>h.bA b top Gu (by rwa [hg] at hb),h.z,h.apart,h.inj,fun b c g tb sb tc sc q1 q2=>h.kR b c g tb sb tc sc (by rwa [hg] at q1) (by rwa [hg] at q2),h.lW,h.nS,fun b o hb=>h.live b o (by rwa [hg] at hb),h.iW,h.nT,h.lu,h.fresh,h.mem,h.ar.ik (Env.le_refl _) (fun _=>rfl) XU hfz (aU _) (aU _) (fun _ _=>rfl) (fun _ _ e=>.inl e) (fun _ _ e=>.inl e) (fun b g e=>.inl ⟨b,e⟩) (fun _ _=>rfl) h.mem⟩,Env.le_refl _,aU _,fun _ _ _ _=>rfl,fun _ _ e=>.inl e,fun _ _ e=>.inl e,fun _ _ e=>.inl e,fun _ _ _ _=>rfl,fun _ q=>.inl (q.of (fun _=>rfl) XU),fun _ q=>.inl (q.of (fun _=>rfl) XU fun _ _=>rfl),fun _ _ q=>.inl q,fun _ q=>.inl (q.of (fun _=>rfl) XU (fun _ _=>rfl) fun _ _=>rfl),nU fun _ _=>rfl⟩
theorem atl {t:TypeId} (hu:P.underlying t=some (.int .u8)):bB P t=⟨false,[.int .u8]⟩:=by
 unfold bB;rw [lay,hu];rfl
theorem alG {e:TypeId} (he:isByte P e=true):auU P (VA e) NG:=by
 intro E A B vs us v h hv hg;unfold VA at hg;split at hg
 ·rename_i s
  obtain ⟨u,rfl,h1⟩:=hv.fN;have:=h1.uX; subst this;have hg:KV.ts e .any s.size _ _=v:=hg;subst hg;have hu:P.underlying e=some (.int .u8):=by
   unfold isByte at he;split at he
   ·assumption
   ·simp at he
  have au0:bB P e=⟨false,[.int .u8]⟩:=atl hu;refine ⟨_,_,_,rfl,?_,dR.avx h⟩;simp only [VK];have fZ:bD P e=1:=by unfold bD; rw [au0]; rfl
  refine ⟨⟨by simp,fun i hi=>?_,?_⟩,mg s.data.toList,?_,some ⟨B.next,0,none⟩,s.size,rfl,aU _,.inr ⟨B.next,0,⟨mg s.data.toList,1,true,some (B.next,0)⟩,rfl,by simp [Env.il],fZ.symm,?_⟩,trivial⟩
  ·have hi' : i < s.data.toList.length:=by simpa using hi
   simp only [List.getD,CG,dr hi',Option.map_some,ee]
  ·rw [au0]
   induction s.data.toList with
   | nil=>rfl
   | cons b l ih=>simp [ga,cP,aK,kindOk,ih]
  ·generalize E.il B.next _=E'
   induction s.data.toList with
   | nil=>exact .nil
   | cons b l ih=>exact .cons .mkInt ih
  ·rw [fZ]
   intro i x hx;obtain ⟨b,_,rfl⟩:∃ b,s.data.toList[i]? = some b/\x = .int .u8 b.toNat:=by
    simp only [mg,CG,cS] at hx;obtain ⟨b,h1,h2⟩:=hx;exact ⟨b,h1,h2.symm⟩
   refine ⟨rfl,fun k y hy=>?_⟩;have hk:k=0:=by
    have:=(vM.1 hy).1;simp [Value.cells] at this;exact this
   subst hk;simp [Value.cells] at hy;subst hy;simpa using hx
 ·exact hg.elim
theorem N5 {B:St} {b off n sz:Nat} {r:anf} {bK:List Value} (hr:B.get b=some (.row r.cs r.cg r.own r.cp)) (hl:qY sz off r.cs bK) (hn:bK.length=n) (fZ:1<=sz) :
  B.Au ⟨b,off,none⟩ (n * sz)=some (b9 bK):=by
 have hs:∀ v∈bK,v.cells.size=sz:=fun v hv=>by
  obtain ⟨i,hi⟩:=List.getElem?_of_mem hv;exact (hl i v hi).1
 have hlen:=j4 hs;have L9:=nt hs;have rb:∀ j,j < n * sz->r.cs[off+j]? = (b9 bK)[j]?:=by
  intro j hj;have hi:j / sz < bK.length:=by rw [hn]; exact Nat.div_lt_of_lt_mul (by rw [Nat.mul_comm]; exact hj)
  have hv:bK[j / sz]? = some bK[j / sz]:=dr hi;have hk:j % sz < bK[j / sz].cells.size:=by rw [hs _ (List.getElem_mem hi)]; exact Nat.mod_lt _ fZ
  have hy:bK[j / sz].cells[j % sz]? = some (bK[j / sz].cells[j % sz]):=by simp [hk]
  have h1:=(hl _ _ hv).2 _ _ hy;have h2:=(L9 _ _ hv).2 _ _ hy;have N6:j / sz * sz+j % sz=j:=by rw [Nat.mul_comm]; exact Nat.div_add_mod j sz
  rw [Hg,N6] at h1;rw [bM,N6] at h2;rw [h1,h2]
 simp only [St.Au,dp,Option.isNone_none,ak,Cf,hr,fy];rw [hn] at hlen;have hle:n * sz<=(r.cs.drop off).length:=by
  cases hm:n * sz with
  | zero=>omega
  | succ q=>
   have:=rb q (by omega);rw [dr (show q < (b9 bK).length by omega)] at this;have h7:=(dq.1 this).1;rw [List.length_drop];omega
 rw [uO,Mq hle];congr 1;apply List.ext_getElem?;intro i;rw [pH];split
 ·rename_i hi
  rw [pS];exact rb i hi
 ·exact (aeO.2 (by omega)).symm
theorem af9 {T:TypeId} {m:Mk} {n:Nat} {es:List KV} {acc:Nat->KV} {u:Value} {A:aw} {B:St} (h:fX P E A B) (hv:VK P E (.ts T m n es acc) u) (fZ:1<=bD P T) :
  ∃ bK,bC P E es bK/\ab6 u=some n/\y4 B (bD P T) n u=some (b9 bK)/\(∀ v∈bK,v.cells.size=bD P T)/\bK.length=n/\es.length=n/\ga (bB P T) es=true:=by
 obtain ⟨ht,bK,h1,a,cap,rfl,h2,h3,_⟩:=hv.mD;have hlen:=ht.len;have uz:bK.length=n:=by rw [h1.length]; exact hlen.symm
 have hs:=nV ht.typed h1;refine ⟨bK,h1,rfl,?_,fun v hv=>(hs v hv).1,uz,hlen.symm,ht.typed⟩;rcases h3 with ⟨rfl,h0⟩ | ⟨b,off,r,rfl,h4,h5,h6⟩
 ·have:bK = []:=pR.1 (by omega)
  subst this;simp [y4,h0,b9]
 ·exact N5 (h.z b r h4) h6 uz fZ
theorem ku.join {T:TypeId} {n m:Nat} {es fs:List KV} {f g:Nat->KV} (h:ku P T n es f) (k:ku P T m fs g):ku P T (n+m) (es++fs) (aH n f g) where
 len:=by rw [nH,<- h.len,<- k.len]
 acc i hi:=by
  unfold aH;by_cases hn:i < n
  ·have:Nat.blt i n=true:=by rw [cq]; exact hn
   rw [this,ak,h.acc i hn,iL,iL,r7 (by rw [<- h.len]; exact hn)]
  ·have:Nat.blt i n=false:=by
    cases hb:Nat.blt i n with
    | false=>rfl
    | true=>rw [cq] at hb; omega
   rw [this,ba,k.acc (i - n) (by omega),iL,iL,uC (by rw [<- h.len]; omega),<- h.len]
 typed:=Pl h.typed k.typed
theorem ku.none {T:TypeId} {g:Nat->KV} : ku P T 0 [] g:=⟨rfl,fun i h=>by omega,rfl⟩
structure Src (P:Program) (E:Env) (B:St) (T:TypeId) (n:Nat) (es:List KV) (acc:Nat->KV) (u:Value) (bK:List Value):Prop where
 tree:ku P T n es acc
 rel:bC P E es bK
 len:ab6 u=some n
 size:∀ v∈bK,v.cells.size=bD P T
 length:bK.length=n
 first:∀ k,k<=n->y4 B (bD P T) k u=some (b9 (bK.take k))
theorem Src.all {B:St} {T:TypeId} {n:Nat} {es:List KV} {acc:Nat->KV} {u:Value} {bK:List Value} (h:Src P E B T n es acc u bK):y4 B (bD P T) n u=some (b9 bK):=by
 rw [h.first n (aU _),List.take_of_length_le (Nat.le_of_eq h.length)]
theorem qY.take {sz off:Nat} {cs es:List Value} (h:qY sz off cs es) (k:Nat):qY sz off cs (es.take k):=fun i x hi=>h i x (by
 rw [pH] at hi;split at hi
 ·exact hi
 ·simp at hi)
theorem qY.drop {sz off:Nat} {cs es:List Value} (h:qY sz off cs es) (o:Nat):qY sz (off+o * sz) cs (es.drop o):=fun i x hi=>by
 rw [pS] at hi;obtain ⟨h1,h2⟩:=h (o+i) x hi;refine ⟨h1,fun k y hy=>?_⟩;rw [<- h2 k y hy,Nat.add_mul];congr 1;omega
theorem auu {T:TypeId} {m:Mk} {n:Nat} {es:List KV} {acc:Nat->KV} {u:Value} {A:aw} {B:St} (h:fX P E A B) (hv:VK P E (.ts T m n es acc) u) (fZ:1<=bD P T):∃ bK,Src P E B T n es acc u bK:=by
 obtain ⟨ht,bK,h1,a,cap,rfl,h2,h3,_⟩:=hv.mD;have uz:bK.length=n:=by rw [h1.length]; exact ht.len.symm
 have hs:=nV ht.typed h1;refine ⟨bK,ht,h1,rfl,fun v hv=>(hs v hv).1,uz,fun k hk=>?_⟩;rcases h3 with ⟨rfl,h0⟩ | ⟨b,off,r,rfl,h4,h5,h6⟩
 ·have:bK = []:=pR.1 (by omega)
  subst this;have:k=0:=by omega
  subst this;simp [y4,b9]
 ·exact N5 (h.z b r h4) (h6.take k) (by rw [nJ]; omega) fZ
theorem auv {T:TypeId} {m:Mk} {b o n N:Nat} {es:List KV} {acc:Nat->KV} {u:Value} {A:aw} {B:St} (h:fX P E A B) (hv:VK P E (.al T b o n) u) (ha:Lb A b=some (.ts T m N es acc)) (fZ:1<=bD P T) :
  ∃ bK,Src P E B T n ((es.drop o).take n) (fun i=>acc (o+i)) u bK:=by
 have row:∀ {x:Nat} {r:anf} {bK:List Value} {c:Nat},u = .slice (some ⟨x,o * bD P T,none⟩) n c->o+n<=N->ku P T N es acc->B.get x=some (.row r.cs r.cg r.own r.cp)->bC P E es bK->qY (bD P T) 0 r.cs bK->∃ bK,Src P E B T n ((es.drop o).take n) (fun i=>acc (o+i)) u bK:=by
  intro x r bK c hu hon ht hr VV hl;subst hu;have aaN:bK.length=N:=by rw [VV.length]; exact ht.len.symm
  have apB:((es.drop o).take n).length=n:=by rw [nJ,List.length_drop,<- ht.len]; omega
  have atm:((bK.drop o).take n).length=n:=by rw [nJ,List.length_drop,aaN]; omega
  have hs:=nV ht.typed VV;refine ⟨(bK.drop o).take n,⟨apB.symm,fun i hi=>?_,rK fun i x hi=>?_⟩,(VV.drop o).take n,rfl,fun v hv=>(hs v (List.mem_of_mem_drop (List.mem_of_mem_take hv))).1,atm,fun k hk=>?_⟩
  ·rw [ht.acc (o+i) (by omega),iL,iL,pH,aY hi,pS]
  ·rw [pH] at hi
   split at hi
   ·rw [pS] at hi; exact kv ht.typed hi
   ·simp at hi
  ·have nj:=((hl.drop o).take n).take k
   rw [bM] at nj;exact N5 hr nj (by rw [nJ,atm]; omega) fZ
 rcases hv.zb with ⟨rfl,rfl,rfl⟩ | ⟨x,L,N0,c,h1,h2,h3,h4,h5⟩
 ·refine ⟨[],⟨by simp,fun i hi=>by omega,rfl⟩,by simpa using bC.nil,rfl,by simp,rfl,fun k hk=>?_⟩
  have:k=0:=by omega
  subst this;simp [y4,b9]
 ·unfold Lb at ha
  split at ha
  ·rename_i v hb
   simp only [di] at ha;subst ha;obtain ⟨T2,N2,pQ,aE,e,ht,_,Ax⟩:=h.ar.arr b _ hb;simp only [KV.ts.injEq] at e;obtain ⟨rfl,rfl,rfl,rfl,rfl⟩:=e;rcases Ax with ⟨_,e⟩ | ⟨x2,cs,cp,bK,e,h6,h7,h8⟩
   ·rw [h1] at e; simp at e
   ·rw [h1] at e
    simp only [di,fS] at e;obtain ⟨rfl,rfl,rfl⟩:=e;exact row (r:=⟨cs,bD P T,true,cp⟩) h2 h4 ht h6 h7 h8
  ·rename_i v hb
   simp only [di] at ha;subst ha;obtain ⟨T2,N2,pQ,aE,e,ht,_,Ax⟩:=h.ar.kW b _ hb;simp only [KV.ts.injEq] at e;obtain ⟨rfl,rfl,rfl,rfl,rfl⟩:=e;rcases Ax with ⟨_,e⟩ | ⟨x2,r,bK,e,h6,h6',h7,h8⟩
   ·rw [h1] at e; simp at e
   ·rw [h1] at e
    simp only [di,fS] at e;obtain ⟨rfl,rfl,rfl⟩:=e;exact row h2 h4 ht (h.z _ _ h6) h7 h8
  ·simp at ha
theorem aq1 {A:aw} {B:St} {y:KV} {u:Value} {T:TypeId} {m:Mk} {n:Nat} {es:List KV} {acc:Nat->KV} (h:fX P E A B) (hv:VK P E y u) (hs:Qy A y=some (.ts T m n es acc)) (fZ:1<=bD P T):∃ bK,Src P E B T n es acc u bK:=by
 unfold Qy at hs;split at hs
 ·rename_i T' b o k
  unfold alq at hs;split at hs
  ·rename_i T2 _ _ pQ aE ha
   cases hb:Nat.beq T' T2 with
   | false=>rw [hb] at hs; simp at hs
   | true=>
    have:=bu hb;subst this;rw [hb,ak] at hs;simp only [di,KV.ts.injEq] at hs;obtain ⟨rfl,rfl,rfl,rfl,rfl⟩:=hs;rw [alp];exact auv h hv ha fZ
  ·simp at hs
 ·simp only [di,KV.ts.injEq] at hs
  obtain ⟨rfl,rfl,rfl,rfl,rfl⟩:=hs;exact auu h hv fZ
 ·simp at hs
theorem apC {e n b:Nat} (hn:bD P e=n) (h1n:1<=n) {E:Env} {A A' : aw} {B:St} {x v:KV} {u w:Value} {e' : TypeId} {mk:Mk} {k:Nat} {new:List KV} {acc:Nat->KV} (h:fX P E A B) (h1:VK P E x u)
  (hsr:Nat.beq e e' = true->∃ bK,Src P E B e' k new acc w bK) (hg:bf (Qx e n b A [x,.ts e' mk k new acc]) (v,A')):∃ r B' E',lP n b B [u,w] = some (r,B')/\VK P E' v r/\dR P E A B E' A' B':=by
 have xN:1<=bD P e:=by omega
 have put:∀ (E1:Env) (A1:aw) (m f k:Nat) (base new:List KV) (ab an:Nat->KV) (more:Bool) (A2:aw) (v:KV),bf (XK e n b m base ab A1 f k new an more) (v,A2)->
   (more=true/\Nat.ble ((m+k) * b) 140737488355328=true/\Nat.ble (m+k) 17592186044416=true)/\v = .ts e (.bA f) (m+k) (base++new) (aH m ab an)/\A2=A1.put f (.bA (m+k) n):=by
  intro E1 A1 m f k base new ab an more A2 v hp;obtain ⟨hc,hp⟩:=bf.lQ hp;simp only [kD,aA] at hc;simp only [fS] at hp;exact ⟨⟨hc.1,hc.2.1,hc.2.2⟩,hp.1.symm,hp.2.symm⟩
 unfold Qx at hg;split at hg
 ·
  rename_i e9 mk9 k9 aq2 aq3 heq;simp only [List.cons.injEq,KV.ts.injEq,and_true] at heq;obtain ⟨rfl,rfl,rfl,rfl,rfl,rfl⟩:=heq;have:=h1.pZ; subst this;obtain ⟨he,hz0⟩:=hg.cond;clear hg;obtain ⟨cR,lA⟩:=hsr he;have:=bu he;subst this;obtain ⟨⟨_,Gp,xD⟩,rfl,rfl⟩:=put E _ _ _ _ _ _ _ _ _ _ _ hz0;have QO:=lA.tree;have h3:=lA.rel;have h4:=lA.len;have h5:=lA.all;have h6:=lA.size;have h7:=lA.length;have h8:=QO.len.symm;rw [hn] at h5 h6;have CT:=dR.aqX n h;have hAf:(A.new (.bA 0 n)).get A.next=some (.bA 0 n):=by simp
  have JG:E.φ A.next=none:=by
   cases hq:E.φ A.next with
   | none=>rfl
   | some g=>have:=h.nS _ g hq; omega
  cases k with
  | zero=>
   have xL:new = []:=pR.1 h8;have VW:cR = []:=pR.1 h7;subst xL VW;refine ⟨.slice none 0 0,B,E,?_,?_,?_⟩
   ·simp only [lP,h4,fy]
    rw [h5];rfl
   ·simp only [VK]
    exact ⟨⟨rfl,fun i hi=>by omega,rfl⟩,[],.nil,none,0,rfl,aU _,.inl ⟨rfl,rfl⟩,rfl,.inl ⟨rfl,rfl⟩⟩
   ·exact CT.after (dR.aq0 n CT.kC hAf JG)
  | succ k=>
   have Ht:=dR.grow (c:=b9 cR) (top:=0) (T8:=k+1) (sz:=n) (g:=B.next) (f:=A.next) CT.kC hAf (.inl ⟨JG,rfl⟩) (by rw [j4 h6,h7]) (by omega) (by omega);refine ⟨.slice (some ⟨B.next,0,none⟩) (k+1) (k+1),B.grow B.next 0 (b9 cR) n,_,?_,?_,CT.after (by simpa using Ht)⟩
   ·simp only [bM] at Gp xD
    simp only [lP,h4,fy,bM];rw [show Nat.ble (k+1) 0=false from rfl,ba,Gp,xD,h5];rfl
   ·simp only [VK,bM,List.nil_append]
    have VW:=h3.mono (Env.le_trans CT.le Ht.le);have hl:=nt h6;refine ⟨by have:=ku.none (P:=P) (T:=e) (g:=qX) |>.join QO; simpa using this,cR,VW,_,_,rfl,aU _,.inr ⟨B.next,0,⟨b9 cR,n,true,some (B.next,0)⟩,rfl,by simp [Env.uZ,Env.il],hn.symm,by rw [hn]; exact hl⟩,rfl,.inr ⟨B.next,⟨b9 cR,n,true,some (B.next,0)⟩,B.next,rfl,by simp [Env.uZ,Env.il],rfl,by simp [Env.uZ],rfl,?_⟩⟩;rw [hn];simp only;rw [j4 h6,h7]
 ·
  rename_i e1 m es au1 e9 mk9 k9 aq2 aq3 heq;simp only [List.cons.injEq,KV.ts.injEq,and_true] at heq;obtain ⟨rfl,rfl,rfl,rfl,rfl,rfl⟩:=heq;obtain ⟨he,hz0⟩:=hg.cond;clear hg;simp only [aA] at he;obtain ⟨cR,lA⟩:=hsr he.1;have:=bu he.1;subst this;have:=bu he.2;subst this;obtain ⟨⟨hk,Gp,xD⟩,rfl,rfl⟩:=put E _ _ _ _ _ _ _ _ _ _ _ hz0;have hk:0 < k:=by rwa [cq] at hk
  have zc:=h1.mD.1;have QO:=lA.tree;have h3:=lA.rel;have h4:=lA.len;have h5:=lA.all;have h6:=lA.size;have h7:=lA.length;have h8:=QO.len.symm;obtain ⟨ux,h3b,h4b,h5b,h6b,h7b,h8b,h9b⟩:=af9 h h1 xN;rw [hn] at h5 h6 h5b h6b;obtain ⟨_,am2,yr,a,cap,rfl,aqH,N7,apD⟩:=h1.mD;obtain ⟨rfl,XV⟩:=apD;have CT:=dR.aqX n h;have hAf:(A.new (.bA 0 n)).get A.next=some (.bA 0 n):=by simp
  have JG:E.φ A.next=none:=by
   cases hq:E.φ A.next with
   | none=>rfl
   | some g=>have:=h.nS _ g hq; omega
  have hs:∀ v∈ux++cR,v.cells.size=n:=fun v hv=>by
   rcases nI.1 hv with hv | hv
   ·exact h6b v hv
   ·exact h6 v hv
  have hlen:(b9 (ux++cR)).length=(cap+k) * n:=by rw [j4 hs,nH,h7b,h7]
  have Ht:=dR.grow (c:=b9 (ux++cR)) (top:=0) (T8:=cap+k) (sz:=n) (g:=B.next) (f:=A.next) CT.kC hAf (.inl ⟨JG,rfl⟩) hlen (by omega) (by omega);refine ⟨.slice (some ⟨B.next,0,none⟩) (cap+k) (cap+k),B.grow B.next 0 (b9 (ux++cR)) n,_,?_,?_,CT.after Ht⟩
  ·simp only [lP,h4,fy]
   have hnb:Nat.ble (cap+k) cap=false:=by
    cases hq:Nat.ble (cap+k) cap with
    | false=>rfl
    | true=>have:=fR hq; omega
   rw [hnb,ba,Gp,xD];rcases N7 with ⟨rfl,h0⟩ | ⟨b',off,r,rfl,hz,he2,nj⟩
   ·subst h0
    have:ux = []:=pR.1 h7b;subst this;simp only [xh,Bl,dk];rw [show Nat.beq 0 0=true from rfl,ak,h5];simp [Ig]
   ·obtain ⟨r2,Il,ho,anv,aq4⟩:=XV b' off rfl
    rw [hz] at Il;simp at Il;subst Il;have hQ:=h.z b' r hz;have hex:xh B n cap (some ⟨b',off,none⟩)=true:=by
     simp only [xh,hQ,anv];rw [hn] at aq4;simp [aq4]
    rw [hex];simp only [dk,ak,h5,fy];simp only [y4] at h5b;have Xz:Nat.beq r.cg n=true:=by rw [he2,hn]; simp
    simp only [Ig,dp,Option.isNone_none,ak,h5b,fy,hQ,Xz,anv,ho];rw [<- A5]
  ·simp only [VK]
   have hrel:=(h3b.append h3).mono (Env.le_trans CT.le Ht.le);have hl:=nt hs;refine ⟨zc.join QO,ux++cR,hrel,_,_,rfl,aU _,.inr ⟨B.next,0,⟨b9 (ux++cR),n,true,some (B.next,0)⟩,rfl,by simp [Env.uZ,Env.il],hn.symm,by rw [hn]; exact hl⟩,rfl,.inr ⟨B.next,⟨b9 (ux++cR),n,true,some (B.next,0)⟩,B.next,rfl,by simp [Env.uZ,Env.il],rfl,by simp [Env.uZ],rfl,?_⟩⟩;rw [hn];exact hlen
 ·
  rename_i e1 f m es au1 e9 mk9 k9 aq2 aq3 heq;simp only [List.cons.injEq,KV.ts.injEq,and_true] at heq;obtain ⟨rfl,rfl,rfl,rfl,rfl,rfl⟩:=heq;split at hg
  ·rename_i top sz' acn
   obtain ⟨he,hz0⟩:=hg.cond;clear hg;simp only [aA] at he;obtain ⟨cR,lA⟩:=hsr he.1.1;have:=bu he.1.1;subst this;have:=bu he.1.2;subst this;have atg:=bu he.2;rw [atg] at acn;obtain ⟨⟨Tb,Gp,xD⟩,rfl,rfl⟩:=put E _ _ _ _ _ _ _ _ _ _ _ hz0;have:=bu Tb;subst this;have zc:=h1.mD.1;have QO:=lA.tree;have h3:=lA.rel;have h4:=lA.len;have h5:=lA.all;have h6:=lA.size;have h7:=lA.length;have h8:=QO.len.symm;obtain ⟨ux,h3b,h4b,h5b,h6b,h7b,h8b,h9b⟩:=af9 h h1 xN;rw [hn] at h5 h6 h5b h6b;obtain ⟨_,am2,yr,a,cap,rfl,aqH,N7,apD⟩:=h1.mD;obtain ⟨rfl,XV⟩:=apD;have hs:∀ v∈ux++cR,v.cells.size=n:=fun v hv=>by
    rcases nI.1 hv with hv | hv
    ·exact h6b v hv
    ·exact h6 v hv
   have hlen:(b9 (ux++cR)).length=(cap+k) * n:=by rw [j4 hs,nH,h7b,h7]
   have avy:=h3b.append h3;have hl:=nt hs;have fin:∀ (E2:Env) (x g:Nat),E.le E2->E2.z x=some ⟨b9 (ux++cR),n,true,some (g,0)⟩->E2.φ f=some g->VK P E2 (.ts e (.bA f) (cap+k) (es++new) (aH cap au1 acc)) (.slice (some ⟨x,0,none⟩) (cap+k) (cap+k)):=by
    intro E2 x g hle hzx awl;simp only [VK];refine ⟨zc.join QO,ux++cR,avy.mono hle,_,_,rfl,aU _,.inr ⟨x,0,_,rfl,hzx,hn.symm,by rw [hn]; exact hl⟩,rfl,.inr ⟨x,_,g,rfl,hzx,rfl,awl,rfl,?_⟩⟩;rw [hn];exact hlen
   rcases XV with ⟨rfl,rfl⟩ | ⟨b',r,g,rfl,hz,ho,JG,anv,hcl⟩
   ·
    have hold:es = []:=pR.1 h8b;have alH:ux = []:=pR.1 h7b;subst hold alH;have JG:E.φ f=none:=by
     rcases h.bA f 0 n acn with ⟨_,KZ⟩ | ⟨g2,_,KZ,_⟩
     ·exact KZ
     ·omega
    cases k with
    | zero=>
     have xL:new = []:=pR.1 h8;have VW:cR = []:=pR.1 h7;subst xL VW;refine ⟨.slice none 0 0,B,E,?_,?_,dR.aq0 n h acn JG⟩
     ·simp only [lP,h4,fy]
      rw [h5];rfl
     ·simp only [VK]
      exact ⟨⟨rfl,fun i hi=>by omega,rfl⟩,[],.nil,none,0,rfl,aU _,.inl ⟨rfl,rfl⟩,rfl,.inl ⟨rfl,rfl⟩⟩
    | succ k=>
     have Ht:=dR.grow (c:=b9 ([]++cR)) (top:=0) (T8:=0+(k+1)) (sz:=n) (g:=B.next) (f:=f) h acn (.inl ⟨JG,rfl⟩) hlen (by omega) (by omega);refine ⟨.slice (some ⟨B.next,0,none⟩) (0+(k+1)) (0+(k+1)),B.grow B.next 0 (b9 ([]++cR)) n,_,?_,fin _ B.next B.next Ht.le (by simp [Env.uZ,Env.il]) (by simp [Env.uZ]),Ht⟩;simp only [bM] at Gp xD;simp only [lP,h4,fy,bM,List.nil_append];rw [show Nat.ble (k+1) 0=false from rfl,ba,Gp,xD,h5];rfl
   ·
    have hcap1:0 < cap:=by
     rcases Nat.eq_zero_or_pos cap with h0 | h0
     ·subst h0
      rcases h.bA f 0 n acn with ⟨_,KZ⟩ | ⟨g2,_,KZ,_⟩
      ·rw [JG] at KZ; simp at KZ
      ·omega
     ·exact h0
    rcases Nat.eq_zero_or_pos k with yp | yp
    ·subst yp
     have xL:new = []:=pR.1 h8;have VW:cR = []:=pR.1 h7;subst xL VW;refine ⟨.slice (some ⟨b',0,none⟩) cap cap,B,E,?_,?_,dR.atk h acn⟩
     ·simp only [lP,h4,fy]
      rw [show Nat.ble (cap+0) cap=true from Nat.ble_eq_true_of_le (aU _),ak,h5];rfl
     ·simp only [VK]
      exact ⟨zc.join QO,am2,by rw [yX]; exact yr,some ⟨b',0,none⟩,cap,rfl,aU _,N7,rfl,.inr ⟨b',r,g,rfl,hz,ho,JG,anv,hcl⟩⟩
    have avz:0 < cap+k/\0 < k:=⟨by omega,yp⟩
    have hQ:=h.z b' r hz;rw [ho,anv] at hQ;have Xz:r.cg=n:=by
     rcases N7 with ⟨h0,_⟩ | ⟨b2,atn,r2,e2,Il,he2,_⟩
     ·simp at h0
     ·simp at e2
      obtain ⟨rfl,rfl⟩:=e2;rw [hz] at Il;simp at Il;subst Il;rw [he2,hn]
    have avA:B.kill B.next (0+(0+cap * n)) (0+(0+cap * n)+(b9 cR).length) (B.members g)=B:=by
     refine af5 fun y hy=>?_;rcases h.bA f cap n acn with ⟨_,KZ⟩ | ⟨g2,KZ,_,h3'⟩
     ·rw [JG] at KZ; simp at KZ
     ·rw [JG] at KZ
      simp at KZ;subst KZ;cases hy2:B.get y with
      | none=>rfl
      | some o=>cases o with
       | row nN e2 JR uw=>
        cases uw with
        | none=>rfl
        | some p=>
         obtain ⟨f2,k2⟩:=p;obtain ⟨rfl,hle2⟩:=h3' y hy nN e2 JR f2 k2 hy2;simp only [rV,meets,bM];have:Nat.blt (cap * n) nN.length=false:=by
          cases hq:Nat.blt (cap * n) nN.length with
          | false=>rfl
          | true=>rw [cq] at hq; omega
         rw [this,Bool.false_and]
       | _=>rfl
    have Ht:=dR.grow (c:=b9 (ux++cR)) (top:=cap) (T8:=cap+k) (sz:=n) (g:=g) (f:=f) h acn (.inr JG) hlen (by omega) avz.1;refine ⟨.slice (some ⟨B.next,0,none⟩) (cap+k) (cap+k),B.grow g 0 (b9 (ux++cR)) n,_,?_,fin _ B.next g Ht.le (by simp [Env.uZ,Env.il]) (by simp [Env.uZ]),Ht⟩;have hnb:Nat.ble (cap+k) cap=false:=by
     cases hq:Nat.ble (cap+k) cap with
     | false=>rfl
     | true=>have:=fR hq; omega
    have hex:xh B n cap (some ⟨b',0,none⟩)=true:=by simp only [xh,hQ]
    simp only [lP,h4,fy,hnb,ba,Gp,xD,hex,dk,ak,h5];simp only [y4] at h5b;have awm:Nat.beq r.cg n=true:=by rw [Xz]; simp
    simp only [Ig,dp,Option.isNone_none,ak,h5b,fy,hQ,awm,avA,<- A5]
  ·exact hg.elim
 ·exact hg.elim
end Go.K
end
section
namespace Go.K
open Go Go.aB
variable {P:Program} {E:Env}
theorem dR.auw {A A1:aw} {B:St} {T:TypeId} {acc:Nat->KV} (h:fX P E A B) (vY:A1.next=A.next) (N4:∀ c o,A1.get c=some o->A.get c=some o\/(o = .dead/\c < A.next)) (fZ:1<=bD P T) :
  dR P E A B E (A1.new (.arr (.ts T .any 0 [] acc))) B:=by
 have ati:E.α A.next=none:=by
  cases hq:E.α A.next with
  | none=>rfl
  | some p=>have:=h.ar.lW _ p hq; omega
 have lD:∀ c o,(A1.new (.arr (.ts T .any 0 [] acc))).get c=some o->(c=A.next/\o = .arr (.ts T .any 0 [] acc))\/(o = .dead/\c < A.next)\/A.get c=some o:=fun c o hc=>by
  rw [aw.dz,vY] at hc;split at hc
  ·rename_i e; simp at hc; exact .inl ⟨e,hc.symm⟩
  ·rcases N4 c o hc with e | e
   ·exact .inr (.inr e)
   ·exact .inr (.inl e)
 have yH:∀ c v,(A1.new (.arr (.ts T .any 0 [] acc))).get c=some (.arr v)->E.α c=none\/A.get c=some (.arr v):=fun c v hc=>by
  rcases lD c _ hc with ⟨e,_⟩ | ⟨e,_⟩ | e
  ·exact .inl (by rw [e]; exact ati)
  ·simp at e
  ·exact .inr e
 have hA:∀ c v y L N,(A1.new (.arr (.ts T .any 0 [] acc))).get c=some (.arr v)->E.α c=some (y,L,N)->A.get c=some (.arr v):=fun c v y L N hc hy=>by
  rcases yH c v hc with e | e
  ·rw [e] at hy; simp at hy
  ·exact e
 have uh:∀ y,AR (A1.new (.arr (.ts T .any 0 [] acc))) E y->AR A E y:=fun y ⟨c,v,L,N,h1,h2⟩=>⟨c,v,L,N,hA c v _ _ _ h1 h2,h2⟩
 have Lh:∀ g,AF (A1.new (.arr (.ts T .any 0 [] acc))) E B g->AF A E B g:=fun g ⟨c,v,x,L,N,cs,e,own,k,h1,h2,h3⟩=>⟨c,v,x,L,N,cs,e,own,k,hA c v _ _ _ h1 h2,h2,h3⟩
 refine ⟨⟨fun c cs cg hc=>?_,fun c top sz hc=>?_,h.z,h.apart,h.inj,?_,fun b x e=>by rw [aw.cC,vY]; have:=h.lW b x e; omega,fun b g e=>by rw [aw.cC,vY]; have:=h.nS b g e; omega,fun c o hc=>?_,h.iW,h.nT,h.lu,h.fresh,h.mem,?_⟩,Env.le_refl _,by rw [aw.cC,vY]; omega,fun _ _ _ _=>rfl,fun _ _ e=>.inl e,fun _ _ e=>.inl e,fun _ _ e=>.inl e,fun _ _ _ _=>rfl,fun x q=>.inl (uh x q),fun g q=>.inl (Lh g q),fun _ _ q=>.inl q,fun y q=>.inl (q.imp (uh y) fun ⟨g,q1,q2⟩=>⟨g,Lh g q1,q2⟩),nU fun _ _=>rfl⟩
 ·rcases lD c _ hc with ⟨_,e⟩ | ⟨e,_⟩ | e
  ·simp at e
  ·simp at e
  ·exact h.row c cs cg e
 ·rcases lD c _ hc with ⟨_,e⟩ | ⟨e,_⟩ | e
  ·simp at e
  ·simp at e
  ·exact h.bA c top sz e
 ·intro b c g tb sb tc sc hb hc e1 e2
  rcases lD b _ hb with ⟨_,e⟩ | ⟨e,_⟩ | hb
  ·simp at e
  ·simp at e
  rcases lD c _ hc with ⟨_,e⟩ | ⟨e,_⟩ | hc
  ·simp at e
  ·simp at e
  exact h.kR b c g _ _ _ _ hb hc e1 e2
 ·rw [aw.cC,vY]
  rcases lD c _ hc with ⟨e,_⟩ | ⟨_,e⟩ | e
  ·omega
  ·omega
  ·have:=h.live c o e; omega
 ·refine ⟨fun c v hc=>?_,fun c v hc=>?_,fun x q=>h.ar.z x (uh x q),fun b c v u x L N L' N' h1 h2 h3 h4=>h.ar.inj b c v u x L N L' N' (hA b v _ _ _ h1 h3) (hA c u _ _ _ h2 h4) h3 h4,fun b c v u x y L N L' N' cs e own g k cu e' rJ k' h1 h2 h3 h4=>h.ar.xK b c v u x y L N L' N' cs e own g k cu e' rJ k' (hA b v _ _ _ h1 h3) (hA c u _ _ _ h2 h4) h3 h4,h.ar.dis,fun b p e=>by rw [aw.cC,vY]; have:=h.ar.lW b p e; omega,h.ar.iW,fun b v x L N cs e own g k h1 h2 h3=>?_,fun c v hc=>?_⟩
  ·rcases lD c _ hc with ⟨e,e2⟩ | ⟨e,_⟩ | e
   ·simp at e2
    subst e2;exact ⟨T,0,[],acc,rfl,⟨rfl,fun i hi=>by omega,rfl⟩,fZ,.inl ⟨rfl,by rw [e]; exact ati⟩⟩
   ·simp at e
   ·exact h.ar.arr c v e
  ·rcases lD c _ hc with ⟨_,e⟩ | ⟨e,_⟩ | e
   ·simp at e
   ·simp at e
   ·exact h.ar.kW c v e
  ·obtain ⟨q1,q2,q3⟩:=h.ar.vL b v x L N cs e own g k (hA b v _ _ _ h1 h2) h2 h3
   exact ⟨q1,q2,fun y hy de=>⟨(q3 y hy de).1,fun q=>(q3 y hy de).2.1 (uh y q),(q3 y hy de).2.2⟩⟩
  ·rw [aw.cC,vY]
   rcases lD c _ hc with ⟨e,_⟩ | ⟨e,_⟩ | e
   ·rw [e]
    refine ⟨Nat.lt_succ_self _,?_⟩;cases hk:E.κ A.next with
    | none=>rfl
    | some x=>have:=h.lW _ x hk; omega
   ·simp at e
   ·obtain ⟨q1,q2⟩:=h.ar.nk c v e
    exact ⟨by omega,q2⟩
theorem akx {E:Env} {T:TypeId} {b x L N n c:Nat} (tF:E.α b=some (x,L,N)) (h1:n<=c) (h2:n<=N) (h3:c * bD P T=L):VK P E (.al T b 0 n) (.slice (some ⟨x,0,none⟩) n c):=
 .T4 (.inr ⟨x,L,N,c,tF,by simp,h1,by omega,by rw [bM]; exact h3⟩)
theorem anw {T b n:Nat} {z:Value} (hn:bD P T=n) (h1n:1<=n) (hz:z.cells.size=n) (he:cP (bB P T) (K.fe (bB P T) (iH z))=true):af2 P (aaC T b (K.fe (bB P T) (iH z))) (FL n b z):=by
 intro E A A' B vs us v h hv hg;unfold aaC at hg;split at hg
 ·rename_i k l k' c
  obtain ⟨x,y,rfl,h1,h2⟩:=hv.lR;have:=h1.cU; subst this;have:=h2.cU; subst this;obtain ⟨hc,hg⟩:=bf.lQ hg;simp only [fS] at hg;obtain ⟨rfl,rfl⟩:=hg;simp only [aA,o7] at hc;obtain ⟨⟨h3,h4⟩,h5⟩:=hc;obtain ⟨l',rfl⟩:=Int.eq_ofNat_of_zero_le h3;obtain ⟨c',rfl⟩:=Int.eq_ofNat_of_zero_le (Int.le_trans h3 h4);have h6:Nat.ble l' c' = true:=Nat.ble_eq_true_of_le (by omega);have hs:∀ v∈List.replicate c' z,v.cells.size=n:=fun v hv=>by rw [List.eq_of_mem_replicate hv]; exact hz
  have hlen:(b9 (List.replicate c' z)).length=c' * n:=by rw [j4 hs,List.length_replicate]
  have N8:∀ m,dI [K.fe (bB P T) (iH z)] m=List.replicate m (K.fe (bB P T) (iH z)):=fun m=>by
   induction m with
   | zero=>rfl
   | succ m ih=>simp [dI,ih,List.replicate_succ]
  have gR:=dR.SN (P:=P) (X:=fun _=>False) (G:=fun _=>False) (y2:=B.next) (N2:=c') (T:=T) (pQ:=dI [K.fe (bB P T) (iH z)] c') (aE:=fun _=>K.fe (bB P T) (iH z)) (FN:=List.replicate c' z) (nN:=b9 (List.replicate c' z)) (uw:=none) (A1:=A) (B':=B.new (.row (b9 (List.replicate c' z)) n true none)) h rfl (fun _ _ e=>.inl e) (fun _ _ _ _ _ _ _=>⟨id,fun _ _ _ _ _ _=>id⟩) (fun _ e=>e.elim) (fun _ e=>e.elim) (.inr (aU _)) (by simp) (by simp [hn]) (fun _ _ e=>by simp at e)
   (fun y hy _=>.inl (by rw [St.dz,av (by omega)])) (fun _ e=>e.elim) (fun q y hy=>.inl (by simpa using hy)) (fun q _=>by simp) (by simp) (fun g hg=>by rw [St.lh]; exact h.fresh g (by rw [St.cC] at hg; omega)) (fun g y hy=>by rw [St.lh] at hy; rw [St.cC]; have:=h.mem g y hy; omega)
   (by omega) ⟨by rw [N8]; simp,fun i hi=>by rw [N8,iL,List.getElem?_replicate,aY hi]; rfl,by
    rw [N8];exact rK fun i x hx=>by rw [List.getElem?_replicate] at hx; split at hx <;> simp at hx; subst hx; exact he⟩ (by
    rw [N8];generalize c' = m
    induction m with
    | zero=>exact .nil
    | succ m ih=>exact .cons (VK.iH z).fe ih) (by rw [hn]; exact nt hs)
  refine ⟨.row (iG z.cells.toList c') n true none,fun k=>.slice (some ⟨k,0,none⟩) l' c',E.FT A.next (B.next,(b9 (List.replicate c' z)).length,c'),?_,?_,?_⟩
  ·have h5:Nat.ble (b * c') 281474976710656=true:=h5
   show cond (Nat.ble l' c'&&Nat.ble (b * c') 281474976710656) _ _=_;rw [h6,h5];rfl
  ·exact akx Env.Cm (by omega) (by show l'<=c'; omega) (by rw [hn,hlen])
  ·rw [C3]; exact gR
 ·exact hg.elim
theorem alI {e:TypeId} {n len:Nat} {z:Value} {is:List Nat} (hn:(bB P e).ks.length=n) (h1n:1<=n) (hz:z.cells.size=n) (hb:Ek len is=true) :
  af2 P (Vy (bB P e) e (K.fe (bB P e) (iH z)) len is) (tw n z len is):=by
 intro E A A' B vs us v h hv hg;unfold Vy at hg;obtain ⟨hc,hg⟩:=bf.cond hg;simp only [aA] at hc;obtain ⟨⟨hk,hvs⟩,C2⟩:=hc;have hg:(KV.al e A.next 0 len,A.new (.arr (.ts e .any len _ _)))=(v,A'):=hg;simp only [fS] at hg;obtain ⟨rfl,rfl⟩:=hg;have hz0:VK P E (K.fe (bB P e) (iH z)) z:=(VK.iH z).fe;have hrel:=VT (l:=bB P e) (is:=is) hv (N1 hz0 len);have hlen:(Gt (dI [K.fe (bB P e) (iH z)] len) ((Ap is vs).map fun p=>(p.1,K.fe (bB P e) p.2))).length=len:=by
  rw [Lg,Bp]; simp
 have alB:∀ p∈zipIdx is us,p.2.cells.size=n/\p.1 < (List.replicate len z).length:=by
  intro p hp;obtain ⟨h5,h6⟩:=alA us hb p hp;have hm:bC P E (vs.map (K.fe (bB P e))) us:=aaK hv;exact ⟨by rw [<- hn]; exact (nV hvs hm p.2 h6).1,by simpa using h5⟩
 obtain ⟨h3,h4⟩:=VQ h1n (ps:=zipIdx is us) (es:=List.replicate len z) (fun u hu=>by rw [(List.mem_replicate.1 hu).2]; exact hz) alB;have vR:=nV C2 hrel;have mj:(b9 (sB (List.replicate len z) (zipIdx is us))).all scalar=true:=ij.2 (A6 fun u hu=>(vR u hu).2);have nj:(sB (List.replicate len z) (zipIdx is us)).length=len:=by rw [Lf]; simp
 have gR:=dR.SN (P:=P) (X:=fun _=>False) (G:=fun _=>False) (y2:=B.next) (N2:=len) (T:=e) (pQ:=Gt (dI [K.fe (bB P e) (iH z)] len) ((Ap is vs).map fun p=>(p.1,K.fe (bB P e) p.2))) (aE:=ef _) (FN:=sB (List.replicate len z) (zipIdx is us)) (nN:=b9 (sB (List.replicate len z) (zipIdx is us))) (uw:=none) (A1:=A) (B':=B.new (.row (b9 (sB (List.replicate len z) (zipIdx is us))) n true none)) h rfl (fun _ _ e=>.inl e) (fun _ _ _ _ _ _ _=>⟨id,fun _ _ _ _ _ _=>id⟩) (fun _ e=>e.elim) (fun _ e=>e.elim) (.inr (aU _)) (by simp) (by simp [bD,hn]) (fun _ _ e=>by simp at e)
  (fun y hy _=>.inl (by rw [St.dz,av (by omega)])) (fun _ e=>e.elim) (fun q y hy=>.inl (by simpa using hy)) (fun q _=>by simp) (by simp) (fun g hg=>by rw [St.lh]; exact h.fresh g (by rw [St.cC] at hg; omega)) (fun g y hy=>by rw [St.lh] at hy; rw [St.cC]; have:=h.mem g y hy; omega)
  (by unfold bD; omega) ⟨hlen.symm,fun i _=>rfl,C2⟩ hrel (by unfold bD; rw [hn]; exact nt h4)
 refine ⟨.row (b9 (sB (List.replicate len z) (zipIdx is us))) n true none,fun b=>.slice (some ⟨b,0,none⟩) len len,E.FT A.next (B.next,(b9 (sB (List.replicate len z) (zipIdx is us))).length,len),?_,?_,gR⟩
 ·unfold tw
  rw [C3,h3];simp only [fy];rw [mj,Iw hv hk];rfl
 ·exact akx Env.Cm (aU _) (aU _) (by unfold bD; rw [hn,j4 h4,nj])
theorem ar9 {T b n:Nat} {z:Value} (hn:bD P T=n) (_:1<=n) (hz:z.cells.size=n) (he:cP (bB P T) (K.fe (bB P T) (iH z))=true):ate P (alr T b (K.fe (bB P T) (iH z))) (FL n b z):=by
 intro E A B vs us v h hv hg;unfold alr at hg;split at hg
 ·rename_i k l k' c
  obtain ⟨x,y,rfl,h1,h2⟩:=hv.lR;have:=h1.cU; subst this;have:=h2.cU; subst this;obtain ⟨hc,hg⟩:=bf.lQ hg;subst hg;simp only [aA,o7] at hc;obtain ⟨⟨h3,h4⟩,h5⟩:=hc;obtain ⟨l',rfl⟩:=Int.eq_ofNat_of_zero_le h3;obtain ⟨c',rfl⟩:=Int.eq_ofNat_of_zero_le (Int.le_trans h3 h4);have Hj:l'<=c':=by omega
  have h6:Nat.ble l' c' = true:=Nat.ble_eq_true_of_le Hj;have hs:∀ v∈List.replicate c' z,v.cells.size=n:=fun v hv=>by rw [List.eq_of_mem_replicate hv]; exact hz
  have N8:∀ m,dI [K.fe (bB P T) (iH z)] m=List.replicate m (K.fe (bB P T) (iH z)):=fun m=>by
   induction m with
   | zero=>rfl
   | succ m ih=>simp [dI,ih,List.replicate_succ]
  have hrel:∀ m,bC P E (List.replicate m (K.fe (bB P T) (iH z))) (List.replicate m z):=fun m=>by
   induction m with
   | zero=>exact .nil
   | succ m ih=>exact .cons (VK.iH z).fe ih
  refine ⟨.row (iG z.cells.toList c') n true none,fun k=>.slice (some ⟨k,0,none⟩) l' c',E.il B.next ⟨b9 (List.replicate c' z),n,true,none⟩,?_,?_,?_⟩
  ·have h5:Nat.ble (b * c') 281474976710656=true:=h5
   show cond (Nat.ble l' c'&&Nat.ble (b * c') 281474976710656) _ _=_;rw [h6,h5];rfl
  ·have apx:=(hrel l').mono (dR.ano (cu:=b9 (List.replicate c' z)) (cg:=n) h).le
   simp only [VK];refine ⟨⟨by rw [N8]; simp,fun i hi=>by rw [N8,iL,List.getElem?_replicate,aY hi]; rfl,by
    rw [N8];exact rK fun i x hx=>by rw [List.getElem?_replicate] at hx; split at hx <;> simp at hx; subst hx; exact he⟩,List.replicate l' z,by rw [N8]; exact apx,some ⟨B.next,0,none⟩,c',rfl,Hj,.inr ⟨B.next,0,⟨b9 (List.replicate c' z),n,true,none⟩,rfl,by simp [Env.il],hn.symm,?_⟩,trivial⟩
   rw [hn];intro i x hx;rw [List.getElem?_replicate] at hx;split at hx
   ·rename_i hi
    refine nt hs i x ?_;rw [List.getElem?_replicate,aY (by have hi:i < l':=hi; omega)];exact hx
   ·simp at hx
  ·rw [C3]; exact dR.ano h
 ·exact hg.elim
theorem aaO {sz:Nat} {cs:List Value} {xs ys:List Value} (h:qY sz 0 cs xs) (k:qY sz (xs.length * sz) cs ys):qY sz 0 cs (xs++ys):=fun i x hi=>by
 by_cases bG:i < xs.length
 ·rw [r7 bG] at hi; exact h i x hi
 ·rw [uC (by omega)] at hi
  obtain ⟨h1,h2⟩:=k _ x hi;refine ⟨h1,fun j y hy=>?_⟩;rw [<- h2 j y hy];congr 1;have:i * sz=xs.length * sz+(i - xs.length) * sz:=by rw [<- Nat.add_mul]; congr 1; omega
  omega
theorem aco {sz o:Nat} {cs r news:List Value} (hs:∀ v∈news,v.cells.size=sz) (hw:jK (o * sz) cs (b9 news)=some r):qY sz (o * sz) r news:=fun i x hi=>by
 have L9:=nt hs i x hi;have hlen:=j4 hs;obtain ⟨_,_,h3⟩:=jL hw;refine ⟨L9.1,fun k y hy=>?_⟩;have h4:=L9.2 k y hy;rw [bM] at h4;rw [h3,aY ⟨by omega,by have:=(dq.1 h4).1; omega⟩,<- h4];congr 1;omega
theorem aga {sz o:Nat} {cs r vs es:List Value} (hl:qY sz 0 cs es) (ho:es.length<=o) (hw:jK (o * sz) cs vs=some r) (_:1<=sz):qY sz 0 r es:=fun i x hi=>by
 obtain ⟨h1,h2⟩:=hl i x hi;obtain ⟨_,_,h3⟩:=jL hw;refine ⟨h1,fun k y hy=>?_⟩;have hk:k < sz:=by have:=(vM.1 hy).1; omega
 have hi':=(dq.1 hi).1;have bG:0+i * sz+k < o * sz:=by
  have:(i+1) * sz<=o * sz:=Nat.mul_le_mul_right _ (by omega);rw [Nat.add_mul] at this;omega
 rw [h3,av (by omega)];exact h2 k y hy
theorem apE {A:aw} {B:St} {f:Nat} {o0:kV} (h:fX P E A B) (hA:A.get f=some o0):∀ c o,(A.put f .dead).get c=some o->A.get c=some o\/(o = .dead/\c < A.next):=fun c o hc=>by
 rw [aw.cz] at hc;split at hc
 ·rename_i e; simp at hc; subst hc e; exact .inr ⟨rfl,h.live _ _ hA⟩
 ·exact .inl hc
theorem XX {B:St} {g k:Nat} {c:List Value} {n:Nat} (_:g<=B.next):(∀ x,(B.grow g k c n).get x=if x=B.next then some (.row c n true (some (g,k))) else B.get x)/\(∀ q,(B.grow g k c n).members q=if q=g then B.next::B.members g else B.members q)/\(B.grow g k c n).next=B.next+1:=
 ⟨fun x=>by simp [St.grow],fun q=>by simp [St.grow,St.Fg],rfl⟩
theorem agb {e b:Nat} {E:Env} {A A' : aw} {B:St} {x v:KV} {u w:Value} {e' : TypeId} {mk:Mk} {k:Nat} {new:List KV} {acc:Nat->KV} (xN:1<=bD P e) (h:fX P E A B) (h1:VK P E x u)
  (hsr:Nat.beq e e' = true->∃ bK,Src P E B e' k new acc w bK) (hg:bf (HZ e b A [x,.ts e' mk k new acc]) (v,A')):∃ r B' E',lP (bD P e) b B [u,w] = some (r,B')/\VK P E' v r/\dR P E A B E' A' B':=by
 have put:∀ (A1:aw) (m:Nat) (base:List KV) (ab:Nat->KV) (more:Bool) (A2:aw) (v:KV),bf (aeZ e b m base ab A1 k new acc more) (v,A2)->
   (more=true/\Nat.ble ((m+k) * b) 140737488355328=true/\Nat.ble (m+k) 17592186044416=true)/\v = .al e A1.next 0 (m+k)/\A2=A1.new (.arr (.ts e .any (m+k) (base++new) (aH m ab acc))):=by
  intro A1 m base ab more A2 v hp;obtain ⟨hc,hp⟩:=bf.lQ hp;simp only [aqR,aA] at hc;simp only [fS] at hp;exact ⟨⟨hc.1,hc.2.1,hc.2.2⟩,hp.1.symm,hp.2.symm⟩
 have nil:∀ (A1:aw) (base:List KV) (ab:Nat->KV),base = []->A1.next=A.next->(∀ c o,A1.get c=some o->A.get c=some o\/(o = .dead/\c < A.next))->(∃ bK,Src P E B e k new acc w bK)->Nat.ble ((0+k) * b) 140737488355328=true->Nat.ble (0+k) 17592186044416=true->
   ∃ r B' E',lP (bD P e) b B [.slice none 0 0,w] = some (r,B')/\VK P E' (.al e A.next 0 (0+k)) r/\dR P E A B E' (A1.new (.arr (.ts e .any (0+k) (base++new) (aH 0 ab acc)))) B':=by
  intro A1 base ab N7 hn1 hr1 ⟨cR,lA⟩ Gp xD;subst N7;have hj:ku P e (0+k) ([]++new) (aH 0 ab acc):=(ku.none (P:=P) (T:=e) (g:=ab)).join lA.tree;cases k with
  | zero=>
   have xL:new = []:=pR.1 lA.tree.len.symm;subst xL;refine ⟨.slice none 0 0,B,E,?_,.T4 (.inl ⟨rfl,rfl,rfl⟩),dR.auw h hn1 hr1 xN⟩;simp only [lP,lA.len,fy,lA.all];rfl
  | succ k=>
   obtain ⟨g1,g2,g3⟩:=XX (B:=B) (g:=B.next) (k:=0) (c:=b9 cR) (n:=bD P e) (aU _);have hlen:(b9 cR).length=(k+1) * bD P e:=by rw [j4 lA.size,lA.length]
   refine ⟨.slice (some ⟨B.next,0,none⟩) (k+1) (k+1),B.grow B.next 0 (b9 cR) (bD P e),E.FT A.next (B.next,(b9 cR).length,0+(k+1)),?_,?_,?_⟩
   ·simp only [bM] at Gp xD
    simp only [lP,lA.len,fy,bM];rw [show Nat.ble (k+1) 0=false from rfl,ba,Gp,xD,lA.all];rfl
   ·rw [bM]; exact akx Env.Cm (aU _) (by omega) (by rw [hlen])
   ·generalize B.grow B.next 0 (b9 cR) (bD P e)=B' at g1 g2 g3
    exact dR.SN (X:=fun _=>False) (G:=fun _=>False) (y2:=B.next) (uw:=some (B.next,0)) h hn1 hr1 (fun _ _ _ _ _ _ _=>⟨id,fun _ _ _ _ _ _=>id⟩) (fun _ e=>e.elim) (fun _ e=>e.elim) (.inr (aU _)) (by omega) (by rw [g1,aY rfl]) (fun g k e=>by simp at e; exact .inr (by omega))
     (fun y hy _=>.inl (by rw [g1,av (by omega)])) (fun _ e=>e.elim) (fun q y hy=>by
      rw [g2] at hy;split at hy
      ·rename_i e
       subst e;rcases fA.1 hy with hy | hy
       ·exact .inr ⟨hy,aU _,0,rfl⟩
       ·exact .inl hy
      ·exact .inl hy) (fun q hq=>by rw [g2,av (fun e=>hq 0 (by rw [e]))]) (by omega) (fun g hg=>by rw [g2,av (by omega)]; exact h.fresh g (by omega)) (fun g y hy=>by
      rw [g2] at hy;split at hy
      ·rcases fA.1 hy with hy | hy
       ·omega
       ·have:=h.mem _ y hy; omega
      ·have:=h.mem g y hy; omega) xN hj (by simpa using lA.rel) (nt lA.size)
 unfold HZ at hg;split at hg
 ·rename_i e9 mk9 k9 aq2 aq3 heq
  simp only [List.cons.injEq,KV.ts.injEq,and_true] at heq;obtain ⟨rfl,rfl,rfl,rfl,rfl,rfl⟩:=heq;have:=h1.pZ; subst this;obtain ⟨he,hz0⟩:=hg.cond;have lA:=hsr he;have:=bu he;subst this;obtain ⟨⟨_,Gp,xD⟩,rfl,rfl⟩:=put _ _ _ _ _ _ _ hz0;exact nil A [] qX rfl rfl (fun _ _ e=>.inl e) lA Gp xD
 ·rename_i e1 f o n e9 mk9 k9 aq2 aq3 heq
  simp only [List.cons.injEq,KV.ts.injEq,and_true] at heq;obtain ⟨rfl,rfl,rfl,rfl,rfl,rfl⟩:=heq;split at hg
  ·rename_i e2 mk2 N es ac hf
   obtain ⟨he,hz0⟩:=hg.cond;simp only [aA] at he;obtain ⟨cR,lA⟩:=hsr he.1.1;have:=bu he.1.1;subst this;have:=bu he.1.2;subst this;have:=bu he.2;subst this;obtain ⟨⟨ho,Gp,xD⟩,rfl,rfl⟩:=put _ _ _ _ _ _ _ hz0;have:=bu ho;subst this;have N4:=apE h hf;rcases h1.zb with ⟨rfl,_,rfl⟩ | ⟨x,L,N0,c,h2,rfl,h3,h4,h5⟩
   ·exact nil (A.put f .dead) (es.take 0) ac (by simp) rfl N4 ⟨cR,lA⟩ Gp xD
   ·obtain ⟨T2,N2,pQ,aE,e2,ht,_,Ax⟩:=h.ar.arr f _ hf
    simp only [KV.ts.injEq] at e2;obtain ⟨rfl,rfl,rfl,rfl,rfl⟩:=e2;rcases Ax with ⟨_,e2⟩ | ⟨x2,cs,cp,bK,e2,h6,h7,h8⟩
    ·rw [h2] at e2; simp at e2
    rw [h2] at e2;simp only [di,fS] at e2;obtain ⟨rfl,rfl,rfl⟩:=e2;have uh:AR A E x:=⟨f,_,_,_,hf,h2⟩
    have hxlt:x < B.next:=h.J0 uh;have aaN:bK.length=N0:=by rw [h7.length]; exact ht.len.symm
    have hs:=nV ht.typed h7;have htk:ku P e n (es.take n) ac:=⟨by rw [nJ,<- ht.len]; omega,fun i hi=>by rw [ht.acc i (by omega),iL,iL,pH,aY hi],rK fun i x hi=>by
     rw [pH] at hi;split at hi
     ·exact kv ht.typed hi
     ·simp at hi⟩
    have hj:=htk.join lA.tree;have Qu:(bK.take n).length=n:=by rw [nJ]; omega
    have awn:∀ v∈bK.take n,v.cells.size=bD P e:=fun v hv=>(hs v (List.mem_of_mem_take hv)).1;have hrel:=(h7.take n).append lA.rel;have h5:c * bD P e=cs.length:=by simpa using h5
    have r8:∀ c v,(A.put f .dead).get c=some (.arr v)->c≠f/\A.get c=some (.arr v):=fun c v hc=>by
     rw [aw.cz] at hc;split at hc
     ·simp at hc
     ·rename_i e; exact ⟨e,hc⟩
    have hf1:∀ c v,(A.put f .dead).get c=some (.arr v)->∀ y L N,E.α c=some (y,L,N)->¬ (y=x)/\∀ ri e1 own g k1,B.get y=some (.row ri e1 own (some (g,k1)))->¬ (∃ k,cp=some (g,k)):=fun c v hc y L N hy=>by
     obtain ⟨de,hc⟩:=r8 c v hc;refine ⟨fun e=>de (h.ar.inj c f v _ x L N _ _ hc hf (by rw [<- e]; exact hy) h2),fun ri e1 own g k1 hr ⟨k2,hk⟩=>?_⟩;rw [hk] at h6;exact de (h.ar.xK c f v _ y x L N _ _ _ _ _ g k1 _ _ _ k2 hc hf hy h2 hr h6)
    have hf3:∀ g,(∃ k,cp=some (g,k))->AF A E B g/\g < B.next/\(∀ f,E.φ f≠some g)/\∀ y∈B.members g,¬ (y=x)->E.z y=none/\¬ AR A E y/\∀ c,E.κ c≠some y:=fun g ⟨k2,hk⟩=>by
     rw [hk] at h6;obtain ⟨q1,q2,q3⟩:=h.ar.vL f _ x _ _ _ _ _ g k2 hf h2 h6;exact ⟨⟨f,_,x,_,_,_,_,_,k2,hf,h2,h6⟩,q1,q2,fun y hy de=>q3 y hy de⟩
    have aq5:dp (⟨x,0 * bD P e,none⟩:Addr)=true:=rfl;by_cases pM:n+k<=c
    ·
     have hle:n * bD P e+(b9 cR).length<=cs.length:=by
      rw [j4 lA.size,lA.length,<- h5,<- Nat.add_mul];exact Nat.mul_le_mul_right _ pM
     obtain ⟨nN,hw⟩:=C4 (n * bD P e) cs (b9 cR) hle;have hcl:nN.length=cs.length:=(jL hw).1;have hsc:(b9 cR).all scalar=true:=ij.2 (A6 fun v hv=>(nV lA.tree.typed lA.rel v hv).2);have hb:Nat.ble (n+k) c=true:=Nat.ble_eq_true_of_le pM;have key:∃ B' : St,lP (bD P e) b B [.slice (some ⟨x,0 * bD P e,none⟩) n c,w] = some (.slice (some ⟨x,0 * bD P e,none⟩) (n+k) c,B')/\B'.get x=some (.row nN (bD P e) true cp)/\
       (∀ y,y≠x->B'.get y=B.get y\/(B'.get y=some .dead/\∃ g,(∃ k,cp=some (g,k))/\y∈B.members g))/\B'.members=B.members/\B'.next=B.next:=by
      cases yp:Nat.beq k 0 with
      | true=>
       have Qr:cR = []:=pR.1 (by rw [lA.length]; exact bu yp);have K5:nN=cs:=by
        rw [Qr] at hw;refine List.ext_getElem? fun i=>?_;rw [(jL hw).2.2 i,av (by simp [b9])]
       refine ⟨B,?_,by rw [K5]; exact h6,fun _ _=>.inl rfl,rfl,rfl⟩;simp only [lP,lA.len,fy,hb,ak,lA.all,aq5,yp]
      | false=>
       refine ⟨(B.put x (.row nN (bD P e) true cp)).hO x cp (n * bD P e) (n * bD P e+(b9 cR).length),?_,?_,?_,by rw [Mt]; simp,by rw [T9]; simp⟩
       ·simp only [lP,lA.len,fy,hb,ak,ba,lA.all,aq5,yp]
        simp only [St.Bm,dp,Option.isNone_none,Bl,hsc,ak,Nat.zero_mul,bM,h6,hw,Option.map_some]
       ·rcases Hr (B:=B.put x (.row nN (bD P e) true cp)) (x:=x) (y:=x) (lo:=n * bD P e) (hi:=n * bD P e+(b9 cR).length) (cp:=cp) with e | ⟨g,k,_,_,h3,_⟩
        ·rw [e]; simp
        ·exact absurd rfl h3
       ·intro y hy
        rcases Hr (B:=B.put x (.row nN (bD P e) true cp)) (x:=x) (y:=y) (lo:=n * bD P e) (hi:=n * bD P e+(b9 cR).length) (cp:=cp) with e | ⟨g,k,h1,h2,_,h4,_⟩
        ·exact .inl (by rw [e,St.cz,av hy])
        ·exact .inr ⟨h4,g,⟨k,h1⟩,by simpa using h2⟩
     obtain ⟨B',mX,lr,hgy,oh,j7⟩:=key;refine ⟨_,B',E.FT A.next (x,nN.length,n+k),mX,?_,?_⟩
     ·rw [Nat.zero_mul]; exact akx Env.Cm pM (aU _) (by rw [hcl]; exact h5)
     ·
      have hli:qY (bD P e) 0 nN (bK.take n++cR):=aaO (aga (h8.take n) (by omega) hw xN) (by rw [Qu]; exact aco lA.size hw);exact dR.SN (A1:=A.put f .dead) (X:=fun y=>y=x) (G:=fun g=>∃ k,cp=some (g,k)) (y2:=x) (uw:=cp) h rfl N4 hf1 (fun y hy=>by rw [hy]; exact uh) hf3 (.inl rfl) (by omega) lr (fun g k hk=>.inl ⟨k,hk⟩)
       (fun y _ de=>hgy y de) (fun y hy ri e1 own XW hr=>by
        rw [hy,lr] at hr;simp at hr;obtain ⟨rfl,rfl,rfl,rfl⟩:=hr;rw [hy];exact ⟨cs,h6,hcl.symm⟩) (fun q y hy=>.inl (by rw [oh] at hy; exact hy)) (fun q _=>by rw [oh]) (by omega) (fun g hg=>by rw [oh]; exact h.fresh g (by omega)) (fun g y hy=>by rw [oh] at hy; rw [j7]; exact h.mem g y hy) xN hj hrel hli
    ·
     have hb:Nat.ble (n+k) c=false:=by
      cases hq:Nat.ble (n+k) c with
      | false=>rfl
      | true=>exact absurd (fR hq) pM
     have hex:xh B (bD P e) c (some ⟨x,0 * bD P e,none⟩)=true:=by
      simp only [xh,h6];cases cp with
      | none=>simp [h5]
      | some p=>rfl
     have hold:B.Au ⟨x,0 * bD P e,none⟩ (n * bD P e)=some (b9 (bK.take n)):=by
      have:=N5 (B:=B) (b:=x) (off:=0) (n:=n) (sz:=bD P e) (r:=⟨cs,bD P e,true,cp⟩) (bK:=bK.take n) h6 (h8.take n) Qu xN;simpa using this
     have apF:∀ v∈bK.take n++cR,v.cells.size=bD P e:=fun v hv=>by
      rcases nI.1 hv with hv | hv
      ·exact awn v hv
      ·exact lA.size v hv
     have hlen:(b9 (bK.take n++cR)).length=(n+k) * bD P e:=by rw [j4 apF,nH,Qu,lA.length]
     cases cp with
     | none=>
      obtain ⟨g1,g2,g3⟩:=XX (B:=B) (g:=B.next) (k:=0) (c:=b9 (bK.take n++cR)) (n:=bD P e) (aU _);refine ⟨.slice (some ⟨B.next,0,none⟩) (n+k) (n+k),B.grow B.next 0 (b9 (bK.take n++cR)) (bD P e),E.FT A.next (B.next,(b9 (bK.take n++cR)).length,n+k),?_,?_,?_⟩
      ·simp only [lP,lA.len,fy,hb,ba,Gp,xD,hex,dk,ak,lA.all]
       simp only [Ig,dp,Option.isNone_none,ak,hold,fy,h6,yZ,<- A5]
      ·exact akx Env.Cm (aU _) (aU _) (by rw [hlen])
      ·generalize B.grow B.next 0 (b9 (bK.take n++cR)) (bD P e)=B' at g1 g2 g3
       exact dR.SN (A1:=A.put f .dead) (X:=fun _=>False) (G:=fun _=>False) (y2:=B.next) (uw:=some (B.next,0)) h rfl N4 (fun _ _ _ _ _ _ _=>⟨id,fun _ _ _ _ _ _=>id⟩) (fun _ e=>e.elim) (fun _ e=>e.elim) (.inr (aU _)) (by omega) (by rw [g1,aY rfl]) (fun g k e=>by simp at e; exact .inr (by omega))
        (fun y hy _=>.inl (by rw [g1,av (by omega)])) (fun _ e=>e.elim) (fun q y hy=>by
         rw [g2] at hy;split at hy
         ·rename_i e
          subst e;rcases fA.1 hy with hy | hy
          ·exact .inr ⟨hy,aU _,0,rfl⟩
          ·exact .inl hy
         ·exact .inl hy) (fun q hq=>by rw [g2,av (fun e=>hq 0 (by rw [e]))]) (by omega) (fun g hg=>by rw [g2,av (by omega)]; exact h.fresh g (by omega)) (fun g y hy=>by
         rw [g2] at hy;split at hy
         ·rcases fA.1 hy with hy | hy
          ·omega
          ·have:=h.mem _ y hy; omega
         ·have:=h.mem g y hy; omega) xN hj hrel (nt apF)
     | some p=>
      obtain ⟨g,k0⟩:=p;have hgB:g < B.next:=(hf3 g ⟨k0,rfl⟩).2.1;have kg:∀ y,(B.kill B.next (k0+(0+n * bD P e)) (k0+(0+n * bD P e)+(b9 cR).length) (B.members g)).get y=B.get y\/((B.kill B.next (k0+(0+n * bD P e)) (k0+(0+n * bD P e)+(b9 cR).length) (B.members g)).get y=some .dead/\y∈B.members g):=fun y=>by
       rw [Eg];by_cases hc:y∈B.members g/\y≠B.next/\rV (B.get y) (k0+(0+n * bD P e)) (k0+(0+n * bD P e)+(b9 cR).length)=true
       ·exact .inr ⟨by rw [aY hc],hc.1⟩
       ·exact .inl (by rw [av hc])
      have km:(B.kill B.next (k0+(0+n * bD P e)) (k0+(0+n * bD P e)+(b9 cR).length) (B.members g)).members=B.members:=by simp
      have kn:(B.kill B.next (k0+(0+n * bD P e)) (k0+(0+n * bD P e)+(b9 cR).length) (B.members g)).next=B.next:=by simp
      obtain ⟨g1,g2,g3⟩:=XX (B:=B.kill B.next (k0+(0+n * bD P e)) (k0+(0+n * bD P e)+(b9 cR).length) (B.members g)) (g:=g) (k:=k0+0) (c:=b9 (bK.take n++cR)) (n:=bD P e) (by omega);rw [kn] at g3;have g1:∀ y,y≠B.next->_:=fun y hy=>(g1 y).trans (av (by rw [kn]; exact hy));have g1':=(XX (B:=B.kill B.next (k0+(0+n * bD P e)) (k0+(0+n * bD P e)+(b9 cR).length) (B.members g)) (g:=g) (k:=k0+0) (c:=b9 (bK.take n++cR)) (n:=bD P e) (by omega)).1 B.next;rw [kn,aY rfl] at g1';simp only [km,kn] at g2;refine ⟨.slice (some ⟨B.next,0,none⟩) (n+k) (n+k),(B.kill B.next (k0+(0+n * bD P e)) (k0+(0+n * bD P e)+(b9 cR).length) (B.members g)).grow g (k0+0) (b9 (bK.take n++cR)) (bD P e),E.FT A.next (B.next,(b9 (bK.take n++cR)).length,n+k),?_,?_,?_⟩
      ·simp only [lP,lA.len,fy,hb,ba,Gp,xD,hex,dk,ak,lA.all]
       have alH:=hold;rw [Nat.zero_mul] at alH;simp only [Ig,dp,Option.isNone_none,ak,Nat.zero_mul,alH,fy,h6,yZ,<- A5]
      ·exact akx Env.Cm (aU _) (aU _) (by rw [hlen])
      ·generalize (B.kill B.next (k0+(0+n * bD P e)) (k0+(0+n * bD P e)+(b9 cR).length) (B.members g)).grow g (k0+0) (b9 (bK.take n++cR)) (bD P e)=B' at g1 g1' g2 g3
       have gy:∀ y,y≠B.next->B'.get y=B.get y\/(B'.get y=some .dead/\y∈B.members g):=fun y hy=>by
        rw [g1 y hy]; exact kg y
       exact dR.SN (A1:=A.put f .dead) (X:=fun y=>y=x) (G:=fun q=>∃ k,some (g,k0)=some (q,k)) (y2:=B.next) (uw:=some (g,k0+0)) h rfl N4 hf1 (fun y hy=>by rw [hy]; exact uh) hf3 (.inr (aU _)) (by omega) g1' (fun q k e=>by simp at e; exact .inl ⟨k0,by rw [e.1]⟩)
        (fun y hy _=>(gy y (by omega)).imp id fun ⟨q1,q2⟩=>⟨q1,g,⟨k0,rfl⟩,q2⟩) (fun y hy ri e1 own XW hr=>by
         have hy:y=x:=hy;rcases gy y (by omega) with q | ⟨q,_⟩
         ·rw [q] at hr; exact ⟨ri,hr,rfl⟩
         ·rw [q] at hr; simp at hr) (fun q y hy=>by
         rw [g2] at hy;split at hy
         ·rename_i e
          subst e;rcases fA.1 hy with hy | hy
          ·exact .inr ⟨hy,aU _,k0+0,rfl⟩
          ·exact .inl hy
         ·exact .inl hy) (fun q hq=>by rw [g2,av (fun e=>hq (k0+0) (by rw [e]))]) (by omega) (fun q hq=>by rw [g2,av (by omega)]; exact h.fresh q (by omega)) (fun q y hy=>by
         rw [g2] at hy;split at hy
         ·rcases fA.1 hy with hy | hy
          ·omega
          ·have:=h.mem _ y hy; omega
         ·have:=h.mem q y hy; omega) xN hj hrel (nt apF)
  ·exact hg.elim
 ·exact hg.elim
theorem dR.avB {A:aw} {B:St} {b:Nat} {v2:KV} (h:fX P E A B) (hb:∃ v,A.get b=some (.arr v)) (dt:afR P E B b v2):dR P E A B E (A.put b (.arr v2)) B:=by
 obtain ⟨v0,hb⟩:=hb;have lD:∀ c o,(A.put b (.arr v2)).get c=some o->(c=b/\o = .arr v2)\/A.get c=some o:=fun c o hc=>by
  rw [aw.cz] at hc;split at hc
  ·rename_i e; simp at hc; exact .inl ⟨e,hc.symm⟩
  ·exact .inr hc
 have hA:∀ c v,(A.put b (.arr v2)).get c=some (.arr v)->∃ u,A.get c=some (.arr u):=fun c v hc=>by
  rcases lD c _ hc with ⟨e,_⟩ | e
  ·exact ⟨v0,by rw [e]; exact hb⟩
  ·exact ⟨v,e⟩
 have uh:∀ y,AR (A.put b (.arr v2)) E y->AR A E y:=fun y ⟨c,v,L,N,h1,h2⟩=>by
  obtain ⟨u,hu⟩:=hA c v h1;exact ⟨c,u,L,N,hu,h2⟩
 have Lh:∀ g,AF (A.put b (.arr v2)) E B g->AF A E B g:=fun g ⟨c,v,x,L,N,cs,e,own,k,h1,h2,h3⟩=>by
  obtain ⟨u,hu⟩:=hA c v h1;exact ⟨c,u,x,L,N,cs,e,own,k,hu,h2,h3⟩
 refine ⟨⟨fun c cs cg hc=>?_,fun c top sz hc=>?_,h.z,h.apart,h.inj,?_,h.lW,h.nS,fun c o hc=>?_,h.iW,h.nT,h.lu,h.fresh,h.mem,?_⟩,Env.le_refl _,aU _,fun _ _ _ _=>rfl,fun _ _ e=>.inl e,fun _ _ e=>.inl e,fun _ _ e=>.inl e,fun _ _ _ _=>rfl,fun x q=>.inl (uh x q),fun g q=>.inl (Lh g q),fun _ _ q=>.inl q,fun y q=>.inl (q.imp (uh y) fun ⟨g,q1,q2⟩=>⟨g,Lh g q1,q2⟩),nU fun _ _=>rfl⟩
 ·rcases lD c _ hc with ⟨_,e⟩ | e
  ·simp at e
  ·exact h.row c cs cg e
 ·rcases lD c _ hc with ⟨_,e⟩ | e
  ·simp at e
  ·exact h.bA c top sz e
 ·exact h.kR.put (.inl fun t s=>by simp)
 ·rw [aw.uQ]
  rcases lD c _ hc with ⟨e,_⟩ | e
  ·rw [e]; exact h.live b _ hb
  ·exact h.live c o e
 ·refine ⟨fun c v hc=>?_,fun c v hc=>?_,fun x q=>h.ar.z x (uh x q),fun c d v u x L N L' N' h1 h2 h3 h4=>?_,fun c d v u x y L N L' N' cs e own g k cu e' rJ k' h1 h2 h3 h4=>?_,h.ar.dis,h.ar.lW,h.ar.iW,fun c v x L N cs e own g k h1 h2 h3=>?_,fun c v hc=>?_⟩
  ·rcases lD c _ hc with ⟨e,e2⟩ | e
   ·simp at e2; rw [e2,e]; exact dt
   ·exact h.ar.arr c v e
  ·rcases lD c _ hc with ⟨_,e⟩ | e
   ·simp at e
   ·exact h.ar.kW c v e
  ·obtain ⟨v',h1⟩:=hA c v h1
   obtain ⟨u',h2⟩:=hA d u h2;exact h.ar.inj c d v' u' x L N L' N' h1 h2 h3 h4
  ·obtain ⟨v',h1⟩:=hA c v h1
   obtain ⟨u',h2⟩:=hA d u h2;exact h.ar.xK c d v' u' x y L N L' N' cs e own g k cu e' rJ k' h1 h2 h3 h4
  ·obtain ⟨v',h1⟩:=hA c v h1
   obtain ⟨q1,q2,q3⟩:=h.ar.vL c v' x L N cs e own g k h1 h2 h3;exact ⟨q1,q2,fun y hy de=>⟨(q3 y hy de).1,fun q=>(q3 y hy de).2.1 (uh y q),(q3 y hy de).2.2⟩⟩
  ·obtain ⟨v',h1⟩:=hA c v hc
   rw [aw.uQ];exact h.ar.nk c v' h1
theorem agc {es new:List KV} {o:Nat} (h:o+new.length<=es.length):(CX es o new).length=es.length:=by
 simp only [CX,nH,nJ,List.length_drop];omega
theorem anx {es new:List KV} {o i:Nat} (h:o+new.length<=es.length):(CX es o new)[i]? = if i < o then es[i]? else if i < o+new.length then new[i - o]? else es[i]?:=by
 unfold CX;by_cases h1:i < o
 ·rw [aY h1,List.append_assoc,r7 (by rw [nJ]; omega),pH,aY h1]
 ·rw [av h1]
  by_cases h2:i < o+new.length
  ·rw [aY h2,r7 (by rw [nH,nJ]; omega),uC (by rw [nJ]; omega),nJ]
   congr 1;omega
  ·rw [av h2,uC (by rw [nH,nJ]; omega),pS,nH,nJ]
   congr 1;omega
theorem aky {T:TypeId} {N m o k:Nat} {es new:List KV} {acc an:Nat->KV} (ht:ku P T N es acc) (hn:ku P T m new an) (hk:k<=m) (ho:o+k<=N):ku P T N (CX es o (new.take k)) (aJ o k acc an):=by
 have hl:(new.take k).length=k:=by rw [nJ,<- hn.len]; omega
 have pM:o+(new.take k).length<=es.length:=by rw [hl,<- ht.len]; exact ho
 have pj:=fun i=>anx (i:=i) pM;rw [hl] at pj;refine ⟨by rw [agc pM]; exact ht.len,fun i hi=>?_,rK fun i x hx=>?_⟩
 ·rw [iL,pj]
  unfold aJ;by_cases h1:i < o
  ·rw [aY h1,show Nat.blt i o=true from cq ▸ h1,ak,ht.acc i hi,iL]
  ·have e1:Nat.blt i o=false:=by
    cases hb:Nat.blt i o with
    | false=>rfl
    | true=>exact absurd (cq ▸ hb) h1
   rw [av h1,e1,ba];by_cases h2:i < o+k
   ·rw [aY h2,show Nat.blt i (o+k)=true from cq ▸ h2,ak,pH,aY (by omega),hn.acc (i - o) (by omega),iL]
   ·have e2:Nat.blt i (o+k)=false:=by
     cases hb:Nat.blt i (o+k) with
     | false=>rfl
     | true=>exact absurd (cq ▸ hb) h2
    rw [av h2,e2,ba,ht.acc i hi,iL]
 ·rw [pj] at hx
  split at hx
  ·exact kv ht.typed hx
  ·split at hx
   ·rw [pH] at hx
    split at hx
    ·exact kv hn.typed hx
    ·simp at hx
   ·exact kv ht.typed hx
theorem anz {sz o:Nat} {cs r vs es:List Value} (hl:qY sz (o * sz+vs.length) cs es) (hw:jK (o * sz) cs vs=some r):qY sz (o * sz+vs.length) r es:=fun i x hi=>by
 obtain ⟨h1,h2⟩:=hl i x hi;obtain ⟨_,_,h3⟩:=jL hw;exact ⟨h1,fun k y hy=>by rw [h3,av (by omega)]; exact h2 k y hy⟩
theorem ato {e n:Nat} (hn:bD P e=n) (h1n:1<=n):aqW P (apq e) (afl n):=by
 intro E A A' B vs us v h hv hg;unfold apq at hg;split at hg
 ·rename_i e1 b o q y
  obtain ⟨u,w,rfl,h1,h2⟩:=hv.lR;split at hg
  ·rename_i e' mk m new an e2 mk2 N es acc hy hb
   obtain ⟨he,Ta⟩:=hg.cond;clear hg;simp only [aA] at he;have:=bu he.1.1;subst this;have:=bu he.1.2;subst this;have:=bu he.2;subst this;have xN:1<=bD P e:=by omega
   obtain ⟨cR,lA⟩:=aq1 h h2 hy xN;have Ta:(KV.int .i64 (Nat.min m q:Nat),A.put b (.arr (.ts e .any N (CX es o (new.take (Nat.min m q))) (aJ o (Nat.min m q) acc an))))=(v,A'):=Ta;simp only [fS] at Ta;obtain ⟨rfl,rfl⟩:=Ta;obtain ⟨T2,N2,pQ,aE,e2,ht,_,Ax⟩:=h.ar.arr b _ hb;simp only [KV.ts.injEq] at e2;obtain ⟨rfl,rfl,rfl,rfl,rfl⟩:=e2;have hkm:Nat.min m q<=m:=Nat.min_le_left _ _;have hkq:Nat.min m q<=q:=Nat.min_le_right _ _;have hf:=lA.first _ hkm
   rw [hn] at hf;rcases h1.zb with ⟨rfl,rfl,rfl⟩ | ⟨x,L,N0,c,p2,rfl,p3,p4,p5⟩
   ·
    have yp:Nat.min m 0=0:=Nat.min_zero m;refine ⟨.int .i64 (Int.ofNat (Nat.min m 0)),B,E,?_,.mkInt,dR.avB h ⟨_,hb⟩ ?_⟩
    ·simp only [afl,lA.len,fy,hf]
    ·have hp:=aky (o:=0) ht lA.tree hkm (by rw [yp]; omega)
     refine ⟨_,_,_,_,rfl,hp,xN,?_⟩;have VV:CX es 0 (new.take (Nat.min m 0))=es:=by rw [yp]; simp [CX]
     rw [VV];exact Ax
   ·rcases Ax with ⟨_,e2⟩ | ⟨x2,cs,cp,bK,e2,h6,h7,h8⟩
    ·rw [p2] at e2; simp at e2
    rw [p2] at e2;simp only [di,fS] at e2;obtain ⟨rfl,rfl,rfl⟩:=e2;have aaN:bK.length=N0:=by rw [h7.length]; exact ht.len.symm
    have gR:∀ v∈cR.take (Nat.min m q),v.cells.size=bD P e:=fun v hv=>lA.size v (List.mem_of_mem_take hv);have au2:(cR.take (Nat.min m q)).length=Nat.min m q:=by rw [nJ,lA.length]; exact Nat.min_eq_left hkm
    have L9:(b9 (cR.take (Nat.min m q))).length=Nat.min m q * bD P e:=by rw [j4 gR,au2]
    have hle:o * bD P e+(b9 (cR.take (Nat.min m q))).length<=cs.length:=by
     rw [L9,<- p5,<- Nat.add_mul];exact Nat.mul_le_mul_right _ (by omega)
    obtain ⟨nN,hw⟩:=C4 (o * bD P e) cs (b9 (cR.take (Nat.min m q))) hle;have hcl:nN.length=cs.length:=(jL hw).1;have hsc:(b9 (cR.take (Nat.min m q))).all scalar=true:=ij.2 (A6 fun v hv=>(nV lA.tree.typed lA.rel v (List.mem_of_mem_take hv)).2);have hp:=aky (o:=o) ht lA.tree hkm (by omega);have hon:(bK.take o).length=o:=by rw [nJ]; omega
    have hrel:bC P E (CX es o (new.take (Nat.min m q))) (bK.take o++cR.take (Nat.min m q)++bK.drop (o+Nat.min m q)):=by
     unfold CX;have hlk:(new.take (Nat.min m q)).length=Nat.min m q:=by rw [nJ,<- lA.tree.len]; exact Nat.min_eq_left hkm
     rw [hlk];exact ((h7.take o).append (lA.rel.take _)).append (h7.drop _)
    have hli:qY (bD P e) 0 nN (bK.take o++cR.take (Nat.min m q)++bK.drop (o+Nat.min m q)):=by
     refine aaO (aaO (aga (h8.take o) (by omega) hw xN) (by rw [hon]; exact aco gR hw)) ?_;have e3:(bK.take o++cR.take (Nat.min m q)).length * bD P e=o * bD P e+(b9 (cR.take (Nat.min m q))).length:=by rw [nH,hon,au2,L9,Nat.add_mul]
     rw [e3];refine anz ?_ hw;have:=h8.drop (o+Nat.min m q);rw [bM,Nat.add_mul] at this;rw [L9];exact this
    have gR:=dR.aqY (lo:=o * bD P e) (hi:=o * bD P e+(b9 (cR.take (Nat.min m q))).length) h ⟨_,hb⟩ p2 h6 hcl xN hp hrel hli;refine ⟨.int .i64 (Int.ofNat (Nat.min m q)),_,E,?_,.mkInt,gR⟩;subst hn;simp only [afl,lA.len,fy,hf,St.Bm,dp,Option.isNone_none,Bl,hsc,ak,h6,hw,Option.map_some]
  ·exact hg.elim
 ·exact hg.elim
theorem anA {e n b:Nat} {mt:Bool} (hn:bD P e=n) (h1n:1<=n):aqW P (Mg e n b mt) (lP n b):=by
 intro E A A' B vs us v h hv hg;unfold Mg at hg;split at hg
 ·rename_i x y
  obtain ⟨u,w,rfl,h1,h2⟩:=hv.lR;split at hg
  ·rename_i y' hy
   have xN:1<=bD P e:=by omega
   have hts:∃ T m k es acc,y' = .ts T m k es acc:=by
    unfold Qy at hy;split at hy
    ·unfold alq at hy
     split at hy
     ·rename_i T' b' o' n' _ T2 _ _ pQ aE _
      cases hb:Nat.beq T' T2 with
      | false=>rw [hb] at hy; simp at hy
      | true=>rw [hb,ak] at hy; simp only [di] at hy; exact ⟨_,_,_,_,_,hy.symm⟩
     ·simp at hy
    ·simp only [di] at hy; exact ⟨_,_,_,_,_,hy.symm⟩
    ·simp at hy
   obtain ⟨T,m,k,es,acc,rfl⟩:=hts;have hsr:Nat.beq e T=true->∃ bK,Src P E B T k es acc w bK:=fun he=>by
    have:=bu he;subst this;exact aq1 h h2 hy xN
   subst hn;cases hx:ata x with
   | true=>rw [hx,ak] at hg; exact agb xN h h1 hsr hg
   | false=>
    rw [hx,ba] at hg;cases mt with
    | true=>rw [ak] at hg; exact agb xN h h1 hsr hg
    | false=>rw [ba] at hg; exact apC rfl xN h h1 hsr hg
  ·exact hg.elim
 ·exact hg.elim
end Go.K
end
section
namespace Go.K
open Go Go.aB
variable {P:Program} {E:Env}
theorem dR.aq6 {E1 E2:Env} {A A1 A2:aw} {B:St} (h:dR P E A B E1 A1 B) (k:dR P E1 A1 B E2 A2 B):dR P E A B E2 A2 B where
 kC:=k.kC
 le:=Env.le_trans h.le k.le
 next:=o9 h.next k.next
 ik _ _ _ _:=rfl
 new b x e:=(k.new b x e).elim (h.new b x) .inr
 wK b r e:=by
  rcases k.wK b r e with e | e | e
  ·exact h.wK b r e
  ·exact .inr (h.oZ b e)
  ·exact .inr (.inr e)
 wL b g e:=(k.wL b g e).elim (h.wL b g) .inr
 sA _ _ _ _:=rfl
 oZ x q:=(k.oZ x q).elim (h.oZ x) .inr
 py g q:=(k.py g q).elim (h.py g) .inr
 yE _ _ q:=.inl q
 p0 y q:=(k.p0 y q).elim (h.p0 y) .inr
 rows:=nU fun _ _=>rfl
theorem dR.refl {A:aw} {B:St} (h:fX P E A B):dR P E A B E A B:=
 ⟨h,Env.le_refl _,aU _,fun _ _ _ _=>rfl,fun _ _ e=>.inl e,fun _ _ e=>.inl e,fun _ _ e=>.inl e,fun _ _ _ _=>rfl,fun _ q=>.inl q,fun _ q=>.inl q,fun _ _ q=>.inl q,fun _ q=>.inl q,nU fun _ _=>rfl⟩
theorem Env.atp {A:aw} {B:St} {x:Nat} {r:anf} (h:fX P E A B) (hx:AR A E x):E.le (E.il x r):=⟨fun _ _ e=>e,fun _ _ e=>e,fun b q e=>by
 simp only [Env.il];rw [av]
 ·exact e
 ·intro e2; subst e2
  have:=(h.ar.z b hx).1;rw [e] at this; simp at this,fun _ _ e=>e⟩
theorem dR.kW {A:aw} {B:St} {b x N:Nat} {T:TypeId} {m:Mk} {es:List KV} {acc:Nat->KV} {cs:List Value} {cp:Option (Nat×Nat)} {bK:List Value} (h:fX P E A B) (hb:A.get b=some (.arr (.ts T m N es acc))) (hx:E.α b=some (x,cs.length,N))
  (hQ:B.get x=some (.row cs (bD P T) true cp)) (ht:ku P T N es acc) (hm:m = .any) (fZ:1<=bD P T) (VV:bC P E es bK) (hl:qY (bD P T) 0 cs bK) :
  dR P E A B (E.il x ⟨cs,bD P T,true,cp⟩) (A.put b (.kW (.ts T m N es acc))) B:=by
 subst hm;have uh:AR A E x:=⟨b,_,_,_,hb,hx⟩
 have hle:=Env.atp (r:=⟨cs,bD P T,true,cp⟩) h uh;have hzx:(E.il x ⟨cs,bD P T,true,cp⟩).z x=some ⟨cs,bD P T,true,cp⟩:=by simp [Env.il]
 have QJ:∀ c r,(E.il x ⟨cs,bD P T,true,cp⟩).z c=some r->E.z c=some r\/(c=x/\r=⟨cs,bD P T,true,cp⟩):=fun c r e=>by
  simp only [Env.il] at e;split at e
  ·rename_i e2; simp at e; exact .inr ⟨e2,e.symm⟩
  ·exact .inl e
 have lD:∀ c o,(A.put b (.kW (.ts T .any N es acc))).get c=some o->(c=b/\o = .kW (.ts T .any N es acc))\/(c≠b/\A.get c=some o):=fun c o hc=>by
  rw [aw.cz] at hc;split at hc
  ·rename_i e; simp at hc; exact .inl ⟨e,hc.symm⟩
  ·rename_i e; exact .inr ⟨e,hc⟩
 have hA:∀ c v,(A.put b (.kW (.ts T .any N es acc))).get c=some (.arr v)->c≠b/\A.get c=some (.arr v):=fun c v hc=>by
  rcases lD c _ hc with ⟨_,e⟩ | e
  ·simp at e
  ·exact e
 have aq7:∀ y,AR (A.put b (.kW (.ts T .any N es acc))) E y->AR A E y/\y≠x:=fun y ⟨c,v,L,M,h1,h2⟩=>by
  obtain ⟨h3,h4⟩:=hA c v h1;refine ⟨⟨c,v,L,M,h4,h2⟩,fun e=>h3 ?_⟩;subst e;exact h.ar.inj c b v _ y L M _ _ h4 hb h2 hx
 have Lh:∀ g,AF (A.put b (.kW (.ts T .any N es acc))) E B g->AF A E B g:=fun g ⟨c,v,y,L,M,cs,e,own,k,h1,h2,h3⟩=>⟨c,v,y,L,M,cs,e,own,k,(hA c v h1).2,h2,h3⟩
 refine ⟨⟨fun c ri cg hc=>?_,fun c top sz hc=>?_,fun y r hy=>?_,fun c y hc=>?_,h.inj,?_,h.lW,h.nS,fun c o hc=>?_,h.iW,fun y r hy=>?_,h.lu,h.fresh,h.mem,?_⟩,hle,aU _,fun _ _ _ _=>rfl,fun _ _ e=>.inl e,fun y r e=>?_,fun _ _ e=>.inl e,fun _ _ _ _=>rfl,fun y q=>.inl (aq7 y q).1,fun g q=>.inl (Lh g q),fun _ _ q=>.inl q,fun y q=>.inl (q.imp (fun q=>(aq7 y q).1) fun ⟨g,q1,q2⟩=>⟨g,Lh g q1,q2⟩),nU fun _ _=>rfl⟩
 ·rcases lD c _ hc with ⟨_,e⟩ | ⟨_,e⟩
  ·simp at e
  ·obtain ⟨y,d,h1,h2,h3⟩:=h.row c ri cg e
   exact ⟨y,d,h1,h2,h3.mono hle⟩
 ·rcases lD c _ hc with ⟨_,e⟩ | ⟨_,e⟩
  ·simp at e
  ·exact h.bA c top sz e
 ·rcases QJ y r hy with e | ⟨rfl,rfl⟩
  ·exact h.z y r e
  ·exact hQ
 ·have hc:E.κ c=some y:=hc
  cases hz:(E.il x ⟨cs,bD P T,true,cp⟩).z y with
  | none=>rfl
  | some r=>
   rcases QJ y r hz with e | ⟨rfl,_⟩
   ·rw [h.apart c y hc] at e; simp at e
   ·exact absurd hc ((h.ar.z y uh).2 c)
 ·exact h.kR.put (.inl fun t s=>by simp)
 ·rw [aw.uQ]
  rcases lD c _ hc with ⟨e,_⟩ | ⟨_,e⟩
  ·rw [e]; exact h.live b _ hb
  ·exact h.live c o e
 ·rcases QJ y r hy with e | ⟨rfl,_⟩
  ·exact h.nT y r e
  ·exact h.J0 uh
 ·refine ⟨fun c v hc=>?_,fun c v hc=>?_,fun y q=>?_,fun c d v u y L M L' M' h1 h2 h3 h4=>h.ar.inj c d v u y L M L' M' (hA c v h1).2 (hA d u h2).2 h3 h4,fun c d v u y w L M L' M' ri e own g k cu e' rJ k' h1 h2 h3 h4=>h.ar.xK c d v u y w L M L' M' ri e own g k cu e' rJ k' (hA c v h1).2 (hA d u h2).2 h3 h4,h.ar.dis,h.ar.lW,h.ar.iW,fun c v y L M ri e own g k h1 h2 h3=>?_,fun c v hc=>h.ar.nk c v (hA c v hc).2⟩
  ·exact (h.ar.arr c v (hA c v hc).2).mono hle rfl fun _ _ _ _=>rfl
  ·rcases lD c _ hc with ⟨e,e2⟩ | ⟨_,e⟩
   ·simp at e2
    subst e2;exact ⟨T,N,es,acc,rfl,ht,fZ,.inr ⟨x,⟨cs,bD P T,true,cp⟩,bK,by rw [e]; exact hx,hzx,rfl,VV.mono hle,hl⟩⟩
   ·exact (h.ar.kW c v e).mono hle rfl
  ·obtain ⟨q1,q2⟩:=aq7 y q
   refine ⟨?_,(h.ar.z y q1).2⟩;simp only [Env.il];rw [av q2];exact (h.ar.z y q1).1
  ·obtain ⟨de,h1⟩:=hA c v h1
   obtain ⟨q1,q2,q3⟩:=h.ar.vL c v y L M ri e own g k h1 h2 h3;refine ⟨q1,q2,fun z hz hzy=>?_⟩;obtain ⟨q4,q5,q6⟩:=q3 z hz hzy;refine ⟨?_,fun q=>q5 (aq7 z q).1,q6⟩;simp only [Env.il];rw [av]
   ·exact q4
   ·intro e2
    subst e2;exact q5 uh
 ·rcases QJ y r e with e | ⟨rfl,_⟩
  ·exact .inl e
  ·exact .inr (.inl uh)
theorem dR.avC {A:aw} {B:St} {b:Nat} {T:TypeId} {m:Mk} {N:Nat} {es:List KV} {acc:Nat->KV} (h:fX P E A B) (hb:A.get b=some (.arr (.ts T m N es acc))) (dt:XP P E b (.ts T m N es acc)) (tF:E.α b=none):dR P E A B E (A.put b (.kW (.ts T m N es acc))) B:=by
 have lD:∀ c o,(A.put b (.kW (.ts T m N es acc))).get c=some o->(c=b/\o = .kW (.ts T m N es acc))\/A.get c=some o:=fun c o hc=>by
  rw [aw.cz] at hc;split at hc
  ·rename_i e; simp at hc; exact .inl ⟨e,hc.symm⟩
  ·exact .inr hc
 have hA:∀ c v,(A.put b (.kW (.ts T m N es acc))).get c=some (.arr v)->A.get c=some (.arr v):=fun c v hc=>by
  rcases lD c _ hc with ⟨_,e⟩ | e
  ·simp at e
  ·exact e
 have uh:∀ y,AR (A.put b (.kW (.ts T m N es acc))) E y->AR A E y:=fun y ⟨c,v,L,M,h1,h2⟩=>⟨c,v,L,M,hA c v h1,h2⟩
 have Lh:∀ g,AF (A.put b (.kW (.ts T m N es acc))) E B g->AF A E B g:=fun g ⟨c,v,y,L,M,cs,e,own,k,h1,h2,h3⟩=>⟨c,v,y,L,M,cs,e,own,k,hA c v h1,h2,h3⟩
 have _:=tF;refine ⟨⟨fun c ri cg hc=>?_,fun c top sz hc=>?_,h.z,h.apart,h.inj,?_,h.lW,h.nS,fun c o hc=>?_,h.iW,h.nT,h.lu,h.fresh,h.mem,?_⟩,Env.le_refl _,aU _,fun _ _ _ _=>rfl,fun _ _ e=>.inl e,fun y r e=>.inl e,fun _ _ e=>.inl e,fun _ _ _ _=>rfl,fun y q=>.inl (uh y q),fun g q=>.inl (Lh g q),fun _ _ q=>.inl q,fun y q=>.inl (q.imp (uh y) fun ⟨g,q1,q2⟩=>⟨g,Lh g q1,q2⟩),nU fun _ _=>rfl⟩
 ·rcases lD c _ hc with ⟨_,e⟩ | e
  ·simp at e
  ·exact h.row c ri cg e
 ·rcases lD c _ hc with ⟨_,e⟩ | e
  ·simp at e
  ·exact h.bA c top sz e
 ·exact h.kR.put (.inl fun t s=>by simp)
 ·rw [aw.uQ]
  rcases lD c _ hc with ⟨e,_⟩ | e
  ·rw [e]; exact h.live b _ hb
  ·exact h.live c o e
 ·refine ⟨fun c v hc=>h.ar.arr c v (hA c v hc),fun c v hc=>?_,fun y q=>h.ar.z y (uh y q),fun c d v u y L M L' M' h1 h2 h3 h4=>h.ar.inj c d v u y L M L' M' (hA c v h1) (hA d u h2) h3 h4,fun c d v u y w L M L' M' ri e own g k cu e' rJ k' h1 h2 h3 h4=>h.ar.xK c d v u y w L M L' M' ri e own g k cu e' rJ k' (hA c v h1) (hA d u h2) h3 h4,h.ar.dis,h.ar.lW,h.ar.iW,fun c v y L M ri e own g k h1 h2 h3=>?_,fun c v hc=>h.ar.nk c v (hA c v hc)⟩
  ·rcases lD c _ hc with ⟨e,e2⟩ | e
   ·simp at e2; rw [e2,e]; exact dt
   ·exact h.ar.kW c v e
  ·obtain ⟨q1,q2,q3⟩:=h.ar.vL c v y L M ri e own g k (hA c v h1) h2 h3
   exact ⟨q1,q2,fun z hz hzy=>⟨(q3 z hz hzy).1,fun q=>(q3 z hz hzy).2.1 (uh z q),(q3 z hz hzy).2.2⟩⟩
theorem aaP {T:TypeId} {m:Mk} {b o n N:Nat} {es:List KV} {acc:Nat->KV} {u:Value} {A:aw} {B:St} (h:fX P E A B) (hv:VK P E (.al T b o n) u) (ha:A.get b=some (.kW (.ts T m N es acc))) :
  VK P E (.ts T .any n ((es.drop o).take n) (fun i=>acc (o+i))) u:=by
 obtain ⟨T2,N2,pQ,aE,e,ht,fZ,Ax⟩:=h.ar.kW b _ ha;simp only [KV.ts.injEq] at e;obtain ⟨rfl,rfl,rfl,rfl,rfl⟩:=e;simp only [VK];rcases hv.zb with ⟨rfl,rfl,rfl⟩ | ⟨x,L,N0,c,h1,rfl,h3,h4,h5⟩
 ·exact ⟨⟨by simp,fun i hi=>by omega,rfl⟩,[],by simpa using bC.nil,none,0,rfl,aU _,.inl ⟨rfl,rfl⟩,trivial⟩
 ·rcases Ax with ⟨_,e⟩ | ⟨x2,r,bK,e,h6,h6',h7,h8⟩
  ·rw [h1] at e; simp at e
  rw [h1] at e;simp only [di,fS] at e;obtain ⟨rfl,rfl,rfl⟩:=e;have apB:((es.drop o).take n).length=n:=by rw [nJ,List.length_drop,<- ht.len]; omega
  refine ⟨⟨apB.symm,fun i hi=>?_,rK fun i x hi=>?_⟩,(bK.drop o).take n,(h7.drop o).take n,_,c,rfl,h3,.inr ⟨x,o * bD P T,r,rfl,h6,h6',?_⟩,trivial⟩
  ·rw [ht.acc (o+i) (by omega),iL,iL,pH,aY hi,pS]
  ·rw [pH] at hi
   split at hi
   ·rw [pS] at hi; exact kv ht.typed hi
   ·simp at hi
  ·have:=(h8.drop o).take n
   rw [bM] at this;exact this
theorem acp {A:aw} {B:St} {v:KV} {u:Value} (h:fX P E A B) (hv:VK P E v u):∃ E',dR P E A B E' (afM A v).2 B/\VK P E' (afM A v).1 u:=by
 unfold afM;split
 ·rename_i T b o n
  split
  ·rename_i T' m N es acc hb
   cases ht:Nat.beq T T' with
   | false=>exact ⟨E,.refl h,.uY⟩
   | true=>
    have:=bu ht;subst this;rw [ak];have dt:=h.ar.arr b _ hb;obtain ⟨T2,N2,pQ,aE,e,QO,fZ,Ax⟩:=dt;simp only [KV.ts.injEq] at e;obtain ⟨rfl,rfl,rfl,rfl,rfl⟩:=e;rcases Ax with ⟨h1,h2⟩ | ⟨x,cs,cp,bK,h2,h3,h4,h5⟩
    ·have gR:=dR.avC h hb ⟨_,_,_,_,rfl,QO,fZ,.inl ⟨h1,h2⟩⟩ h2
     exact ⟨E,gR,aaP gR.kC hv ((aw.cz _ _ _ _).trans (aY rfl))⟩
    ·have gR:=dR.kW h hb h2 h3 QO rfl fZ h4 h5
     exact ⟨_,gR,aaP gR.kC (hv.mono gR.le) ((aw.cz _ _ _ _).trans (aY rfl))⟩
  ·rename_i T' m N es acc hb
   cases ht:Nat.beq T T' with
   | false=>exact ⟨E,.refl h,.uY⟩
   | true=>
    have:=bu ht;subst this;rw [ak];exact ⟨E,.refl h,aaP h hv hb⟩
  ·exact ⟨E,.refl h,.uY⟩
 ·exact ⟨E,.refl h,hv⟩
theorem bf.map {α β:Type} {r:KR α} {f:α->β} {v:β} (h:bf (r.map f) v):∃ u,bf r u/\f u=v:=by
 cases r with
 | no=>exact h.elim
 | ok u=>exact ⟨u,rfl,h⟩
 | lQ c u=>exact ⟨u,⟨h.1,rfl⟩,h.2⟩
 | br c x y=>
  rcases h with ⟨h1,h2⟩ | ⟨h1,h2⟩
  ·obtain ⟨u,h3,h4⟩:=bf.map (r:=x) h2; exact ⟨u,.inl ⟨h1,h3⟩,h4⟩
  ·obtain ⟨u,h3,h4⟩:=bf.map (r:=y) h2; exact ⟨u,.inr ⟨h1,h3⟩,h4⟩
theorem XY {B:St} : ∀ {vs:List KV} {us:List Value} {E:Env} {A:aw},fX P E A B->bC P E vs us->∃ E',dR P E A B E' (aaB A vs).2 B/\bC P E' (aaB A vs).1 us
 | [],us,E,A,h,hv=>⟨E,.refl h,hv⟩
 | v::vs,us,E,A,h,hv=>by
  obtain ⟨u,us',rfl,h1,h2⟩:=hv.cons_inv;obtain ⟨E1,h3,h4⟩:=acp h h1;obtain ⟨E2,h5,h6⟩:=XY h3.kC (h2.mono h3.le);exact ⟨E2,h3.aq6 h5,.cons (h4.mono h5.le) h6⟩
theorem anB {A:aw} {B:St} {v:KV} {u:Value} (h:fX P E A B) (hv:VK P E v u):∃ E',dR P E A B E' (akr A v).2 B/\VK P E' (akr A v).1 u:=by
 unfold akr;split
 ·rename_i cs
  obtain ⟨l,rfl,h1⟩:=hv.mi;obtain ⟨E1,h2,h3⟩:=XY h h1;exact ⟨E1,h2,.rW h3⟩
 ·exact acp h hv
theorem N9:∀ (A:aw) (vs:List KV),(Ar A vs).1.length=vs.length
 | _,[]=>rfl
 | A,v::vs=>by simp [Ar,N9]
theorem J1 {B:St} : ∀ {vs:List KV} {us:List Value} {E:Env} {A:aw},fX P E A B->bC P E vs us->∃ E',dR P E A B E' (Ar A vs).2 B/\bC P E' (Ar A vs).1 us
 | [],us,E,A,h,hv=>⟨E,.refl h,hv⟩
 | v::vs,us,E,A,h,hv=>by
  obtain ⟨u,us',rfl,h1,h2⟩:=hv.cons_inv;obtain ⟨E1,h3,h4⟩:=anB h h1;obtain ⟨E2,h5,h6⟩:=J1 h3.kC (h2.mono h3.le);exact ⟨E2,h3.aq6 h5,.cons (h4.mono h5.le) h6⟩
end Go.K
end
section
namespace Go.K
open Go Go.aB
variable {P:Program}
theorem dA {o:Oper} : Le P o .bad:=trivial
theorem asa (P:Program) (cfg:fE) (o:Oper):Le P o (cm P cfg o.op):=by
 cases ho:o.op with
 | move x=>exact lift_pure (by rw [ho]; rfl) anj
 | assign x=>exact lift_pure (by rw [ho]; rfl) ar0
 | pick c a b=>exact lift_pure (by rw [ho]; rfl) atd
 | alloc t=>
  show Le P o (rP P t);unfold rP;split
  ·rename_i z hz
   cases hc:(flat z&&z.cells.toList.all scalar&&jM (iH z).cells) with
   | false=>exact dA
   | true=>
    simp only [aA] at hc;exact Ep (by rw [ho]; rfl) (ar5 hz hc.1.1 hc.1.2 hc.2)
  ·exact dA
 | box t x=>exact Ep (by rw [ho]; rfl) aur
 | build t parts=>
  show Le P o (vS P t (parts.toList.map (·.1)) (parts.toList.map (·.2)));have bm:compile P o.op=LU P t (parts.toList.map (·.1)) (parts.toList.map (·.2)):=by rw [ho]; rfl
  unfold vS;unfold LU at bm;split
  ·rename_i z fields hz hu
   rw [hz,hu] at bm;simp only at bm;split
   ·rename_i l hl
    rw [hl] at bm;cases hc:(flat z&&jM (iH z).cells) with
    | false=>exact dA
    | true=>
     simp only [aA] at hc;exact lift_pure bm (aku hc.1 hc.2)
   ·exact dA
  ·rename_i z len e hz hu
   rw [hz,hu] at bm;simp only at bm;split
   ·rename_i n hn
    rw [hn] at bm;cases hc:(flat z&&jM (iH z).cells) with
    | false=>exact dA
    | true=>
     simp only [aA] at hc;exact lift_pure bm (aku hc.1 hc.2)
   ·exact dA
  ·exact dA
 | buildSlice t len parts=>
  show Le P o (mC P cfg.x.mt t len (parts.toList.map (·.1)) (parts.toList.map (·.2)));have bm:compile P o.op=yw P t len (parts.toList.map (·.1)) (parts.toList.map (·.2)):=by rw [ho]; rfl
  unfold mC;unfold yw at bm;split
  ·rename_i e hu
   rw [hu] at bm;simp only at bm;split
   ·rename_i i z hi hz
    have fZ:size? P e=some i.size:=by simp [size?,hi]
    rw [fZ,hz] at bm;simp only at bm;cases hc:(Nat.ble (len * i.size) 16777216&&Nat.beq z.cells.size i.size&&Nat.ble 1 i.size&&flat z&&Nat.beq (bB P e).ks.length i.size&&Ek len (parts.toList.map (·.1))) with
    | false=>exact dA
    | true=>
     simp only [aA] at hc;obtain ⟨⟨⟨⟨⟨h1,h2⟩,h3⟩,h4⟩,h5⟩,h6⟩:=hc;rw [h1,h2,h3,h4] at bm;cases NP (bB P e).ks with
     | true=>
      cases cfg.x.mt (e+3000000) with
      | true=>exact Ep bm (alI (bu h5) (fR h3) (bu h2) h6)
      | false=>exact akw bm (ai2 (bu h5) (fR h3) (bu h2) h6)
     | false=>
      cases h7:jM (iH z).cells with
      | true=>exact Ep bm (alC h7)
      | false=>exact dA
   ·exact dA
  ·exact dA
 | load t a=>exact NY (by rw [ho]; rfl) anp
 | store t a x=>exact aaI (by rw [ho]; rfl) ar8
 | nilCheck x=>exact lift_pure (by rw [ho]; rfl) aup
 | binOp op t x y yt=>exact lift_pure (by rw [ho]; rfl) auq
 | unOp op t x=>exact lift_pure (by rw [ho]; rfl) avv
 | convert src dst x=>
  show Le P o (rh P src dst x);have bm:compile P o.op=FM P src dst x:=by rw [ho]; rfl
  unfold rh;unfold FM at bm;split
  ·rename_i k k' hs hd
   rw [hs,hd] at bm;exact lift_pure bm (ar4 hd hs)
  ·rename_i hs hd
   rw [hs,hd] at bm;exact lift_pure bm ar3
  ·rename_i e hs hd
   rw [hs,hd] at bm;simp only at bm;cases hb:isByte P e with
   | false=>exact dA
   | true=>rw [hb] at bm; exact NY bm alF
  ·rename_i e hs hd
   rw [hs,hd] at bm;simp only at bm;cases hb:isByte P e with
   | false=>exact dA
   | true=>rw [hb] at bm; exact apu bm (alG hb)
  ·exact dA
 | makeFunc fn first cap=>
  show Le P o (cond (AY fn) .bad (.pure (NR fn first.size) (first.toList++cap.toList)));cases hy:AY fn with
  | true=>exact dA
  | false=>
   have hn:HW fn=true:=by cases fn <;> first | rfl | simp [AY] at hy
   exact lift_pure (by rw [ho]; show cond (HW fn) _ _=_; rw [hn]; rfl) aly
 | fieldAddr s x f=>
  show Le P o (nQ P s x f);have bm:compile P o.op=AP P s x f:=by rw [ho]; rfl
  unfold nQ;unfold AP at bm;split
  ·rename_i fd hf
   rw [hf] at bm;simp only at bm;split
   ·rename_i m hm
    rw [hm] at bm;exact lift_pure bm (aiZ rfl)
   ·exact dA
  ·exact dA
 | field t x f=>
  show Le P o (vT P t x f);have bm:compile P o.op=LZ P t x f:=by rw [ho]; rfl
  unfold vT;unfold LZ at bm;split
  ·rename_i fd hf
   rw [hf] at bm;exact lift_pure bm ar1
  ·exact dA
 | indexAddr t x ix=>
  show Le P o (nR P t x ix);have bm:compile P o.op=AQ P t x ix:=by rw [ho]; rfl
  unfold nR;unfold AQ at bm;split
  ·rename_i len e hu
   rw [hu] at bm;simp only at bm;split
   ·rename_i n hn
    rw [hn] at bm;exact lift_pure bm alv
   ·exact dA
  ·rename_i e hu
   rw [hu] at bm;simp only at bm;split
   ·rename_i n hn
    rw [hn] at bm;exact lift_pure bm (anl rfl)
   ·exact dA
  ·exact dA
 | index t x ix=>
  show Le P o (vU P t x ix);have bm:compile P o.op=L3 P t x ix:=by rw [ho]; rfl
  unfold vU;unfold L3 at bm;split
  ·rename_i len e hu
   rw [hu] at bm;simp only at bm;split
   ·rename_i n hn
    rw [hn] at bm;exact lift_pure bm alw
   ·exact dA
  ·rename_i hu
   rw [hu] at bm;exact lift_pure bm alx
  ·exact dA
 | extract t i=>exact lift_pure (by rw [ho]; rfl) anm
 | slice t x lo hi mx=>
  show Le P o (vV P t x lo hi mx);have bm:compile P o.op=LX P t x lo hi mx:=by rw [ho]; rfl
  unfold vV;unfold LX at bm;split
  ·rename_i e hu
   rw [hu] at bm;simp only at bm;split
   ·rename_i n hn
    rw [hn] at bm;simp only at bm;cases hc:(Nat.ble 1 n&&mx.isNone) with
    | false=>exact dA
    | true=>
     simp only [aA] at hc;rw [hc.1] at bm;have hmx:mx=none:=Option.isNone_iff_eq_none.1 hc.2;subst hmx;simp only [ak,gS,yX,Option.isSome_none] at bm;exact NY bm (ans (fR hc.1))
   ·exact dA
  ·rename_i len e hu
   rw [hu] at bm;simp only at bm;split
   ·rename_i n hn
    rw [hn] at bm;simp only at bm;cases hc:(Nat.ble 1 n&&mx.isNone) with
    | false=>exact dA
    | true=>
     simp only [aA] at hc;rw [hc.1] at bm;have hmx:mx=none:=Option.isNone_iff_eq_none.1 hc.2;subst hmx;simp only [ak,gS,yX,Option.isSome_none] at bm;exact NY bm alD
   ·exact dA
  ·rename_i hu
   rw [hu] at bm;simp only at bm;cases hc:mx.isNone with
   | false=>exact dA
   | true=>rw [hc] at bm; exact lift_pure bm alE
  ·exact dA
 | makeSlice t l c=>
  show Le P o (yC P cfg.x.mt t l c);have bm:compile P o.op=AO P t l c:=by rw [ho]; rfl
  unfold yC;unfold AO at bm;split
  ·rename_i e hu
   rw [hu] at bm;simp only at bm;split
   ·rename_i i hi
    rw [hi] at bm;simp only at bm;split
    ·rename_i z hz
     rw [hz] at bm;simp only at bm;cases hmz:cfg.x.mt (e+1000000) with
     | true=>
      rw [ak];cases hc:(Nat.ble 1 i.size&&Nat.ble 1 i.bytes&&Nat.beq z.cells.size i.size&&flat z&&z.cells.toList.all scalar&&Nat.beq (bB P e).ks.length i.size&&cP (bB P e) (fe (bB P e) (iH z))) with
      | false=>exact dA
      | true=>
       simp only [aA] at hc;obtain ⟨⟨⟨⟨⟨⟨h1,h2⟩,h3⟩,h4⟩,h5⟩,h6⟩,h7⟩:=hc;rw [h1,h2,h3,h4,h5] at bm;exact akw bm (ar9 (bu h6) (fR h1) (bu h3) h7)
     | false=>
     rw [ba];cases hmt:cfg.x.mt e with
     | true=>
      rw [ak];cases hc:(Nat.ble 1 i.size&&Nat.ble 1 i.bytes&&Nat.beq z.cells.size i.size&&flat z&&z.cells.toList.all scalar&&Nat.beq (bB P e).ks.length i.size&&cP (bB P e) (fe (bB P e) (iH z))) with
      | false=>exact dA
      | true=>
       simp only [aA] at hc;obtain ⟨⟨⟨⟨⟨⟨h1,h2⟩,h3⟩,h4⟩,h5⟩,h6⟩,h7⟩:=hc;rw [h1,h2,h3,h4,h5] at bm;exact Ep bm (anw (bu h6) (fR h1) (bu h3) h7)
     | false=>
     rw [ba];cases hc:(Nat.ble 1 i.size&&Nat.ble 1 i.bytes&&Nat.beq z.cells.size i.size&&flat z&&z.cells.toList.all scalar&&jM (iH z).cells) with
     | false=>exact dA
     | true=>
      simp only [aA] at hc;obtain ⟨⟨⟨⟨⟨h1,h2⟩,h3⟩,h4⟩,h5⟩,h6⟩:=hc;rw [h1,h2,h3,h4,h5] at bm;exact Ep bm (ai0 h6)
    ·exact dA
   ·exact dA
  ·exact dA
 | call c=>
  show Le P o (np P cfg c);unfold np;split
  ·split
   ·cases cfg.ana _ <;> trivial
   ·trivial
  ·trivial
  ·rename_i b hb
   obtain ⟨callee,args,argTypes⟩:=c;simp only at hb;subst hb;have bm:compile P o.op=JP P b argTypes.toList args.toList:=by rw [ho]; rfl
   unfold CY;unfold JP at bm;split
   ·
    simp only at bm;unfold afL;unfold aeS at bm;split
    ·rename_i t ht
     rw [ht] at bm;simp only at bm;split
     ·rename_i e hu
      rw [hu] at bm;exact lift_pure bm ar2
     ·rename_i hu
      rw [hu] at bm;exact lift_pure bm aps
     ·exact dA
    ·exact dA
   ·simp only at bm
    exact lift_pure (f:=Mf false) bm af0
   ·simp only at bm
    exact lift_pure (f:=Mf true) bm af0
   ·
    simp only at bm;unfold JW;unfold ND at bm;split
    ·rename_i t u ht
     rw [ht] at bm;simp only at bm;split
     ·rename_i e eu hu huu
      rw [hu] at bm;simp only at bm;split
      ·rename_i i hi
       rw [hi] at bm;simp only at bm;split
       ·rename_i z hz
        rw [hz] at bm;simp only at bm;cases hc:(Nat.ble 1 i.size&&Nat.beq z.cells.size i.size&&Nat.beq (bB P e).ks.length i.size) with
        | false=>exact dA
        | true=>
         simp only [aA] at hc;have awo:NC P u=true:=by unfold NC; rw [huu]
         rw [hc.1.1,hc.1.2,awo] at bm;exact aaI bm (anA (bu hc.2) (fR hc.1.1))
       ·exact dA
      ·exact dA
     ·exact dA
    ·exact dA
   ·
    simp only at bm;show Le P o (SG P argTypes.toList args.toList);unfold SG;unfold Xr at bm;split
    ·rename_i t u ht
     rw [ht] at bm;simp only at bm;split
     ·rename_i e eu hu huu
      rw [hu] at bm;simp only at bm;split
      ·rename_i n hn
       rw [hn] at bm;simp only at bm;cases hc:(Nat.ble 1 n&&Nat.beq (bB P e).ks.length n) with
       | false=>exact dA
       | true=>
        simp only [aA] at hc;rw [hc.1] at bm;exact aaI bm (ato (bu hc.2) (fR hc.1))
      ·exact dA
     ·exact dA
    ·exact dA
   ·trivial
  ·trivial
 | _=>trivial
end Go.K
end
section
namespace Go.K
open Go Go.aB
variable {P:Program} {E:Env}
theorem u5 (t:bO):∀ xs,mZ t xs=xs.map (mc t)
 | []=>rfl
 | x::xs=>by rw [mZ,u5 t xs]; rfl
structure lL (P:Program) (E:Env) (ρ:Ren) (t:bO) (N:Nat) (a:Act):Prop where
 size:a.tmps.size=N
 val:∀ i,VC P E ρ ((t.get i).getD .ao) (a.tmps.getD i undef)
 none:∀ i,N<=i->t.get i=Option.none
theorem lL.ev {ρ:Ren} {t:bO} {N:Nat} {a:Act} (h:lL P E ρ t N a) (x:Operand):VC P E ρ (mc t x) (a.eval x):=by
 cases x with
 | tmp i=>exact h.val i
 | const v=>
  simp only [mc,Act.eval];cases hf:flat v with
  | true=>exact ⟨v,.iH v,VR.of_flat hf⟩
  | false=>exact .ao
 | global g=>exact .ao
 | func f=>exact ⟨.func (.func f) ⟨[]⟩ ⟨[]⟩,.ani .nil .nil,VR.aeU (l:=[]) (m:=[]) (.func f) rfl .nil .nil⟩
theorem lL.mono {E' : Env} {ρ bd:Ren} {t:bO} {N:Nat} {a:Act} (h:lL P E ρ t N a) (k:E.le E') (m:ρ.le bd):lL P E' bd t N a:=⟨h.size,fun i=>(h.val i).mono k m,h.none⟩
theorem lL.put {ρ:Ren} {t:bO} {N:Nat} {a:Act} {dst:Option Tmp} {v:KV} {v' : Value} (h:lL P E ρ t N a) (hd:∀ d,dst=some d->d < N) (hv:VC P E ρ v v'):lL P E ρ (rY t dst v) N (a.put dst v'):=by
 cases dst with
 | none=>exact h
 | some d=>
  have hd:=hd d rfl;refine ⟨by simp [Act.put,h.size],fun i=>?_,fun i hi=>?_⟩
  ·simp only [rY,Trie.qV,Act.put]
   by_cases e:i=d
   ·subst e
    have:i < a.tmps.size:=by rw [h.size]; exact hd
    simp [jC,this,hv]
   ·have:=h.val i
    simp only [av e];simpa [jC,Array.getElem?_setIfInBounds_ne (Ne.symm e)] using this
  ·simp only [rY,Trie.qV]
   have de:i≠d:=fun e=>absurd hi (by rw [e]; exact Nat.not_le_of_lt hd);rw [av de];exact h.none i hi
theorem lL.same {ρ:Ren} {t t' : bO} {N:Nat} {a:Act} (h:lL P E ρ t N a) (hs:∀ i,t'.get i=t.get i):lL P E ρ t' N a:=
 ⟨h.size,fun i=>by rw [hs]; exact h.val i,fun i hi=>by rw [hs]; exact h.none i hi⟩
theorem FU {v:KV} {b:Bool} (h:xF v = .bool b):v = .bool b:=by cases v <;> simp [xF] at h; rw [h]
theorem agd {v:KV} (h:xF v = .nb):∃ l,v = .nb l:=by cases v <;> simp [xF] at h; exact ⟨_,rfl⟩
theorem Oa {t:bO} {d:Tmp} {b:Bool} (h:xF ((t.get d).getD .ao) = .bool b):∀ i,(Trie.set (.bool b) t d).get i=t.get i:=by
 intro i;have:=FU h;rw [Trie.qV];split
 ·rename_i e
  subst e;cases ht:t.get i with
  | none=>rw [ht] at this; simp at this
  | some v=>rw [ht] at this; simp at this; rw [this]
 ·rfl
theorem VC.gi {ρ:Ren} {b:Bool} {v:Value} (h:VC P E ρ (.bool b) v):v = .bool b:=by
 obtain ⟨u,h1,h2⟩:=h;have:=h1.gi; subst this;exact h2.gi
theorem alJ {R:Type} {ρ:Ren} {t:bO} {N:Nat} {a:Act} {all:List Oper} {o:Oper} {j:Nat} {want:Bool} {yes no:bO->Option R} {r:R} (hg:o.guard=some (j,want)) (ht:lL P E ρ t N a)
  (h:anb t ((all[j]?).bind (·.dst)) want yes no=some r) :
  ∃ t',(∀ i,t'.get i=t.get i)/\((Region.wanted o (yielded ⟨all⟩ a.tmps)=true/\yes t' = some r)\/(Region.wanted o (yielded ⟨all⟩ a.tmps)=false/\no t' = some r)):=by
 unfold anb at h;cases hd:(all[j]?).bind (·.dst) with
 | none=>rw [hd] at h; exact absurd h (by simp)
 | some d=>
  rw [hd] at h;have hw:∀ u,a.tmps[d]? = some u->Region.wanted o (yielded ⟨all⟩ a.tmps)=(match u with
    | .bool b=>b==want
    | _=>false):=by
   intro u hu;unfold Region.wanted;rw [hg];simp only;unfold yielded;have e:(⟨all⟩:Array Oper)[j]? = all[j]?:=by simp
   rw [e,hd];simp only [fy,hu];cases u <;> rfl
  have A7:=ht.val d;have h:BK.rec (motive:=fun _=>Option R)
   (fun b=>Bool.rec (motive:=fun _=>Option R)
    (Bool.rec (motive:=fun _=>Option R) (yes (t.set (.bool false) d)) (no (t.set (.bool false) d)) want)
    (Bool.rec (motive:=fun _=>Option R) (no (t.set (.bool true) d)) (yes (t.set (.bool true) d)) want) b)
   (no t) none (xF ((t.get d).getD .ao))=some r:=h
  cases hb:xF ((t.get d).getD .ao) with
  | no=>rw [hb] at h; exact absurd h (by simp)
  | nb=>
   rw [hb] at h;obtain ⟨l,hl⟩:=agd hb;rw [hl] at A7;obtain ⟨u,h1,h2⟩:=A7;obtain ⟨m,rfl,_⟩:=h1.QC;obtain ⟨m',h3,_⟩:=h2.Vw;refine ⟨t,fun _=>rfl,.inr ⟨?_,h⟩⟩;cases hc:a.tmps[d]? with
   | none=>
    unfold Region.wanted;rw [hg];simp only;unfold yielded;have e:(⟨all⟩:Array Oper)[j]? = all[j]?:=by simp
    rw [e,hd];simp [hc]
   | some u=>
    have:u = .tuple m':=by rw [<- h3]; simp [jC,hc]
    rw [hw u hc,this]
  | bool b=>
   rw [hb] at h;have hbv:=FU hb;rw [hbv] at A7;have hcv:=A7.gi;have hc:a.tmps[d]? = some (.bool b):=by
    cases hc:a.tmps[d]? with
    | none=>simp [jC,hc,undef] at hcv
    | some u=>have:u = .bool b:=by rw [<- hcv]; simp [jC,hc]
              rw [this]
   have hwd:=hw _ hc;refine ⟨t.set (.bool b) d,Oa hb,?_⟩;cases b <;> cases want
   ·exact .inl ⟨hwd,h⟩
   ·exact .inr ⟨hwd,h⟩
   ·exact .inr ⟨hwd,h⟩
   ·exact .inl ⟨hwd,h⟩
def ui (P:Program) (E:Env) (ρ:Ren) (l:List KV) (l' : List Value):Prop:=∃ m,bC P E l m/\eo ρ m l'
def Cn (P : Program) (g : FuncId) : Prop := Nat.blt g yB = true ∧ ∃ fn, P.funcs[g]? = some fn ∧ fn.body.isSome = true ∧ (fn.name == "runtime.NumGoroutine") = false
def Mv {R:Type} (P:Program) (bR:px R):Prop:=
 ∀ f args A k r,bR f args A k=some r->Cn P f/\∀ (E:Env) (B:St) (ρ:Ren) (base:Nat) (w:World) (ib:List Value),ui P E ρ args ib->KJ P E A B ρ base w->
  Calls P f ib.toArray w fun e w'=>∃ v v' E' A' B' bd,e = .returned v'/\VC P E' bd v v'/\Ev P base E A B ρ w E' A' B' bd w'/\k v A' = some r
def bH (P:Program) (g:FuncId) (F:List KV->KR KV):Prop:=
 ∀ args v,bf (F (normArgs P (aG P g) args)) v->args.length=(aG P g).length->Cn P g/\∀ (E:Env) (A:aw) (B:St) (ρ:Ren) (base:Nat) (w:World) (ib:List Value),ui P E ρ args ib->KJ P E A B ρ base w->
  Calls P g ib.toArray w fun e w'=>∃ v' E' B' bd,e = .returned v'/\VC P E' bd v v'/\Ev P base E A B ρ w E' A B' bd w'
def u6 (P:Program) (pc:FuncId->Option (List KV->KR KV)):Prop:=∀ g F,pc g=some F->bH P g F
theorem alK {o:Oper} {f:Operand} {args:List Operand} (bm:compile P o.op = .call f args) {ρ:Ren} {t:bO} {N:Nat} {a:Act} (ht:lL P E ρ t N a) {g:FuncId} {vs:List KV} (hc:Iu (mZ t args) (mc t f)=some (g,vs)) (hg:Cn P g) :
  ∃ cX,ui P E ρ vs cX/\∀ w,(execOp a.eval o).run P w = .ok (.enter g cX.toArray) w:=by
 have dt:=tB P o;rw [bm] at dt;obtain ⟨em,h1,h2⟩:=mid (xs:=f::args) (ev:=mc t) (dc:=a.eval) fun x _=>ht.ev x;obtain ⟨y,ys,e,h3,h4⟩:=h1.cons_inv;simp only [List.map_cons,List.cons.injEq] at e;obtain ⟨rfl,rfl⟩:=e;have hv:∃ us,yx (args.map em) (em f)=some (g,us)/\bC P E vs us:=by
  unfold Iu at hc;split at hc
  ·rename_i g' first cap e
   simp only [di,fS] at hc;obtain ⟨rfl,rfl⟩:=hc;rw [e] at h3;obtain ⟨l,m,e2,h5,h6⟩:=h3.JY;rw [e2];refine ⟨l++args.map em++m,by simp only [yx]; rw [hg.1]; rfl,?_⟩;rw [u5];exact (h5.append h4).append h6
  ·simp at hc
 obtain ⟨us,h5,h6⟩:=hv;obtain ⟨cX,h7,h8⟩:=dt.2 ρ em a.eval g us h2 hg.1 h5 hg.2;exact ⟨cX,⟨us,h6,h7⟩,h8⟩
def dS:tD->Bool
 | .call _ _=>false
 | .Ei _ _ _=>false
 | .Ir _ _ _=>false
 | _=>true
theorem eS {c:Bool} {x:tD} (h:dS x=true):dS (cond c x .bad)=true:=by
 cases c with
 | false=>rfl
 | true=>exact h
theorem Er (mt:TypeId->Bool) (b:Builtin) (ts:List TypeId) (args:List Operand):dS (CY P mt b ts args)=true:=by
 unfold CY afL JW SG
 repeat' split
 all_goals first | rfl | exact eS rfl
theorem BU (mt:TypeId->Bool) (t:TypeId) (l c:Operand):dS (yC P mt t l c)=true:=by
 unfold yC;split
 ·rename_i e he
  split
  ·split
   ·cases mt (e+1000000)
    ·cases mt e <;> exact eS rfl
    ·exact eS rfl
   ·rfl
  ·rfl
 ·rfl
theorem acq {cfg:fE} {op:Op} {f:Operand} {args:List Operand} (h:cm P cfg op = .call f args):compile P op = .call f args:=by
 have key:dS (cm P cfg op)=true->compile P op = .call f args:=fun hn=>by rw [h] at hn; simp [dS] at hn
 cases op with
 | call c=>
  have h:np P cfg c = .call f args:=h;show CN P c=_;unfold np at h;unfold CN;split at h
  ·rename_i g hc
   split at h
   ·cases hz:cfg.ana g <;> rw [hz] at h <;> simp at h
   ·simp at h; obtain ⟨rfl,rfl⟩:=h; rw [hc]
  ·rename_i f' de hc; simp at h; obtain ⟨rfl,rfl⟩:=h; rw [hc]
  ·rename_i b hc
   have:=Er (P:=P) cfg.x.mt b c.argTypes.toList c.args.toList;rw [h] at this;simp [dS] at this
  ·simp at h
 | alloc t=>exact key (by show dS (rP P t)=true; unfold rP; split <;> first | rfl | exact eS rfl)
 | build t ps=>exact key (by show dS (vS P t _ _)=true; unfold vS; (repeat' split); all_goals first | rfl | exact eS rfl)
 | buildSlice t n ps=>exact key (by show dS (mC P cfg.x.mt t n _ _)=true; unfold mC; (repeat' split); all_goals first | rfl | exact eS (by cases NP _ <;> first | exact eS rfl | (cases cfg.x.mt _ <;> rfl) | rfl))
 | convert s d x=>exact key (by show dS (rh P s d x)=true; unfold rh; (repeat' split); all_goals first | rfl | exact eS rfl)
 | makeFunc fn a b=>exact key (by show dS (cond (AY fn) .bad _)=true; cases AY fn <;> rfl)
 | fieldAddr s x i=>exact key (by show dS (nQ P s x i)=true; unfold nQ; (repeat' split); all_goals rfl)
 | field s x i=>exact key (by show dS (vT P s x i)=true; unfold vT; (repeat' split); all_goals rfl)
 | indexAddr s x i=>exact key (by show dS (nR P s x i)=true; unfold nR; (repeat' split); all_goals rfl)
 | index s x i=>exact key (by show dS (vU P s x i)=true; unfold vU; (repeat' split); all_goals rfl)
 | slice t x lo hi mx=>exact key (by show dS (vV P t x lo hi mx)=true; unfold vV; (repeat' split); all_goals first | rfl | exact eS rfl)
 | makeSlice t l c=>exact key (BU _ t l c)
 | _=>exact key rfl
theorem alL {cfg:fE} {op:Op} {g:FuncId} {F:List KV->KR KV} {args:List Operand} (h:cm P cfg op = .Ei g F args):compile P op = .call (.func g) args/\∃ F0,cfg.pc g=some F0/\F=fun vs=>cond (Nat.beq vs.length (aG P g).length) (F0 (normArgs P (aG P g) vs)) .no:=by
 have key:dS (cm P cfg op)=true->compile P op = .call (.func g) args/\∃ F0,cfg.pc g=some F0/\F=fun vs=>cond (Nat.beq vs.length (aG P g).length) (F0 (normArgs P (aG P g) vs)) .no:=fun hn=>by rw [h] at hn; simp [dS] at hn
 cases op with
 | call c=>
  have h:np P cfg c = .Ei g F args:=h;show CN P c=_/\_;unfold np at h;unfold CN;split at h
  ·rename_i g' hc
   split at h
   ·rename_i F0 hF
    cases hz:cfg.ana g' with
    | true=>rw [hz] at h; simp at h
    | false=>
     rw [hz] at h;simp at h; obtain ⟨rfl,rfl,rfl⟩:=h; rw [hc];exact ⟨rfl,F0,hF,rfl⟩
   ·simp at h
  ·simp at h
  ·rename_i b hc
   have:=Er (P:=P) cfg.x.mt b c.argTypes.toList c.args.toList;rw [h] at this;simp [dS] at this
  ·simp at h
 | alloc t=>exact key (by show dS (rP P t)=true; unfold rP; split <;> first | rfl | exact eS rfl)
 | build t ps=>exact key (by show dS (vS P t _ _)=true; unfold vS; (repeat' split); all_goals first | rfl | exact eS rfl)
 | buildSlice t n ps=>exact key (by show dS (mC P cfg.x.mt t n _ _)=true; unfold mC; (repeat' split); all_goals first | rfl | exact eS (by cases NP _ <;> first | exact eS rfl | (cases cfg.x.mt _ <;> rfl) | rfl))
 | convert s d x=>exact key (by show dS (rh P s d x)=true; unfold rh; (repeat' split); all_goals first | rfl | exact eS rfl)
 | makeFunc fn a b=>exact key (by show dS (cond (AY fn) .bad _)=true; cases AY fn <;> rfl)
 | fieldAddr s x i=>exact key (by show dS (nQ P s x i)=true; unfold nQ; (repeat' split); all_goals rfl)
 | field s x i=>exact key (by show dS (vT P s x i)=true; unfold vT; (repeat' split); all_goals rfl)
 | indexAddr s x i=>exact key (by show dS (nR P s x i)=true; unfold nR; (repeat' split); all_goals rfl)
 | index s x i=>exact key (by show dS (vU P s x i)=true; unfold vU; (repeat' split); all_goals rfl)
 | slice t x lo hi mx=>exact key (by show dS (vV P t x lo hi mx)=true; unfold vV; (repeat' split); all_goals first | rfl | exact eS rfl)
 | makeSlice t l c=>exact key (BU _ t l c)
 | _=>exact key rfl
theorem alM {cfg:fE} {op:Op} {g:FuncId} {F:List KV->KR KV} {args:List Operand} (h:cm P cfg op = .Ir g F args):compile P op = .call (.func g) args/\∃ F0,cfg.pc g=some F0/\F=fun vs=>cond (Nat.beq vs.length (aG P g).length) (F0 (normArgs P (aG P g) vs)) .no:=by
 have key:dS (cm P cfg op)=true->compile P op = .call (.func g) args/\∃ F0,cfg.pc g=some F0/\F=fun vs=>cond (Nat.beq vs.length (aG P g).length) (F0 (normArgs P (aG P g) vs)) .no:=fun hn=>by rw [h] at hn; simp [dS] at hn
 cases op with
 | call c=>
  have h:np P cfg c = .Ir g F args:=h;show CN P c=_/\_;unfold np at h;unfold CN;split at h
  ·rename_i g' hc
   split at h
   ·rename_i F0 hF
    cases hz:cfg.ana g' with
    | false=>rw [hz] at h; simp at h
    | true=>
     rw [hz] at h;simp at h; obtain ⟨rfl,rfl,rfl⟩:=h; rw [hc];exact ⟨rfl,F0,hF,rfl⟩
   ·simp at h
  ·simp at h
  ·rename_i b hc
   have:=Er (P:=P) cfg.x.mt b c.argTypes.toList c.args.toList;rw [h] at this;simp [dS] at this
  ·simp at h
 | alloc t=>exact key (by show dS (rP P t)=true; unfold rP; split <;> first | rfl | exact eS rfl)
 | build t ps=>exact key (by show dS (vS P t _ _)=true; unfold vS; (repeat' split); all_goals first | rfl | exact eS rfl)
 | buildSlice t n ps=>exact key (by show dS (mC P cfg.x.mt t n _ _)=true; unfold mC; (repeat' split); all_goals first | rfl | exact eS (by cases NP _ <;> first | exact eS rfl | (cases cfg.x.mt _ <;> rfl) | rfl))
 | convert s d x=>exact key (by show dS (rh P s d x)=true; unfold rh; (repeat' split); all_goals first | rfl | exact eS rfl)
 | makeFunc fn a b=>exact key (by show dS (cond (AY fn) .bad _)=true; cases AY fn <;> rfl)
 | fieldAddr s x i=>exact key (by show dS (nQ P s x i)=true; unfold nQ; (repeat' split); all_goals rfl)
 | field s x i=>exact key (by show dS (vT P s x i)=true; unfold vT; (repeat' split); all_goals rfl)
 | indexAddr s x i=>exact key (by show dS (nR P s x i)=true; unfold nR; (repeat' split); all_goals rfl)
 | index s x i=>exact key (by show dS (vU P s x i)=true; unfold vU; (repeat' split); all_goals rfl)
 | slice t x lo hi mx=>exact key (by show dS (vV P t x lo hi mx)=true; unfold vV; (repeat' split); all_goals first | rfl | exact eS rfl)
 | makeSlice t l c=>exact key (BU _ t l c)
 | _=>exact key rfl
noncomputable def xO (ins:tD) (t:bO) (A:aw):KR (KV×aw):=
 match ins with
 | .pure f xs=>(f (mZ t xs)).map fun v=>(v,A)
 | .read f xs=>(f A (mZ t xs)).map fun v=>(v,A)
 | .act f xs=>f A (mZ t xs)
 | .look f xs=>(f (mZ t xs)).map fun v=>(v,A)
 | .Ei _ f xs=>(f (mZ t xs)).map fun v=>(v,A)
 | .Ir _ f xs=>(f (Ar A (mZ t xs)).1).map fun v=>(v,(Ar A (mZ t xs)).2)
 | .call _ _=>.no
 | .bad=>.no
theorem bf.C5 {α β:Type} {r:KR α} {f:α->β} {u:α} (h:bf r u):bf (r.map f) (f u):=by
 cases r with
 | no=>exact h.elim
 | ok x=>have h:x=u:=h; subst h; exact rfl
 | lQ c x=>obtain ⟨h1,rfl⟩:=h; exact ⟨h1,rfl⟩
 | br c x y=>exact h.imp (fun h=>⟨h.1,bf.C5 (r:=x) h.2⟩) (fun h=>⟨h.1,bf.C5 (r:=y) h.2⟩)
theorem J2 {R:Type} {bR:px R} {t:bO} {A:aw} {k:KV->aw->Option R} {ins:tD} {r:R} (hn:∀ f args,ins≠.call f args) (h:QA bR t A k ins=some r):∃ v A',bf (xO ins t A) (v,A')/\k v A' = some r:=by
 cases ins with
 | pure f xs=>obtain ⟨v,h1,h2⟩:=KR.Cj h; exact ⟨v,A,h1.C5,h2⟩
 | read f xs=>obtain ⟨v,h1,h2⟩:=KR.Cj h; exact ⟨v,A,h1.C5,h2⟩
 | act f xs=>obtain ⟨v,h1,h2⟩:=KR.Cj h; exact ⟨v.1,v.2,h1,h2⟩
 | look f xs=>obtain ⟨v,h1,h2⟩:=KR.Cj h; exact ⟨v,A,h1.C5,h2⟩
 | Ei g f xs=>obtain ⟨v,h1,h2⟩:=KR.Cj h; exact ⟨v,A,h1.C5,h2⟩
 | Ir g f xs=>obtain ⟨v,h1,h2⟩:=KR.Cj h; exact ⟨v,(Ar A (mZ t xs)).2,h1.C5 (f:=fun v=>(v,(Ar A (mZ t xs)).2)),h2⟩
 | call f args=>exact absurd rfl (hn f args)
 | bad=>exact absurd h (by simp [QA])
theorem acr {cfg:fE} (kb:u6 P cfg.pc) {o:Oper} {g:FuncId} {xs:List Operand} (bm:compile P o.op = .call (.func g) xs) {F0:List KV->KR KV} (hF0:cfg.pc g=some F0) {t:bO} {vs0:List KV} {v:KV}
  (hf:bf (F0 (normArgs P (aG P g) vs0)) v) (hlen:vs0.length=(aG P g).length) {E:Env} {ρ:Ren} {a:Act} (hv:∀ x∈xs,VC P E ρ (mc t x) (a.eval x)) {A A1:aw} {B:St} {base:Nat} {w:World}
  (awp:∀ us,bC P E (xs.map (mc t)) us->∃ E1,Ev P base E A B ρ w E1 A1 B ρ w/\bC P E1 vs0 us) {next:Act->World->Prop} {Q:Exit->Act->World->Prop}
  (hk:∀ E' B' bd v' w',VC P E' bd v v'->Ev P base E A B ρ w E' A1 B' bd w'->next (a.put o.dst v') w'):o.upon P a next Q ((execOp a.eval o).run P w):=by
 obtain ⟨hg,mX⟩:=kb g F0 hF0 _ _ hf hlen;have akz:=tB P o;rw [bm] at akz;obtain ⟨em,h3,h4⟩:=mid (xs:=xs) hv
 let em2:Operand->Value:=fun x=>match x with
  | .func f=>.func (.func f) #[] #[]
  | x=>em x
 have e3:∀ x∈xs,VK P E (mc t x) (em2 x)/\VR ρ (em2 x) (a.eval x):=by
  intro x hx;have key:∀ (l:List Operand),bC P E (l.map (mc t)) (l.map em)->x∈l->VK P E (mc t x) (em x):=by
   intro l
   induction l with
   | nil=>intro _ h; simp at h
   | cons y l ih=>
    intro h hm;obtain ⟨z,zs,e,q1,q2⟩:=h.cons_inv;simp only [List.map_cons,List.cons.injEq] at e;obtain ⟨rfl,rfl⟩:=e;rcases fA.1 hm with rfl | hm
    ·exact q1
    ·exact ih q2 hm
  cases x with
  | func f=>exact ⟨.ani .nil .nil,VR.aeU (l:=[]) (m:=[]) (.func f) rfl .nil .nil⟩
  | tmp i=>exact ⟨key xs h3 hx,h4 _ hx⟩
  | const c=>exact ⟨key xs h3 hx,h4 _ hx⟩
  | global q=>exact ⟨key xs h3 hx,h4 _ hx⟩
 have e4:bC P E (xs.map (mc t)) (xs.map em2):=by
  have:∀ (l:List Operand),(∀ x∈l,VK P E (mc t x) (em2 x))->bC P E (l.map (mc t)) (l.map em2):=by
   intro l
   induction l with
   | nil=>intro _; exact .nil
   | cons y l ih=>intro h; exact .cons (h y (by simp)) (ih fun z hz=>h z (by simp [hz]))
  exact this xs fun x hx=>(e3 x hx).1
 obtain ⟨cX,h5,h6⟩:=akz.2 ρ em2 a.eval g (xs.map em2) (fun x hx=>by
   rcases fA.1 hx with rfl | hx
   ·exact VR.aeU (l:=[]) (m:=[]) (.func g) rfl .nil .nil
   ·exact (e3 x hx).2) hg.1 (by simp only [em2,yx]; rw [hg.1]; simp) hg.2
 rw [h6 w];obtain ⟨E1,q1,q2⟩:=awp _ e4;refine (mX E1 A1 B ρ base w cX ⟨xs.map em2,q2,h5⟩ q1.kj).mono ?_;rintro e w' ⟨v',E',B',bd,rfl,h7,h8⟩;exact hk E' B' bd v' w' h7 (q1.trans h8)
theorem Ob {cfg:fE} (kb:u6 P cfg.pc) {o:Oper} {t:bO} {A A' : aw} {v:KV} {base:Nat} {B:St} {ρ:Ren} {a:Act} {w:World} {next:Act->World->Prop} {Q:Exit->Act->World->Prop}
  (h:bf (xO (cm P cfg o.op) t A) (v,A')) (hv:∀ x∈ae0 (cm P cfg o.op),VC P E ρ (mc t x) (a.eval x)) (hj:KJ P E A B ρ base w)
  (hk:∀ E' B' bd v' w',VC P E' bd v v'->Ev P base E A B ρ w E' A' B' bd w'->next (a.put o.dst v') w'):o.wp P a w next Q:=by
 have dt:=asa P cfg o;have aq8:=@alL P cfg o.op;have aq9:=@alM P cfg o.op;generalize cm P cfg o.op=ins at h dt hv aq8 aq9;unfold Oper.wp;cases ins with
 | pure f xs=>
  obtain ⟨u,h1,h2⟩:=bf.map h;simp only [fS] at h2;obtain ⟨rfl,rfl⟩:=h2;rw [u5] at h1;obtain ⟨v',h3,h4⟩:=dt E ρ (mc t) a.eval u hv h1;rw [h4 w];exact hk E B ρ v' w h3 (.refl hj.k hj.s)
 | read f xs=>
  obtain ⟨u,h1,h2⟩:=bf.map h;simp only [fS] at h2;obtain ⟨rfl,rfl⟩:=h2;rw [u5] at h1;obtain ⟨v',h3,h4⟩:=dt E A B ρ base w (mc t) a.eval u hj hv h1;rw [h4];exact hk E B ρ v' w h3 (.refl hj.k hj.s)
 | act f xs=>
  have h:bf (f A (mZ t xs)) (v,A'):=h;rw [u5] at h;obtain ⟨E',B',bd,v',nx,w',h1,h2,h3,h4⟩:=dt E A A' B ρ base w (mc t) a.eval v hj hv h;rw [h1];have hd:=hk E' B' bd v' w' h3 h4;cases nx with
  | value u=>have:u=v':=h2; subst this; exact hd
  | skip=>have:v' = undef:=h2; subst this; exact hd
  | _=>exact h2.elim
 | look f xs=>
  obtain ⟨u,h1,h2⟩:=bf.map h;simp only [fS] at h2;obtain ⟨rfl,rfl⟩:=h2;rw [u5] at h1;obtain ⟨E',B',bd,v',nx,w',h3,h4,h5,h6⟩:=dt E A B ρ base w (mc t) a.eval u hj hv h1;rw [h3];have hd:=hk E' B' bd v' w' h5 h6;cases nx with
  | value u=>have:u=v':=h4; subst this; exact hd
  | skip=>have:v' = undef:=h4; subst this; exact hd
  | _=>exact h4.elim
 | Ei g f xs=>
  obtain ⟨u,h1,h2⟩:=bf.map h;simp only [fS] at h2;obtain ⟨rfl,rfl⟩:=h2;obtain ⟨bm,F0,hF0,rfl⟩:=aq8 rfl;obtain ⟨hlen,hf⟩:=bf.cond h1;exact acr kb bm hF0 hf (bu hlen) hv (fun us q=>⟨E,.refl hj.k hj.s,by rw [u5]; exact q⟩) hk
 | Ir g f xs=>
  obtain ⟨u,h1,h2⟩:=bf.map h;simp only [fS] at h2;obtain ⟨rfl,rfl⟩:=h2;obtain ⟨bm,F0,hF0,rfl⟩:=aq9 rfl;obtain ⟨hlen,hf⟩:=bf.cond h1;refine acr kb bm hF0 hf (bu hlen) hv (fun us q=>?_) hk;obtain ⟨E1,p1,p2⟩:=J1 hj.k q;rw [u5];exact ⟨E1,p1.ev (.refl hj.s),p2⟩
 | call f args=>exact h.elim
 | bad=>exact h.elim
end Go.K
end
section
namespace Go.K
open Go Go.aB
variable {P:Program} {E:Env}
theorem acs {R:Type} {cfg:fE} {bR:px R} (kb:u6 P cfg.pc) (xG:Mv P bR) {o:Oper} {t:bO} {A:aw} {k:KV->aw->Option R} {r:R} {N base:Nat} {B:St} {ρ:Ren} {a:Act} {w:World} {next:Act->World->Prop} {Q:Exit->Act->World->Prop}
  (h:QA bR t A k (cm P cfg o.op)=some r) (ht:lL P E ρ t N a) (hj:KJ P E A B ρ base w)
  (hk:∀ E' A' B' bd v v' w',k v A' = some r->VC P E' bd v v'->Ev P base E A B ρ w E' A' B' bd w'->next (a.put o.dst v') w'):o.wp P a w next Q:=by
 by_cases hc:∃ f args,cm P cfg o.op = .call f args
 ·obtain ⟨f,args,hc⟩:=hc
  rw [hc] at h;have h:Option.rec (motive:=fun _=>Option R) none (fun p=>bR p.1 p.2 A k) (Iu (mZ t args) (mc t f))=some r:=h;cases am0:Iu (mZ t args) (mc t f) with
  | none=>rw [am0] at h; exact absurd h (by simp)
  | some p=>
   obtain ⟨g,vs⟩:=p;rw [am0] at h;have h:bR g vs A k=some r:=h;obtain ⟨hg,mX⟩:=xG g vs A k r h;obtain ⟨cX,h1,h2⟩:=alK (acq hc) ht am0 hg;unfold Oper.wp;rw [h2 w];refine (mX E B ρ base w cX h1 hj).mono ?_;rintro e w' ⟨v,v',E',A',B',bd,rfl,h3,h4,h5⟩;exact hk E' A' B' bd v v' w' h5 h3 h4
 ·obtain ⟨v,A',h1,h2⟩:=J2 (fun f args e=>hc ⟨f,args,e⟩) h
  exact Ob kb h1 (fun x _=>ht.ev x) hj fun E' B' bd v' w' h3 h4=>hk E' A' B' bd v v' w' h2 h3 h4
theorem anC {R:Type} {cfg:fE} {bR:px R} {all:List Oper} {o:Oper} {k:bO->aw->Option R} {t:bO} {A:aw} {r:R} {N:Nat} {ρ:Ren} {a:Act} (ht:lL P E ρ t N a) (h:BS P cfg bR all o k t A=some r) :
  ∃ t1,(∀ i,t1.get i=t.get i)/\((Region.wanted o (yielded ⟨all⟩ a.tmps)=true/\QA bR t1 A (fun v A=>k (rY t1 o.dst v) A) (cm P cfg o.op)=some r)\/
   (Region.wanted o (yielded ⟨all⟩ a.tmps)=false/\k (rY t1 o.dst uE) A=some r)):=by
 unfold BS at h;cases hg:o.guard with
 | none=>
  rw [hg] at h;refine ⟨t,fun _=>rfl,.inl ⟨?_,h⟩⟩;unfold Region.wanted;rw [hg]
 | some p=>
  obtain ⟨j,want⟩:=p;rw [hg] at h;exact alJ hg ht h
theorem QP {R:Type} {cfg:fE} {bR:px R} (kb:u6 P cfg.pc) (xG:Mv P bR) {N base:Nat} {Q:Exit->Act->World->Prop} {all:List Oper} (hd:all.all (KX N)=true) {k:bO->aw->Option R} {r:R} :
  ∀ (os:List Oper) (j:Nat) (t:bO) (E:Env) (A:aw) (B:St) (ρ:Ren) (a:Act) (w:World),all.drop j=os->vK P cfg bR all k os t A=some r->lL P E ρ t N a->KJ P E A B ρ base w->
   (∀ t' E' A' B' bd a' w',k t' A' = some r->lL P E' bd t' N a'->a'.defers=a.defers->Ev P base E A B ρ w E' A' B' bd w'->Q .normal a' w')->wpOps P ⟨all⟩ Q (List.range' j os.length) a w
 | [],j,t,E,A,B,ρ,a,w,_,h,ht,hj,hq=>hq t E A B ρ a w h ht rfl (.refl hj.k hj.s)
 | o::os,j,t,E,A,B,ρ,a,w,hk,h,ht,hj,hq=>by
  have ho:(⟨all⟩:Array Oper)[j]? = some o:=by
   have:(all.drop j)[0]? = some o:=by rw [hk]; rfl
   rw [pS] at this;simpa using this
  have yq:all.drop (j+1)=os:=by rw [<- List.drop_drop,hk]; rfl
  have IA:∀ d,o.dst=some d->d < N:=by
   intro d e;have hm:o∈all:=jD (by simpa using ho);have:=ij.1 hd o hm;unfold KX at this;rw [e] at this;simp only at this;rw [cq] at this;exact this
  rw [CI,List.range'_succ];simp only [wpOps,ho];have h:BS P cfg bR all o (vK P cfg bR all k os) t A=some r:=h;obtain ⟨t1,K3,h⟩:=anC ht h;have zc:=ht.same K3;rcases h with ⟨hw,h⟩ | ⟨hw,h⟩
  ·rw [hw]
   refine .inl (acs kb xG h zc hj fun E' A' B' bd v v' w' h1 h2 h3=>?_);refine QP kb xG hd os (j+1) _ E' A' B' bd _ w' yq h1 ((zc.mono h3.le (h3.gP.le hj.s)).put IA h2) h3.kj fun t' JI A'' Li wJ a'' JD h4 h5 h6 h7=>?_;exact hq t' JI A'' Li wJ a'' JD h4 h5 (by rw [h6,put_defers]) (h3.trans h7)
  ·rw [hw]
   refine QP kb xG hd os (j+1) _ E A B ρ _ w yq h (zc.put IA .undef) hj fun t' JI A'' Li wJ a'' JD h4 h5 h6 h7=>?_;exact hq t' JI A'' Li wJ a'' JD h4 h5 (by rw [h6,put_defers]) h7
abbrev Out:=Bool×KV×aw
inductive Run (P:Program) (cfg:fE) (all:List Oper):List Oper->bO->aw->List Out->bO->aw->Prop where
 | nil {t:bO} {A:aw} : Run P cfg all [] t A [] t A
 | cons {o:Oper} {os:List Oper} {t t1 t' : bO} {A A1 A' : aw} {wd:Bool} {v:KV} {L:List Out}
   (same:∀ i,t1.get i=t.get i)
   (want:(o.guard=none/\wd=true)\/∃ j want d,o.guard=some (j,want)/\(all[j]?).bind (·.dst)=some d/\((∃ b,t.get d=some (.bool b)/\wd=(b==want))\/(∃ l,t.get d=some (.nb l)/\wd=false)))
   (yes:wd=true->bf (xO (cm P cfg o.op) t1 A) (v,A1)) (no:wd=false->v=uE/\A1=A)
   (rest:Run P cfg all os (rY t1 o.dst v) A1 L t' A'):Run P cfg all (o::os) t A ((wd,v,A1)::L) t' A'
theorem Oc {R:Type} {t:bO} {d:Option Tmp} {want:Bool} {yes no:bO->Option R} {r:R} (h:anb t d want yes no=some r) :
  ∃ d',d=some d'/\((∃ b t',t.get d' = some (.bool b)/\(∀ i,t'.get i=t.get i)/\((b==want)=true/\yes t' = some r\/(b==want)=false/\no t' = some r))\/∃ l,t.get d' = some (.nb l)/\no t=some r):=by
 unfold anb at h;cases d with
 | none=>exact absurd h (by simp)
 | some d=>
  refine ⟨d,rfl,?_⟩;have h:BK.rec (motive:=fun _=>Option R)
   (fun b=>Bool.rec (motive:=fun _=>Option R)
    (Bool.rec (motive:=fun _=>Option R) (yes (t.set (.bool false) d)) (no (t.set (.bool false) d)) want)
    (Bool.rec (motive:=fun _=>Option R) (no (t.set (.bool true) d)) (yes (t.set (.bool true) d)) want) b)
   (no t) none (xF ((t.get d).getD .ao))=some r:=h
  have pj:∀ v,(t.get d).getD .ao=v->v≠.ao->t.get d=some v:=by
   intro v e de;cases hg:t.get d with
   | none=>rw [hg] at e; exact absurd e.symm de
   | some u=>rw [hg] at e; simp at e; rw [e]
  cases hb:xF ((t.get d).getD .ao) with
  | no=>rw [hb] at h; exact absurd h (by simp)
  | nb=>
   rw [hb] at h;obtain ⟨l,hl⟩:=agd hb;exact .inr ⟨l,pj _ hl (by simp),h⟩
  | bool b=>
   rw [hb] at h;refine .inl ⟨b,t.set (.bool b) d,pj _ (FU hb) (by simp),Oa hb,?_⟩;cases b <;> cases want
   ·exact .inl ⟨rfl,h⟩
   ·exact .inr ⟨rfl,h⟩
   ·exact .inr ⟨rfl,h⟩
   ·exact .inl ⟨rfl,h⟩
theorem XZ {R:Type} {cfg:fE} {bR:px R} {all:List Oper} {k:bO->aw->Option R} {r:R} : ∀ {os:List Oper} {t:bO} {A:aw},(∀ o∈os,∀ f args,cm P cfg o.op≠.call f args)->vK P cfg bR all k os t A=some r->
  ∃ L t' A',Run P cfg all os t A L t' A'/\k t' A' = some r
 | [],t,A,_,h=>⟨[],t,A,.nil,h⟩
 | o::os,t,A,hn,h=>by
  have h:BS P cfg bR all o (vK P cfg bR all k os) t A=some r:=h;have NL:=fun q hq=>hn q (yY o hq);unfold BS at h;cases hg:o.guard with
  | none=>
   rw [hg] at h;obtain ⟨v,A1,h1,h2⟩:=J2 (hn o (by simp)) h;obtain ⟨L,t',A',h3,h4⟩:=XZ NL h2;exact ⟨_,t',A',.cons (fun _=>rfl) (.inl ⟨hg,rfl⟩) (fun _=>h1) (fun e=>by simp at e) h3,h4⟩
  | some p=>
   obtain ⟨j,want⟩:=p;rw [hg] at h;obtain ⟨d,hd,h⟩:=Oc h;rcases h with ⟨b,t1,h1,h2,h3⟩ | ⟨l,h1,h2⟩
   ·rcases h3 with ⟨h3,h4⟩ | ⟨h3,h4⟩
    ·obtain ⟨v,A1,h5,h6⟩:=J2 (hn o (by simp)) h4
     obtain ⟨L,t',A',h7,h8⟩:=XZ NL h6;exact ⟨_,t',A',.cons h2 (.inr ⟨j,want,d,hg,hd,.inl ⟨b,h1,h3.symm⟩⟩) (fun _=>h5) (fun e=>by simp at e) h7,h8⟩
    ·obtain ⟨L,t',A',h7,h8⟩:=XZ NL h4
     exact ⟨_,t',A',.cons h2 (.inr ⟨j,want,d,hg,hd,.inl ⟨b,h1,h3.symm⟩⟩) (fun e=>by simp at e) (fun _=>⟨rfl,rfl⟩) h7,h8⟩
   ·obtain ⟨L,t',A',h7,h8⟩:=XZ NL h2
    exact ⟨_,t',A',.cons (fun _=>rfl) (.inr ⟨j,want,d,hg,hd,.inr ⟨l,h1,rfl⟩⟩) (fun e=>by simp at e) (fun _=>⟨rfl,rfl⟩) h7,h8⟩
noncomputable def turns (P:Program) (cfg:fE) (o:Oper) (x:Out):Bool:=x.1&&Nat.ble 3 (dE (cm P cfg o.op))
noncomputable def kd (S:Nat->Bool):List Oper->List Out->Nat->bO->bO
 | o::os,x::L,i,t=>kd S os L (i+1) (cond (S i) (rY t o.dst x.2.1) t)
 | _,_,_,t=>t
noncomputable def pk (P:Program) (cfg:fE) (S:Nat->Bool):List Oper->List Out->Nat->aw->aw
 | o::os,x::L,i,A=>pk P cfg S os L (i+1) (cond (S i&&turns P cfg o x) x.2.2 A)
 | _,_,_,A=>A
theorem u7 (t:bO) (dst:Option Tmp) (v:KV) (x:Tmp):(rY t dst v).get x=if dst=some x then some v else t.get x:=by
 cases dst with
 | none=>rfl
 | some d=>
  simp only [rY,Trie.qV,di];by_cases h:x=d
  ·rw [aY h,aY h.symm]
  ·rw [av h,av (Ne.symm h)]
theorem Es (S:Nat->Bool):∀ (os:List Oper) (L:List Out) (k:Nat) (t:bO),kd S os L (k+1) t=kd (fun i=>S (i+1)) os L k t
 | [],L,k,t=>by cases L <;> rfl
 | o::os,[],k,t=>rfl
 | o::os,x::L,k,t=>by simp only [kd]; exact Es S os L (k+1) _
theorem VX {cfg:fE} (S:Nat->Bool):∀ (os:List Oper) (L:List Out) (k:Nat) (A:aw),pk P cfg S os L (k+1) A=pk P cfg (fun i=>S (i+1)) os L k A
 | [],L,k,t=>by cases L <;> rfl
 | o::os,[],k,t=>rfl
 | o::os,x::L,k,t=>by simp only [pk]; exact VX S os L (k+1) _
theorem nu {S S' : Nat->Bool} {y:Tmp} : ∀ {os:List Oper} {L:List Out} {k:Nat} {t t' : bO},t.get y=t'.get y->(∀ i o,os[i]? = some o->o.dst=some y->S (k+i)=S' (k+i))->(kd S os L k t).get y=(kd S' os L k t').get y
 | [],L,k,t,t',h,_=>by cases L <;> exact h
 | o::os,[],k,t,t',h,_=>h
 | o::os,x::L,k,t,t',h,hs=>by
  simp only [kd];refine nu ?_ fun i o' ho hd=>by have:=hs (i+1) o' (by simpa using ho) hd; rwa [show k+(i+1)=k+1+i by omega] at this
  by_cases hd:o.dst=some y
  ·have:=hs 0 o rfl hd
   rw [CH] at this;rw [this];cases S' k with
   | true=>simp only [ak,u7,aY hd]
   | false=>exact h
  ·have e:∀ (b:Bool) (u:bO),(cond b (rY u o.dst x.2.1) u).get y=u.get y:=by
    intro b u;cases b with
    | true=>rw [ak,u7,av hd]
    | false=>rfl
   rw [e,e]; exact h
theorem age {S:Nat->Bool} {y:Tmp} : ∀ {os:List Oper} {L:List Out} {k i:Nat} {t:bO} {o:Oper} {x:Out},os[i]? = some o->L[i]? = some x->o.dst=some y->(∀ j q,os[j]? = some q->q.dst=some y->i < j->S (k+j)=false)->
  (kd (cY S (k+i)) os L k t).get y=some x.2.1
 | [],L,k,i,t,o,x,ho,_,_,_=>by simp at ho
 | q::os,[],k,i,t,o,x,_,hx,_,_=>by simp at hx
 | q::os,u::L,k,0,t,o,x,ho,hx,hd,hs=>by
  simp at ho hx;subst ho hx;simp only [kd,CH];have hk:cY S k k=true:=by simp [cY]
  rw [hk,ak];have:=nu (S:=cY S k) (S':=fun _=>false) (y:=y) (os:=os) (L:=L) (k:=k+1) (t:=rY t q.dst u.2.1) (t':=rY t q.dst u.2.1) rfl (fun j q' hq hqd=>by
   have h1:=hs (j+1) q' (by simpa using hq) hqd (by omega);rw [show k+(j+1)=k+1+j by omega] at h1;simp only [cY,h1,Bool.false_or];cases hb:Nat.beq (k+1+j) k with
   | false=>rfl
   | true=>have:=bu hb; omega)
  rw [this];have Gv:∀ (os:List Oper) (L:List Out) (k:Nat) (t:bO),kd (fun _=>false) os L k t=t:=by
   intro os
   induction os with
   | nil=>intro L k t; cases L <;> rfl
   | cons o os ih=>intro L k t; cases L with
    | nil=>rfl
    | cons x L=>simp only [kd,ba]; exact ih L _ t
  rw [Gv,u7,aY hd]
 | q::os,u::L,k,i+1,t,o,x,ho,hx,hd,hs=>by
  simp only [kd];rw [show k+(i+1)=k+1+i by omega];exact age (by simpa using ho) (by simpa using hx) hd fun j q' hq hqd bG=>by
   have:=hs (j+1) q' (by simpa using hq) hqd (by omega);rwa [show k+(j+1)=k+1+j by omega] at this
theorem J3 {cfg:fE} {S S' : Nat->Bool} : ∀ {os:List Oper} {L:List Out} {k:Nat} {A:aw},(∀ i o x,os[i]? = some o->L[i]? = some x->turns P cfg o x=true->S (k+i)=S' (k+i))->pk P cfg S os L k A=pk P cfg S' os L k A
 | [],L,k,A,_=>by cases L <;> rfl
 | o::os,[],k,A,_=>rfl
 | o::os,x::L,k,A,h=>by
  simp only [pk];have h0:(S k&&turns P cfg o x)=(S' k&&turns P cfg o x):=by
   cases ht:turns P cfg o x with
   | false=>simp
   | true=>have:=h 0 o x rfl rfl ht; rw [CH] at this; rw [this]
  rw [h0];exact J3 fun i o' x' ho hx ht=>by have:=h (i+1) o' x' (by simpa using ho) (by simpa using hx) ht; rwa [show k+(i+1)=k+1+i by omega] at this
def Od (all:List Oper) (o:Oper) (t:bO) (wd:Bool):Prop:=(o.guard=none/\wd=true)\/∃ j want d,o.guard=some (j,want)/\(all[j]?).bind (·.dst)=some d/\((∃ b,t.get d=some (.bool b)/\wd=(b==want))\/(∃ l,t.get d=some (.nb l)/\wd=false))
theorem Et {cfg:fE} {o:Oper} {t:bO} {A A1:aw} {v:KV} (h:bf (xO (cm P cfg o.op) t A) (v,A1)) (hk:Nat.ble 3 (dE (cm P cfg o.op))=false):A1=A:=by
 generalize cm P cfg o.op=ins at h hk;cases ins with
 | pure f xs=>obtain ⟨u,_,h2⟩:=bf.map h; simp at h2; exact h2.2.symm
 | read f xs=>obtain ⟨u,_,h2⟩:=bf.map h; simp at h2; exact h2.2.symm
 | act f xs=>exact absurd hk (by simp [dE])
 | look f xs=>obtain ⟨u,_,h2⟩:=bf.map h; simp at h2; exact h2.2.symm
 | Ei g f xs=>obtain ⟨u,_,h2⟩:=bf.map h; simp at h2; exact h2.2.symm
 | Ir g f xs=>exact absurd hk (by simp [dE])
 | call f xs=>exact h.elim
 | bad=>exact h.elim
theorem Run.at {cfg:fE} {all:List Oper} : ∀ {os:List Oper} {t t' : bO} {A A' : aw} {L:List Out},Run P cfg all os t A L t' A'->
  L.length=os.length/\(∀ y,t'.get y=(kd (fun _=>true) os L 0 t).get y)/\A' = pk P cfg (fun _=>true) os L 0 A/\
  ∀ i o x,os[i]? = some o->L[i]? = some x->∃ t1,(∀ y,t1.get y=(kd (fun j=>Nat.blt j i) os L 0 t).get y)/\Od all o t1 x.1/\(x.1=true->bf (xO (cm P cfg o.op) t1 (pk P cfg (fun j=>Nat.blt j i) os L 0 A)) (x.2.1,x.2.2))/\(x.1=false->x.2.1=uE)
 | _,_,_,_,_,_,.nil=>⟨rfl,fun _=>rfl,rfl,fun i o x ho=>by simp at ho⟩
 | o::os,t,t',A,A',(wd,v,A1)::L,.cons (t1:=t1) same want yes no rest=>by
  obtain ⟨h1,h2,h3,h4⟩:=rest.at;have hA1:cond (turns P cfg o (wd,v,A1)) A1 A=A1:=by
   cases ht:turns P cfg o (wd,v,A1) with
   | true=>rfl
   | false=>
    rw [ba];cases wd with
    | false=>exact (no rfl).2.symm
    | true=>exact (Et (yes rfl) (by simpa [turns] using ht)).symm
  have X0:∀ y,(rY t1 o.dst v).get y=(rY t o.dst v).get y:=fun y=>by rw [u7,u7,same]
  refine ⟨by simp [h1],fun y=>?_,?_,fun i q x hq hx=>?_⟩
  ·rw [h2 y]
   simp only [kd,ak];rw [Es];exact nu (X0 y) fun _ _ _ _=>rfl
  ·rw [h3]
   simp only [pk,Bl];rw [VX,hA1]
  ·cases i with
   | zero=>
    simp at hq hx;subst hq hx;have e0:∀ (os:List Oper) (L:List Out) (k:Nat) (t:bO),kd (fun j=>Nat.blt j 0) os L k t=t:=by
     intro os
     induction os with
     | nil=>intro L k t; cases L <;> rfl
     | cons o os ih=>intro L k t; cases L with
      | nil=>rfl
      | cons x L=>simp only [kd]; exact ih L _ t
    have e1:∀ (os:List Oper) (L:List Out) (k:Nat) (A:aw),pk P cfg (fun j=>Nat.blt j 0) os L k A=A:=by
     intro os
     induction os with
     | nil=>intro L k t; cases L <;> rfl
     | cons o os ih=>intro L k t; cases L with
      | nil=>rfl
      | cons x L=>simp only [pk]; exact ih L _ t
    refine ⟨t1,fun y=>by rw [e0]; exact same y,?_,fun e=>by rw [e1]; exact yes e,fun e=>(no e).1⟩;rcases want with h | ⟨j,wt,d,e2,e3,e4⟩
    ·exact .inl h
    ·exact .inr ⟨j,wt,d,e2,e3,by rw [same]; exact e4⟩
   | succ i=>
    obtain ⟨t2,h5,h6,h7,h8⟩:=h4 i q x (by simpa using hq) (by simpa using hx);have hsh:(fun j=>Nat.blt (j+1) (i+1))=fun j=>Nat.blt j i:=by
     funext j;cases hb:Nat.blt j i with
     | true=>rw [cq] at hb ⊢; omega
     | false=>
      cases hc:Nat.blt (j+1) (i+1) with
      | false=>rfl
      | true=>rw [cq] at hc; rw [show Nat.blt j i=true from by rw [cq]; omega] at hb; simp at hb
    have h01:Nat.blt 0 (i+1)=true:=by rw [cq]; omega
    have gR:pk P cfg (fun j=>Nat.blt j (i+1)) (o::os) ((wd,v,A1)::L) 0 A=pk P cfg (fun j=>Nat.blt j i) os L 0 A1:=by
     simp only [pk,h01,Bl];rw [VX,hA1,hsh]
    refine ⟨t2,fun y=>?_,h6,fun e=>by rw [gR]; exact h7 e,h8⟩;rw [h5 y];simp only [kd,h01,ak];rw [Es,hsh];exact nu (X0 y) fun _ _ _ _=>rfl
end Go.K
end
