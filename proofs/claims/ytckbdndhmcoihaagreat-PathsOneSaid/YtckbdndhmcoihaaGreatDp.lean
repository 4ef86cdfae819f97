/- Part of the proof of PathsOne: the machine, shown to be the model's, and plain models. No conditions. -/
import Derived.Test.YtckbdndhmcoihaaGreatCp
set_option linter.unusedSimpArgs false
set_option linter.unusedVariables false
section
namespace Go.K
open Go Go.aq
variable {P:Program} {E:Env}
def mkE (agg:Bool) (m:List Value):Value:=cond agg (.agg ⟨m⟩) (m.headD .nilIface)
theorem ab8 {agg:Bool} {m:List Value} (hs:∀ v∈m,scalar v=true) (h:agg=true\/m.length=1):(mkE agg m).cells.toList=m:=by
 cases agg with
 | true=>rfl
 | false=>
  rcases h with h | h
  ·simp at h
  ·match m,h with
   | [v],_=>
    have:=hs v (by simp);show v.cells.toList = [v];cases v <;> first | rfl | simp [scalar] at this
theorem XT {l:Lay} {ks:List KV} (h:aA l.ks ks=true) (ha:l.agg=true\/l.ks.length=1):cl l (OA l.agg ks)=true:=by
 obtain ⟨agg,cs⟩:=l;cases agg with
 | true=>simpa [OA,cl] using h
 | false=>
  simp at ha
  match cs,ha,ks,h with
  | [c],_,[v],h=>
   have hk:kindOk c v=true:=by simpa [aA] using h
   show cl ⟨false,[c]⟩ v=true;cases v with
   | agg cs=>cases c <;> simp [kindOk] at hk
   | jV cs=>cases c <;> simp [kindOk] at hk
   | _=>simpa [cl] using h
  | [c],_,[],h=>simp [aA] at h
  | [c],_,_::_::_,h=>simp [aA] at h
theorem ab9 {E:Env} {ks:List KV} {m:List Value} {agg:Bool} (h:ba P E ks m) (ha:agg=true\/m.length=1):VK P E (OA agg ks) (mkE agg m):=by
 cases agg with
 | true=>exact .ow h
 | false=>
  rcases ha with ha | ha
  ·simp at ha
  ·match m,ha,ks,h with
   | [v],_,ks,h=>
    have hl:=h.length
    match ks,hl,h with
    | [k],_,h=>
     obtain ⟨y,ys,e,h1,_⟩:=h.cons_inv;simp at e;rw [e.1];exact h1
theorem MG {α:Type} : ∀ {n:Nat} {l vs r:List α},jW n l vs=some r->
  r.length=l.length/\(vs≠[]->n+vs.length<=l.length)/\∀ (i:Nat),r[i]? = if n<=i/\i < n+vs.length then vs[i - n]? else l[i]?
 | 0,l,[],r,h=>by simp [jW] at h; subst h; simp
 | 0,[],_::_,r,h=>by simp [jW] at h
 | 0,x::l,v::vs,r,h=>by
  simp only [jW,cC] at h;obtain ⟨q,hq,rfl⟩:=h;obtain ⟨h1,h2,h3⟩:=MG hq;refine ⟨by simp [h1],?_,fun i=>?_⟩
  ·intro _
   cases vs with
   | nil=>simp
   | cons u us=>have:=h2 (by simp); simp at this ⊢; omega
  ·cases i with
   | zero=>simp
   | succ i=>simp [h3 i]
 | n+1,[],[],r,h=>by simp [jW] at h; subst h; simp
 | n+1,[],_::_,r,h=>by simp [jW] at h
 | n+1,x::l,vs,r,h=>by
  simp only [jW,cC] at h;obtain ⟨q,hq,rfl⟩:=h;obtain ⟨h1,h2,h3⟩:=MG hq;refine ⟨by simp [h1],?_,fun i=>?_⟩
  ·intro cH
   have:=h2 cH;simp at this ⊢;omega
  ·cases i with
   | zero=>simp
   | succ i=>
    simp only [Q0,h3 i];by_cases hc:n<=i/\i < n+vs.length
    ·rw [aI hc,aI (by omega),show i+1 - (n+1)=i - n by omega]
    ·rw [ak hc,ak (by omega)]
theorem TB (v:KV):∀ (es:List KV) (i j:Nat),(setAt es i v).getD j .bA=if j=i/\i < es.length then v else es.getD j .bA
 | [],0,j=>by simp [setAt]
 | [],_+1,j=>by simp [setAt]
 | e::es,0,0=>by simp [setAt]
 | e::es,0,j+1=>by simp [setAt]
 | e::es,i+1,0=>by simp [setAt]
 | e::es,i+1,j+1=>by
  have:=TB v es i j;simp only [setAt,List.getD_cons_succ,yM];rw [this];by_cases h:j=i/\i < es.length
  ·rw [aI h,aI ⟨by omega,by omega⟩]
  ·rw [ak h,ak (by omega)]
theorem za:∀ (n:Nat) (l vs:List Value),n+vs.length<=l.length->∃ r,fV n l vs=some r
 | 0,l,[],_=>⟨l,rfl⟩
 | 0,[],_::_,h=>by simp at h
 | 0,x::l,v::vs,h=>by
  obtain ⟨r,hr⟩:=za 0 l vs (by simp at h ⊢; omega);exact ⟨v::r,by rw [tL,hr]; rfl⟩
 | n+1,[],[],_=>⟨[],rfl⟩
 | n+1,[],_::_,h=>by simp at h
 | n+1,x::l,vs,h=>by
  obtain ⟨r,hr⟩:=za n l vs (by simp at h ⊢; omega);exact ⟨x::r,by rw [pS,hr]; rfl⟩
theorem Zn:∀ {ks:List CK} {cs:List KV},cs.length=ks.length->(∀ (i:Nat) c v,ks[i]? = some c->cs[i]? = some v->kindOk c v=true)->aA ks cs=true
 | [],[],_,_=>rfl
 | [],_::_,h,_=>by simp at h
 | _::_,[],h,_=>by simp at h
 | c::ks,v::cs,h,k=>by
  simp only [aA,au];exact ⟨k 0 c v rfl rfl,Zn (by simpa using h) fun i d u e1 e2=>k (i+1) d u (by simpa using e1) (by simpa using e2)⟩
theorem aj7 {l:Lay} {e:KV} (h:cl l e=true):l.agg=true\/e.cells.length=1:=by
 by_cases ha:∃ cs,e = .agg cs
 ·obtain ⟨cs,rfl⟩:=ha
  simp only [cl,au] at h;exact .inl h.1
 ·have hc:e.cells = [e]:=by cases e <;> first | rfl | exact absurd ⟨_,rfl⟩ ha
  rw [hc];exact .inr rfl
theorem amI {T t:TypeId} {k:Nat} {e vn e2:KV} {u w:Value} (hw:aa0 P T t k) (y8:cl (aX P T) e=true) (hu:VK P E e u) (hvn:cl (aX P t) vn=true) (hvw:VK P E vn w) (h:putCells P T k e vn.cells=some e2) :
  ∃ u2,VK P E e2 u2/\cl (aX P T) e2=true/\u2.cells.size=bf P T/\e2.cells.length=e.cells.length/\(∀ m,u2.cells.toList[m]? = if k<=m/\m < k+w.cells.toList.length then w.cells.toList[m - k]? else u.cells.toList[m]?)/\(w.cells.toList≠[]->k+w.cells.toList.length<=bf P T):=by
 unfold putCells at h;obtain ⟨l1,l2,_⟩:=MD y8;rw [l1] at h;obtain ⟨kM,h1,rfl⟩:=cC.1 h;obtain ⟨yJ,hk2⟩:=fN y8;obtain ⟨Ry,Te⟩:=fN hvn;have hcu:=hu.cells hk2;have hcw:=hvw.cells Te;obtain ⟨r,h2,h3⟩:=ba.jW h1 hcu hcw;obtain ⟨s1,s2,s3⟩:=fX h2;obtain ⟨q1,q2,q3⟩:=MG h1;have Mn:e.cells.length=bf P T:=pr yJ;have xb:=aj7 y8;have hlr:r.length=e.cells.length:=by rw [s1,hcu.length]
 have pT:aA (aX P T).ks kM=true:=by
  refine Zn (by rw [q1]; exact Mn) fun i c v e1 e3=>?_;rw [q3 i] at e3;split at e3
  ·rename_i hc
   obtain ⟨x,Fz,hx2⟩:∃ d,(aX P t).ks[i - k]? = some d/\d=c:=by
    have bh:i - k < (aX P t).ks.length:=by rw [<- pr Ry]; omega
    refine ⟨_,cM bh,?_⟩;have:=hw.is (i - k) _ (cM bh);rw [show k+(i - k)=i by omega,e1] at this;simpa using this.symm
   subst hx2;obtain ⟨v',h4,h5⟩:=y7 Ry Fz;rw [e3] at h4;simp at h4; subst h4;exact h5
  ·obtain ⟨v',h4,h5⟩:=y7 yJ e1
   rw [e3] at h4;simp at h4; subst h4;exact h5
 have apW:cl (aX P T) (OA (aX P T).agg kM)=true:=XT pT (by
  rcases xb with h | h
  ·exact .inl h
  ·exact .inr (by rw [<- pr yJ]; exact h))
 have hsc:∀ v∈r,scalar v=true:=h3.scalar (Fy pT);have rE:(mkE (aX P T).agg r).cells.toList=r:=ab8 hsc (xb.imp id fun h=>by rw [hlr]; exact h);refine ⟨mkE (aX P T).agg r,ab9 h3 (xb.imp id fun h=>by rw [hlr]; exact h),apW,?_,?_,fun m=>?_,fun cH=>?_⟩
 ·rw [<- Array.length_toList,rE,hlr]; exact Mn
 ·exact (pr (fN apW).1).trans Mn.symm
 ·rw [rE]; exact s3 m
 ·have:=s2 cH
  rw [hcu.length] at this;omega
theorem amJ {sz i k:Nat} {cs:List Value} {bo:List Value} {u u2:Value} {wl:List Value} (hl:nG sz 0 cs bo) (hi:bo[i]? = some u) (hsu:u.cells.size=sz) (mK:wl≠[]->k+wl.length<=sz) (hg:∀ m,u2.cells.toList[m]? = if k<=m/\m < k+wl.length then wl[m - k]? else u.cells.toList[m]?) (iV:u2.cells.size=sz) :
  ∃ kM,fV (i * sz+k) cs wl=some kM/\nG sz 0 kM (bo.set i u2)/\kM.length=cs.length:=by
 have hex:∃ kM,fV (i * sz+k) cs wl=some kM:=by
  cases hwl:wl with
  | nil=>exact ⟨cs,OS _ _⟩
  | cons a l=>
   have hf:=mK (by rw [hwl]; simp);rw [hwl] at hf;obtain ⟨_,hc⟩:=hl i u hi;have bh:k+l.length < u.cells.size:=by rw [hsu]; simp at hf; omega
   have:=hc (k+l.length) u.cells[k+l.length] (by simp [bh]);have hb:=(cP.1 this).1;exact za _ _ _ (by simp; omega)
 obtain ⟨kM,h1⟩:=hex;obtain ⟨s1,s2,s3⟩:=fX h1;refine ⟨kM,h1,fun j x hx=>?_,s1⟩;rw [List.getElem?_set] at hx;split at hx
 ·rename_i e
  subst e;split at hx
  ·simp at hx; subst hx
   refine ⟨iV,fun m y hy=>?_⟩;have hy' : u2.cells.toList[m]? = some y:=by simpa using hy
   have hm:m < sz:=by rw [<- iV]; exact (rA.1 hy).1
   rw [hg m] at hy';rw [bp,s3];split at hy'
   ·rw [aI (by omega),show i * sz+m - (i * sz+k)=m - k by omega]; exact hy'
   ·rw [ak (by omega)]
    have:=(hl i u hi).2 m y (by simpa using hy');rwa [bp] at this
  ·simp at hx
 ·rename_i cH
  obtain ⟨h2,h3⟩:=hl j x hx;refine ⟨h2,fun m y hy=>?_⟩;have hm:m < sz:=by rw [<- h2]; exact (rA.1 hy).1
  rw [s3,ak]
  ·exact h3 m y hy
  ·rintro ⟨ha,hb⟩
   cases hwl:wl with
   | nil=>rw [hwl] at hb; simp at hb; omega
   | cons a l=>
    have hf:=mK (by rw [hwl]; simp);rcases Nat.lt_or_gt_of_ne cH with h | h
    ·have:(i+1) * sz<=j * sz:=Nat.mul_le_mul_right _ h
     rw [Nat.succ_mul] at this;omega
    ·have:(j+1) * sz<=i * sz:=Nat.mul_le_mul_right _ h
     rw [Nat.succ_mul] at this;omega
theorem aj8 {T:TypeId} {N i:Nat} {es:List KV} {acc:Nat->KV} {e:KV} (ht:gL P T N es acc) (hi:i < N) (he:cl (aX P T) e=true):gL P T N (setAt es i e) (Ms acc i e) where
 len:=by rw [Cy]; exact ht.len
 acc j hj:=by
  rw [TB];unfold Ms;cases hb:Nat.beq j i with
  | true=>have:=aW hb; rw [aI ⟨this,by rw [<- ht.len]; exact hi⟩]; rfl
  | false=>rw [ak (fun h=>by rw [h.1,tf] at hb; simp at hb)]; exact ht.acc j hj
 typed:=oe fun j x hx=>by
  have hx' : x=(setAt es i e).getD j .bA:=by rw [eX,hx]; rfl
  rw [TB] at hx';split at hx'
  ·rw [hx']; exact he
  ·rename_i cH
   have bh:j < es.length:=by rw [<- Cy es i e]; exact (cP.1 hx).1
   exact gM ht.typed (i:=j) (by rw [hx',eX,cM bh]; rfl)
theorem FB {B:St} {x y lo hi:Nat} {bQ:Option (Nat×Nat)} : (B.eR x bQ lo hi).get y=B.get y\/∃ g k,bQ=some (g,k)/\y∈B.members g/\y≠x/\(B.eR x bQ lo hi).get y=some .dead/\∃ cs e own f j,B.get y=some (.row cs e own (some (f,j))):=by
 cases bQ with
 | none=>exact .inl rfl
 | some p=>
  obtain ⟨g,k⟩:=p;simp only [St.eR,A8];by_cases hc:y∈B.members g/\y≠x/\ov (B.get y) (k+lo) (k+hi)=true
  ·refine .inr ⟨g,k,rfl,hc.1,hc.2.1,by rw [aI hc],?_⟩
   have hs:=hc.2.2;unfold ov at hs;split at hs
   ·rename_i cs e own f j hy; exact ⟨cs,e,own,f,j,hy⟩
   ·simp at hs
  ·exact .inl (by rw [ak hc])
theorem KO {B:St} {x lo hi:Nat} {bQ:Option (Nat×Nat)} : (B.eR x bQ lo hi).members=B.members:=by
 cases bQ with
 | none=>rfl
 | some p=>simp [St.eR]
theorem Se {B:St} {x lo hi:Nat} {bQ:Option (Nat×Nat)} : (B.eR x bQ lo hi).next=B.next:=by
 cases bQ with
 | none=>rfl
 | some p=>simp [St.eR]
theorem df.alI {A:ao} {B:St} {b x N lo hi:Nat} {T:TypeId} {es:List KV} {acc:Nat->KV} {bo cs kL:List Value} {bQ:Option (Nat×Nat)} (h:dU P E A B) (hb:∃ v,A.get b=some (.arr v)) (hx:E.α b=some (x,kL.length,N))
  (eS:B.get x=some (.row kL (bf P T) true bQ)) (hlen:cs.length=kL.length) (dK:1<=bf P T) (ht:gL P T N es acc) (TC:ba P E es bo) (hl:nG (bf P T) 0 cs bo) :
  df P E A B E (A.put b (.arr (.ts T .any N es acc))) ((B.put x (.row cs (bf P T) true bQ)).eR x bQ lo hi):=by
 obtain ⟨v0,hb⟩:=hb;have pU:AR A E x:=⟨b,v0,_,_,hb,hx⟩
 have iQ:((B.put x (.row cs (bf P T) true bQ)).eR x bQ lo hi).get x=some (.row cs (bf P T) true bQ):=by
  rcases FB (B:=B.put x (.row cs (bf P T) true bQ)) (x:=x) (y:=x) (lo:=lo) (hi:=hi) (bQ:=bQ) with e | ⟨g,k,_,_,h3,_⟩
  ·rw [e]; simp
  ·exact absurd rfl h3
 have hgy:∀ y,y≠x->((B.put x (.row cs (bf P T) true bQ)).eR x bQ lo hi).get y=B.get y\/(((B.put x (.row cs (bf P T) true bQ)).eR x bQ lo hi).get y=some .dead/\∃ g k,bQ=some (g,k)/\y∈B.members g):=by
  intro y hy;rcases FB (B:=B.put x (.row cs (bf P T) true bQ)) (x:=x) (y:=y) (lo:=lo) (hi:=hi) (bQ:=bQ) with e | ⟨g,k,h1,h2,_,h4,_⟩
  ·exact .inl (by rw [e,St.b5,ak hy])
  ·exact .inr ⟨h4,g,k,h1,by simpa using h2⟩
 have lx:((B.put x (.row cs (bf P T) true bQ)).eR x bQ lo hi).members=B.members:=by rw [KO]; simp
 have gE:((B.put x (.row cs (bf P T) true bQ)).eR x bQ lo hi).next=B.next:=by rw [Se]; simp
 generalize (B.put x (.row cs (bf P T) true bQ)).eR x bQ lo hi=B' at iQ hgy lx gE;have Pj:∀ y,y≠x->(E.z y≠none\/AR A E y\/∃ c,E.κ c=some y)->B'.get y=B.get y:=by
  intro y hy hs;rcases hgy y hy with e | ⟨_,g,k,rfl,h2⟩
  ·exact e
  ·obtain ⟨_,_,h3⟩:=h.ar.rq b v0 x _ _ _ _ _ g k hb hx eS
   obtain ⟨h4,h5,h6⟩:=h3 y h2 hy;rcases hs with hs | hs | ⟨c,hs⟩
   ·exact absurd h4 hs
   ·exact absurd hs h5
   ·exact absurd hs (h6 c)
 have hA:∀ (c:Nat) (v:KV),(A.put b (.arr (.ts T .any N es acc))).get c=some (.arr v)->∃ u,A.get c=some (.arr u):=fun c v hc=>by
  rw [ao.b5] at hc;split at hc
  ·rename_i e; exact ⟨v0,by rw [e]; exact hb⟩
  ·exact ⟨v,hc⟩
 have Pk:∀ y,AR (A.put b (.arr (.ts T .any N es acc))) E y->AR A E y:=fun y q=>by
  obtain ⟨c,v,L,M,h1,h2⟩:=q;obtain ⟨u,h1⟩:=hA c v h1;exact ⟨c,u,L,M,h1,h2⟩
 have aca:∀ y,AR A E y->∀ nQ e own Vs,B'.get y=some (.row nQ e own Vs)->∃ kM,B.get y=some (.row kM e own Vs)/\kM.length=nQ.length:=fun y q nQ e own Vs hy=>by
  by_cases C4:y=x
  ·subst C4
   rw [iQ] at hy;simp at hy;obtain ⟨rfl,rfl,rfl,rfl⟩:=hy;exact ⟨kL,eS,hlen.symm⟩
  ·rw [Pj y C4 (.inr (.inl q))] at hy
   exact ⟨nQ,hy,rfl⟩
 have ahN:∀ g,AF (A.put b (.arr (.ts T .any N es acc))) E B' g->AF A E B g:=fun g q=>by
  obtain ⟨c,v,y,L,M,nQ,e,own,k,h1,h2,h3⟩:=q;obtain ⟨u,h1⟩:=hA c v h1;obtain ⟨kM,h3,_⟩:=aca y ⟨c,u,L,M,h1,h2⟩ _ _ _ _ h3;exact ⟨c,u,y,L,M,kM,e,own,k,h1,h2,h3⟩
 refine ⟨⟨?_,?_,?_,h.apart,h.inj,h.ib.put (.inl fun _ _=>by simp),h.jx,h.kQ,?_,fun b x e=>by rw [gE]; exact h.fk b x e,fun b r e=>by rw [gE]; exact h.kR b r e,fun b g e=>by rw [gE]; exact h.iR b g e,fun g hg=>by rw [gE] at hg; rw [lx]; exact h.fresh g hg,fun g y hy=>by rw [lx] at hy; rw [gE]; exact h.mem g y hy,?_⟩,Env.le_refl _,aH _,?_,fun _ _ e=>.inl e,fun _ _ e=>.inl e,fun _ _ e=>.inl e,fun _ _ _ _=>by rw [lx],fun y q=>.inl (Pk y q),fun g q=>.inl (ahN g q),fun g y q=>.inl (by rw [lx] at q; exact q),fun y q=>.inl ?_,?_⟩
 ·intro c nQ bH hc
  rw [ao.b5] at hc;split at hc
  ·simp at hc
  ·obtain ⟨y,c1,h1,h2,h3⟩:=h.row c nQ bH hc
   have hy:y≠x:=fun e=>(h.ar.z x pU).2 c (by rw [<- e]; exact h1);exact ⟨y,c1,h1,by rw [Pj y hy (.inr (.inr ⟨c,h1⟩))]; exact h2,h3⟩
 ·intro c top DM hc
  rw [ao.b5] at hc;split at hc
  ·simp at hc
  ·rcases h.aQ c top DM hc with h1 | ⟨g,h1,h2,h3⟩
   ·exact .inl h1
   ·refine .inr ⟨g,h1,h2,fun y hy nQ e own f k hr=>?_⟩
    rw [lx] at hy;by_cases C4:y=x
    ·subst C4
     rw [iQ] at hr;simp at hr;obtain ⟨rfl,_,_,rfl⟩:=hr;obtain ⟨h4,h5⟩:=h3 y hy kL _ _ f k eS;exact ⟨h4,by rw [hlen]; exact h5⟩
    ·rcases hgy y C4 with e1 | ⟨e1,_⟩
     ·rw [e1] at hr; exact h3 y hy nQ e own f k hr
     ·rw [e1] at hr; simp at hr
 ·intro y r hy
  have C4:y≠x:=fun e=>by have:=(h.ar.z x pU).1; rw [<- e,hy] at this; simp at this
  rw [Pj y C4 (.inl (by rw [hy]; simp))];exact h.z y r hy
 ·intro c o hc
  rw [ao.b5] at hc;split at hc
  ·rename_i e; rw [e]; exact h.live b _ hb
  ·exact h.live c o hc
 ·refine ⟨?_,?_,fun y q=>h.ar.z y (Pk y q),?_,?_,h.ar.dis,h.ar.jx,fun b x L N e=>by rw [gE]; exact h.ar.fk b x L N e,?_,fun c v hc=>?_⟩
  ·intro c v hc
   rw [ao.b5] at hc;split at hc
   ·rename_i e
    simp at hc;subst hc e;exact ⟨T,N,es,acc,rfl,ht,dK,.inr ⟨x,cs,bQ,bo,by rw [hlen]; exact hx,iQ,TC,hl⟩⟩
   ·rename_i cH
    refine (h.ar.arr c v hc).mono (Env.le_refl _) rfl fun y L M e=>?_;have C4:y≠x:=fun e2=>cH (h.ar.inj c b v v0 x _ _ _ _ hc hb (by rw [<- e2]; exact e) hx);exact Pj y C4 (.inr (.inl ⟨c,v,L,M,hc,e⟩))
  ·intro c v hc
   rw [ao.b5] at hc;split at hc
   ·simp at hc
   ·exact h.ar.il c v hc
  ·intro c d v u y L M L' M' h1 h2 h3 h4
   obtain ⟨v',h1⟩:=hA c v h1;obtain ⟨u',h2⟩:=hA d u h2;exact h.ar.inj c d v' u' y L M L' M' h1 h2 h3 h4
  ·intro c d v u y w L M L' M' nQ e own g k kM e' od k' h1 h2 h3 h4 h5 h6
   obtain ⟨v',h1⟩:=hA c v h1;obtain ⟨u',h2⟩:=hA d u h2;obtain ⟨_,h5,_⟩:=aca y ⟨c,v',L,M,h1,h3⟩ _ _ _ _ h5;obtain ⟨_,h6,_⟩:=aca w ⟨d,u',L',M',h2,h4⟩ _ _ _ _ h6;exact h.ar.tg c d v' u' y w L M L' M' _ e own g k _ e' od k' h1 h2 h3 h4 h5 h6
  ·intro c v y L M nQ e own g k h1 h2 h3
   obtain ⟨v',h1⟩:=hA c v h1;obtain ⟨_,h3,_⟩:=aca y ⟨c,v',L,M,h1,h2⟩ _ _ _ _ h3;obtain ⟨h4,h5,h6⟩:=h.ar.rq c v' y L M _ e own g k h1 h2 h3;refine ⟨by rw [gE]; exact h4,h5,fun z hz cH=>?_⟩;rw [lx] at hz;obtain ⟨h7,h8,h9⟩:=h6 z hz cH;exact ⟨h7,fun q=>h8 (Pk z q),h9⟩
  ·rw [ao.b5] at hc
   rw [ao.qv];split at hc
   ·rename_i e; rw [e]; exact h.ar.nk b _ hb
   ·exact h.ar.nk c v hc
 ·intro y hy hn ha
  by_cases C4:y=x
  ·subst C4; exact absurd (.inl pU) ha
  ·rcases hgy y C4 with e | ⟨_,g,k,rfl,h2⟩
   ·exact e
   ·exact absurd (.inr ⟨g,⟨b,v0,x,_,_,kL,_,_,k,hb,hx,eS⟩,h2⟩) ha
 ·rcases q with q | ⟨g,h1,h2⟩
  ·exact .inl (Pk y q)
  ·exact .inr ⟨g,ahN g h1,by rw [lx] at h2; exact h2⟩
 ·intro y hy nQ e own Vs hr
  by_cases C4:y=x
  ·exact aca y (by rw [C4]; exact pU) nQ e own Vs hr
  ·rcases hgy y C4 with e1 | ⟨e1,_⟩
   ·exact ⟨nQ,by rw [<- e1]; exact hr,rfl⟩
   ·rw [e1] at hr; simp at hr
theorem amK {t:TypeId} : alG P (Ve P t) (HZ P t):=by
 intro E A A' B vs us v h hv hg;unfold Ve at hg;split at hg
 ·rename_i b off x
  obtain ⟨y,z,rfl,h1,h2⟩:=hv.ju;obtain ⟨c,hx,rfl⟩:=h1.gG;obtain ⟨hc,hg⟩:=hg.cond;simp only [au,lR] at hc;obtain ⟨dK,ho⟩:=hc;split at hg
  ·rename_i cs bH eS
   split at hg
   ·rename_i bV hw
    have hg:(qf,A.put b (.row bV bH))=(v,A'):=hg;simp only [dJ] at hg;obtain ⟨rfl,rfl⟩:=hg;obtain ⟨c',d,e1,e2,e3⟩:=h.row b cs bH eS;rw [hx] at e1;simp at e1;subst e1;have Jp:=h2.cells (vX ho);obtain ⟨r,e4,e5⟩:=ba.jW hw e3 Jp;have kh:z.cells.toList.all scalar=true:=eM.2 (Jp.scalar ho);have anT:some z.cells.size=size? P t:=by rw [<- dK,O8 h2 (vX ho)]
    refine ⟨undef,B.put c (.row r bH true none),E,?_,.undef,df.putRow h ⟨_,_,eS⟩ hx ⟨d,e2,(fX e4).1.symm⟩ e5⟩;simp [HZ,storeAt,anT,St.wF,cO,kh,e2,e4,St.eR]
   ·exact hg.elim
  ·exact hg.elim
 ·rename_i T Tc b i k x
  obtain ⟨y,z,rfl,h1,h2⟩:=hv.ju;split at hg
  ·rename_i T' mk N es acc hA
   obtain ⟨hc,RA⟩:=hg.cond;clear hg;simp only [au,lR] at hc;obtain ⟨⟨⟨hT,hTc⟩,y8⟩,dK⟩:=hc;have:=aW hT;subst this;have:=aW hTc;subst this;split at RA
   ·rename_i e2 he2
    have hg:(qf,A.put b (.arr (alr T N i es acc e2)))=(v,A'):=RA;simp only [dJ] at hg;obtain ⟨rfl,rfl⟩:=hg;obtain ⟨c,L,N',h3,hw,hi,rfl⟩:=h1.Ig;obtain ⟨T2,N2,mV,iC,Gn,ht,h1s,vB⟩:=h.ar.arr b _ hA;simp only [KV.ts.injEq] at Gn;obtain ⟨rfl,rfl,rfl,rfl,rfl⟩:=Gn;rcases vB with ⟨_,h4⟩ | ⟨c',cs,bQ,bo,h4,h5,h6,h7⟩
    ·rw [h3] at h4; simp at h4
    rw [h3] at h4;simp only [cJ,dJ] at h4;obtain ⟨rfl,rfl,rfl⟩:=h4;have bh:i < es.length:=by rw [<- ht.len]; exact hi
    have hei:es[i]? = some (acc i):=by rw [ht.acc i hi]; simp [List.getD,bh]
    obtain ⟨u,h8,h9⟩:=h6.get hei;obtain ⟨hsu,nL⟩:=h7 i u h8;rw [bp] at nL;have hvn:=h2.dy (l:=aX P Tc);obtain ⟨u2,p1,p2,p3,p4,p5,p6⟩:=amI (T:=T) (t:=Tc) hw (gM ht.typed hei) h9 y8 hvn he2;obtain ⟨kM,w1,w2,w3⟩:=amJ h7 h8 hsu p6 p5 p3;have eK:=df.alI (lo:=i * bf P T+k) (hi:=i * bf P T+k+z.cells.toList.length) h ⟨_,hA⟩ h3 h5 (fX w1).1 h1s (aj8 ht hi p2) (bo:=bo.set i u2) (Tz p1 i h6) w2;obtain ⟨yJ,hk2⟩:=fN y8;have kh:z.cells.toList.all scalar=true:=eM.2 ((hvn.cells hk2).scalar (Fy yJ));have hzs:some z.cells.size=size? P Tc:=by
     rw [dK,<- pr yJ];exact congrArg some (O8 hvn hk2)
    refine ⟨undef,_,E,?_,.undef,eK⟩;simp [HZ,storeAt,hzs,St.wF,cO,kh,h5,w1]
   ·exact RA.elim
  ·exact hg.elim
 ·exact hg.elim
end Go.K
end
section
namespace Go.K
open Go Go.aq
variable {P:Program} {E:Env}
def Env.C5 (E:Env) (b:Nat) (p:Nat×Nat×Nat):Env:={ E with α:=fun c=>if c=b then some p else E.α c }
theorem Env.anU {A:ao} {B:St} {p:Nat×Nat×Nat} (h:dU P E A B):E.le (E.C5 A.next p):=⟨fun b q e=>by
 have:=h.ar.jx b q e;simp only [Env.C5]; rw [ak (by omega)]; exact e,fun _ _ e=>e,fun _ _ e=>e,fun _ _ e=>e⟩
theorem Env.ye {b:Nat} {p:Nat×Nat×Nat} : (E.C5 b p).α b=some p:=by simp [Env.C5]
theorem Env.KQ {b c:Nat} {p:Nat×Nat×Nat} (h:c≠b):(E.C5 b p).α c=E.α c:=by simp [Env.C5,h]
theorem df.Rf {A A1:ao} {B B' : St} {X G:Nat->Prop} {y2 N2:Nat} {T:TypeId} {mV:List KV} {iC:Nat->KV} {C2 kM:List Value} {p8:Option (Nat×Nat)} (h:dU P E A B)
  (rL:A1.next=A.next) (MH:∀ c o,A1.get c=some o->A.get c=some o\/(o = .dead/\c < A.next))
  (f1:∀ c v,A1.get c=some (.arr v)->∀ y L N,E.α c=some (y,L,N)->¬ X y/\∀ cs e own g k,B.get y=some (.row cs e own (some (g,k)))->¬ G g)
  (f2:∀ y,X y->AR A E y) (f3:∀ g,G g->AF A E B g/\g < B.next/\(∀ f,E.φ f≠some g)/\∀ y∈B.members g,¬ X y->E.z y=none/\¬ AR A E y/\∀ c,E.κ c≠some y)
  (n1:X y2\/B.next<=y2) (n1' : y2 < B'.next) (ahO:B'.get y2=some (.row kM (bf P T) true p8)) (n2:∀ g k,p8=some (g,k)->G g\/(B.next<=g/\g < B'.next))
  (b1:∀ y,y < B.next->¬ X y->B'.get y=B.get y\/(B'.get y=some .dead/\∃ g,G g/\y∈B.members g))
  (b2:∀ y,X y->∀ cs e own bQ,B'.get y=some (.row cs e own bQ)->∃ c,B.get y=some (.row c e own bQ)/\c.length=cs.length)
  (b3:∀ q y,y∈B'.members q->y∈B.members q\/(y=y2/\B.next<=y2/\∃ k,p8=some (q,k))) (b3' : ∀ q,(∀ k,p8≠some (q,k))->B'.members q=B.members q)
  (b4:B.next<=B'.next) (b4' : ∀ g,B'.next<=g->B'.members g = []) (ark:∀ g y,y∈B'.members g->y < B'.next)
  (dK:1<=bf P T) (ht:gL P T N2 mV iC) (TC:ba P E mV C2) (hl:nG (bf P T) 0 kM C2) :
  df P E A B (E.C5 A.next (y2,kM.length,N2)) (A1.new (.arr (.ts T .any N2 mV iC))) B':=by
 have hle:=Env.anU (p:=(y2,kM.length,N2)) h;have anV:E.α A.next=none:=by
  cases hq:E.α A.next with
  | none=>rfl
  | some p=>have:=h.ar.jx _ p hq; omega
 have hXlt:∀ y,X y->y < B.next:=fun y hy=>h.Ih (f2 y hy);have Pj:∀ y,y < B.next->¬ X y->(E.z y≠none\/AR A E y\/∃ c,E.κ c=some y)->B'.get y=B.get y:=by
  intro y bh hy hs;rcases b1 y bh hy with e | ⟨_,g,hg,h2⟩
  ·exact e
  ·obtain ⟨_,_,_,h3⟩:=f3 g hg
   obtain ⟨h4,h5,h6⟩:=h3 y h2 hy;rcases hs with hs | hs | ⟨c,hs⟩
   ·exact absurd h4 hs
   ·exact absurd hs h5
   ·exact absurd hs (h6 c)
 have hXz:∀ y,X y->E.z y=none/\∀ c,E.κ c≠some y:=fun y hy=>h.ar.z y (f2 y hy);have iZ:∀ c o,(A1.new (.arr (.ts T .any N2 mV iC))).get c=some o->(c=A.next/\o = .arr (.ts T .any N2 mV iC))\/(c≠A.next/\A1.get c=some o):=fun c o hc=>by
  rw [ao.cS,rL] at hc;split at hc
  ·rename_i e; simp at hc; exact .inl ⟨e,hc.symm⟩
  ·rename_i e; exact .inr ⟨e,hc⟩
 have hold:∀ c o,A1.get c=some o->o≠.dead->A.get c=some o:=fun c o hc hd=>by
  rcases MH c o hc with e | ⟨e,_⟩
  ·exact e
  ·exact absurd e hd
 have tX:∀ c v,(A1.new (.arr (.ts T .any N2 mV iC))).get c=some (.arr v)->(c=A.next/\v = .ts T .any N2 mV iC/\(E.C5 A.next (y2,kM.length,N2)).α c=some (y2,kM.length,N2))\/(c≠A.next/\A1.get c=some (.arr v)/\A.get c=some (.arr v)/\(E.C5 A.next (y2,kM.length,N2)).α c=E.α c):=fun c v hc=>by
  rcases iZ c _ hc with ⟨e,e2⟩ | ⟨e,e2⟩
  ·simp at e2
   exact .inl ⟨e,e2,by rw [e]; exact Env.ye⟩
  ·exact .inr ⟨e,e2,hold c _ e2 (by simp),Env.KQ e⟩
 have FC:∀ c v y L N,A1.get c=some (.arr v)->E.α c=some (y,L,N)->AR A E y/\¬ X y/\y < B.next/\B'.get y=B.get y:=fun c v y L N h1 h2=>by
  have h3:AR A E y:=⟨c,v,L,N,hold c _ h1 (by simp),h2⟩
  obtain ⟨h4,_⟩:=f1 c v h1 y L N h2;have h5:=h.Ih h3;exact ⟨h3,h4,h5,Pj y h5 h4 (.inr (.inl h3))⟩
 have Pk:∀ y,AR (A1.new (.arr (.ts T .any N2 mV iC))) (E.C5 A.next (y2,kM.length,N2)) y->y=y2\/(AR A E y/\¬ X y):=fun y q=>by
  obtain ⟨c,v,L,M,h1,h2⟩:=q;rcases tX c v h1 with ⟨_,_,e⟩ | ⟨_,e1,e2,e⟩
  ·rw [e] at h2; simp at h2; exact .inl h2.1.symm
  ·rw [e] at h2
   obtain ⟨h3,h4,_⟩:=FC c v y L M e1 h2;exact .inr ⟨h3,h4⟩
 have anW:∀ y,y=y2->AR A E y\/B.next<=y:=fun y e=>by
  subst e;exact n1.imp (f2 y) id
 have ahN:∀ g,AF (A1.new (.arr (.ts T .any N2 mV iC))) (E.C5 A.next (y2,kM.length,N2)) B' g->(∃ k,p8=some (g,k))\/(AF A E B g/\¬ G g/\g < B.next):=fun g q=>by
  obtain ⟨c,v,y,L,M,nQ,e,own,k,h1,h2,h3⟩:=q;rcases tX c v h1 with ⟨_,_,e⟩ | ⟨_,e1,e2,e⟩
  ·rw [e] at h2
   simp at h2;rw [<- h2.1,ahO] at h3;simp at h3;exact .inl ⟨k,h3.2.2.2⟩
  ·rw [e] at h2
   obtain ⟨_,_,_,h4⟩:=FC c v y L M e1 h2;rw [h4] at h3;refine .inr ⟨⟨c,v,y,L,M,nQ,_,own,k,e2,h2,h3⟩,(f1 c v e1 y L M h2).2 _ _ _ _ _ h3,(h.ar.rq c v y L M _ _ _ g k e2 h2 h3).1⟩
 have apX:∀ g,(∃ k,p8=some (g,k))->AF A E B g\/B.next<=g:=fun g ⟨k,e⟩=>by
  rcases n2 g k e with hg | ⟨hg,_⟩
  ·exact .inl (f3 g hg).1
  ·exact .inr hg
 refine ⟨⟨?_,?_,?_,h.apart,h.inj,?_,fun b x e=>by rw [ao.b7,rL]; have:=h.jx b x e; omega,fun b g e=>by rw [ao.b7,rL]; have:=h.kQ b g e; omega,?_,fun b x e=>by have:=h.fk b x e; omega,fun b r e=>by have:=h.kR b r e; omega,fun b g e=>by have:=h.iR b g e; omega,b4',ark,?_⟩,hle,by rw [ao.b7,rL]; omega,?_,fun _ _ e=>.inl e,fun _ _ e=>.inl e,fun _ _ e=>.inl e,?_,fun y q=>?_,fun g q=>?_,fun g y q=>?_,fun y q=>?_,?_⟩
 ·intro c nQ bH hc
  rcases iZ c _ hc with ⟨_,e⟩ | ⟨_,e⟩
  ·simp at e
  ·obtain ⟨y,c1,h1,h2,h3⟩:=h.row c nQ bH (hold c _ e (by simp))
   have hy : ¬ X y:=fun e=>(hXz y e).2 c h1;exact ⟨y,c1,h1,by rw [Pj y (h.fk c y h1) hy (.inr (.inr ⟨c,h1⟩))]; exact h2,h3.mono hle⟩
 ·intro c top DM hc
  rcases iZ c _ hc with ⟨_,e⟩ | ⟨_,e⟩
  ·simp at e
  ·rcases h.aQ c top DM (hold c _ e (by simp)) with h1 | ⟨g,h1,h2,h3⟩
   ·exact .inl h1
   ·refine .inr ⟨g,h1,h2,fun y hy nQ e own f k hr=>?_⟩
    have hgG:∀ k,p8≠some (g,k):=fun k e=>by
     rcases n2 g k e with hg | ⟨hg,_⟩
     ·exact (f3 g hg).2.2.1 c h1
     ·have:=h.iR c g h1; omega
    rw [b3' g hgG] at hy;have bh:=h.mem g y hy;by_cases C4:X y
    ·obtain ⟨c0,h4,h5⟩:=b2 y C4 _ _ _ _ hr
     obtain ⟨h6,h7⟩:=h3 y hy c0 _ _ f k h4;exact ⟨h6,by rw [<- h5]; exact h7⟩
    ·rcases b1 y bh C4 with e1 | ⟨e1,_⟩
     ·rw [e1] at hr; exact h3 y hy nQ _ own f k hr
     ·rw [e1] at hr; simp at hr
 ·intro y r hy
  have hy:E.z y=some r:=hy;have C4 : ¬ X y:=fun e=>by have:=(hXz y e).1; rw [hy] at this; simp at this
  rw [Pj y (h.kR y r hy) C4 (.inl (by rw [hy]; simp))];exact h.z y r hy
 ·intro b c g tb sb tc sc hb hc e1 e2
  rcases iZ b _ hb with ⟨_,e⟩ | ⟨_,hb⟩
  ·simp at e
  rcases iZ c _ hc with ⟨_,e⟩ | ⟨_,hc⟩
  ·simp at e
  exact h.ib b c g _ _ _ _ (hold b _ hb (by simp)) (hold c _ hc (by simp)) e1 e2
 ·intro c o hc
  rw [ao.b7,rL];rcases iZ c _ hc with ⟨e,_⟩ | ⟨_,e⟩
  ·omega
  ·rcases MH c o e with e | ⟨_,e⟩
   ·have:=h.live c o e; omega
   ·omega
 ·refine ⟨?_,?_,?_,?_,?_,?_,?_,?_,?_,?_⟩
  ·intro c v hc
   rcases tX c v hc with ⟨_,rfl,e⟩ | ⟨_,e1,e2,e⟩
   ·exact ⟨T,N2,mV,iC,rfl,ht,dK,.inr ⟨y2,kM,p8,C2,e,ahO,TC.mono hle,hl⟩⟩
   ·exact (h.ar.arr c v e2).mono hle e fun y L M hy=>(FC c v y L M e1 hy).2.2.2
  ·intro c v hc
   rcases iZ c _ hc with ⟨_,e⟩ | ⟨cH,e⟩
   ·simp at e
   ·exact (h.ar.il c v (hold c _ e (by simp))).mono hle (Env.KQ cH)
  ·intro y q
   rcases Pk y q with e | ⟨e,_⟩
   ·subst e
    rcases n1 with hx | hx
    ·exact hXz y hx
    ·refine ⟨?_,fun c e=>by have:=h.fk c y e; omega⟩
     cases hz:E.z y with
     | none=>exact hz
     | some r=>have:=h.kR y r hz; omega
   ·exact h.ar.z y e
  ·intro c d v u y L M L' M' h1 h2 h3 h4
   rcases tX c v h1 with ⟨e1,_,e⟩ | ⟨_,p1,p2,e⟩ <;> rcases tX d u h2 with ⟨e2,_,e'⟩ | ⟨_,q1,q2,e'⟩
   ·omega
   ·rw [e] at h3; rw [e'] at h4
    simp at h3;obtain ⟨_,h5,h6,_⟩:=FC d u y L' M' q1 h4;rw [<- h3.1] at h5 h6;rcases n1 with hx | hx
    ·exact absurd hx h5
    ·omega
   ·rw [e] at h3; rw [e'] at h4
    simp at h4;obtain ⟨_,h5,h6,_⟩:=FC c v y L M p1 h3;rw [<- h4.1] at h5 h6;rcases n1 with hx | hx
    ·exact absurd hx h5
    ·omega
   ·rw [e] at h3; rw [e'] at h4
    exact h.ar.inj c d v u y L M L' M' p2 q2 h3 h4
  ·intro c d v u y w L M L' M' nQ e own g k cs3 e' od k' h1 h2 h3 h4 h5 h6
   have GA:∀ {c v y L M nQ e own k k2},A1.get c=some (.arr v)->E.α c=some (y,L,M)->B'.get y=some (.row nQ e own (some (g,k)))->p8=some (g,k2)->False:=by
    intro c v y L M nQ e own k k2 q1 q2 q3 q4;obtain ⟨r1,r2,r3,r4⟩:=FC c v y L M q1 q2;rw [r4] at q3;rcases n2 g k2 q4 with hg | ⟨hg,_⟩
    ·exact (f1 c v q1 y L M q2).2 _ _ _ _ _ q3 hg
    ·have:=(h.ar.rq c v y L M _ _ _ g k (hold c _ q1 (by simp)) q2 q3).1; omega
   rcases tX c v h1 with ⟨e1,_,ea⟩ | ⟨_,p1,p2,ea⟩ <;> rcases tX d u h2 with ⟨e2,_,eb⟩ | ⟨_,q1,q2,eb⟩
   ·omega
   ·rw [ea] at h3; rw [eb] at h4
    simp at h3;rw [<- h3.1,ahO] at h5;simp at h5;exact (GA q1 h4 h6 h5.2.2.2).elim
   ·rw [ea] at h3; rw [eb] at h4
    simp at h4;rw [<- h4.1,ahO] at h6;simp at h6;exact (GA p1 h3 h5 h6.2.2.2).elim
   ·rw [ea] at h3; rw [eb] at h4
    rw [(FC c v y L M p1 h3).2.2.2] at h5;rw [(FC d u w L' M' q1 h4).2.2.2] at h6;exact h.ar.tg c d v u y w L M L' M' _ _ _ g k _ _ _ k' p2 q2 h3 h4 h5 h6
  ·intro b x e
   have hb:=h.jx b x e;rw [Env.KQ (by omega)];exact h.ar.dis b x e
  ·intro b p e
   rw [ao.b7,rL];by_cases hb:b=A.next
   ·omega
   ·rw [Env.KQ hb] at e; have:=h.ar.jx b p e; omega
  ·intro b x L N e
   by_cases hb:b=A.next
   ·subst hb; rw [Env.ye] at e; simp at e; omega
   ·rw [Env.KQ hb] at e; have:=h.ar.fk b x L N e; omega
  ·intro c v y L M nQ e own g k h1 h2 h3
   rcases tX c v h1 with ⟨_,_,ea⟩ | ⟨_,p1,p2,ea⟩
   ·rw [ea] at h2
    simp at h2;obtain ⟨rfl,_⟩:=h2;rw [ahO] at h3;simp at h3;have hk:=h3.2.2.2;refine ⟨?_,fun f e=>?_,fun z hz cH=>?_⟩
    ·rcases n2 g k hk with hg | ⟨_,hg⟩
     ·have:=(f3 g hg).2.1; omega
     ·exact hg
    ·rcases n2 g k hk with hg | ⟨hg,_⟩
     ·exact (f3 g hg).2.2.1 f e
     ·have:=h.iR f g e; omega
    ·rcases b3 g z hz with hz | ⟨e,_⟩
     ·rcases n2 g k hk with hg | ⟨hg,_⟩
      ·by_cases alJ:X z
       ·exact ⟨(hXz z alJ).1,fun q=>by
         rcases Pk z q with e | ⟨_,e⟩
         ·exact cH e
         ·exact e alJ,(hXz z alJ).2⟩
       ·obtain ⟨h7,h8,h9⟩:=(f3 g hg).2.2.2 z hz alJ
        refine ⟨h7,fun q=>?_,h9⟩;rcases Pk z q with e | ⟨e,_⟩
        ·exact cH e
        ·exact h8 e
      ·rw [h.fresh g hg] at hz; simp at hz
     ·exact absurd e cH
   ·rw [ea] at h2
    obtain ⟨r1,r2,r3,r4⟩:=FC c v y L M p1 h2;rw [r4] at h3;obtain ⟨h4,h5,h6⟩:=h.ar.rq c v y L M _ _ _ g k p2 h2 h3;refine ⟨by omega,h5,fun z hz cH=>?_⟩;have hnG:=(f1 c v p1 y L M h2).2 _ _ _ _ _ h3;rw [b3' g (fun k e=>by
     rcases n2 g k e with hg | ⟨hg,_⟩
     ·exact hnG hg
     ·omega)] at hz
    obtain ⟨h7,h8,h9⟩:=h6 z hz cH;refine ⟨h7,fun q=>?_,h9⟩;rcases Pk z q with e | ⟨e,_⟩
    ·subst e
     rcases n1 with hx | hx
     ·exact h8 (f2 z hx)
     ·have:=h.mem g z hz; omega
    ·exact h8 e
  ·intro c v hc
   rw [ao.b7,rL];rcases tX c v hc with ⟨e1,_,_⟩ | ⟨_,_,e2,_⟩
   ·subst e1
    refine ⟨Nat.lt_succ_self _,?_⟩;show E.κ A.next=none;cases hk:E.κ A.next with
    | none=>rfl
    | some x=>have:=h.jx _ x hk; omega
   ·obtain ⟨q1,q2⟩:=h.ar.nk c v e2
    exact ⟨by omega,q2⟩
 ·intro y hy hn ha
  by_cases C4:X y
  ·exact absurd (.inl (f2 y C4)) ha
  ·rcases b1 y hy C4 with e | ⟨_,g,hg,h2⟩
   ·exact e
   ·exact absurd (.inr ⟨g,(f3 g hg).1,h2⟩) ha
 ·intro g hg hn ha
  refine b3' g fun k e=>?_;rcases n2 g k e with hg' | ⟨hg',_⟩
  ·exact ha (f3 g hg').1
  ·omega
 ·rcases Pk y q with e | ⟨e,_⟩
  ·exact anW y e
  ·exact .inl e
 ·rcases ahN g q with e | ⟨e,_⟩
  ·exact apX g e
  ·exact .inl e
 ·rcases b3 g y q with e | ⟨e,e2,_⟩
  ·exact .inl e
  ·exact .inr (by omega)
 ·rcases q with q | ⟨g,h1,h2⟩
  ·rcases Pk y q with e | ⟨e,_⟩
   ·rcases anW y e with e | e
    ·exact .inl (.inl e)
    ·exact .inr e
   ·exact .inl (.inl e)
  ·rcases b3 g y h2 with e | ⟨e,e2,_⟩
   ·rcases ahN g h1 with e1 | ⟨e1,_⟩
    ·rcases apX g e1 with e2 | e2
     ·exact .inl (.inr ⟨g,e2,e⟩)
     ·rw [h.fresh g e2] at e; simp at e
    ·exact .inl (.inr ⟨g,e1,e⟩)
   ·exact .inr (by omega)
 ·intro y hy nQ e own Vs hr
  by_cases C4:X y
  ·exact b2 y C4 nQ e own Vs hr
  ·rcases b1 y hy C4 with e1 | ⟨e1,_⟩
   ·exact ⟨nQ,by rw [<- e1]; exact hr,rfl⟩
   ·rw [e1] at hr; simp at hr
end Go.K
end
section
namespace Go.K
open Go Go.aq
variable {P:Program} {E:Env}
theorem df.aqw {A:ao} {B:St} {c:List Value} {n:Nat} (h:dU P E A B):df P E A B (E.eZ B.next ⟨c,n,true,some (B.next,0)⟩) A (B.grow B.next 0 c n):=by
 have lY:∀ x,(B.grow B.next 0 c n).get x=if x=B.next then some (.row c n true (some (B.next,0))) else B.get x:=fun x=>by simp [St.grow]
 have lx:∀ q,(B.grow B.next 0 c n).members q=if q=B.next then B.next::B.members B.next else B.members q:=fun q=>by simp [St.grow,St.Cu]
 have gE:(B.grow B.next 0 c n).next=B.next+1:=rfl;have hle:E.le (E.eZ B.next ⟨c,n,true,some (B.next,0)⟩):=⟨fun _ _ e=>e,fun _ _ e=>e,fun b r e=>by
  have:=h.kR b r e;simp only [Env.eZ]; rw [ak (by omega)]; exact e,fun _ _ e=>e⟩
 generalize B.grow B.next 0 c n=B' at lY lx gE;have xi:∀ x,x < B.next->B'.get x=B.get x:=fun x hx=>by rw [lY,ak (by omega)]
 have Pf:∀ b r,(E.eZ B.next ⟨c,n,true,some (B.next,0)⟩).z b=some r->E.z b=some r\/B.next<=b:=fun b r e=>by
  simp only [Env.eZ] at e;split at e
  ·exact .inr (by omega)
  ·exact .inl e
 have Vr:∀ q,AF A E B q->B'.members q=B.members q:=fun q hq=>by
  rw [lx,ak];intro e2;obtain ⟨b,v,x,L,N,cs,e,own,k,h1,h2,h3⟩:=hq;obtain ⟨h4,h5,_⟩:=h.ar.rq b v x L N cs e own q k h1 h2 h3;omega
 have aj6:∀ q y,y∈B'.members q->y∈B.members q\/B.next<=y:=fun q y hy=>by
  rw [lx] at hy;split at hy
  ·rename_i e2
   subst e2;rcases dv.1 hy with hy | hy
   ·exact .inr (by omega)
   ·exact .inl hy
  ·exact .inl hy
 refine ⟨⟨?_,?_,?_,?_,h.inj,h.ib,h.jx,h.kQ,h.live,?_,?_,?_,?_,?_,h.ar.eY hle (fun _=>rfl) (fun _ _ e=>e) (fun _ _ e=>e) (aH _) (by omega) (fun x q=>xi x (h.Ih q)) Pf (fun _ _ e=>.inl e) (fun b q e=>.inl ⟨b,e⟩) Vr h.mem⟩,hle,aH _,?_,fun b x e=>.inl e,fun b r e=>(Pf b r e).imp id .inr,fun b q e=>.inl e,fun q hq hn _=>by rw [lx,ak (by omega)],fun _ q=>.inl q,fun _ q=>.inl (q.of (fun _=>rfl) (fun _ _ e=>e) fun x q=>xi x (h.Ih q)),aj6,fun _ q=>.inl (q.of (fun _=>rfl) (fun _ _ e=>e) (fun x q=>xi x (h.Ih q)) Vr),kS xi⟩
 ·intro b kL Pe hb
  obtain ⟨x,d,h1,h2,h3⟩:=h.row b kL Pe hb;have:=h.fk b x h1;exact ⟨x,d,h1,by rw [lY,ak (by omega)]; exact h2,h3.mono hle⟩
 ·intro b top DM hb
  rcases h.aQ b top DM hb with h1 | ⟨g,h1,hp0,h2⟩
  ·exact .inl h1
  ·have hg:=h.iR b g h1
   refine .inr ⟨g,h1,hp0,fun x hx d e own f k hr=>?_⟩;rw [lx,ak (by omega)] at hx;have:=h.mem g x hx;rw [lY,ak (by omega)] at hr;exact h2 x hx d e own f k hr
 ·intro b r hb
  simp only [Env.eZ] at hb;rw [lY];split at hb
  ·rename_i e; simp at hb; subst hb; rw [aI e]
  ·rename_i e; rw [ak e]; exact h.z b r hb
 ·intro b x hb
  have:=h.fk b x hb;simp only [Env.eZ];rw [ak (by omega)];exact h.apart b x hb
 ·intro b x hb; have:=h.fk b x hb; omega
 ·intro b r hb
  simp only [Env.eZ] at hb;rw [gE];split at hb
  ·omega
  ·have:=h.kR b r hb; omega
 ·intro b g hb; have:=h.iR b g hb; omega
 ·intro g hg
  rw [gE] at hg;rw [lx,ak (by omega)];exact h.fresh g (by omega)
 ·intro g x hx
  rw [gE];rw [lx] at hx;split at hx
  ·rcases dv.1 hx with hx | hx
   ·omega
   ·have:=h.mem _ x hx; omega
  ·have:=h.mem g x hx; omega
 ·intro x hx _ _; rw [lY,ak (by omega)]
theorem df.after {A A1 A2:ao} {B B2:St} {E2:Env} (h:df P E A B E A1 B) (k:df P E A1 B E2 A2 B2):df P E A B E2 A2 B2 where
 gX:=k.gX
 le:=k.le
 next:=kH h.next k.next
 eY x hx hn ha:=k.eY x hx hn fun q=>(h.nu x q).elim ha fun e=>by omega
 new:=k.new
 sh b r e:=by
  rcases k.sh b r e with e | e | e
  ·exact .inl e
  ·exact .inr (h.lN b e)
  ·exact .inr (.inr e)
 si:=k.si
 oX g hg hn ha:=k.oX g hg hn fun q=>(h.ml g q).elim ha fun e=>by omega
 lN x q:=(k.lN x q).elim (h.lN x) .inr
 ml g q:=(k.ml g q).elim (h.ml g) .inr
 tU:=k.tU
 nu y q:=(k.nu y q).elim (h.nu y) .inr
 rows:=k.rows
theorem df.alK {A:ao} {B:St} {f t:Nat} (sz:Nat) (h:dU P E A B) {DM:Nat} (hA:A.get f=some (.aQ t DM)) (HT:E.φ f=none):df P E A B E (A.put f (.aQ 0 sz)) B:=by
 have Vq:∀ (b:Nat) (v:KV),(A.put f (.aQ 0 sz)).get b=some (.arr v)->A.get b=some (.arr v):=fun b v hb=>by
  rw [ao.b5] at hb;split at hb
  ·simp at hb
  ·exact hb
 have XP:∀ (b:Nat) (v:KV),(A.put f (.aQ 0 sz)).get b=some (.il v)->A.get b=some (.il v):=fun b v hb=>by
  rw [ao.b5] at hb;split at hb
  ·simp at hb
  ·exact hb
 refine ⟨⟨fun b cs bH hb=>?_,fun b top DM hb=>?_,h.z,h.apart,h.inj,h.ib.put (.inr HT),h.jx,h.kQ,fun b o hb=>?_,h.fk,h.kR,h.iR,h.fresh,h.mem,h.ar.eY (Env.le_refl _) (fun _=>rfl) Vq XP (aH _) (aH _) (fun _ _=>rfl) (fun _ _ e=>.inl e) (fun _ _ e=>.inl e) (fun b g e=>.inl ⟨b,e⟩) (fun _ _=>rfl) h.mem⟩,Env.le_refl _,aH _,fun _ _ _ _=>rfl,fun _ _ e=>.inl e,fun _ _ e=>.inl e,fun _ _ e=>.inl e,fun _ _ _ _=>rfl,fun _ q=>.inl (q.of (fun _=>rfl) Vq),fun _ q=>.inl (q.of (fun _=>rfl) Vq fun _ _=>rfl),fun _ _ q=>.inl q,fun _ q=>.inl (q.of (fun _=>rfl) Vq (fun _ _=>rfl) fun _ _=>rfl),kS fun _ _=>rfl⟩
 ·rw [ao.b5] at hb
  split at hb
  ·simp at hb
  ·exact h.row b cs bH hb
 ·rw [ao.b5] at hb
  split at hb
  ·rename_i e2; simp at hb; exact .inl ⟨hb.1.symm,by rw [e2]; exact HT⟩
  ·exact h.aQ b top DM hb
 ·rw [ao.b5] at hb
  split at hb
  ·rename_i e2; rw [e2]; exact h.live f _ hA
  ·exact h.live b o hb
theorem df.anX {A:ao} {B:St} {f t sz:Nat} (h:dU P E A B) (hA:A.get f=some (.aQ t sz)):df P E A B E (A.put f (.aQ t sz)) B:=by
 have hg:∀ b,(A.put f (.aQ t sz)).get b=A.get b:=fun b=>by
  rw [ao.b5];split
  ·rename_i e; rw [e,hA]
  ·rfl
 have Vq:∀ (b:Nat) (v:KV),(A.put f (.aQ t sz)).get b=some (.arr v)->A.get b=some (.arr v):=fun b v hb=>by rwa [hg] at hb
 have XP:∀ (b:Nat) (v:KV),(A.put f (.aQ t sz)).get b=some (.il v)->A.get b=some (.il v):=fun b v hb=>by rwa [hg] at hb
 refine ⟨⟨fun b cs bH hb=>h.row b cs bH (by rwa [hg] at hb),fun b top DM hb=>h.aQ b top DM (by rwa [hg] at hb),h.z,h.apart,h.inj,fun b c g tb sb tc sc q1 q2=>h.ib b c g tb sb tc sc (by rwa [hg] at q1) (by rwa [hg] at q2),h.jx,h.kQ,fun b o hb=>h.live b o (by rwa [hg] at hb),h.fk,h.kR,h.iR,h.fresh,h.mem,h.ar.eY (Env.le_refl _) (fun _=>rfl) Vq XP (aH _) (aH _) (fun _ _=>rfl) (fun _ _ e=>.inl e) (fun _ _ e=>.inl e) (fun b g e=>.inl ⟨b,e⟩) (fun _ _=>rfl) h.mem⟩,Env.le_refl _,aH _,fun _ _ _ _=>rfl,fun _ _ e=>.inl e,fun _ _ e=>.inl e,fun _ _ e=>.inl e,fun _ _ _ _=>rfl,fun _ q=>.inl (q.of (fun _=>rfl) Vq),fun _ q=>.inl (q.of (fun _=>rfl) Vq fun _ _=>rfl),fun _ _ q=>.inl q,fun _ q=>.inl (q.of (fun _=>rfl) Vq (fun _ _=>rfl) fun _ _=>rfl),kS fun _ _=>rfl⟩
theorem anY {t:TypeId} (hu:P.underlying t=some (.int .u8)):aX P t=⟨false,[.int .u8]⟩:=by
 unfold aX;rw [lay,hu];rfl
theorem agc {e:TypeId} (he:isByte P e=true):apS P (Tk e) Mi:=by
 intro E A B vs us v h hv hg;unfold Tk at hg;split at hg
 ·rename_i s
  obtain ⟨u,rfl,h1⟩:=hv.dH;have:=h1.qA; subst this;have hg:KV.ts e .any s.size _ _=v:=hg;subst hg;have hu:P.underlying e=some (.int .u8):=by
   unfold isByte at he;split at he
   ·assumption
   ·simp at he
  have apY:aX P e=⟨false,[.int .u8]⟩:=anY hu;refine ⟨_,_,_,rfl,?_,df.aqw h⟩;simp only [VK];have dK:bf P e=1:=by unfold bf; rw [apY]; rfl
  refine ⟨⟨by simp,fun i hi=>?_,?_⟩,jM s.data.toList,?_,some ⟨B.next,0,none⟩,s.size,rfl,aH _,.inr ⟨B.next,0,⟨jM s.data.toList,1,true,some (B.next,0)⟩,rfl,by simp [Env.eZ],dK.symm,?_⟩,trivial⟩
  ·have hi' : i < s.data.toList.length:=by simpa using hi
   simp only [List.getD,uG,cM hi',Option.map_some,db]
  ·rw [apY]
   induction s.data.toList with
   | nil=>rfl
   | cons b l ih=>simp [dV,cl,aA,kindOk,ih]
  ·generalize E.eZ B.next _=E'
   induction s.data.toList with
   | nil=>exact .nil
   | cons b l ih=>exact .cons .mkInt ih
  ·rw [dK]
   intro i x hx;obtain ⟨b,_,rfl⟩:∃ b,s.data.toList[i]? = some b/\x = .int .u8 b.toNat:=by
    simp only [jM,uG,cC] at hx;obtain ⟨b,h1,h2⟩:=hx;exact ⟨b,h1,h2.symm⟩
   refine ⟨rfl,fun k y hy=>?_⟩;have hk:k=0:=by
    have:=(rA.1 hy).1;simp [Value.cells] at this;exact this
   subst hk;simp [Value.cells] at hy;subst hy;simpa using hx
 ·exact hg.elim
theorem MI {B:St} {b off n sz:Nat} {r:ahz} {bo:List Value} (hr:B.get b=some (.row r.cs r.bH r.own r.bQ)) (hl:nG sz off r.cs bo) (hn:bo.length=n) (dK:1<=sz) :
  B.vz ⟨b,off,none⟩ (n * sz)=some (bG bo):=by
 have hs:∀ v∈bo,v.cells.size=sz:=fun v hv=>by
  obtain ⟨i,hi⟩:=List.getElem?_of_mem hv;exact (hl i v hi).1
 have hlen:=gz hs;have Kt:=kq hs;have nL:∀ j,j < n * sz->r.cs[off+j]? = (bG bo)[j]?:=by
  intro j hj;have hi:j / sz < bo.length:=by rw [hn]; exact Nat.div_lt_of_lt_mul (by rw [Nat.mul_comm]; exact hj)
  have hv:bo[j / sz]? = some bo[j / sz]:=cM hi;have hk:j % sz < bo[j / sz].cells.size:=by rw [hs _ (L6 hi)]; exact Nat.mod_lt _ dK
  have hy:bo[j / sz].cells[j % sz]? = some (bo[j / sz].cells[j % sz]):=by simp [hk]
  have h1:=(hl _ _ hv).2 _ _ hy;have h2:=(Kt _ _ hv).2 _ _ hy;have MJ:j / sz * sz+j % sz=j:=by rw [Nat.mul_comm]; exact Nat.div_add_mod j sz
  rw [Fo,MJ] at h1;rw [bp,MJ] at h2;rw [h1,h2]
 simp only [St.vz,cO,Option.isNone_none,aj,x7,hr,dz];rw [hn] at hlen;have hle:n * sz<=(r.cs.drop off).length:=by
  cases hm:n * sz with
  | zero=>omega
  | succ q=>
   have:=nL q (by omega);rw [cM (show q < (bG bo).length by omega)] at this;have h7:=(cP.1 this).1;rw [List.length_drop];omega
 rw [qu,KL hle];congr 1;apply List.ext_getElem?;intro i;rw [mz];split
 ·rename_i hi
  rw [mX];exact nL i hi
 ·exact (aaN.2 (by omega)).symm
theorem acb {T:TypeId} {m:Mk} {n:Nat} {es:List KV} {acc:Nat->KV} {u:Value} {A:ao} {B:St} (h:dU P E A B) (hv:VK P E (.ts T m n es acc) u) (dK:1<=bf P T) :
  ∃ bo,ba P E es bo/\Y9 u=some n/\uH B (bf P T) n u=some (bG bo)/\(∀ v∈bo,v.cells.size=bf P T)/\bo.length=n/\es.length=n/\dV (aX P T) es=true:=by
 obtain ⟨ht,bo,h1,a,cap,rfl,h2,h3,_⟩:=hv.jY;have hlen:=ht.len;have qb:bo.length=n:=by rw [h1.length]; exact hlen.symm
 have hs:=kT ht.typed h1;refine ⟨bo,h1,rfl,?_,fun v hv=>(hs v hv).1,qb,hlen.symm,ht.typed⟩;rcases h3 with ⟨rfl,h0⟩ | ⟨b,off,r,rfl,h4,h5,h6⟩
 ·have:bo = []:=mW.1 (by omega)
  subst this;simp [uH,h0,bG]
 ·exact MI (h.z b r h4) h6 qb dK
theorem gL.join {T:TypeId} {n m:Nat} {es fs:List KV} {f g:Nat->KV} (h:gL P T n es f) (k:gL P T m fs g):gL P T (n+m) (es++fs) (dw n f g) where
 len:=by rw [kF,<- h.len,<- k.len]
 acc i hi:=by
  unfold dw;by_cases hn:i < n
  ·have:Nat.blt i n=true:=by rw [bO]; exact hn
   rw [this,aj,h.acc i hn,eX,eX,oM (by rw [<- h.len]; exact hn)]
  ·have:Nat.blt i n=false:=by
    cases hb:Nat.blt i n with
    | false=>rfl
    | true=>rw [bO] at hb; omega
   rw [this,aF,k.acc (i - n) (by omega),eX,eX,qd (by rw [<- h.len]; omega),<- h.len]
 typed:=NH h.typed k.typed
theorem gL.none {T:TypeId} {g:Nat->KV} : gL P T 0 [] g:=⟨rfl,fun i h=>by omega,rfl⟩
structure Src (P:Program) (E:Env) (B:St) (T:TypeId) (n:Nat) (es:List KV) (acc:Nat->KV) (u:Value) (bo:List Value):Prop where
 tree:gL P T n es acc
 rel:ba P E es bo
 len:Y9 u=some n
 size:∀ v∈bo,v.cells.size=bf P T
 length:bo.length=n
 first:∀ k,k<=n->uH B (bf P T) k u=some (bG (bo.take k))
theorem Src.all {B:St} {T:TypeId} {n:Nat} {es:List KV} {acc:Nat->KV} {u:Value} {bo:List Value} (h:Src P E B T n es acc u bo):uH B (bf P T) n u=some (bG bo):=by
 rw [h.first n (aH _),List.take_of_length_le (Nat.le_of_eq h.length)]
theorem nG.take {sz off:Nat} {cs es:List Value} (h:nG sz off cs es) (k:Nat):nG sz off cs (es.take k):=fun i x hi=>h i x (by
 rw [mz] at hi;split at hi
 ·exact hi
 ·simp at hi)
theorem nG.drop {sz off:Nat} {cs es:List Value} (h:nG sz off cs es) (o:Nat):nG sz (off+o * sz) cs (es.drop o):=fun i x hi=>by
 rw [mX] at hi;obtain ⟨h1,h2⟩:=h (o+i) x hi;refine ⟨h1,fun k y hy=>?_⟩;rw [<- h2 k y hy,Nat.add_mul];congr 1;omega
theorem apg {T:TypeId} {m:Mk} {n:Nat} {es:List KV} {acc:Nat->KV} {u:Value} {A:ao} {B:St} (h:dU P E A B) (hv:VK P E (.ts T m n es acc) u) (dK:1<=bf P T):∃ bo,Src P E B T n es acc u bo:=by
 obtain ⟨ht,bo,h1,a,cap,rfl,h2,h3,_⟩:=hv.jY;have qb:bo.length=n:=by rw [h1.length]; exact ht.len.symm
 have hs:=kT ht.typed h1;refine ⟨bo,ht,h1,rfl,fun v hv=>(hs v hv).1,qb,fun k hk=>?_⟩;rcases h3 with ⟨rfl,h0⟩ | ⟨b,off,r,rfl,h4,h5,h6⟩
 ·have:bo = []:=mW.1 (by omega)
  subst this;have:k=0:=by omega
  subst this;simp [uH,bG]
 ·exact MI (h.z b r h4) (h6.take k) (by rw [kG]; omega) dK
theorem aph {T:TypeId} {m:Mk} {b o n N:Nat} {es:List KV} {acc:Nat->KV} {u:Value} {A:ao} {B:St} (h:dU P E A B) (hv:VK P E (.al T b o n) u) (ha:Ju A b=some (.ts T m N es acc)) (dK:1<=bf P T) :
  ∃ bo,Src P E B T n ((es.drop o).take n) (fun i=>acc (o+i)) u bo:=by
 have row:∀ {x:Nat} {r:ahz} {bo:List Value} {c:Nat},u = .slice (some ⟨x,o * bf P T,none⟩) n c->o+n<=N->gL P T N es acc->B.get x=some (.row r.cs r.bH r.own r.bQ)->ba P E es bo->nG (bf P T) 0 r.cs bo->∃ bo,Src P E B T n ((es.drop o).take n) (fun i=>acc (o+i)) u bo:=by
  intro x r bo c hu hon ht hr TC hl;subst hu;have XU:bo.length=N:=by rw [TC.length]; exact ht.len.symm
  have aj9:((es.drop o).take n).length=n:=by rw [kG,List.length_drop,<- ht.len]; omega
  have anZ:((bo.drop o).take n).length=n:=by rw [kG,List.length_drop,XU]; omega
  have hs:=kT ht.typed TC;refine ⟨(bo.drop o).take n,⟨aj9.symm,fun i hi=>?_,oe fun i x hi=>?_⟩,(TC.drop o).take n,rfl,fun v hv=>(hs v (List.mem_of_mem_drop (List.mem_of_mem_take hv))).1,anZ,fun k hk=>?_⟩
  ·rw [ht.acc (o+i) (by omega),eX,eX,mz,aI hi,mX]
  ·rw [mz] at hi
   split at hi
   ·rw [mX] at hi; exact gM ht.typed hi
   ·simp at hi
  ·have kf:=((hl.drop o).take n).take k
   rw [bp] at kf;exact MI hr kf (by rw [kG,anZ]; omega) dK
 rcases hv.uO with ⟨rfl,rfl,rfl⟩ | ⟨x,L,N0,c,h1,h2,h3,h4,h5⟩
 ·refine ⟨[],⟨by simp,fun i hi=>by omega,rfl⟩,by simpa using ba.nil,rfl,by simp,rfl,fun k hk=>?_⟩
  have:k=0:=by omega
  subst this;simp [uH,bG]
 ·unfold Ju at ha
  split at ha
  ·rename_i v hb
   simp only [cJ] at ha;subst ha;obtain ⟨T2,N2,mV,iC,e,ht,_,vB⟩:=h.ar.arr b _ hb;simp only [KV.ts.injEq] at e;obtain ⟨rfl,rfl,rfl,rfl,rfl⟩:=e;rcases vB with ⟨_,e⟩ | ⟨x2,cs,bQ,bo,e,h6,h7,h8⟩
   ·rw [h1] at e; simp at e
   ·rw [h1] at e
    simp only [cJ,dJ] at e;obtain ⟨rfl,rfl,rfl⟩:=e;exact row (r:=⟨cs,bf P T,true,bQ⟩) h2 h4 ht h6 h7 h8
  ·rename_i v hb
   simp only [cJ] at ha;subst ha;obtain ⟨T2,N2,mV,iC,e,ht,_,vB⟩:=h.ar.il b _ hb;simp only [KV.ts.injEq] at e;obtain ⟨rfl,rfl,rfl,rfl,rfl⟩:=e;rcases vB with ⟨_,e⟩ | ⟨x2,r,bo,e,h6,h6',h7,h8⟩
   ·rw [h1] at e; simp at e
   ·rw [h1] at e
    simp only [cJ,dJ] at e;obtain ⟨rfl,rfl,rfl⟩:=e;exact row h2 h4 ht (h.z _ _ h6) h7 h8
  ·simp at ha
theorem alL {A:ao} {B:St} {y:KV} {u:Value} {T:TypeId} {m:Mk} {n:Nat} {es:List KV} {acc:Nat->KV} (h:dU P E A B) (hv:VK P E y u) (hs:O3 A y=some (.ts T m n es acc)) (dK:1<=bf P T):∃ bo,Src P E B T n es acc u bo:=by
 unfold O3 at hs;split at hs
 ·rename_i T' b o k
  unfold afX at hs;split at hs
  ·rename_i T2 _ _ mV iC ha
   cases hb:Nat.beq T' T2 with
   | false=>rw [hb] at hs; simp at hs
   | true=>
    have:=aW hb;subst this;rw [hb,aj] at hs;simp only [cJ,KV.ts.injEq] at hs;obtain ⟨rfl,rfl,rfl,rfl,rfl⟩:=hs;rw [afW];exact aph h hv ha dK
  ·simp at hs
 ·simp only [cJ,KV.ts.injEq] at hs
  obtain ⟨rfl,rfl,rfl,rfl,rfl⟩:=hs;exact apg h hv dK
 ·simp at hs
theorem aka {e n b:Nat} (hn:bf P e=n) (h1n:1<=n) {E:Env} {A A' : ao} {B:St} {x v:KV} {u w:Value} {e' : TypeId} {mk:Mk} {k:Nat} {new:List KV} {acc:Nat->KV} (h:dU P E A B) (h1:VK P E x u)
  (hsr:Nat.beq e e' = true->∃ bo,Src P E B e' k new acc w bo) (hg:aK (O2 e n b A [x,.ts e' mk k new acc]) (v,A')):∃ r B' E',jr n b B [u,w] = some (r,B')/\VK P E' v r/\df P E A B E' A' B':=by
 have tj:1<=bf P e:=by omega
 have put:∀ (E1:Env) (A1:ao) (m f k:Nat) (base new:List KV) (ab an:Nat->KV) (more:Bool) (A2:ao) (v:KV),aK (Vg e n b m base ab A1 f k new an more) (v,A2)->
   (more=true/\Nat.ble ((m+k) * b) 140737488355328=true/\Nat.ble (m+k) 17592186044416=true)/\v = .ts e (.aQ f) (m+k) (base++new) (dw m ab an)/\A2=A1.put f (.aQ (m+k) n):=by
  intro E1 A1 m f k base new ab an more A2 v hp;obtain ⟨hc,hp⟩:=aK.jt hp;simp only [fC,au] at hc;simp only [dJ] at hp;exact ⟨⟨hc.1,hc.2.1,hc.2.2⟩,hp.1.symm,hp.2.symm⟩
 unfold O2 at hg;split at hg
 ·
  rename_i e9 mk9 k9 alM alN heq;simp only [List.cons.injEq,KV.ts.injEq,and_true] at heq;obtain ⟨rfl,rfl,rfl,rfl,rfl,rfl⟩:=heq;have:=h1.nt; subst this;obtain ⟨he,XR⟩:=hg.cond;clear hg;obtain ⟨cB,iV⟩:=hsr he;have:=aW he;subst this;obtain ⟨⟨_,DH,sS⟩,rfl,rfl⟩:=put E _ _ _ _ _ _ _ _ _ _ _ XR;have Pl:=iV.tree;have h3:=iV.rel;have h4:=iV.len;have h5:=iV.all;have h6:=iV.size;have h7:=iV.length;have h8:=Pl.len.symm;rw [hn] at h5 h6;have yV:=df.alH n h;have hAf:(A.new (.aQ 0 n)).get A.next=some (.aQ 0 n):=by simp
  have HT:E.φ A.next=none:=by
   cases hq:E.φ A.next with
   | none=>rfl
   | some g=>have:=h.kQ _ g hq; omega
  cases k with
  | zero=>
   have th:new = []:=mW.1 h8;have TD:cB = []:=mW.1 h7;subst th TD;refine ⟨.slice none 0 0,B,E,?_,?_,?_⟩
   ·simp only [jr,h4,dz]
    rw [h5];rfl
   ·simp only [VK]
    exact ⟨⟨rfl,fun i hi=>by omega,rfl⟩,[],.nil,none,0,rfl,aH _,.inl ⟨rfl,rfl⟩,rfl,.inl ⟨rfl,rfl⟩⟩
   ·exact yV.after (df.alK n yV.gX hAf HT)
  | succ k=>
   have FD:=df.grow (c:=bG cB) (top:=0) (Sd:=k+1) (sz:=n) (g:=B.next) (f:=A.next) yV.gX hAf (.inl ⟨HT,rfl⟩) (by rw [gz h6,h7]) (by omega) (by omega);refine ⟨.slice (some ⟨B.next,0,none⟩) (k+1) (k+1),B.grow B.next 0 (bG cB) n,_,?_,?_,yV.after (by simpa using FD)⟩
   ·simp only [bp] at DH sS
    simp only [jr,h4,dz,bp];rw [show Nat.ble (k+1) 0=false from rfl,aF,DH,sS,h5];rfl
   ·simp only [VK,bp,List.nil_append]
    have TD:=h3.mono (Env.le_trans yV.le FD.le);have hl:=kq h6;refine ⟨by have:=gL.none (P:=P) (T:=e) (g:=l7) |>.join Pl; simpa using this,cB,TD,_,_,rfl,aH _,.inr ⟨B.next,0,⟨bG cB,n,true,some (B.next,0)⟩,rfl,by simp [Env.qC,Env.eZ],hn.symm,by rw [hn]; exact hl⟩,rfl,.inr ⟨B.next,⟨bG cB,n,true,some (B.next,0)⟩,B.next,rfl,by simp [Env.qC,Env.eZ],rfl,by simp [Env.qC],rfl,?_⟩⟩;rw [hn];simp only;rw [gz h6,h7]
 ·
  rename_i e1 m es apZ e9 mk9 k9 alM alN heq;simp only [List.cons.injEq,KV.ts.injEq,and_true] at heq;obtain ⟨rfl,rfl,rfl,rfl,rfl,rfl⟩:=heq;obtain ⟨he,XR⟩:=hg.cond;clear hg;simp only [au] at he;obtain ⟨cB,iV⟩:=hsr he.1;have:=aW he.1;subst this;have:=aW he.2;subst this;obtain ⟨⟨hk,DH,sS⟩,rfl,rfl⟩:=put E _ _ _ _ _ _ _ _ _ _ _ XR;have hk:0 < k:=by rwa [bO] at hk
  have uQ:=h1.jY.1;have Pl:=iV.tree;have h3:=iV.rel;have h4:=iV.len;have h5:=iV.all;have h6:=iV.size;have h7:=iV.length;have h8:=Pl.len.symm;obtain ⟨p9,h3b,h4b,h5b,h6b,h7b,h8b,h9b⟩:=acb h h1 tj;rw [hn] at h5 h6 h5b h6b;obtain ⟨_,ahn,tK,a,cap,rfl,alq,MK,akb⟩:=h1.jY;obtain ⟨rfl,Vr⟩:=akb;have yV:=df.alH n h;have hAf:(A.new (.aQ 0 n)).get A.next=some (.aQ 0 n):=by simp
  have HT:E.φ A.next=none:=by
   cases hq:E.φ A.next with
   | none=>rfl
   | some g=>have:=h.kQ _ g hq; omega
  have hs:∀ v∈p9++cB,v.cells.size=n:=fun v hv=>by
   rcases iW.1 hv with hv | hv
   ·exact h6b v hv
   ·exact h6 v hv
  have hlen:(bG (p9++cB)).length=(cap+k) * n:=by rw [gz hs,kF,h7b,h7]
  have FD:=df.grow (c:=bG (p9++cB)) (top:=0) (Sd:=cap+k) (sz:=n) (g:=B.next) (f:=A.next) yV.gX hAf (.inl ⟨HT,rfl⟩) hlen (by omega) (by omega);refine ⟨.slice (some ⟨B.next,0,none⟩) (cap+k) (cap+k),B.grow B.next 0 (bG (p9++cB)) n,_,?_,?_,yV.after FD⟩
  ·simp only [jr,h4,dz]
   have hnb:Nat.ble (cap+k) cap=false:=by
    cases hq:Nat.ble (cap+k) cap with
    | false=>rfl
    | true=>have:=dI hq; omega
   rw [hnb,aF,DH,sS];rcases MK with ⟨rfl,h0⟩ | ⟨b',off,r,rfl,hz,he2,kf⟩
   ·subst h0
    have:p9 = []:=mW.1 h7b;subst this;simp only [sF,wD,cg];rw [show Nat.beq 0 0=true from rfl,aj,h5];simp [Gk]
   ·obtain ⟨r2,Gq,ho,ahP,ae5⟩:=Vr b' off rfl
    rw [hz] at Gq;simp at Gq;subst Gq;have eS:=h.z b' r hz;have hex:sF B n cap (some ⟨b',off,none⟩)=true:=by
     simp only [sF,eS,ahP];rw [hn] at ae5;simp [ae5]
    rw [hex];simp only [cg,aj,h5,dz];simp only [uH] at h5b;have U5:Nat.beq r.bH n=true:=by rw [he2,hn]; simp
    simp only [Gk,cO,Option.isNone_none,aj,h5b,dz,eS,U5,ahP,ho];rw [<- vY]
  ·simp only [VK]
   have hrel:=(h3b.append h3).mono (Env.le_trans yV.le FD.le);have hl:=kq hs;refine ⟨uQ.join Pl,p9++cB,hrel,_,_,rfl,aH _,.inr ⟨B.next,0,⟨bG (p9++cB),n,true,some (B.next,0)⟩,rfl,by simp [Env.qC,Env.eZ],hn.symm,by rw [hn]; exact hl⟩,rfl,.inr ⟨B.next,⟨bG (p9++cB),n,true,some (B.next,0)⟩,B.next,rfl,by simp [Env.qC,Env.eZ],rfl,by simp [Env.qC],rfl,?_⟩⟩;rw [hn];exact hlen
 ·
  rename_i e1 f m es apZ e9 mk9 k9 alM alN heq;simp only [List.cons.injEq,KV.ts.injEq,and_true] at heq;obtain ⟨rfl,rfl,rfl,rfl,rfl,rfl⟩:=heq;split at hg
  ·rename_i top sz' Zo
   obtain ⟨he,XR⟩:=hg.cond;clear hg;simp only [au] at he;obtain ⟨cB,iV⟩:=hsr he.1.1;have:=aW he.1.1;subst this;have:=aW he.1.2;subst this;have anT:=aW he.2;rw [anT] at Zo;obtain ⟨⟨RB,DH,sS⟩,rfl,rfl⟩:=put E _ _ _ _ _ _ _ _ _ _ _ XR;have:=aW RB;subst this;have uQ:=h1.jY.1;have Pl:=iV.tree;have h3:=iV.rel;have h4:=iV.len;have h5:=iV.all;have h6:=iV.size;have h7:=iV.length;have h8:=Pl.len.symm;obtain ⟨p9,h3b,h4b,h5b,h6b,h7b,h8b,h9b⟩:=acb h h1 tj;rw [hn] at h5 h6 h5b h6b;obtain ⟨_,ahn,tK,a,cap,rfl,alq,MK,akb⟩:=h1.jY;obtain ⟨rfl,Vr⟩:=akb;have hs:∀ v∈p9++cB,v.cells.size=n:=fun v hv=>by
    rcases iW.1 hv with hv | hv
    ·exact h6b v hv
    ·exact h6 v hv
   have hlen:(bG (p9++cB)).length=(cap+k) * n:=by rw [gz hs,kF,h7b,h7]
   have aqx:=h3b.append h3;have hl:=kq hs;have fin:∀ (E2:Env) (x g:Nat),E.le E2->E2.z x=some ⟨bG (p9++cB),n,true,some (g,0)⟩->E2.φ f=some g->VK P E2 (.ts e (.aQ f) (cap+k) (es++new) (dw cap apZ acc)) (.slice (some ⟨x,0,none⟩) (cap+k) (cap+k)):=by
    intro E2 x g hle hzx arl;simp only [VK];refine ⟨uQ.join Pl,p9++cB,aqx.mono hle,_,_,rfl,aH _,.inr ⟨x,0,_,rfl,hzx,hn.symm,by rw [hn]; exact hl⟩,rfl,.inr ⟨x,_,g,rfl,hzx,rfl,arl,rfl,?_⟩⟩;rw [hn];exact hlen
   rcases Vr with ⟨rfl,rfl⟩ | ⟨b',r,g,rfl,hz,ho,HT,ahP,hcl⟩
   ·
    have hold:es = []:=mW.1 h8b;have agd:p9 = []:=mW.1 h7b;subst hold agd;have HT:E.φ f=none:=by
     rcases h.aQ f 0 n Zo with ⟨_,Jn⟩ | ⟨g2,_,Jn,_⟩
     ·exact Jn
     ·omega
    cases k with
    | zero=>
     have th:new = []:=mW.1 h8;have TD:cB = []:=mW.1 h7;subst th TD;refine ⟨.slice none 0 0,B,E,?_,?_,df.alK n h Zo HT⟩
     ·simp only [jr,h4,dz]
      rw [h5];rfl
     ·simp only [VK]
      exact ⟨⟨rfl,fun i hi=>by omega,rfl⟩,[],.nil,none,0,rfl,aH _,.inl ⟨rfl,rfl⟩,rfl,.inl ⟨rfl,rfl⟩⟩
    | succ k=>
     have FD:=df.grow (c:=bG ([]++cB)) (top:=0) (Sd:=0+(k+1)) (sz:=n) (g:=B.next) (f:=f) h Zo (.inl ⟨HT,rfl⟩) hlen (by omega) (by omega);refine ⟨.slice (some ⟨B.next,0,none⟩) (0+(k+1)) (0+(k+1)),B.grow B.next 0 (bG ([]++cB)) n,_,?_,fin _ B.next B.next FD.le (by simp [Env.qC,Env.eZ]) (by simp [Env.qC]),FD⟩;simp only [bp] at DH sS;simp only [jr,h4,dz,bp,List.nil_append];rw [show Nat.ble (k+1) 0=false from rfl,aF,DH,sS,h5];rfl
   ·
    have hcap1:0 < cap:=by
     rcases Nat.eq_zero_or_pos cap with h0 | h0
     ·subst h0
      rcases h.aQ f 0 n Zo with ⟨_,Jn⟩ | ⟨g2,_,Jn,_⟩
      ·rw [HT] at Jn; simp at Jn
      ·omega
     ·exact h0
    rcases Nat.eq_zero_or_pos k with tI | tI
    ·subst tI
     have th:new = []:=mW.1 h8;have TD:cB = []:=mW.1 h7;subst th TD;refine ⟨.slice (some ⟨b',0,none⟩) cap cap,B,E,?_,?_,df.anX h Zo⟩
     ·simp only [jr,h4,dz]
      rw [show Nat.ble (cap+0) cap=true from Nat.ble_eq_true_of_le (aH _),aj,h5];rfl
     ·simp only [VK]
      exact ⟨uQ.join Pl,ahn,by rw [uE]; exact tK,some ⟨b',0,none⟩,cap,rfl,aH _,MK,rfl,.inr ⟨b',r,g,rfl,hz,ho,HT,ahP,hcl⟩⟩
    have aqy:0 < cap+k/\0 < k:=⟨by omega,tI⟩
    have eS:=h.z b' r hz;rw [ho,ahP] at eS;have U5:r.bH=n:=by
     rcases MK with ⟨h0,_⟩ | ⟨b2,an0,r2,e2,Gq,he2,_⟩
     ·simp at h0
     ·simp at e2
      obtain ⟨rfl,rfl⟩:=e2;rw [hz] at Gq;simp at Gq;subst Gq;rw [he2,hn]
    have aqz:B.kill B.next (0+(0+cap * n)) (0+(0+cap * n)+(bG cB).length) (B.members g)=B:=by
     refine ab7 fun y hy=>?_;rcases h.aQ f cap n Zo with ⟨_,Jn⟩ | ⟨g2,Jn,_,h3'⟩
     ·rw [HT] at Jn; simp at Jn
     ·rw [HT] at Jn
      simp at Jn;subst Jn;cases hy2:B.get y with
      | none=>rfl
      | some o=>cases o with
       | row kM e2 H6 p8=>
        cases p8 with
        | none=>rfl
        | some p=>
         obtain ⟨f2,k2⟩:=p;obtain ⟨rfl,hle2⟩:=h3' y hy kM e2 H6 f2 k2 hy2;simp only [ov,meets,bp];have:Nat.blt (cap * n) kM.length=false:=by
          cases hq:Nat.blt (cap * n) kM.length with
          | false=>rfl
          | true=>rw [bO] at hq; omega
         rw [this,Bool.false_and]
       | _=>rfl
    have FD:=df.grow (c:=bG (p9++cB)) (top:=cap) (Sd:=cap+k) (sz:=n) (g:=g) (f:=f) h Zo (.inr HT) hlen (by omega) aqy.1;refine ⟨.slice (some ⟨B.next,0,none⟩) (cap+k) (cap+k),B.grow g 0 (bG (p9++cB)) n,_,?_,fin _ B.next g FD.le (by simp [Env.qC,Env.eZ]) (by simp [Env.qC]),FD⟩;have hnb:Nat.ble (cap+k) cap=false:=by
     cases hq:Nat.ble (cap+k) cap with
     | false=>rfl
     | true=>have:=dI hq; omega
    have hex:sF B n cap (some ⟨b',0,none⟩)=true:=by simp only [sF,eS]
    simp only [jr,h4,dz,hnb,aF,DH,sS,hex,cg,aj,h5];simp only [uH] at h5b;have arn:Nat.beq r.bH n=true:=by rw [U5]; simp
    simp only [Gk,cO,Option.isNone_none,aj,h5b,dz,eS,arn,aqz,<- vY]
  ·exact hg.elim
 ·exact hg.elim
end Go.K
end
section
namespace Go.K
open Go Go.aq
variable {P:Program} {E:Env}
theorem df.api {A A1:ao} {B:St} {T:TypeId} {acc:Nat->KV} (h:dU P E A B) (rL:A1.next=A.next) (MH:∀ c o,A1.get c=some o->A.get c=some o\/(o = .dead/\c < A.next)) (dK:1<=bf P T) :
  df P E A B E (A1.new (.arr (.ts T .any 0 [] acc))) B:=by
 have anV:E.α A.next=none:=by
  cases hq:E.α A.next with
  | none=>rfl
  | some p=>have:=h.ar.jx _ p hq; omega
 have iZ:∀ c o,(A1.new (.arr (.ts T .any 0 [] acc))).get c=some o->(c=A.next/\o = .arr (.ts T .any 0 [] acc))\/(o = .dead/\c < A.next)\/A.get c=some o:=fun c o hc=>by
  rw [ao.cS,rL] at hc;split at hc
  ·rename_i e; simp at hc; exact .inl ⟨e,hc.symm⟩
  ·rcases MH c o hc with e | e
   ·exact .inr (.inr e)
   ·exact .inr (.inl e)
 have tX:∀ c v,(A1.new (.arr (.ts T .any 0 [] acc))).get c=some (.arr v)->E.α c=none\/A.get c=some (.arr v):=fun c v hc=>by
  rcases iZ c _ hc with ⟨e,_⟩ | ⟨e,_⟩ | e
  ·exact .inl (by rw [e]; exact anV)
  ·simp at e
  ·exact .inr e
 have hA:∀ c v y L N,(A1.new (.arr (.ts T .any 0 [] acc))).get c=some (.arr v)->E.α c=some (y,L,N)->A.get c=some (.arr v):=fun c v y L N hc hy=>by
  rcases tX c v hc with e | e
  ·rw [e] at hy; simp at hy
  ·exact e
 have pU:∀ y,AR (A1.new (.arr (.ts T .any 0 [] acc))) E y->AR A E y:=fun y ⟨c,v,L,N,h1,h2⟩=>⟨c,v,L,N,hA c v _ _ _ h1 h2,h2⟩
 have JA:∀ g,AF (A1.new (.arr (.ts T .any 0 [] acc))) E B g->AF A E B g:=fun g ⟨c,v,x,L,N,cs,e,own,k,h1,h2,h3⟩=>⟨c,v,x,L,N,cs,e,own,k,hA c v _ _ _ h1 h2,h2,h3⟩
 refine ⟨⟨fun c cs bH hc=>?_,fun c top sz hc=>?_,h.z,h.apart,h.inj,?_,fun b x e=>by rw [ao.b7,rL]; have:=h.jx b x e; omega,fun b g e=>by rw [ao.b7,rL]; have:=h.kQ b g e; omega,fun c o hc=>?_,h.fk,h.kR,h.iR,h.fresh,h.mem,?_⟩,Env.le_refl _,by rw [ao.b7,rL]; omega,fun _ _ _ _=>rfl,fun _ _ e=>.inl e,fun _ _ e=>.inl e,fun _ _ e=>.inl e,fun _ _ _ _=>rfl,fun x q=>.inl (pU x q),fun g q=>.inl (JA g q),fun _ _ q=>.inl q,fun y q=>.inl (q.imp (pU y) fun ⟨g,q1,q2⟩=>⟨g,JA g q1,q2⟩),kS fun _ _=>rfl⟩
 ·rcases iZ c _ hc with ⟨_,e⟩ | ⟨e,_⟩ | e
  ·simp at e
  ·simp at e
  ·exact h.row c cs bH e
 ·rcases iZ c _ hc with ⟨_,e⟩ | ⟨e,_⟩ | e
  ·simp at e
  ·simp at e
  ·exact h.aQ c top sz e
 ·intro b c g tb sb tc sc hb hc e1 e2
  rcases iZ b _ hb with ⟨_,e⟩ | ⟨e,_⟩ | hb
  ·simp at e
  ·simp at e
  rcases iZ c _ hc with ⟨_,e⟩ | ⟨e,_⟩ | hc
  ·simp at e
  ·simp at e
  exact h.ib b c g _ _ _ _ hb hc e1 e2
 ·rw [ao.b7,rL]
  rcases iZ c _ hc with ⟨e,_⟩ | ⟨_,e⟩ | e
  ·omega
  ·omega
  ·have:=h.live c o e; omega
 ·refine ⟨fun c v hc=>?_,fun c v hc=>?_,fun x q=>h.ar.z x (pU x q),fun b c v u x L N L' N' h1 h2 h3 h4=>h.ar.inj b c v u x L N L' N' (hA b v _ _ _ h1 h3) (hA c u _ _ _ h2 h4) h3 h4,fun b c v u x y L N L' N' cs e own g k bV e' od k' h1 h2 h3 h4=>h.ar.tg b c v u x y L N L' N' cs e own g k bV e' od k' (hA b v _ _ _ h1 h3) (hA c u _ _ _ h2 h4) h3 h4,h.ar.dis,fun b p e=>by rw [ao.b7,rL]; have:=h.ar.jx b p e; omega,h.ar.fk,fun b v x L N cs e own g k h1 h2 h3=>?_,fun c v hc=>?_⟩
  ·rcases iZ c _ hc with ⟨e,e2⟩ | ⟨e,_⟩ | e
   ·simp at e2
    subst e2;exact ⟨T,0,[],acc,rfl,⟨rfl,fun i hi=>by omega,rfl⟩,dK,.inl ⟨rfl,by rw [e]; exact anV⟩⟩
   ·simp at e
   ·exact h.ar.arr c v e
  ·rcases iZ c _ hc with ⟨_,e⟩ | ⟨e,_⟩ | e
   ·simp at e
   ·simp at e
   ·exact h.ar.il c v e
  ·obtain ⟨q1,q2,q3⟩:=h.ar.rq b v x L N cs e own g k (hA b v _ _ _ h1 h2) h2 h3
   exact ⟨q1,q2,fun y hy cH=>⟨(q3 y hy cH).1,fun q=>(q3 y hy cH).2.1 (pU y q),(q3 y hy cH).2.2⟩⟩
  ·rw [ao.b7,rL]
   rcases iZ c _ hc with ⟨e,_⟩ | ⟨e,_⟩ | e
   ·rw [e]
    refine ⟨Nat.lt_succ_self _,?_⟩;cases hk:E.κ A.next with
    | none=>rfl
    | some x=>have:=h.jx _ x hk; omega
   ·simp at e
   ·obtain ⟨q1,q2⟩:=h.ar.nk c v e
    exact ⟨by omega,q2⟩
theorem ae6 {E:Env} {T:TypeId} {b x L N n c:Nat} (pq:E.α b=some (x,L,N)) (h1:n<=c) (h2:n<=N) (h3:c * bf P T=L):VK P E (.al T b 0 n) (.slice (some ⟨x,0,none⟩) n c):=
 .R9 (.inr ⟨x,L,N,c,pq,by simp,h1,by omega,by rw [bp]; exact h3⟩)
theorem ahQ {T b n:Nat} {z:Value} (hn:bf P T=n) (h1n:1<=n) (hz:z.cells.size=n) (he:cl (aX P T) (K.dy (aX P T) (ff z))=true):ab4 P (XH T b (K.dy (aX P T) (ff z))) (C0 n b z):=by
 intro E A A' B vs us v h hv hg;unfold XH at hg;split at hg
 ·rename_i k l k' c
  obtain ⟨x,y,rfl,h1,h2⟩:=hv.ju;have:=h1.cD; subst this;have:=h2.cD; subst this;obtain ⟨hc,hg⟩:=aK.jt hg;simp only [dJ] at hg;obtain ⟨rfl,rfl⟩:=hg;simp only [au,lR] at hc;obtain ⟨⟨h3,h4⟩,h5⟩:=hc;obtain ⟨l',rfl⟩:=Int.eq_ofNat_of_zero_le h3;obtain ⟨c',rfl⟩:=Int.eq_ofNat_of_zero_le (Int.le_trans h3 h4);have h6:Nat.ble l' c' = true:=Nat.ble_eq_true_of_le (by omega);have hs:∀ v∈List.replicate c' z,v.cells.size=n:=fun v hv=>by rw [List.eq_of_mem_replicate hv]; exact hz
  have hlen:(bG (List.replicate c' z)).length=c' * n:=by rw [gz hs,List.length_replicate]
  have ML:∀ m,cY [K.dy (aX P T) (ff z)] m=List.replicate m (K.dy (aX P T) (ff z)):=fun m=>by
   induction m with
   | zero=>rfl
   | succ m ih=>simp [cY,ih,List.replicate_succ]
  have eK:=df.Rf (P:=P) (X:=fun _=>False) (G:=fun _=>False) (y2:=B.next) (N2:=c') (T:=T) (mV:=cY [K.dy (aX P T) (ff z)] c') (iC:=fun _=>K.dy (aX P T) (ff z)) (C2:=List.replicate c' z) (kM:=bG (List.replicate c' z)) (p8:=none) (A1:=A) (B':=B.new (.row (bG (List.replicate c' z)) n true none)) h rfl (fun _ _ e=>.inl e) (fun _ _ _ _ _ _ _=>⟨id,fun _ _ _ _ _ _=>id⟩) (fun _ e=>e.elim) (fun _ e=>e.elim) (.inr (aH _)) (by simp) (by simp [hn]) (fun _ _ e=>by simp at e)
   (fun y hy _=>.inl (by rw [St.cS,ak (by omega)])) (fun _ e=>e.elim) (fun q y hy=>.inl (by simpa using hy)) (fun q _=>by simp) (by simp) (fun g hg=>by rw [St.iA]; exact h.fresh g (by rw [St.b7] at hg; omega)) (fun g y hy=>by rw [St.iA] at hy; rw [St.b7]; have:=h.mem g y hy; omega)
   (by omega) ⟨by rw [ML]; simp,fun i hi=>by rw [ML,eX,List.getElem?_replicate,aI hi]; rfl,by
    rw [ML];exact oe fun i x hx=>by rw [List.getElem?_replicate] at hx; split at hx <;> simp at hx; subst hx; exact he⟩ (by
    rw [ML];generalize c' = m
    induction m with
    | zero=>exact .nil
    | succ m ih=>exact .cons (VK.ff z).dy ih) (by rw [hn]; exact kq hs)
  refine ⟨.row (fe z.cells.toList c') n true none,fun k=>.slice (some ⟨k,0,none⟩) l' c',E.C5 A.next (B.next,(bG (List.replicate c' z)).length,c'),?_,?_,?_⟩
  ·have h5:Nat.ble (b * c') 281474976710656=true:=h5
   show cond (Nat.ble l' c'&&Nat.ble (b * c') 281474976710656) _ _=_;rw [h6,h5];rfl
  ·exact ae6 Env.ye (by omega) (by show l'<=c'; omega) (by rw [hn,hlen])
  ·rw [y9]; exact eK
 ·exact hg.elim
theorem age {e:TypeId} {n len:Nat} {z:Value} {is:List Nat} (hn:(aX P e).ks.length=n) (h1n:1<=n) (hz:z.cells.size=n) (hb:Bc len is=true) :
  ab4 P (Ti (aX P e) e (K.dy (aX P e) (ff z)) len is) (pf n z len is):=by
 intro E A A' B vs us v h hv hg;unfold Ti at hg;obtain ⟨hc,hg⟩:=aK.cond hg;simp only [au] at hc;obtain ⟨⟨hk,hvs⟩,y8⟩:=hc;have hg:(KV.al e A.next 0 len,A.new (.arr (.ts e .any len _ _)))=(v,A'):=hg;simp only [dJ] at hg;obtain ⟨rfl,rfl⟩:=hg;have XR:VK P E (K.dy (aX P e) (ff z)) z:=(VK.ff z).dy;have hrel:=TA (l:=aX P e) (is:=is) hv (MF XR len);have hlen:(DL (cY [K.dy (aX P e) (ff z)] len) ((vw is vs).map fun p=>(p.1,K.dy (aX P e) p.2))).length=len:=by
  rw [Jz,wI]; simp
 have af7:∀ p∈zipIdx is us,p.2.cells.size=n/\p.1 < (List.replicate len z).length:=by
  intro p hp;obtain ⟨h5,h6⟩:=af6 us hb p hp;have hm:ba P E (vs.map (K.dy (aX P e))) us:=XQ hv;exact ⟨by rw [<- hn]; exact (kT hvs hm p.2 h6).1,by simpa using h5⟩
 obtain ⟨h3,h4⟩:=Ty h1n (ps:=zipIdx is us) (es:=List.replicate len z) (fun u hu=>by rw [(List.mem_replicate.1 hu).2]; exact hz) af7;have rE:=kT y8 hrel;have kh:(bG (oY (List.replicate len z) (zipIdx is us))).all scalar=true:=eM.2 (vZ fun u hu=>(rE u hu).2);have kf:(oY (List.replicate len z) (zipIdx is us)).length=len:=by rw [Jy]; simp
 have eK:=df.Rf (P:=P) (X:=fun _=>False) (G:=fun _=>False) (y2:=B.next) (N2:=len) (T:=e) (mV:=DL (cY [K.dy (aX P e) (ff z)] len) ((vw is vs).map fun p=>(p.1,K.dy (aX P e) p.2))) (iC:=lU _) (C2:=oY (List.replicate len z) (zipIdx is us)) (kM:=bG (oY (List.replicate len z) (zipIdx is us))) (p8:=none) (A1:=A) (B':=B.new (.row (bG (oY (List.replicate len z) (zipIdx is us))) n true none)) h rfl (fun _ _ e=>.inl e) (fun _ _ _ _ _ _ _=>⟨id,fun _ _ _ _ _ _=>id⟩) (fun _ e=>e.elim) (fun _ e=>e.elim) (.inr (aH _)) (by simp) (by simp [bf,hn]) (fun _ _ e=>by simp at e)
  (fun y hy _=>.inl (by rw [St.cS,ak (by omega)])) (fun _ e=>e.elim) (fun q y hy=>.inl (by simpa using hy)) (fun q _=>by simp) (by simp) (fun g hg=>by rw [St.iA]; exact h.fresh g (by rw [St.b7] at hg; omega)) (fun g y hy=>by rw [St.iA] at hy; rw [St.b7]; have:=h.mem g y hy; omega)
  (by unfold bf; omega) ⟨hlen.symm,fun i _=>rfl,y8⟩ hrel (by unfold bf; rw [hn]; exact kq h4)
 refine ⟨.row (bG (oY (List.replicate len z) (zipIdx is us))) n true none,fun b=>.slice (some ⟨b,0,none⟩) len len,E.C5 A.next (B.next,(bG (oY (List.replicate len z) (zipIdx is us))).length,len),?_,?_,eK⟩
 ·unfold pf
  rw [y9,h3];simp only [dz];rw [kh,Gx hv hk];rfl
 ·exact ae6 Env.ye (aH _) (aH _) (by unfold bf; rw [hn,gz h4,kf])
theorem amL {T b n:Nat} {z:Value} (hn:bf P T=n) (_:1<=n) (hz:z.cells.size=n) (he:cl (aX P T) (K.dy (aX P T) (ff z))=true):anR P (afY T b (K.dy (aX P T) (ff z))) (C0 n b z):=by
 intro E A B vs us v h hv hg;unfold afY at hg;split at hg
 ·rename_i k l k' c
  obtain ⟨x,y,rfl,h1,h2⟩:=hv.ju;have:=h1.cD; subst this;have:=h2.cD; subst this;obtain ⟨hc,hg⟩:=aK.jt hg;subst hg;simp only [au,lR] at hc;obtain ⟨⟨h3,h4⟩,h5⟩:=hc;obtain ⟨l',rfl⟩:=Int.eq_ofNat_of_zero_le h3;obtain ⟨c',rfl⟩:=Int.eq_ofNat_of_zero_le (Int.le_trans h3 h4);have Fs:l'<=c':=by omega
  have h6:Nat.ble l' c' = true:=Nat.ble_eq_true_of_le Fs;have hs:∀ v∈List.replicate c' z,v.cells.size=n:=fun v hv=>by rw [List.eq_of_mem_replicate hv]; exact hz
  have ML:∀ m,cY [K.dy (aX P T) (ff z)] m=List.replicate m (K.dy (aX P T) (ff z)):=fun m=>by
   induction m with
   | zero=>rfl
   | succ m ih=>simp [cY,ih,List.replicate_succ]
  have hrel:∀ m,ba P E (List.replicate m (K.dy (aX P T) (ff z))) (List.replicate m z):=fun m=>by
   induction m with
   | zero=>exact .nil
   | succ m ih=>exact .cons (VK.ff z).dy ih
  refine ⟨.row (fe z.cells.toList c') n true none,fun k=>.slice (some ⟨k,0,none⟩) l' c',E.eZ B.next ⟨bG (List.replicate c' z),n,true,none⟩,?_,?_,?_⟩
  ·have h5:Nat.ble (b * c') 281474976710656=true:=h5
   show cond (Nat.ble l' c'&&Nat.ble (b * c') 281474976710656) _ _=_;rw [h6,h5];rfl
  ·have aj5:=(hrel l').mono (df.ahI (bV:=bG (List.replicate c' z)) (bH:=n) h).le
   simp only [VK];refine ⟨⟨by rw [ML]; simp,fun i hi=>by rw [ML,eX,List.getElem?_replicate,aI hi]; rfl,by
    rw [ML];exact oe fun i x hx=>by rw [List.getElem?_replicate] at hx; split at hx <;> simp at hx; subst hx; exact he⟩,List.replicate l' z,by rw [ML]; exact aj5,some ⟨B.next,0,none⟩,c',rfl,Fs,.inr ⟨B.next,0,⟨bG (List.replicate c' z),n,true,none⟩,rfl,by simp [Env.eZ],hn.symm,?_⟩,trivial⟩
   rw [hn];intro i x hx;rw [List.getElem?_replicate] at hx;split at hx
   ·rename_i hi
    refine kq hs i x ?_;rw [List.getElem?_replicate,aI (by have hi:i < l':=hi; omega)];exact hx
   ·simp at hx
  ·rw [y9]; exact df.ahI h
 ·exact hg.elim
theorem XV {sz:Nat} {cs:List Value} {xs ys:List Value} (h:nG sz 0 cs xs) (k:nG sz (xs.length * sz) cs ys):nG sz 0 cs (xs++ys):=fun i x hi=>by
 by_cases bh:i < xs.length
 ·rw [oM bh] at hi; exact h i x hi
 ·rw [qd (by omega)] at hi
  obtain ⟨h1,h2⟩:=k _ x hi;refine ⟨h1,fun j y hy=>?_⟩;rw [<- h2 j y hy];congr 1;have:i * sz=xs.length * sz+(i - xs.length) * sz:=by rw [<- Nat.add_mul]; congr 1; omega
  omega
theorem Zp {sz o:Nat} {cs r news:List Value} (hs:∀ v∈news,v.cells.size=sz) (hw:fV (o * sz) cs (bG news)=some r):nG sz (o * sz) r news:=fun i x hi=>by
 have Kt:=kq hs i x hi;have hlen:=gz hs;obtain ⟨_,_,h3⟩:=fX hw;refine ⟨Kt.1,fun k y hy=>?_⟩;have h4:=Kt.2 k y hy;rw [bp] at h4;rw [h3,aI ⟨by omega,by have:=(cP.1 h4).1; omega⟩,<- h4];congr 1;omega
theorem acd {sz o:Nat} {cs r vs es:List Value} (hl:nG sz 0 cs es) (ho:es.length<=o) (hw:fV (o * sz) cs vs=some r) (_:1<=sz):nG sz 0 r es:=fun i x hi=>by
 obtain ⟨h1,h2⟩:=hl i x hi;obtain ⟨_,_,h3⟩:=fX hw;refine ⟨h1,fun k y hy=>?_⟩;have hk:k < sz:=by have:=(rA.1 hy).1; omega
 have hi':=(cP.1 hi).1;have bh:0+i * sz+k < o * sz:=by
  have:(i+1) * sz<=o * sz:=Nat.mul_le_mul_right _ (by omega);rw [Nat.add_mul] at this;omega
 rw [h3,ak (by omega)];exact h2 k y hy
theorem akc {A:ao} {B:St} {f:Nat} {o0:ik} (h:dU P E A B) (hA:A.get f=some o0):∀ c o,(A.put f .dead).get c=some o->A.get c=some o\/(o = .dead/\c < A.next):=fun c o hc=>by
 rw [ao.b5] at hc;split at hc
 ·rename_i e; simp at hc; subst hc e; exact .inr ⟨rfl,h.live _ _ hA⟩
 ·exact .inl hc
theorem Vt {B:St} {g k:Nat} {c:List Value} {n:Nat} (_:g<=B.next):(∀ x,(B.grow g k c n).get x=if x=B.next then some (.row c n true (some (g,k))) else B.get x)/\(∀ q,(B.grow g k c n).members q=if q=g then B.next::B.members g else B.members q)/\(B.grow g k c n).next=B.next+1:=
 ⟨fun x=>by simp [St.grow],fun q=>by simp [St.grow,St.Cu],rfl⟩
theorem ace {e b:Nat} {E:Env} {A A' : ao} {B:St} {x v:KV} {u w:Value} {e' : TypeId} {mk:Mk} {k:Nat} {new:List KV} {acc:Nat->KV} (tj:1<=bf P e) (h:dU P E A B) (h1:VK P E x u)
  (hsr:Nat.beq e e' = true->∃ bo,Src P E B e' k new acc w bo) (hg:aK (F7 e b A [x,.ts e' mk k new acc]) (v,A')):∃ r B' E',jr (bf P e) b B [u,w] = some (r,B')/\VK P E' v r/\df P E A B E' A' B':=by
 have put:∀ (A1:ao) (m:Nat) (base:List KV) (ab:Nat->KV) (more:Bool) (A2:ao) (v:KV),aK (aaY e b m base ab A1 k new acc more) (v,A2)->
   (more=true/\Nat.ble ((m+k) * b) 140737488355328=true/\Nat.ble (m+k) 17592186044416=true)/\v = .al e A1.next 0 (m+k)/\A2=A1.new (.arr (.ts e .any (m+k) (base++new) (dw m ab acc))):=by
  intro A1 m base ab more A2 v hp;obtain ⟨hc,hp⟩:=aK.jt hp;simp only [alB,au] at hc;simp only [dJ] at hp;exact ⟨⟨hc.1,hc.2.1,hc.2.2⟩,hp.1.symm,hp.2.symm⟩
 have nil:∀ (A1:ao) (base:List KV) (ab:Nat->KV),base = []->A1.next=A.next->(∀ c o,A1.get c=some o->A.get c=some o\/(o = .dead/\c < A.next))->(∃ bo,Src P E B e k new acc w bo)->Nat.ble ((0+k) * b) 140737488355328=true->Nat.ble (0+k) 17592186044416=true->
   ∃ r B' E',jr (bf P e) b B [.slice none 0 0,w] = some (r,B')/\VK P E' (.al e A.next 0 (0+k)) r/\df P E A B E' (A1.new (.arr (.ts e .any (0+k) (base++new) (dw 0 ab acc)))) B':=by
  intro A1 base ab MK Xt hr1 ⟨cB,iV⟩ DH sS;subst MK;have hj:gL P e (0+k) ([]++new) (dw 0 ab acc):=(gL.none (P:=P) (T:=e) (g:=ab)).join iV.tree;cases k with
  | zero=>
   have th:new = []:=mW.1 iV.tree.len.symm;subst th;refine ⟨.slice none 0 0,B,E,?_,.R9 (.inl ⟨rfl,rfl,rfl⟩),df.api h Xt hr1 tj⟩;simp only [jr,iV.len,dz,iV.all];rfl
  | succ k=>
   obtain ⟨g1,g2,g3⟩:=Vt (B:=B) (g:=B.next) (k:=0) (c:=bG cB) (n:=bf P e) (aH _);have hlen:(bG cB).length=(k+1) * bf P e:=by rw [gz iV.size,iV.length]
   refine ⟨.slice (some ⟨B.next,0,none⟩) (k+1) (k+1),B.grow B.next 0 (bG cB) (bf P e),E.C5 A.next (B.next,(bG cB).length,0+(k+1)),?_,?_,?_⟩
   ·simp only [bp] at DH sS
    simp only [jr,iV.len,dz,bp];rw [show Nat.ble (k+1) 0=false from rfl,aF,DH,sS,iV.all];rfl
   ·rw [bp]; exact ae6 Env.ye (aH _) (by omega) (by rw [hlen])
   ·generalize B.grow B.next 0 (bG cB) (bf P e)=B' at g1 g2 g3
    exact df.Rf (X:=fun _=>False) (G:=fun _=>False) (y2:=B.next) (p8:=some (B.next,0)) h Xt hr1 (fun _ _ _ _ _ _ _=>⟨id,fun _ _ _ _ _ _=>id⟩) (fun _ e=>e.elim) (fun _ e=>e.elim) (.inr (aH _)) (by omega) (by rw [g1,aI rfl]) (fun g k e=>by simp at e; exact .inr (by omega))
     (fun y hy _=>.inl (by rw [g1,ak (by omega)])) (fun _ e=>e.elim) (fun q y hy=>by
      rw [g2] at hy;split at hy
      ·rename_i e
       subst e;rcases dv.1 hy with hy | hy
       ·exact .inr ⟨hy,aH _,0,rfl⟩
       ·exact .inl hy
      ·exact .inl hy) (fun q hq=>by rw [g2,ak (fun e=>hq 0 (by rw [e]))]) (by omega) (fun g hg=>by rw [g2,ak (by omega)]; exact h.fresh g (by omega)) (fun g y hy=>by
      rw [g2] at hy;split at hy
      ·rcases dv.1 hy with hy | hy
       ·omega
       ·have:=h.mem _ y hy; omega
      ·have:=h.mem g y hy; omega) tj hj (by simpa using iV.rel) (kq iV.size)
 unfold F7 at hg;split at hg
 ·rename_i e9 mk9 k9 alM alN heq
  simp only [List.cons.injEq,KV.ts.injEq,and_true] at heq;obtain ⟨rfl,rfl,rfl,rfl,rfl,rfl⟩:=heq;have:=h1.nt; subst this;obtain ⟨he,XR⟩:=hg.cond;have iV:=hsr he;have:=aW he;subst this;obtain ⟨⟨_,DH,sS⟩,rfl,rfl⟩:=put _ _ _ _ _ _ _ XR;exact nil A [] l7 rfl rfl (fun _ _ e=>.inl e) iV DH sS
 ·rename_i e1 f o n e9 mk9 k9 alM alN heq
  simp only [List.cons.injEq,KV.ts.injEq,and_true] at heq;obtain ⟨rfl,rfl,rfl,rfl,rfl,rfl⟩:=heq;split at hg
  ·rename_i e2 mk2 N es ac hf
   obtain ⟨he,XR⟩:=hg.cond;simp only [au] at he;obtain ⟨cB,iV⟩:=hsr he.1.1;have:=aW he.1.1;subst this;have:=aW he.1.2;subst this;have:=aW he.2;subst this;obtain ⟨⟨ho,DH,sS⟩,rfl,rfl⟩:=put _ _ _ _ _ _ _ XR;have:=aW ho;subst this;have MH:=akc h hf;rcases h1.uO with ⟨rfl,_,rfl⟩ | ⟨x,L,N0,c,h2,rfl,h3,h4,h5⟩
   ·exact nil (A.put f .dead) (es.take 0) ac (by simp) rfl MH ⟨cB,iV⟩ DH sS
   ·obtain ⟨T2,N2,mV,iC,e2,ht,_,vB⟩:=h.ar.arr f _ hf
    simp only [KV.ts.injEq] at e2;obtain ⟨rfl,rfl,rfl,rfl,rfl⟩:=e2;rcases vB with ⟨_,e2⟩ | ⟨x2,cs,bQ,bo,e2,h6,h7,h8⟩
    ·rw [h2] at e2; simp at e2
    rw [h2] at e2;simp only [cJ,dJ] at e2;obtain ⟨rfl,rfl,rfl⟩:=e2;have pU:AR A E x:=⟨f,_,_,_,hf,h2⟩
    have hxlt:x < B.next:=h.Ih pU;have XU:bo.length=N0:=by rw [h7.length]; exact ht.len.symm
    have hs:=kT ht.typed h7;have htk:gL P e n (es.take n) ac:=⟨by rw [kG,<- ht.len]; omega,fun i hi=>by rw [ht.acc i (by omega),eX,eX,mz,aI hi],oe fun i x hi=>by
     rw [mz] at hi;split at hi
     ·exact gM ht.typed hi
     ·simp at hi⟩
    have hj:=htk.join iV.tree;have OZ:(bo.take n).length=n:=by rw [kG]; omega
    have aro:∀ v∈bo.take n,v.cells.size=bf P e:=fun v hv=>(hs v (List.mem_of_mem_take hv)).1;have hrel:=(h7.take n).append iV.rel;have h5:c * bf P e=cs.length:=by simpa using h5
    have oO:∀ c v,(A.put f .dead).get c=some (.arr v)->c≠f/\A.get c=some (.arr v):=fun c v hc=>by
     rw [ao.b5] at hc;split at hc
     ·simp at hc
     ·rename_i e; exact ⟨e,hc⟩
    have hf1:∀ c v,(A.put f .dead).get c=some (.arr v)->∀ y L N,E.α c=some (y,L,N)->¬ (y=x)/\∀ nQ e1 own g k1,B.get y=some (.row nQ e1 own (some (g,k1)))->¬ (∃ k,bQ=some (g,k)):=fun c v hc y L N hy=>by
     obtain ⟨cH,hc⟩:=oO c v hc;refine ⟨fun e=>cH (h.ar.inj c f v _ x L N _ _ hc hf (by rw [<- e]; exact hy) h2),fun nQ e1 own g k1 hr ⟨k2,hk⟩=>?_⟩;rw [hk] at h6;exact cH (h.ar.tg c f v _ y x L N _ _ _ _ _ g k1 _ _ _ k2 hc hf hy h2 hr h6)
    have hf3:∀ g,(∃ k,bQ=some (g,k))->AF A E B g/\g < B.next/\(∀ f,E.φ f≠some g)/\∀ y∈B.members g,¬ (y=x)->E.z y=none/\¬ AR A E y/\∀ c,E.κ c≠some y:=fun g ⟨k2,hk⟩=>by
     rw [hk] at h6;obtain ⟨q1,q2,q3⟩:=h.ar.rq f _ x _ _ _ _ _ g k2 hf h2 h6;exact ⟨⟨f,_,x,_,_,_,_,_,k2,hf,h2,h6⟩,q1,q2,fun y hy cH=>q3 y hy cH⟩
    have alO:cO (⟨x,0 * bf P e,none⟩:Addr)=true:=rfl;by_cases mK:n+k<=c
    ·
     have hle:n * bf P e+(bG cB).length<=cs.length:=by
      rw [gz iV.size,iV.length,<- h5,<- Nat.add_mul];exact Nat.mul_le_mul_right _ mK
     obtain ⟨kM,hw⟩:=za (n * bf P e) cs (bG cB) hle;have hcl:kM.length=cs.length:=(fX hw).1;have hsc:(bG cB).all scalar=true:=eM.2 (vZ fun v hv=>(kT iV.tree.typed iV.rel v hv).2);have hb:Nat.ble (n+k) c=true:=Nat.ble_eq_true_of_le mK;have key:∃ B' : St,jr (bf P e) b B [.slice (some ⟨x,0 * bf P e,none⟩) n c,w] = some (.slice (some ⟨x,0 * bf P e,none⟩) (n+k) c,B')/\B'.get x=some (.row kM (bf P e) true bQ)/\
       (∀ y,y≠x->B'.get y=B.get y\/(B'.get y=some .dead/\∃ g,(∃ k,bQ=some (g,k))/\y∈B.members g))/\B'.members=B.members/\B'.next=B.next:=by
      cases tI:Nat.beq k 0 with
      | true=>
       have OW:cB = []:=mW.1 (by rw [iV.length]; exact aW tI);have Jp:kM=cs:=by
        rw [OW] at hw;refine List.ext_getElem? fun i=>?_;rw [(fX hw).2.2 i,ak (by simp [bG])]
       refine ⟨B,?_,by rw [Jp]; exact h6,fun _ _=>.inl rfl,rfl,rfl⟩;simp only [jr,iV.len,dz,hb,aj,iV.all,alO,tI]
      | false=>
       refine ⟨(B.put x (.row kM (bf P e) true bQ)).eR x bQ (n * bf P e) (n * bf P e+(bG cB).length),?_,?_,?_,by rw [KO]; simp,by rw [Se]; simp⟩
       ·simp only [jr,iV.len,dz,hb,aj,aF,iV.all,alO,tI]
        simp only [St.wF,cO,Option.isNone_none,wD,hsc,aj,Nat.zero_mul,bp,h6,hw,Option.map_some]
       ·rcases FB (B:=B.put x (.row kM (bf P e) true bQ)) (x:=x) (y:=x) (lo:=n * bf P e) (hi:=n * bf P e+(bG cB).length) (bQ:=bQ) with e | ⟨g,k,_,_,h3,_⟩
        ·rw [e]; simp
        ·exact absurd rfl h3
       ·intro y hy
        rcases FB (B:=B.put x (.row kM (bf P e) true bQ)) (x:=x) (y:=y) (lo:=n * bf P e) (hi:=n * bf P e+(bG cB).length) (bQ:=bQ) with e | ⟨g,k,h1,h2,_,h4,_⟩
        ·exact .inl (by rw [e,St.b5,ak hy])
        ·exact .inr ⟨h4,g,⟨k,h1⟩,by simpa using h2⟩
     obtain ⟨B',j5,iQ,hgy,lx,gE⟩:=key;refine ⟨_,B',E.C5 A.next (x,kM.length,n+k),j5,?_,?_⟩
     ·rw [Nat.zero_mul]; exact ae6 Env.ye mK (aH _) (by rw [hcl]; exact h5)
     ·
      have hli:nG (bf P e) 0 kM (bo.take n++cB):=XV (acd (h8.take n) (by omega) hw tj) (by rw [OZ]; exact Zp iV.size hw);exact df.Rf (A1:=A.put f .dead) (X:=fun y=>y=x) (G:=fun g=>∃ k,bQ=some (g,k)) (y2:=x) (p8:=bQ) h rfl MH hf1 (fun y hy=>by rw [hy]; exact pU) hf3 (.inl rfl) (by omega) iQ (fun g k hk=>.inl ⟨k,hk⟩)
       (fun y _ cH=>hgy y cH) (fun y hy nQ e1 own Vs hr=>by
        rw [hy,iQ] at hr;simp at hr;obtain ⟨rfl,rfl,rfl,rfl⟩:=hr;rw [hy];exact ⟨cs,h6,hcl.symm⟩) (fun q y hy=>.inl (by rw [lx] at hy; exact hy)) (fun q _=>by rw [lx]) (by omega) (fun g hg=>by rw [lx]; exact h.fresh g (by omega)) (fun g y hy=>by rw [lx] at hy; rw [gE]; exact h.mem g y hy) tj hj hrel hli
    ·
     have hb:Nat.ble (n+k) c=false:=by
      cases hq:Nat.ble (n+k) c with
      | false=>rfl
      | true=>exact absurd (dI hq) mK
     have hex:sF B (bf P e) c (some ⟨x,0 * bf P e,none⟩)=true:=by
      simp only [sF,h6];cases bQ with
      | none=>simp [h5]
      | some p=>rfl
     have hold:B.vz ⟨x,0 * bf P e,none⟩ (n * bf P e)=some (bG (bo.take n)):=by
      have:=MI (B:=B) (b:=x) (off:=0) (n:=n) (sz:=bf P e) (r:=⟨cs,bf P e,true,bQ⟩) (bo:=bo.take n) h6 (h8.take n) OZ tj;simpa using this
     have akd:∀ v∈bo.take n++cB,v.cells.size=bf P e:=fun v hv=>by
      rcases iW.1 hv with hv | hv
      ·exact aro v hv
      ·exact iV.size v hv
     have hlen:(bG (bo.take n++cB)).length=(n+k) * bf P e:=by rw [gz akd,kF,OZ,iV.length]
     cases bQ with
     | none=>
      obtain ⟨g1,g2,g3⟩:=Vt (B:=B) (g:=B.next) (k:=0) (c:=bG (bo.take n++cB)) (n:=bf P e) (aH _);refine ⟨.slice (some ⟨B.next,0,none⟩) (n+k) (n+k),B.grow B.next 0 (bG (bo.take n++cB)) (bf P e),E.C5 A.next (B.next,(bG (bo.take n++cB)).length,n+k),?_,?_,?_⟩
      ·simp only [jr,iV.len,dz,hb,aF,DH,sS,hex,cg,aj,iV.all]
       simp only [Gk,cO,Option.isNone_none,aj,hold,dz,h6,tf,<- vY]
      ·exact ae6 Env.ye (aH _) (aH _) (by rw [hlen])
      ·generalize B.grow B.next 0 (bG (bo.take n++cB)) (bf P e)=B' at g1 g2 g3
       exact df.Rf (A1:=A.put f .dead) (X:=fun _=>False) (G:=fun _=>False) (y2:=B.next) (p8:=some (B.next,0)) h rfl MH (fun _ _ _ _ _ _ _=>⟨id,fun _ _ _ _ _ _=>id⟩) (fun _ e=>e.elim) (fun _ e=>e.elim) (.inr (aH _)) (by omega) (by rw [g1,aI rfl]) (fun g k e=>by simp at e; exact .inr (by omega))
        (fun y hy _=>.inl (by rw [g1,ak (by omega)])) (fun _ e=>e.elim) (fun q y hy=>by
         rw [g2] at hy;split at hy
         ·rename_i e
          subst e;rcases dv.1 hy with hy | hy
          ·exact .inr ⟨hy,aH _,0,rfl⟩
          ·exact .inl hy
         ·exact .inl hy) (fun q hq=>by rw [g2,ak (fun e=>hq 0 (by rw [e]))]) (by omega) (fun g hg=>by rw [g2,ak (by omega)]; exact h.fresh g (by omega)) (fun g y hy=>by
         rw [g2] at hy;split at hy
         ·rcases dv.1 hy with hy | hy
          ·omega
          ·have:=h.mem _ y hy; omega
         ·have:=h.mem g y hy; omega) tj hj hrel (kq akd)
     | some p=>
      obtain ⟨g,k0⟩:=p;have hgB:g < B.next:=(hf3 g ⟨k0,rfl⟩).2.1;have kg:∀ y,(B.kill B.next (k0+(0+n * bf P e)) (k0+(0+n * bf P e)+(bG cB).length) (B.members g)).get y=B.get y\/((B.kill B.next (k0+(0+n * bf P e)) (k0+(0+n * bf P e)+(bG cB).length) (B.members g)).get y=some .dead/\y∈B.members g):=fun y=>by
       rw [A8];by_cases hc:y∈B.members g/\y≠B.next/\ov (B.get y) (k0+(0+n * bf P e)) (k0+(0+n * bf P e)+(bG cB).length)=true
       ·exact .inr ⟨by rw [aI hc],hc.1⟩
       ·exact .inl (by rw [ak hc])
      have km:(B.kill B.next (k0+(0+n * bf P e)) (k0+(0+n * bf P e)+(bG cB).length) (B.members g)).members=B.members:=by simp
      have kn:(B.kill B.next (k0+(0+n * bf P e)) (k0+(0+n * bf P e)+(bG cB).length) (B.members g)).next=B.next:=by simp
      obtain ⟨g1,g2,g3⟩:=Vt (B:=B.kill B.next (k0+(0+n * bf P e)) (k0+(0+n * bf P e)+(bG cB).length) (B.members g)) (g:=g) (k:=k0+0) (c:=bG (bo.take n++cB)) (n:=bf P e) (by omega);rw [kn] at g3;have g1:∀ y,y≠B.next->_:=fun y hy=>(g1 y).trans (ak (by rw [kn]; exact hy));have g1':=(Vt (B:=B.kill B.next (k0+(0+n * bf P e)) (k0+(0+n * bf P e)+(bG cB).length) (B.members g)) (g:=g) (k:=k0+0) (c:=bG (bo.take n++cB)) (n:=bf P e) (by omega)).1 B.next;rw [kn,aI rfl] at g1';simp only [km,kn] at g2;refine ⟨.slice (some ⟨B.next,0,none⟩) (n+k) (n+k),(B.kill B.next (k0+(0+n * bf P e)) (k0+(0+n * bf P e)+(bG cB).length) (B.members g)).grow g (k0+0) (bG (bo.take n++cB)) (bf P e),E.C5 A.next (B.next,(bG (bo.take n++cB)).length,n+k),?_,?_,?_⟩
      ·simp only [jr,iV.len,dz,hb,aF,DH,sS,hex,cg,aj,iV.all]
       have agd:=hold;rw [Nat.zero_mul] at agd;simp only [Gk,cO,Option.isNone_none,aj,Nat.zero_mul,agd,dz,h6,tf,<- vY]
      ·exact ae6 Env.ye (aH _) (aH _) (by rw [hlen])
      ·generalize (B.kill B.next (k0+(0+n * bf P e)) (k0+(0+n * bf P e)+(bG cB).length) (B.members g)).grow g (k0+0) (bG (bo.take n++cB)) (bf P e)=B' at g1 g1' g2 g3
       have gy:∀ y,y≠B.next->B'.get y=B.get y\/(B'.get y=some .dead/\y∈B.members g):=fun y hy=>by
        rw [g1 y hy]; exact kg y
       exact df.Rf (A1:=A.put f .dead) (X:=fun y=>y=x) (G:=fun q=>∃ k,some (g,k0)=some (q,k)) (y2:=B.next) (p8:=some (g,k0+0)) h rfl MH hf1 (fun y hy=>by rw [hy]; exact pU) hf3 (.inr (aH _)) (by omega) g1' (fun q k e=>by simp at e; exact .inl ⟨k0,by rw [e.1]⟩)
        (fun y hy _=>(gy y (by omega)).imp id fun ⟨q1,q2⟩=>⟨q1,g,⟨k0,rfl⟩,q2⟩) (fun y hy nQ e1 own Vs hr=>by
         have hy:y=x:=hy;rcases gy y (by omega) with q | ⟨q,_⟩
         ·rw [q] at hr; exact ⟨nQ,hr,rfl⟩
         ·rw [q] at hr; simp at hr) (fun q y hy=>by
         rw [g2] at hy;split at hy
         ·rename_i e
          subst e;rcases dv.1 hy with hy | hy
          ·exact .inr ⟨hy,aH _,k0+0,rfl⟩
          ·exact .inl hy
         ·exact .inl hy) (fun q hq=>by rw [g2,ak (fun e=>hq (k0+0) (by rw [e]))]) (by omega) (fun q hq=>by rw [g2,ak (by omega)]; exact h.fresh q (by omega)) (fun q y hy=>by
         rw [g2] at hy;split at hy
         ·rcases dv.1 hy with hy | hy
          ·omega
          ·have:=h.mem _ y hy; omega
         ·have:=h.mem q y hy; omega) tj hj hrel (kq akd)
  ·exact hg.elim
 ·exact hg.elim
theorem df.aqA {A:ao} {B:St} {b:Nat} {v2:KV} (h:dU P E A B) (hb:∃ v,A.get b=some (.arr v)) (cQ:abT P E B b v2):df P E A B E (A.put b (.arr v2)) B:=by
 obtain ⟨v0,hb⟩:=hb;have iZ:∀ c o,(A.put b (.arr v2)).get c=some o->(c=b/\o = .arr v2)\/A.get c=some o:=fun c o hc=>by
  rw [ao.b5] at hc;split at hc
  ·rename_i e; simp at hc; exact .inl ⟨e,hc.symm⟩
  ·exact .inr hc
 have hA:∀ c v,(A.put b (.arr v2)).get c=some (.arr v)->∃ u,A.get c=some (.arr u):=fun c v hc=>by
  rcases iZ c _ hc with ⟨e,_⟩ | e
  ·exact ⟨v0,by rw [e]; exact hb⟩
  ·exact ⟨v,e⟩
 have pU:∀ y,AR (A.put b (.arr v2)) E y->AR A E y:=fun y ⟨c,v,L,N,h1,h2⟩=>by
  obtain ⟨u,hu⟩:=hA c v h1;exact ⟨c,u,L,N,hu,h2⟩
 have JA:∀ g,AF (A.put b (.arr v2)) E B g->AF A E B g:=fun g ⟨c,v,x,L,N,cs,e,own,k,h1,h2,h3⟩=>by
  obtain ⟨u,hu⟩:=hA c v h1;exact ⟨c,u,x,L,N,cs,e,own,k,hu,h2,h3⟩
 refine ⟨⟨fun c cs bH hc=>?_,fun c top sz hc=>?_,h.z,h.apart,h.inj,?_,h.jx,h.kQ,fun c o hc=>?_,h.fk,h.kR,h.iR,h.fresh,h.mem,?_⟩,Env.le_refl _,aH _,fun _ _ _ _=>rfl,fun _ _ e=>.inl e,fun _ _ e=>.inl e,fun _ _ e=>.inl e,fun _ _ _ _=>rfl,fun x q=>.inl (pU x q),fun g q=>.inl (JA g q),fun _ _ q=>.inl q,fun y q=>.inl (q.imp (pU y) fun ⟨g,q1,q2⟩=>⟨g,JA g q1,q2⟩),kS fun _ _=>rfl⟩
 ·rcases iZ c _ hc with ⟨_,e⟩ | e
  ·simp at e
  ·exact h.row c cs bH e
 ·rcases iZ c _ hc with ⟨_,e⟩ | e
  ·simp at e
  ·exact h.aQ c top sz e
 ·exact h.ib.put (.inl fun t s=>by simp)
 ·rw [ao.qv]
  rcases iZ c _ hc with ⟨e,_⟩ | e
  ·rw [e]; exact h.live b _ hb
  ·exact h.live c o e
 ·refine ⟨fun c v hc=>?_,fun c v hc=>?_,fun x q=>h.ar.z x (pU x q),fun c d v u x L N L' N' h1 h2 h3 h4=>?_,fun c d v u x y L N L' N' cs e own g k bV e' od k' h1 h2 h3 h4=>?_,h.ar.dis,h.ar.jx,h.ar.fk,fun c v x L N cs e own g k h1 h2 h3=>?_,fun c v hc=>?_⟩
  ·rcases iZ c _ hc with ⟨e,e2⟩ | e
   ·simp at e2; rw [e2,e]; exact cQ
   ·exact h.ar.arr c v e
  ·rcases iZ c _ hc with ⟨_,e⟩ | e
   ·simp at e
   ·exact h.ar.il c v e
  ·obtain ⟨v',h1⟩:=hA c v h1
   obtain ⟨u',h2⟩:=hA d u h2;exact h.ar.inj c d v' u' x L N L' N' h1 h2 h3 h4
  ·obtain ⟨v',h1⟩:=hA c v h1
   obtain ⟨u',h2⟩:=hA d u h2;exact h.ar.tg c d v' u' x y L N L' N' cs e own g k bV e' od k' h1 h2 h3 h4
  ·obtain ⟨v',h1⟩:=hA c v h1
   obtain ⟨q1,q2,q3⟩:=h.ar.rq c v' x L N cs e own g k h1 h2 h3;exact ⟨q1,q2,fun y hy cH=>⟨(q3 y hy cH).1,fun q=>(q3 y hy cH).2.1 (pU y q),(q3 y hy cH).2.2⟩⟩
  ·obtain ⟨v',h1⟩:=hA c v hc
   rw [ao.qv];exact h.ar.nk c v' h1
theorem acf {es new:List KV} {o:Nat} (h:o+new.length<=es.length):(yZ es o new).length=es.length:=by
 simp only [yZ,kF,kG,List.length_drop];omega
theorem ahR {es new:List KV} {o i:Nat} (h:o+new.length<=es.length):(yZ es o new)[i]? = if i < o then es[i]? else if i < o+new.length then new[i - o]? else es[i]?:=by
 unfold yZ;by_cases h1:i < o
 ·rw [aI h1,List.append_assoc,oM (by rw [kG]; omega),mz,aI h1]
 ·rw [ak h1]
  by_cases h2:i < o+new.length
  ·rw [aI h2,oM (by rw [kF,kG]; omega),qd (by rw [kG]; omega),kG]
   congr 1;omega
  ·rw [ak h2,qd (by rw [kF,kG]; omega),mX,kF,kG]
   congr 1;omega
theorem ae7 {T:TypeId} {N m o k:Nat} {es new:List KV} {acc an:Nat->KV} (ht:gL P T N es acc) (hn:gL P T m new an) (hk:k<=m) (ho:o+k<=N):gL P T N (yZ es o (new.take k)) (Q7 o k acc an):=by
 have hl:(new.take k).length=k:=by rw [kG,<- hn.len]; omega
 have mK:o+(new.take k).length<=es.length:=by rw [hl,<- ht.len]; exact ho
 have lY:=fun i=>ahR (i:=i) mK;rw [hl] at lY;refine ⟨by rw [acf mK]; exact ht.len,fun i hi=>?_,oe fun i x hx=>?_⟩
 ·rw [eX,lY]
  unfold Q7;by_cases h1:i < o
  ·rw [aI h1,show Nat.blt i o=true from bO ▸ h1,aj,ht.acc i hi,eX]
  ·have e1:Nat.blt i o=false:=by
    cases hb:Nat.blt i o with
    | false=>rfl
    | true=>exact absurd (bO ▸ hb) h1
   rw [ak h1,e1,aF];by_cases h2:i < o+k
   ·rw [aI h2,show Nat.blt i (o+k)=true from bO ▸ h2,aj,mz,aI (by omega),hn.acc (i - o) (by omega),eX]
   ·have e2:Nat.blt i (o+k)=false:=by
     cases hb:Nat.blt i (o+k) with
     | false=>rfl
     | true=>exact absurd (bO ▸ hb) h2
    rw [ak h2,e2,aF,ht.acc i hi,eX]
 ·rw [lY] at hx
  split at hx
  ·exact gM ht.typed hx
  ·split at hx
   ·rw [mz] at hx
    split at hx
    ·exact gM hn.typed hx
    ·simp at hx
   ·exact gM ht.typed hx
theorem ahS {sz o:Nat} {cs r vs es:List Value} (hl:nG sz (o * sz+vs.length) cs es) (hw:fV (o * sz) cs vs=some r):nG sz (o * sz+vs.length) r es:=fun i x hi=>by
 obtain ⟨h1,h2⟩:=hl i x hi;obtain ⟨_,_,h3⟩:=fX hw;exact ⟨h1,fun k y hy=>by rw [h3,ak (by omega)]; exact h2 k y hy⟩
theorem an1 {e n:Nat} (hn:bf P e=n) (h1n:1<=n):alG P (ajY e) (abm n):=by
 intro E A A' B vs us v h hv hg;unfold ajY at hg;split at hg
 ·rename_i e1 b o q y
  obtain ⟨u,w,rfl,h1,h2⟩:=hv.ju;split at hg
  ·rename_i e' mk m new an e2 mk2 N es acc hy hb
   obtain ⟨he,RA⟩:=hg.cond;clear hg;simp only [au] at he;have:=aW he.1.1;subst this;have:=aW he.1.2;subst this;have:=aW he.2;subst this;have tj:1<=bf P e:=by omega
   obtain ⟨cB,iV⟩:=alL h h2 hy tj;have RA:(KV.int .i64 (Nat.min m q:Nat),A.put b (.arr (.ts e .any N (yZ es o (new.take (Nat.min m q))) (Q7 o (Nat.min m q) acc an))))=(v,A'):=RA;simp only [dJ] at RA;obtain ⟨rfl,rfl⟩:=RA;obtain ⟨T2,N2,mV,iC,e2,ht,_,vB⟩:=h.ar.arr b _ hb;simp only [KV.ts.injEq] at e2;obtain ⟨rfl,rfl,rfl,rfl,rfl⟩:=e2;have Xj:Nat.min m q<=m:=Nat.min_le_left _ _;have hkq:Nat.min m q<=q:=Nat.min_le_right _ _;have hf:=iV.first _ Xj
   rw [hn] at hf;rcases h1.uO with ⟨rfl,rfl,rfl⟩ | ⟨x,L,N0,c,p2,rfl,p3,p4,p5⟩
   ·
    have tI:Nat.min m 0=0:=Nat.min_zero m;refine ⟨.int .i64 (Int.ofNat (Nat.min m 0)),B,E,?_,.mkInt,df.aqA h ⟨_,hb⟩ ?_⟩
    ·simp only [abm,iV.len,dz,hf]
    ·have hp:=ae7 (o:=0) ht iV.tree Xj (by rw [tI]; omega)
     refine ⟨_,_,_,_,rfl,hp,tj,?_⟩;have TC:yZ es 0 (new.take (Nat.min m 0))=es:=by rw [tI]; simp [yZ]
     rw [TC];exact vB
   ·rcases vB with ⟨_,e2⟩ | ⟨x2,cs,bQ,bo,e2,h6,h7,h8⟩
    ·rw [p2] at e2; simp at e2
    rw [p2] at e2;simp only [cJ,dJ] at e2;obtain ⟨rfl,rfl,rfl⟩:=e2;have XU:bo.length=N0:=by rw [h7.length]; exact ht.len.symm
    have eK:∀ v∈cB.take (Nat.min m q),v.cells.size=bf P e:=fun v hv=>iV.size v (List.mem_of_mem_take hv);have ap0:(cB.take (Nat.min m q)).length=Nat.min m q:=by rw [kG,iV.length]; exact Nat.min_eq_left Xj
    have Kt:(bG (cB.take (Nat.min m q))).length=Nat.min m q * bf P e:=by rw [gz eK,ap0]
    have hle:o * bf P e+(bG (cB.take (Nat.min m q))).length<=cs.length:=by
     rw [Kt,<- p5,<- Nat.add_mul];exact Nat.mul_le_mul_right _ (by omega)
    obtain ⟨kM,hw⟩:=za (o * bf P e) cs (bG (cB.take (Nat.min m q))) hle;have hcl:kM.length=cs.length:=(fX hw).1;have hsc:(bG (cB.take (Nat.min m q))).all scalar=true:=eM.2 (vZ fun v hv=>(kT iV.tree.typed iV.rel v (List.mem_of_mem_take hv)).2);have hp:=ae7 (o:=o) ht iV.tree Xj (by omega);have hon:(bo.take o).length=o:=by rw [kG]; omega
    have hrel:ba P E (yZ es o (new.take (Nat.min m q))) (bo.take o++cB.take (Nat.min m q)++bo.drop (o+Nat.min m q)):=by
     unfold yZ;have hlk:(new.take (Nat.min m q)).length=Nat.min m q:=by rw [kG,<- iV.tree.len]; exact Nat.min_eq_left Xj
     rw [hlk];exact ((h7.take o).append (iV.rel.take _)).append (h7.drop _)
    have hli:nG (bf P e) 0 kM (bo.take o++cB.take (Nat.min m q)++bo.drop (o+Nat.min m q)):=by
     refine XV (XV (acd (h8.take o) (by omega) hw tj) (by rw [hon]; exact Zp eK hw)) ?_;have e3:(bo.take o++cB.take (Nat.min m q)).length * bf P e=o * bf P e+(bG (cB.take (Nat.min m q))).length:=by rw [kF,hon,ap0,Kt,Nat.add_mul]
     rw [e3];refine ahS ?_ hw;have:=h8.drop (o+Nat.min m q);rw [bp,Nat.add_mul] at this;rw [Kt];exact this
    have eK:=df.alI (lo:=o * bf P e) (hi:=o * bf P e+(bG (cB.take (Nat.min m q))).length) h ⟨_,hb⟩ p2 h6 hcl tj hp hrel hli;refine ⟨.int .i64 (Int.ofNat (Nat.min m q)),_,E,?_,.mkInt,eK⟩;subst hn;simp only [abm,iV.len,dz,hf,St.wF,cO,Option.isNone_none,wD,hsc,aj,h6,hw,Option.map_some]
  ·exact hg.elim
 ·exact hg.elim
theorem ahT {e n b:Nat} {mt:Bool} (hn:bf P e=n) (h1n:1<=n):alG P (Kz e n b mt) (jr n b):=by
 intro E A A' B vs us v h hv hg;unfold Kz at hg;split at hg
 ·rename_i x y
  obtain ⟨u,w,rfl,h1,h2⟩:=hv.ju;split at hg
  ·rename_i y' hy
   have tj:1<=bf P e:=by omega
   have hts:∃ T m k es acc,y' = .ts T m k es acc:=by
    unfold O3 at hy;split at hy
    ·unfold afX at hy
     split at hy
     ·rename_i T' b' o' n' _ T2 _ _ mV iC _
      cases hb:Nat.beq T' T2 with
      | false=>rw [hb] at hy; simp at hy
      | true=>rw [hb,aj] at hy; simp only [cJ] at hy; exact ⟨_,_,_,_,_,hy.symm⟩
     ·simp at hy
    ·simp only [cJ] at hy; exact ⟨_,_,_,_,_,hy.symm⟩
    ·simp at hy
   obtain ⟨T,m,k,es,acc,rfl⟩:=hts;have hsr:Nat.beq e T=true->∃ bo,Src P E B T k es acc w bo:=fun he=>by
    have:=aW he;subst this;exact alL h h2 hy tj
   subst hn;cases hx:anN x with
   | true=>rw [hx,aj] at hg; exact ace tj h h1 hsr hg
   | false=>
    rw [hx,aF] at hg;cases mt with
    | true=>rw [aj] at hg; exact ace tj h h1 hsr hg
    | false=>rw [aF] at hg; exact aka rfl tj h h1 hsr hg
  ·exact hg.elim
 ·exact hg.elim
end Go.K
end
section
namespace Go.K
open Go Go.aq
variable {P:Program} {E:Env}
theorem df.alP {E1 E2:Env} {A A1 A2:ao} {B:St} (h:df P E A B E1 A1 B) (k:df P E1 A1 B E2 A2 B):df P E A B E2 A2 B where
 gX:=k.gX
 le:=Env.le_trans h.le k.le
 next:=kH h.next k.next
 eY _ _ _ _:=rfl
 new b x e:=(k.new b x e).elim (h.new b x) .inr
 sh b r e:=by
  rcases k.sh b r e with e | e | e
  ·exact h.sh b r e
  ·exact .inr (h.lN b e)
  ·exact .inr (.inr e)
 si b g e:=(k.si b g e).elim (h.si b g) .inr
 oX _ _ _ _:=rfl
 lN x q:=(k.lN x q).elim (h.lN x) .inr
 ml g q:=(k.ml g q).elim (h.ml g) .inr
 tU _ _ q:=.inl q
 nu y q:=(k.nu y q).elim (h.nu y) .inr
 rows:=kS fun _ _=>rfl
theorem df.refl {A:ao} {B:St} (h:dU P E A B):df P E A B E A B:=
 ⟨h,Env.le_refl _,aH _,fun _ _ _ _=>rfl,fun _ _ e=>.inl e,fun _ _ e=>.inl e,fun _ _ e=>.inl e,fun _ _ _ _=>rfl,fun _ q=>.inl q,fun _ q=>.inl q,fun _ _ q=>.inl q,fun _ q=>.inl q,kS fun _ _=>rfl⟩
theorem Env.an2 {A:ao} {B:St} {x:Nat} {r:ahz} (h:dU P E A B) (hx:AR A E x):E.le (E.eZ x r):=⟨fun _ _ e=>e,fun _ _ e=>e,fun b q e=>by
 simp only [Env.eZ];rw [ak]
 ·exact e
 ·intro e2; subst e2
  have:=(h.ar.z b hx).1;rw [e] at this; simp at this,fun _ _ e=>e⟩
theorem df.il {A:ao} {B:St} {b x N:Nat} {T:TypeId} {m:Mk} {es:List KV} {acc:Nat->KV} {cs:List Value} {bQ:Option (Nat×Nat)} {bo:List Value} (h:dU P E A B) (hb:A.get b=some (.arr (.ts T m N es acc))) (hx:E.α b=some (x,cs.length,N))
  (eS:B.get x=some (.row cs (bf P T) true bQ)) (ht:gL P T N es acc) (hm:m = .any) (dK:1<=bf P T) (TC:ba P E es bo) (hl:nG (bf P T) 0 cs bo) :
  df P E A B (E.eZ x ⟨cs,bf P T,true,bQ⟩) (A.put b (.il (.ts T m N es acc))) B:=by
 subst hm;have pU:AR A E x:=⟨b,_,_,_,hb,hx⟩
 have hle:=Env.an2 (r:=⟨cs,bf P T,true,bQ⟩) h pU;have hzx:(E.eZ x ⟨cs,bf P T,true,bQ⟩).z x=some ⟨cs,bf P T,true,bQ⟩:=by simp [Env.eZ]
 have Pf:∀ c r,(E.eZ x ⟨cs,bf P T,true,bQ⟩).z c=some r->E.z c=some r\/(c=x/\r=⟨cs,bf P T,true,bQ⟩):=fun c r e=>by
  simp only [Env.eZ] at e;split at e
  ·rename_i e2; simp at e; exact .inr ⟨e2,e.symm⟩
  ·exact .inl e
 have iZ:∀ c o,(A.put b (.il (.ts T .any N es acc))).get c=some o->(c=b/\o = .il (.ts T .any N es acc))\/(c≠b/\A.get c=some o):=fun c o hc=>by
  rw [ao.b5] at hc;split at hc
  ·rename_i e; simp at hc; exact .inl ⟨e,hc.symm⟩
  ·rename_i e; exact .inr ⟨e,hc⟩
 have hA:∀ c v,(A.put b (.il (.ts T .any N es acc))).get c=some (.arr v)->c≠b/\A.get c=some (.arr v):=fun c v hc=>by
  rcases iZ c _ hc with ⟨_,e⟩ | e
  ·simp at e
  ·exact e
 have alQ:∀ y,AR (A.put b (.il (.ts T .any N es acc))) E y->AR A E y/\y≠x:=fun y ⟨c,v,L,M,h1,h2⟩=>by
  obtain ⟨h3,h4⟩:=hA c v h1;refine ⟨⟨c,v,L,M,h4,h2⟩,fun e=>h3 ?_⟩;subst e;exact h.ar.inj c b v _ y L M _ _ h4 hb h2 hx
 have JA:∀ g,AF (A.put b (.il (.ts T .any N es acc))) E B g->AF A E B g:=fun g ⟨c,v,y,L,M,cs,e,own,k,h1,h2,h3⟩=>⟨c,v,y,L,M,cs,e,own,k,(hA c v h1).2,h2,h3⟩
 refine ⟨⟨fun c nQ bH hc=>?_,fun c top sz hc=>?_,fun y r hy=>?_,fun c y hc=>?_,h.inj,?_,h.jx,h.kQ,fun c o hc=>?_,h.fk,fun y r hy=>?_,h.iR,h.fresh,h.mem,?_⟩,hle,aH _,fun _ _ _ _=>rfl,fun _ _ e=>.inl e,fun y r e=>?_,fun _ _ e=>.inl e,fun _ _ _ _=>rfl,fun y q=>.inl (alQ y q).1,fun g q=>.inl (JA g q),fun _ _ q=>.inl q,fun y q=>.inl (q.imp (fun q=>(alQ y q).1) fun ⟨g,q1,q2⟩=>⟨g,JA g q1,q2⟩),kS fun _ _=>rfl⟩
 ·rcases iZ c _ hc with ⟨_,e⟩ | ⟨_,e⟩
  ·simp at e
  ·obtain ⟨y,d,h1,h2,h3⟩:=h.row c nQ bH e
   exact ⟨y,d,h1,h2,h3.mono hle⟩
 ·rcases iZ c _ hc with ⟨_,e⟩ | ⟨_,e⟩
  ·simp at e
  ·exact h.aQ c top sz e
 ·rcases Pf y r hy with e | ⟨rfl,rfl⟩
  ·exact h.z y r e
  ·exact eS
 ·have hc:E.κ c=some y:=hc
  cases hz:(E.eZ x ⟨cs,bf P T,true,bQ⟩).z y with
  | none=>rfl
  | some r=>
   rcases Pf y r hz with e | ⟨rfl,_⟩
   ·rw [h.apart c y hc] at e; simp at e
   ·exact absurd hc ((h.ar.z y pU).2 c)
 ·exact h.ib.put (.inl fun t s=>by simp)
 ·rw [ao.qv]
  rcases iZ c _ hc with ⟨e,_⟩ | ⟨_,e⟩
  ·rw [e]; exact h.live b _ hb
  ·exact h.live c o e
 ·rcases Pf y r hy with e | ⟨rfl,_⟩
  ·exact h.kR y r e
  ·exact h.Ih pU
 ·refine ⟨fun c v hc=>?_,fun c v hc=>?_,fun y q=>?_,fun c d v u y L M L' M' h1 h2 h3 h4=>h.ar.inj c d v u y L M L' M' (hA c v h1).2 (hA d u h2).2 h3 h4,fun c d v u y w L M L' M' nQ e own g k bV e' od k' h1 h2 h3 h4=>h.ar.tg c d v u y w L M L' M' nQ e own g k bV e' od k' (hA c v h1).2 (hA d u h2).2 h3 h4,h.ar.dis,h.ar.jx,h.ar.fk,fun c v y L M nQ e own g k h1 h2 h3=>?_,fun c v hc=>h.ar.nk c v (hA c v hc).2⟩
  ·exact (h.ar.arr c v (hA c v hc).2).mono hle rfl fun _ _ _ _=>rfl
  ·rcases iZ c _ hc with ⟨e,e2⟩ | ⟨_,e⟩
   ·simp at e2
    subst e2;exact ⟨T,N,es,acc,rfl,ht,dK,.inr ⟨x,⟨cs,bf P T,true,bQ⟩,bo,by rw [e]; exact hx,hzx,rfl,TC.mono hle,hl⟩⟩
   ·exact (h.ar.il c v e).mono hle rfl
  ·obtain ⟨q1,q2⟩:=alQ y q
   refine ⟨?_,(h.ar.z y q1).2⟩;simp only [Env.eZ];rw [ak q2];exact (h.ar.z y q1).1
  ·obtain ⟨cH,h1⟩:=hA c v h1
   obtain ⟨q1,q2,q3⟩:=h.ar.rq c v y L M nQ e own g k h1 h2 h3;refine ⟨q1,q2,fun z hz hzy=>?_⟩;obtain ⟨q4,q5,q6⟩:=q3 z hz hzy;refine ⟨?_,fun q=>q5 (alQ z q).1,q6⟩;simp only [Env.eZ];rw [ak]
   ·exact q4
   ·intro e2
    subst e2;exact q5 pU
 ·rcases Pf y r e with e | ⟨rfl,_⟩
  ·exact .inl e
  ·exact .inr (.inl pU)
theorem df.aqB {A:ao} {B:St} {b:Nat} {T:TypeId} {m:Mk} {N:Nat} {es:List KV} {acc:Nat->KV} (h:dU P E A B) (hb:A.get b=some (.arr (.ts T m N es acc))) (cQ:Vl P E b (.ts T m N es acc)) (pq:E.α b=none):df P E A B E (A.put b (.il (.ts T m N es acc))) B:=by
 have iZ:∀ c o,(A.put b (.il (.ts T m N es acc))).get c=some o->(c=b/\o = .il (.ts T m N es acc))\/A.get c=some o:=fun c o hc=>by
  rw [ao.b5] at hc;split at hc
  ·rename_i e; simp at hc; exact .inl ⟨e,hc.symm⟩
  ·exact .inr hc
 have hA:∀ c v,(A.put b (.il (.ts T m N es acc))).get c=some (.arr v)->A.get c=some (.arr v):=fun c v hc=>by
  rcases iZ c _ hc with ⟨_,e⟩ | e
  ·simp at e
  ·exact e
 have pU:∀ y,AR (A.put b (.il (.ts T m N es acc))) E y->AR A E y:=fun y ⟨c,v,L,M,h1,h2⟩=>⟨c,v,L,M,hA c v h1,h2⟩
 have JA:∀ g,AF (A.put b (.il (.ts T m N es acc))) E B g->AF A E B g:=fun g ⟨c,v,y,L,M,cs,e,own,k,h1,h2,h3⟩=>⟨c,v,y,L,M,cs,e,own,k,hA c v h1,h2,h3⟩
 have _:=pq;refine ⟨⟨fun c nQ bH hc=>?_,fun c top sz hc=>?_,h.z,h.apart,h.inj,?_,h.jx,h.kQ,fun c o hc=>?_,h.fk,h.kR,h.iR,h.fresh,h.mem,?_⟩,Env.le_refl _,aH _,fun _ _ _ _=>rfl,fun _ _ e=>.inl e,fun y r e=>.inl e,fun _ _ e=>.inl e,fun _ _ _ _=>rfl,fun y q=>.inl (pU y q),fun g q=>.inl (JA g q),fun _ _ q=>.inl q,fun y q=>.inl (q.imp (pU y) fun ⟨g,q1,q2⟩=>⟨g,JA g q1,q2⟩),kS fun _ _=>rfl⟩
 ·rcases iZ c _ hc with ⟨_,e⟩ | e
  ·simp at e
  ·exact h.row c nQ bH e
 ·rcases iZ c _ hc with ⟨_,e⟩ | e
  ·simp at e
  ·exact h.aQ c top sz e
 ·exact h.ib.put (.inl fun t s=>by simp)
 ·rw [ao.qv]
  rcases iZ c _ hc with ⟨e,_⟩ | e
  ·rw [e]; exact h.live b _ hb
  ·exact h.live c o e
 ·refine ⟨fun c v hc=>h.ar.arr c v (hA c v hc),fun c v hc=>?_,fun y q=>h.ar.z y (pU y q),fun c d v u y L M L' M' h1 h2 h3 h4=>h.ar.inj c d v u y L M L' M' (hA c v h1) (hA d u h2) h3 h4,fun c d v u y w L M L' M' nQ e own g k bV e' od k' h1 h2 h3 h4=>h.ar.tg c d v u y w L M L' M' nQ e own g k bV e' od k' (hA c v h1) (hA d u h2) h3 h4,h.ar.dis,h.ar.jx,h.ar.fk,fun c v y L M nQ e own g k h1 h2 h3=>?_,fun c v hc=>h.ar.nk c v (hA c v hc)⟩
  ·rcases iZ c _ hc with ⟨e,e2⟩ | e
   ·simp at e2; rw [e2,e]; exact cQ
   ·exact h.ar.il c v e
  ·obtain ⟨q1,q2,q3⟩:=h.ar.rq c v y L M nQ e own g k (hA c v h1) h2 h3
   exact ⟨q1,q2,fun z hz hzy=>⟨(q3 z hz hzy).1,fun q=>(q3 z hz hzy).2.1 (pU z q),(q3 z hz hzy).2.2⟩⟩
theorem XW {T:TypeId} {m:Mk} {b o n N:Nat} {es:List KV} {acc:Nat->KV} {u:Value} {A:ao} {B:St} (h:dU P E A B) (hv:VK P E (.al T b o n) u) (ha:A.get b=some (.il (.ts T m N es acc))) :
  VK P E (.ts T .any n ((es.drop o).take n) (fun i=>acc (o+i))) u:=by
 obtain ⟨T2,N2,mV,iC,e,ht,dK,vB⟩:=h.ar.il b _ ha;simp only [KV.ts.injEq] at e;obtain ⟨rfl,rfl,rfl,rfl,rfl⟩:=e;simp only [VK];rcases hv.uO with ⟨rfl,rfl,rfl⟩ | ⟨x,L,N0,c,h1,rfl,h3,h4,h5⟩
 ·exact ⟨⟨by simp,fun i hi=>by omega,rfl⟩,[],by simpa using ba.nil,none,0,rfl,aH _,.inl ⟨rfl,rfl⟩,trivial⟩
 ·rcases vB with ⟨_,e⟩ | ⟨x2,r,bo,e,h6,h6',h7,h8⟩
  ·rw [h1] at e; simp at e
  rw [h1] at e;simp only [cJ,dJ] at e;obtain ⟨rfl,rfl,rfl⟩:=e;have aj9:((es.drop o).take n).length=n:=by rw [kG,List.length_drop,<- ht.len]; omega
  refine ⟨⟨aj9.symm,fun i hi=>?_,oe fun i x hi=>?_⟩,(bo.drop o).take n,(h7.drop o).take n,_,c,rfl,h3,.inr ⟨x,o * bf P T,r,rfl,h6,h6',?_⟩,trivial⟩
  ·rw [ht.acc (o+i) (by omega),eX,eX,mz,aI hi,mX]
  ·rw [mz] at hi
   split at hi
   ·rw [mX] at hi; exact gM ht.typed hi
   ·simp at hi
  ·have:=(h8.drop o).take n
   rw [bp] at this;exact this
theorem Zq {A:ao} {B:St} {v:KV} {u:Value} (h:dU P E A B) (hv:VK P E v u):∃ E',df P E A B E' (abO A v).2 B/\VK P E' (abO A v).1 u:=by
 unfold abO;split
 ·rename_i T b o n
  split
  ·rename_i T' m N es acc hb
   cases ht:Nat.beq T T' with
   | false=>exact ⟨E,.refl h,.qB⟩
   | true=>
    have:=aW ht;subst this;rw [aj];have cQ:=h.ar.arr b _ hb;obtain ⟨T2,N2,mV,iC,e,Pl,dK,vB⟩:=cQ;simp only [KV.ts.injEq] at e;obtain ⟨rfl,rfl,rfl,rfl,rfl⟩:=e;rcases vB with ⟨h1,h2⟩ | ⟨x,cs,bQ,bo,h2,h3,h4,h5⟩
    ·have eK:=df.aqB h hb ⟨_,_,_,_,rfl,Pl,dK,.inl ⟨h1,h2⟩⟩ h2
     exact ⟨E,eK,XW eK.gX hv ((ao.b5 _ _ _ _).trans (aI rfl))⟩
    ·have eK:=df.il h hb h2 h3 Pl rfl dK h4 h5
     exact ⟨_,eK,XW eK.gX (hv.mono eK.le) ((ao.b5 _ _ _ _).trans (aI rfl))⟩
  ·rename_i T' m N es acc hb
   cases ht:Nat.beq T T' with
   | false=>exact ⟨E,.refl h,.qB⟩
   | true=>
    have:=aW ht;subst this;rw [aj];exact ⟨E,.refl h,XW h hv hb⟩
  ·exact ⟨E,.refl h,.qB⟩
 ·exact ⟨E,.refl h,hv⟩
theorem aK.map {α β:Type} {r:KR α} {f:α->β} {v:β} (h:aK (r.map f) v):∃ u,aK r u/\f u=v:=by
 cases r with
 | no=>exact h.elim
 | ok u=>exact ⟨u,rfl,h⟩
 | jt c u=>exact ⟨u,⟨h.1,rfl⟩,h.2⟩
 | br c x y=>
  rcases h with ⟨h1,h2⟩ | ⟨h1,h2⟩
  ·obtain ⟨u,h3,h4⟩:=aK.map (r:=x) h2; exact ⟨u,.inl ⟨h1,h3⟩,h4⟩
  ·obtain ⟨u,h3,h4⟩:=aK.map (r:=y) h2; exact ⟨u,.inr ⟨h1,h3⟩,h4⟩
theorem Vu {B:St} : ∀ {vs:List KV} {us:List Value} {E:Env} {A:ao},dU P E A B->ba P E vs us->∃ E',df P E A B E' (XG A vs).2 B/\ba P E' (XG A vs).1 us
 | [],us,E,A,h,hv=>⟨E,.refl h,hv⟩
 | v::vs,us,E,A,h,hv=>by
  obtain ⟨u,us',rfl,h1,h2⟩:=hv.cons_inv;obtain ⟨E1,h3,h4⟩:=Zq h h1;obtain ⟨E2,h5,h6⟩:=Vu h3.gX (h2.mono h3.le);exact ⟨E2,h3.alP h5,.cons (h4.mono h5.le) h6⟩
theorem ahU {A:ao} {B:St} {v:KV} {u:Value} (h:dU P E A B) (hv:VK P E v u):∃ E',df P E A B E' (aeZ A v).2 B/\VK P E' (aeZ A v).1 u:=by
 unfold aeZ;split
 ·rename_i cs
  obtain ⟨l,rfl,h1⟩:=hv.jP;obtain ⟨E1,h2,h3⟩:=Vu h h1;exact ⟨E1,h2,.ow h3⟩
 ·exact Zq h hv
theorem MM:∀ (A:ao) (vs:List KV),(vy A vs).1.length=vs.length
 | _,[]=>rfl
 | A,v::vs=>by simp [vy,MM]
theorem Ii {B:St} : ∀ {vs:List KV} {us:List Value} {E:Env} {A:ao},dU P E A B->ba P E vs us->∃ E',df P E A B E' (vy A vs).2 B/\ba P E' (vy A vs).1 us
 | [],us,E,A,h,hv=>⟨E,.refl h,hv⟩
 | v::vs,us,E,A,h,hv=>by
  obtain ⟨u,us',rfl,h1,h2⟩:=hv.cons_inv;obtain ⟨E1,h3,h4⟩:=ahU h h1;obtain ⟨E2,h5,h6⟩:=Ii h3.gX (h2.mono h3.le);exact ⟨E2,h3.alP h5,.cons (h4.mono h5.le) h6⟩
end Go.K
end
section
namespace Go.K
open Go Go.aq
variable {P:Program}
theorem cV {o:Oper} : Jx P o .bad:=trivial
theorem amM (P:Program) (cfg:dE) (o:Oper):Jx P o (bP P cfg o.op):=by
 cases ho:o.op with
 | move x=>exact lift_pure (by rw [ho]; rfl) ahD
 | assign x=>exact lift_pure (by rw [ho]; rfl) amC
 | pick c a b=>exact lift_pure (by rw [ho]; rfl) anQ
 | alloc t=>
  show Jx P o (om P t);unfold om;split
  ·rename_i z hz
   cases hc:(flat z&&z.cells.toList.all scalar&&fY (ff z).cells) with
   | false=>exact cV
   | true=>
    simp only [au] at hc;exact Bi (by rw [ho]; rfl) (amH hz hc.1.1 hc.1.2 hc.2)
  ·exact cV
 | box t x=>exact Bi (by rw [ho]; rfl) apd
 | build t parts=>
  show Jx P o (rF P t (parts.toList.map (·.1)) (parts.toList.map (·.2)));have aR:compile P o.op=Kh P t (parts.toList.map (·.1)) (parts.toList.map (·.2)):=by rw [ho]; rfl
  unfold rF;unfold Kh at aR;split
  ·rename_i z fields hz hu
   rw [hz,hu] at aR;simp only at aR;split
   ·rename_i l hl
    rw [hl] at aR;cases hc:(flat z&&fY (ff z).cells) with
    | false=>exact cV
    | true=>
     simp only [au] at hc;exact lift_pure aR (ae2 hc.1 hc.2)
   ·exact cV
  ·rename_i z len e hz hu
   rw [hz,hu] at aR;simp only at aR;split
   ·rename_i n hn
    rw [hn] at aR;cases hc:(flat z&&fY (ff z).cells) with
    | false=>exact cV
    | true=>
     simp only [au] at hc;exact lift_pure aR (ae2 hc.1 hc.2)
   ·exact cV
  ·exact cV
 | buildSlice t len parts=>
  show Jx P o (jX P cfg.x.mt t len (parts.toList.map (·.1)) (parts.toList.map (·.2)));have aR:compile P o.op=tN P t len (parts.toList.map (·.1)) (parts.toList.map (·.2)):=by rw [ho]; rfl
  unfold jX;unfold tN at aR;split
  ·rename_i e hu
   rw [hu] at aR;simp only at aR;split
   ·rename_i i z hi hz
    have dK:size? P e=some i.size:=by simp [size?,hi]
    rw [dK,hz] at aR;simp only at aR;cases hc:(Nat.ble (len * i.size) 16777216&&Nat.beq z.cells.size i.size&&Nat.ble 1 i.size&&flat z&&Nat.beq (aX P e).ks.length i.size&&Bc len (parts.toList.map (·.1))) with
    | false=>exact cV
    | true=>
     simp only [au] at hc;obtain ⟨⟨⟨⟨⟨h1,h2⟩,h3⟩,h4⟩,h5⟩,h6⟩:=hc;rw [h1,h2,h3,h4] at aR;cases Mr (aX P e).ks with
     | true=>
      cases cfg.x.mt (e+3000000) with
      | true=>exact Bi aR (age (aW h5) (dI h3) (aW h2) h6)
      | false=>exact ae4 aR (ad9 (aW h5) (dI h3) (aW h2) h6)
     | false=>
      cases h7:fY (ff z).cells with
      | true=>exact Bi aR (af8 h7)
      | false=>exact cV
   ·exact cV
  ·exact cV
 | load t a=>exact MC (by rw [ho]; rfl) ahJ
 | store t a x=>exact XN (by rw [ho]; rfl) amK
 | nilCheck x=>exact lift_pure (by rw [ho]; rfl) apb
 | binOp op t x y yt=>exact lift_pure (by rw [ho]; rfl) apc
 | unOp op t x=>exact lift_pure (by rw [ho]; rfl) aqu
 | convert src dst x=>
  show Jx P o (nP P src dst x);have aR:compile P o.op=C1 P src dst x:=by rw [ho]; rfl
  unfold nP;unfold C1 at aR;split
  ·rename_i k k' hs hd
   rw [hs,hd] at aR;exact lift_pure aR (amG hd hs)
  ·rename_i hs hd
   rw [hs,hd] at aR;exact lift_pure aR amF
  ·rename_i e hs hd
   rw [hs,hd] at aR;simp only at aR;cases hb:isByte P e with
   | false=>exact cV
   | true=>rw [hb] at aR; exact MC aR agb
  ·rename_i e hs hd
   rw [hs,hd] at aR;simp only at aR;cases hb:isByte P e with
   | false=>exact cV
   | true=>rw [hb] at aR; exact aj2 aR (agc hb)
  ·exact cV
 | makeFunc fn first cap=>
  show Jx P o (cond (vW fn) .bad (.pure (Mu fn first.size) (first.toList++cap.toList)));cases hy:vW fn with
  | true=>exact cV
  | false=>
   have hn:F4 fn=true:=by cases fn <;> first | rfl | simp [vW] at hy
   exact lift_pure (by rw [ho]; show cond (F4 fn) _ _=_; rw [hn]; rfl) af4
 | fieldAddr s x f=>
  show Jx P o (kO P s x f);have aR:compile P o.op=vQ P s x f:=by rw [ho]; rfl
  unfold kO;unfold vQ at aR;split
  ·rename_i fd hf
   rw [hf] at aR;simp only at aR;split
   ·rename_i m hm
    rw [hm] at aR;exact lift_pure aR (ad6 rfl)
   ·exact cV
  ·exact cV
 | field t x f=>
  show Jx P o (rG P t x f);have aR:compile P o.op=Km P t x f:=by rw [ho]; rfl
  unfold rG;unfold Km at aR;split
  ·rename_i fd hf
   rw [hf] at aR;exact lift_pure aR amD
  ·exact cV
 | indexAddr t x ix=>
  show Jx P o (kP P t x ix);have aR:compile P o.op=vR P t x ix:=by rw [ho]; rfl
  unfold kP;unfold vR at aR;split
  ·rename_i len e hu
   rw [hu] at aR;simp only at aR;split
   ·rename_i n hn
    rw [hn] at aR;exact lift_pure aR af1
   ·exact cV
  ·rename_i e hu
   rw [hu] at aR;simp only at aR;split
   ·rename_i n hn
    rw [hn] at aR;exact lift_pure aR (ahF rfl)
   ·exact cV
  ·exact cV
 | index t x ix=>
  show Jx P o (rH P t x ix);have aR:compile P o.op=Kn P t x ix:=by rw [ho]; rfl
  unfold rH;unfold Kn at aR;split
  ·rename_i len e hu
   rw [hu] at aR;simp only at aR;split
   ·rename_i n hn
    rw [hn] at aR;exact lift_pure aR af2
   ·exact cV
  ·rename_i hu
   rw [hu] at aR;exact lift_pure aR af3
  ·exact cV
 | extract t i=>exact lift_pure (by rw [ho]; rfl) ahG
 | slice t x lo hi mx=>
  show Jx P o (rI P t x lo hi mx);have aR:compile P o.op=Kk P t x lo hi mx:=by rw [ho]; rfl
  unfold rI;unfold Kk at aR;split
  ·rename_i e hu
   rw [hu] at aR;simp only at aR;split
   ·rename_i n hn
    rw [hn] at aR;simp only at aR;cases hc:(Nat.ble 1 n&&mx.isNone) with
    | false=>exact cV
    | true=>
     simp only [au] at hc;rw [hc.1] at aR;have hmx:mx=none:=Option.isNone_iff_eq_none.1 hc.2;subst hmx;simp only [aj,eL,uE,Option.isSome_none] at aR;exact MC aR (ahM (dI hc.1))
   ·exact cV
  ·rename_i len e hu
   rw [hu] at aR;simp only at aR;split
   ·rename_i n hn
    rw [hn] at aR;simp only at aR;cases hc:(Nat.ble 1 n&&mx.isNone) with
    | false=>exact cV
    | true=>
     simp only [au] at hc;rw [hc.1] at aR;have hmx:mx=none:=Option.isNone_iff_eq_none.1 hc.2;subst hmx;simp only [aj,eL,uE,Option.isSome_none] at aR;exact MC aR af9
   ·exact cV
  ·rename_i hu
   rw [hu] at aR;simp only at aR;cases hc:mx.isNone with
   | false=>exact cV
   | true=>rw [hc] at aR; exact lift_pure aR aga
  ·exact cV
 | makeSlice t l c=>
  show Jx P o (tS P cfg.x.mt t l c);have aR:compile P o.op=vP P t l c:=by rw [ho]; rfl
  unfold tS;unfold vP at aR;split
  ·rename_i e hu
   rw [hu] at aR;simp only at aR;split
   ·rename_i i hi
    rw [hi] at aR;simp only at aR;split
    ·rename_i z hz
     rw [hz] at aR;simp only at aR;cases hmz:cfg.x.mt (e+1000000) with
     | true=>
      rw [aj];cases hc:(Nat.ble 1 i.size&&Nat.ble 1 i.bytes&&Nat.beq z.cells.size i.size&&flat z&&z.cells.toList.all scalar&&Nat.beq (aX P e).ks.length i.size&&cl (aX P e) (dy (aX P e) (ff z))) with
      | false=>exact cV
      | true=>
       simp only [au] at hc;obtain ⟨⟨⟨⟨⟨⟨h1,h2⟩,h3⟩,h4⟩,h5⟩,h6⟩,h7⟩:=hc;rw [h1,h2,h3,h4,h5] at aR;exact ae4 aR (amL (aW h6) (dI h1) (aW h3) h7)
     | false=>
     rw [aF];cases hmt:cfg.x.mt e with
     | true=>
      rw [aj];cases hc:(Nat.ble 1 i.size&&Nat.ble 1 i.bytes&&Nat.beq z.cells.size i.size&&flat z&&z.cells.toList.all scalar&&Nat.beq (aX P e).ks.length i.size&&cl (aX P e) (dy (aX P e) (ff z))) with
      | false=>exact cV
      | true=>
       simp only [au] at hc;obtain ⟨⟨⟨⟨⟨⟨h1,h2⟩,h3⟩,h4⟩,h5⟩,h6⟩,h7⟩:=hc;rw [h1,h2,h3,h4,h5] at aR;exact Bi aR (ahQ (aW h6) (dI h1) (aW h3) h7)
     | false=>
     rw [aF];cases hc:(Nat.ble 1 i.size&&Nat.ble 1 i.bytes&&Nat.beq z.cells.size i.size&&flat z&&z.cells.toList.all scalar&&fY (ff z).cells) with
     | false=>exact cV
     | true=>
      simp only [au] at hc;obtain ⟨⟨⟨⟨⟨h1,h2⟩,h3⟩,h4⟩,h5⟩,h6⟩:=hc;rw [h1,h2,h3,h4,h5] at aR;exact Bi aR (ad7 h6)
    ·exact cV
   ·exact cV
  ·exact cV
 | call c=>
  show Jx P o (kl P cfg c);unfold kl;split
  ·split
   ·cases cfg.ahv _ <;> trivial
   ·trivial
  ·trivial
  ·rename_i b hb
   obtain ⟨callee,args,argTypes⟩:=c;simp only at hb;subst hb;have aR:compile P o.op=H4 P b argTypes.toList args.toList:=by rw [ho]; rfl
   unfold y4;unfold H4 at aR;split
   ·
    simp only at aR;unfold abN;unfold aaR at aR;split
    ·rename_i t ht
     rw [ht] at aR;simp only at aR;split
     ·rename_i e hu
      rw [hu] at aR;exact lift_pure aR amE
     ·rename_i hu
      rw [hu] at aR;exact lift_pure aR aj0
     ·exact cV
    ·exact cV
   ·simp only at aR
    exact lift_pure (f:=Ky false) aR ab2
   ·simp only at aR
    exact lift_pure (f:=Ky true) aR ab2
   ·
    simp only at aR;unfold Ib;unfold Mg at aR;split
    ·rename_i t u ht
     rw [ht] at aR;simp only at aR;split
     ·rename_i e eu hu huu
      rw [hu] at aR;simp only at aR;split
      ·rename_i i hi
       rw [hi] at aR;simp only at aR;split
       ·rename_i z hz
        rw [hz] at aR;simp only at aR;cases hc:(Nat.ble 1 i.size&&Nat.beq z.cells.size i.size&&Nat.beq (aX P e).ks.length i.size) with
        | false=>exact cV
        | true=>
         simp only [au] at hc;have arp:Mf P u=true:=by unfold Mf; rw [huu]
         rw [hc.1.1,hc.1.2,arp] at aR;exact XN aR (ahT (aW hc.2) (dI hc.1.1))
       ·exact cV
      ·exact cV
     ·exact cV
    ·exact cV
   ·
    simp only at aR;show Jx P o (Q8 P argTypes.toList args.toList);unfold Q8;unfold UX at aR;split
    ·rename_i t u ht
     rw [ht] at aR;simp only at aR;split
     ·rename_i e eu hu huu
      rw [hu] at aR;simp only at aR;split
      ·rename_i n hn
       rw [hn] at aR;simp only at aR;cases hc:(Nat.ble 1 n&&Nat.beq (aX P e).ks.length n) with
       | false=>exact cV
       | true=>
        simp only [au] at hc;rw [hc.1] at aR;exact XN aR (an1 (aW hc.2) (dI hc.1))
      ·exact cV
     ·exact cV
    ·exact cV
   ·trivial
  ·trivial
 | _=>trivial
end Go.K
end
section
namespace Go.K
open Go Go.aq
variable {P:Program} {E:Env}
theorem qD (t:bq):∀ xs,j6 t xs=xs.map (jK t)
 | []=>rfl
 | x::xs=>by rw [j6,qD t xs]; rfl
structure jf (P:Program) (E:Env) (ρ:Ren) (t:bq) (N:Nat) (a:Act):Prop where
 size:a.tmps.size=N
 val:∀ i,VC P E ρ ((t.get i).getD .bA) (a.tmps.getD i undef)
 none:∀ i,N<=i->t.get i=Option.none
theorem jf.ev {ρ:Ren} {t:bq} {N:Nat} {a:Act} (h:jf P E ρ t N a) (x:Operand):VC P E ρ (jK t x) (a.eval x):=by
 cases x with
 | tmp i=>exact h.val i
 | const v=>
  simp only [jK,Act.eval];cases hf:flat v with
  | true=>exact ⟨v,.ff v,VR.of_flat hf⟩
  | false=>exact .bA
 | global g=>exact .bA
 | func f=>exact ⟨.func (.func f) ⟨[]⟩ ⟨[]⟩,.ahC .nil .nil,VR.aaT (l:=[]) (m:=[]) (.func f) rfl .nil .nil⟩
theorem jf.mono {E' : Env} {ρ aJ:Ren} {t:bq} {N:Nat} {a:Act} (h:jf P E ρ t N a) (k:E.le E') (m:ρ.le aJ):jf P E' aJ t N a:=⟨h.size,fun i=>(h.val i).mono k m,h.none⟩
theorem jf.put {ρ:Ren} {t:bq} {N:Nat} {a:Act} {dst:Option Tmp} {v:KV} {v' : Value} (h:jf P E ρ t N a) (hd:∀ d,dst=some d->d < N) (hv:VC P E ρ v v'):jf P E ρ (oy t dst v) N (a.put dst v'):=by
 cases dst with
 | none=>exact h
 | some d=>
  have hd:=hd d rfl;refine ⟨by simp [Act.put,h.size],fun i=>?_,fun i hi=>?_⟩
  ·simp only [oy,Trie.nE,Act.put]
   by_cases e:i=d
   ·subst e
    have:i < a.tmps.size:=by rw [h.size]; exact hd
    simp [fQ,this,hv]
   ·have:=h.val i
    simp only [ak e];simpa [fQ,Array.getElem?_setIfInBounds_ne (Ne.symm e)] using this
  ·simp only [oy,Trie.nE]
   have cH:i≠d:=fun e=>absurd hi (by rw [e]; exact Nat.not_le_of_lt hd);rw [ak cH];exact h.none i hi
theorem jf.same {ρ:Ren} {t t' : bq} {N:Nat} {a:Act} (h:jf P E ρ t N a) (hs:∀ i,t'.get i=t.get i):jf P E ρ t' N a:=
 ⟨h.size,fun i=>by rw [hs]; exact h.val i,fun i hi=>by rw [hs]; exact h.none i hi⟩
theorem C6 {v:KV} {b:Bool} (h:sV v = .bool b):v = .bool b:=by cases v <;> simp [sV] at h; rw [h]
theorem acg {v:KV} (h:sV v = .jV):∃ l,v = .jV l:=by cases v <;> simp [sV] at h; exact ⟨_,rfl⟩
theorem MN {t:bq} {d:Tmp} {b:Bool} (h:sV ((t.get d).getD .bA) = .bool b):∀ i,(Trie.set (.bool b) t d).get i=t.get i:=by
 intro i;have:=C6 h;rw [Trie.nE];split
 ·rename_i e
  subst e;cases ht:t.get i with
  | none=>rw [ht] at this; simp at this
  | some v=>rw [ht] at this; simp at this; rw [this]
 ·rfl
theorem VC.dY {ρ:Ren} {b:Bool} {v:Value} (h:VC P E ρ (.bool b) v):v = .bool b:=by
 obtain ⟨u,h1,h2⟩:=h;have:=h1.dY; subst this;exact h2.dY
theorem agf {R:Type} {ρ:Ren} {t:bq} {N:Nat} {a:Act} {all:List Oper} {o:Oper} {j:Nat} {want:Bool} {yes no:bq->Option R} {r:R} (hg:o.guard=some (j,want)) (ht:jf P E ρ t N a)
  (h:ahw t ((all[j]?).bind (·.dst)) want yes no=some r) :
  ∃ t',(∀ i,t'.get i=t.get i)/\((Region.wanted o (yielded ⟨all⟩ a.tmps)=true/\yes t' = some r)\/(Region.wanted o (yielded ⟨all⟩ a.tmps)=false/\no t' = some r)):=by
 unfold ahw at h;cases hd:(all[j]?).bind (·.dst) with
 | none=>rw [hd] at h; exact absurd h (by simp)
 | some d=>
  rw [hd] at h;have hw:∀ u,a.tmps[d]? = some u->Region.wanted o (yielded ⟨all⟩ a.tmps)=(match u with
    | .bool b=>b==want
    | _=>false):=by
   intro u hu;unfold Region.wanted;rw [hg];simp only;unfold yielded;have e:(⟨all⟩:Array Oper)[j]? = all[j]?:=by simp
   rw [e,hd];simp only [dz,hu];cases u <;> rfl
  have v7:=ht.val d;have h:BK.rec (motive:=fun _=>Option R)
   (fun b=>Bool.rec (motive:=fun _=>Option R)
    (Bool.rec (motive:=fun _=>Option R) (yes (t.set (.bool false) d)) (no (t.set (.bool false) d)) want)
    (Bool.rec (motive:=fun _=>Option R) (no (t.set (.bool true) d)) (yes (t.set (.bool true) d)) want) b)
   (no t) none (sV ((t.get d).getD .bA))=some r:=h
  cases hb:sV ((t.get d).getD .bA) with
  | no=>rw [hb] at h; exact absurd h (by simp)
  | jV=>
   rw [hb] at h;obtain ⟨l,hl⟩:=acg hb;rw [hl] at v7;obtain ⟨u,h1,h2⟩:=v7;obtain ⟨m,rfl,_⟩:=h1.O7;obtain ⟨m',h3,_⟩:=h2.Tg;refine ⟨t,fun _=>rfl,.inr ⟨?_,h⟩⟩;cases hc:a.tmps[d]? with
   | none=>
    unfold Region.wanted;rw [hg];simp only;unfold yielded;have e:(⟨all⟩:Array Oper)[j]? = all[j]?:=by simp
    rw [e,hd];simp [hc]
   | some u=>
    have:u = .tuple m':=by rw [<- h3]; simp [fQ,hc]
    rw [hw u hc,this]
  | bool b=>
   rw [hb] at h;have hbv:=C6 hb;rw [hbv] at v7;have hcv:=v7.dY;have hc:a.tmps[d]? = some (.bool b):=by
    cases hc:a.tmps[d]? with
    | none=>simp [fQ,hc,undef] at hcv
    | some u=>have:u = .bool b:=by rw [<- hcv]; simp [fQ,hc]
              rw [this]
   have hwd:=hw _ hc;refine ⟨t.set (.bool b) d,MN hb,?_⟩;cases b <;> cases want
   ·exact .inl ⟨hwd,h⟩
   ·exact .inr ⟨hwd,h⟩
   ·exact .inr ⟨hwd,h⟩
   ·exact .inl ⟨hwd,h⟩
def qc (P:Program) (E:Env) (ρ:Ren) (l:List KV) (l' : List Value):Prop:=∃ m,ba P E l m/\dk ρ m l'
def yf (P : Program) (g : FuncId) : Prop := Nat.blt g yB = true ∧ ∃ fn, P.funcs[g]? = some fn ∧ fn.body.isSome = true ∧ (fn.name == "runtime.NumGoroutine") = false
def KS {R:Type} (P:Program) (bz:mj R):Prop:=
 ∀ f args A k r,bz f args A k=some r->yf P f/\∀ (E:Env) (B:St) (ρ:Ren) (base:Nat) (w:World) (eV:List Value),qc P E ρ args eV->KJ P E A B ρ base w->
  Calls P f eV.toArray w fun e w'=>∃ v v' E' A' B' aJ,e = .returned v'/\VC P E' aJ v v'/\Ev P base E A B ρ w E' A' B' aJ w'/\k v A' = some r
def aY (P:Program) (g:FuncId) (F:List KV->KR KV):Prop:=
 ∀ args v,aK (F (normArgs P (cn P g) args)) v->args.length=(cn P g).length->yf P g/\∀ (E:Env) (A:ao) (B:St) (ρ:Ren) (base:Nat) (w:World) (eV:List Value),qc P E ρ args eV->KJ P E A B ρ base w->
  Calls P g eV.toArray w fun e w'=>∃ v' E' B' aJ,e = .returned v'/\VC P E' aJ v v'/\Ev P base E A B ρ w E' A B' aJ w'
def ru (P:Program) (pc:FuncId->Option (List KV->KR KV)):Prop:=∀ g F,pc g=some F->aY P g F
theorem agh {o:Oper} {f:Operand} {args:List Operand} (aR:compile P o.op = .call f args) {ρ:Ren} {t:bq} {N:Nat} {a:Act} (ht:jf P E ρ t N a) {g:FuncId} {vs:List KV} (hc:Gv (j6 t args) (jK t f)=some (g,vs)) (hg:yf P g) :
  ∃ cE,qc P E ρ vs cE/\∀ w,(execOp a.eval o).run P w = .ok (.enter g cE.toArray) w:=by
 have cQ:=pj P o;rw [aR] at cQ;obtain ⟨em,h1,h2⟩:=mid (xs:=f::args) (ev:=jK t) (cG:=a.eval) fun x _=>ht.ev x;obtain ⟨y,ys,e,h3,h4⟩:=h1.cons_inv;simp only [List.map_cons,List.cons.injEq] at e;obtain ⟨rfl,rfl⟩:=e;have hv:∃ us,tP (args.map em) (em f)=some (g,us)/\ba P E vs us:=by
  unfold Gv at hc;split at hc
  ·rename_i g' first cap e
   simp only [cJ,dJ] at hc;obtain ⟨rfl,rfl⟩:=hc;rw [e] at h3;obtain ⟨l,m,e2,h5,h6⟩:=h3.Ie;rw [e2];refine ⟨l++args.map em++m,by simp only [tP]; rw [hg.1]; rfl,?_⟩;rw [qD];exact (h5.append h4).append h6
  ·simp at hc
 obtain ⟨us,h5,h6⟩:=hv;obtain ⟨cE,h7,h8⟩:=cQ.2 ρ em a.eval g us h2 hg.1 h5 hg.2;exact ⟨cE,⟨us,h6,h7⟩,h8⟩
def dh:pn->Bool
 | .call _ _=>false
 | .Ba _ _ _=>false
 | .Gu _ _ _=>false
 | _=>true
theorem du {c:Bool} {x:pn} (h:dh x=true):dh (cond c x .bad)=true:=by
 cases c with
 | false=>rfl
 | true=>exact h
theorem Bj (mt:TypeId->Bool) (b:Builtin) (ts:List TypeId) (args:List Operand):dh (y4 P mt b ts args)=true:=by
 unfold y4 abN Ib Q8
 repeat' split
 all_goals first | rfl | exact du rfl
theorem xj (mt:TypeId->Bool) (t:TypeId) (l c:Operand):dh (tS P mt t l c)=true:=by
 unfold tS;split
 ·rename_i e he
  split
  ·split
   ·cases mt (e+1000000)
    ·cases mt e <;> exact du rfl
    ·exact du rfl
   ·rfl
  ·rfl
 ·rfl
theorem Zr {cfg:dE} {op:Op} {f:Operand} {args:List Operand} (h:bP P cfg op = .call f args):compile P op = .call f args:=by
 have key:dh (bP P cfg op)=true->compile P op = .call f args:=fun hn=>by rw [h] at hn; simp [dh] at hn
 cases op with
 | call c=>
  have h:kl P cfg c = .call f args:=h;show yP P c=_;unfold kl at h;unfold yP;split at h
  ·rename_i g hc
   split at h
   ·cases hz:cfg.ahv g <;> rw [hz] at h <;> simp at h
   ·simp at h; obtain ⟨rfl,rfl⟩:=h; rw [hc]
  ·rename_i f' cH hc; simp at h; obtain ⟨rfl,rfl⟩:=h; rw [hc]
  ·rename_i b hc
   have:=Bj (P:=P) cfg.x.mt b c.argTypes.toList c.args.toList;rw [h] at this;simp [dh] at this
  ·simp at h
 | alloc t=>exact key (by show dh (om P t)=true; unfold om; split <;> first | rfl | exact du rfl)
 | build t ps=>exact key (by show dh (rF P t _ _)=true; unfold rF; (repeat' split); all_goals first | rfl | exact du rfl)
 | buildSlice t n ps=>exact key (by show dh (jX P cfg.x.mt t n _ _)=true; unfold jX; (repeat' split); all_goals first | rfl | exact du (by cases Mr _ <;> first | exact du rfl | (cases cfg.x.mt _ <;> rfl) | rfl))
 | convert s d x=>exact key (by show dh (nP P s d x)=true; unfold nP; (repeat' split); all_goals first | rfl | exact du rfl)
 | makeFunc fn a b=>exact key (by show dh (cond (vW fn) .bad _)=true; cases vW fn <;> rfl)
 | fieldAddr s x i=>exact key (by show dh (kO P s x i)=true; unfold kO; (repeat' split); all_goals rfl)
 | field s x i=>exact key (by show dh (rG P s x i)=true; unfold rG; (repeat' split); all_goals rfl)
 | indexAddr s x i=>exact key (by show dh (kP P s x i)=true; unfold kP; (repeat' split); all_goals rfl)
 | index s x i=>exact key (by show dh (rH P s x i)=true; unfold rH; (repeat' split); all_goals rfl)
 | slice t x lo hi mx=>exact key (by show dh (rI P t x lo hi mx)=true; unfold rI; (repeat' split); all_goals first | rfl | exact du rfl)
 | makeSlice t l c=>exact key (xj _ t l c)
 | _=>exact key rfl
theorem agi {cfg:dE} {op:Op} {g:FuncId} {F:List KV->KR KV} {args:List Operand} (h:bP P cfg op = .Ba g F args):compile P op = .call (.func g) args/\∃ F0,cfg.pc g=some F0/\F=fun vs=>cond (Nat.beq vs.length (cn P g).length) (F0 (normArgs P (cn P g) vs)) .no:=by
 have key:dh (bP P cfg op)=true->compile P op = .call (.func g) args/\∃ F0,cfg.pc g=some F0/\F=fun vs=>cond (Nat.beq vs.length (cn P g).length) (F0 (normArgs P (cn P g) vs)) .no:=fun hn=>by rw [h] at hn; simp [dh] at hn
 cases op with
 | call c=>
  have h:kl P cfg c = .Ba g F args:=h;show yP P c=_/\_;unfold kl at h;unfold yP;split at h
  ·rename_i g' hc
   split at h
   ·rename_i F0 hF
    cases hz:cfg.ahv g' with
    | true=>rw [hz] at h; simp at h
    | false=>
     rw [hz] at h;simp at h; obtain ⟨rfl,rfl,rfl⟩:=h; rw [hc];exact ⟨rfl,F0,hF,rfl⟩
   ·simp at h
  ·simp at h
  ·rename_i b hc
   have:=Bj (P:=P) cfg.x.mt b c.argTypes.toList c.args.toList;rw [h] at this;simp [dh] at this
  ·simp at h
 | alloc t=>exact key (by show dh (om P t)=true; unfold om; split <;> first | rfl | exact du rfl)
 | build t ps=>exact key (by show dh (rF P t _ _)=true; unfold rF; (repeat' split); all_goals first | rfl | exact du rfl)
 | buildSlice t n ps=>exact key (by show dh (jX P cfg.x.mt t n _ _)=true; unfold jX; (repeat' split); all_goals first | rfl | exact du (by cases Mr _ <;> first | exact du rfl | (cases cfg.x.mt _ <;> rfl) | rfl))
 | convert s d x=>exact key (by show dh (nP P s d x)=true; unfold nP; (repeat' split); all_goals first | rfl | exact du rfl)
 | makeFunc fn a b=>exact key (by show dh (cond (vW fn) .bad _)=true; cases vW fn <;> rfl)
 | fieldAddr s x i=>exact key (by show dh (kO P s x i)=true; unfold kO; (repeat' split); all_goals rfl)
 | field s x i=>exact key (by show dh (rG P s x i)=true; unfold rG; (repeat' split); all_goals rfl)
 | indexAddr s x i=>exact key (by show dh (kP P s x i)=true; unfold kP; (repeat' split); all_goals rfl)
 | index s x i=>exact key (by show dh (rH P s x i)=true; unfold rH; (repeat' split); all_goals rfl)
 | slice t x lo hi mx=>exact key (by show dh (rI P t x lo hi mx)=true; unfold rI; (repeat' split); all_goals first | rfl | exact du rfl)
 | makeSlice t l c=>exact key (xj _ t l c)
 | _=>exact key rfl
theorem agj {cfg:dE} {op:Op} {g:FuncId} {F:List KV->KR KV} {args:List Operand} (h:bP P cfg op = .Gu g F args):compile P op = .call (.func g) args/\∃ F0,cfg.pc g=some F0/\F=fun vs=>cond (Nat.beq vs.length (cn P g).length) (F0 (normArgs P (cn P g) vs)) .no:=by
 have key:dh (bP P cfg op)=true->compile P op = .call (.func g) args/\∃ F0,cfg.pc g=some F0/\F=fun vs=>cond (Nat.beq vs.length (cn P g).length) (F0 (normArgs P (cn P g) vs)) .no:=fun hn=>by rw [h] at hn; simp [dh] at hn
 cases op with
 | call c=>
  have h:kl P cfg c = .Gu g F args:=h;show yP P c=_/\_;unfold kl at h;unfold yP;split at h
  ·rename_i g' hc
   split at h
   ·rename_i F0 hF
    cases hz:cfg.ahv g' with
    | false=>rw [hz] at h; simp at h
    | true=>
     rw [hz] at h;simp at h; obtain ⟨rfl,rfl,rfl⟩:=h; rw [hc];exact ⟨rfl,F0,hF,rfl⟩
   ·simp at h
  ·simp at h
  ·rename_i b hc
   have:=Bj (P:=P) cfg.x.mt b c.argTypes.toList c.args.toList;rw [h] at this;simp [dh] at this
  ·simp at h
 | alloc t=>exact key (by show dh (om P t)=true; unfold om; split <;> first | rfl | exact du rfl)
 | build t ps=>exact key (by show dh (rF P t _ _)=true; unfold rF; (repeat' split); all_goals first | rfl | exact du rfl)
 | buildSlice t n ps=>exact key (by show dh (jX P cfg.x.mt t n _ _)=true; unfold jX; (repeat' split); all_goals first | rfl | exact du (by cases Mr _ <;> first | exact du rfl | (cases cfg.x.mt _ <;> rfl) | rfl))
 | convert s d x=>exact key (by show dh (nP P s d x)=true; unfold nP; (repeat' split); all_goals first | rfl | exact du rfl)
 | makeFunc fn a b=>exact key (by show dh (cond (vW fn) .bad _)=true; cases vW fn <;> rfl)
 | fieldAddr s x i=>exact key (by show dh (kO P s x i)=true; unfold kO; (repeat' split); all_goals rfl)
 | field s x i=>exact key (by show dh (rG P s x i)=true; unfold rG; (repeat' split); all_goals rfl)
 | indexAddr s x i=>exact key (by show dh (kP P s x i)=true; unfold kP; (repeat' split); all_goals rfl)
 | index s x i=>exact key (by show dh (rH P s x i)=true; unfold rH; (repeat' split); all_goals rfl)
 | slice t x lo hi mx=>exact key (by show dh (rI P t x lo hi mx)=true; unfold rI; (repeat' split); all_goals first | rfl | exact du rfl)
 | makeSlice t l c=>exact key (xj _ t l c)
 | _=>exact key rfl
noncomputable def tl (ins:pn) (t:bq) (A:ao):KR (KV×ao):=
 match ins with
 | .pure f xs=>(f (j6 t xs)).map fun v=>(v,A)
 | .read f xs=>(f A (j6 t xs)).map fun v=>(v,A)
 | .act f xs=>f A (j6 t xs)
 | .look f xs=>(f (j6 t xs)).map fun v=>(v,A)
 | .Ba _ f xs=>(f (j6 t xs)).map fun v=>(v,A)
 | .Gu _ f xs=>(f (vy A (j6 t xs)).1).map fun v=>(v,(vy A (j6 t xs)).2)
 | .call _ _=>.no
 | .bad=>.no
theorem aK.zb {α β:Type} {r:KR α} {f:α->β} {u:α} (h:aK r u):aK (r.map f) (f u):=by
 cases r with
 | no=>exact h.elim
 | ok x=>have h:x=u:=h; subst h; exact rfl
 | jt c x=>obtain ⟨h1,rfl⟩:=h; exact ⟨h1,rfl⟩
 | br c x y=>exact h.imp (fun h=>⟨h.1,aK.zb (r:=x) h.2⟩) (fun h=>⟨h.1,aK.zb (r:=y) h.2⟩)
theorem Ij {R:Type} {bz:mj R} {t:bq} {A:ao} {k:KV->ao->Option R} {ins:pn} {r:R} (hn:∀ f args,ins≠.call f args) (h:O5 bz t A k ins=some r):∃ v A',aK (tl ins t A) (v,A')/\k v A' = some r:=by
 cases ins with
 | pure f xs=>obtain ⟨v,h1,h2⟩:=KR.yb h; exact ⟨v,A,h1.zb,h2⟩
 | read f xs=>obtain ⟨v,h1,h2⟩:=KR.yb h; exact ⟨v,A,h1.zb,h2⟩
 | act f xs=>obtain ⟨v,h1,h2⟩:=KR.yb h; exact ⟨v.1,v.2,h1,h2⟩
 | look f xs=>obtain ⟨v,h1,h2⟩:=KR.yb h; exact ⟨v,A,h1.zb,h2⟩
 | Ba g f xs=>obtain ⟨v,h1,h2⟩:=KR.yb h; exact ⟨v,A,h1.zb,h2⟩
 | Gu g f xs=>obtain ⟨v,h1,h2⟩:=KR.yb h; exact ⟨v,(vy A (j6 t xs)).2,h1.zb (f:=fun v=>(v,(vy A (j6 t xs)).2)),h2⟩
 | call f args=>exact absurd rfl (hn f args)
 | bad=>exact absurd h (by simp [O5])
theorem Zs {cfg:dE} (gw:ru P cfg.pc) {o:Oper} {g:FuncId} {xs:List Operand} (aR:compile P o.op = .call (.func g) xs) {F0:List KV->KR KV} (hF0:cfg.pc g=some F0) {t:bq} {vs0:List KV} {v:KV}
  (hf:aK (F0 (normArgs P (cn P g) vs0)) v) (hlen:vs0.length=(cn P g).length) {E:Env} {ρ:Ren} {a:Act} (hv:∀ x∈xs,VC P E ρ (jK t x) (a.eval x)) {A A1:ao} {B:St} {base:Nat} {w:World}
  (arq:∀ us,ba P E (xs.map (jK t)) us->∃ E1,Ev P base E A B ρ w E1 A1 B ρ w/\ba P E1 vs0 us) {next:Act->World->Prop} {Q:Exit->Act->World->Prop}
  (hk:∀ E' B' aJ v' w',VC P E' aJ v v'->Ev P base E A B ρ w E' A1 B' aJ w'->next (a.put o.dst v') w'):o.upon P a next Q ((execOp a.eval o).run P w):=by
 obtain ⟨hg,j5⟩:=gw g F0 hF0 _ _ hf hlen;have ae8:=pj P o;rw [aR] at ae8;obtain ⟨em,h3,h4⟩:=mid (xs:=xs) hv
 let em2:Operand->Value:=fun x=>match x with
  | .func f=>.func (.func f) #[] #[]
  | x=>em x
 have e3:∀ x∈xs,VK P E (jK t x) (em2 x)/\VR ρ (em2 x) (a.eval x):=by
  intro x hx;have key:∀ (l:List Operand),ba P E (l.map (jK t)) (l.map em)->x∈l->VK P E (jK t x) (em x):=by
   intro l
   induction l with
   | nil=>intro _ h; simp at h
   | cons y l ih=>
    intro h hm;obtain ⟨z,zs,e,q1,q2⟩:=h.cons_inv;simp only [List.map_cons,List.cons.injEq] at e;obtain ⟨rfl,rfl⟩:=e;rcases dv.1 hm with rfl | hm
    ·exact q1
    ·exact ih q2 hm
  cases x with
  | func f=>exact ⟨.ahC .nil .nil,VR.aaT (l:=[]) (m:=[]) (.func f) rfl .nil .nil⟩
  | tmp i=>exact ⟨key xs h3 hx,h4 _ hx⟩
  | const c=>exact ⟨key xs h3 hx,h4 _ hx⟩
  | global q=>exact ⟨key xs h3 hx,h4 _ hx⟩
 have e4:ba P E (xs.map (jK t)) (xs.map em2):=by
  have:∀ (l:List Operand),(∀ x∈l,VK P E (jK t x) (em2 x))->ba P E (l.map (jK t)) (l.map em2):=by
   intro l
   induction l with
   | nil=>intro _; exact .nil
   | cons y l ih=>intro h; exact .cons (h y (by simp)) (ih fun z hz=>h z (by simp [hz]))
  exact this xs fun x hx=>(e3 x hx).1
 obtain ⟨cE,h5,h6⟩:=ae8.2 ρ em2 a.eval g (xs.map em2) (fun x hx=>by
   rcases dv.1 hx with rfl | hx
   ·exact VR.aaT (l:=[]) (m:=[]) (.func g) rfl .nil .nil
   ·exact (e3 x hx).2) hg.1 (by simp only [em2,tP]; rw [hg.1]; simp) hg.2
 rw [h6 w];obtain ⟨E1,q1,q2⟩:=arq _ e4;refine (j5 E1 A1 B ρ base w cE ⟨xs.map em2,q2,h5⟩ q1.kj).mono ?_;rintro e w' ⟨v',E',B',aJ,rfl,h7,h8⟩;exact hk E' B' aJ v' w' h7 (q1.trans h8)
theorem MO {cfg:dE} (gw:ru P cfg.pc) {o:Oper} {t:bq} {A A' : ao} {v:KV} {base:Nat} {B:St} {ρ:Ren} {a:Act} {w:World} {next:Act->World->Prop} {Q:Exit->Act->World->Prop}
  (h:aK (tl (bP P cfg o.op) t A) (v,A')) (hv:∀ x∈aaZ (bP P cfg o.op),VC P E ρ (jK t x) (a.eval x)) (hj:KJ P E A B ρ base w)
  (hk:∀ E' B' aJ v' w',VC P E' aJ v v'->Ev P base E A B ρ w E' A' B' aJ w'->next (a.put o.dst v') w'):o.wp P a w next Q:=by
 have cQ:=amM P cfg o;have alR:=@agi P cfg o.op;have alS:=@agj P cfg o.op;generalize bP P cfg o.op=ins at h cQ hv alR alS;unfold Oper.wp;cases ins with
 | pure f xs=>
  obtain ⟨u,h1,h2⟩:=aK.map h;simp only [dJ] at h2;obtain ⟨rfl,rfl⟩:=h2;rw [qD] at h1;obtain ⟨v',h3,h4⟩:=cQ E ρ (jK t) a.eval u hv h1;rw [h4 w];exact hk E B ρ v' w h3 (.refl hj.k hj.s)
 | read f xs=>
  obtain ⟨u,h1,h2⟩:=aK.map h;simp only [dJ] at h2;obtain ⟨rfl,rfl⟩:=h2;rw [qD] at h1;obtain ⟨v',h3,h4⟩:=cQ E A B ρ base w (jK t) a.eval u hj hv h1;rw [h4];exact hk E B ρ v' w h3 (.refl hj.k hj.s)
 | act f xs=>
  have h:aK (f A (j6 t xs)) (v,A'):=h;rw [qD] at h;obtain ⟨E',B',aJ,v',nx,w',h1,h2,h3,h4⟩:=cQ E A A' B ρ base w (jK t) a.eval v hj hv h;rw [h1];have hd:=hk E' B' aJ v' w' h3 h4;cases nx with
  | value u=>have:u=v':=h2; subst this; exact hd
  | skip=>have:v' = undef:=h2; subst this; exact hd
  | _=>exact h2.elim
 | look f xs=>
  obtain ⟨u,h1,h2⟩:=aK.map h;simp only [dJ] at h2;obtain ⟨rfl,rfl⟩:=h2;rw [qD] at h1;obtain ⟨E',B',aJ,v',nx,w',h3,h4,h5,h6⟩:=cQ E A B ρ base w (jK t) a.eval u hj hv h1;rw [h3];have hd:=hk E' B' aJ v' w' h5 h6;cases nx with
  | value u=>have:u=v':=h4; subst this; exact hd
  | skip=>have:v' = undef:=h4; subst this; exact hd
  | _=>exact h4.elim
 | Ba g f xs=>
  obtain ⟨u,h1,h2⟩:=aK.map h;simp only [dJ] at h2;obtain ⟨rfl,rfl⟩:=h2;obtain ⟨aR,F0,hF0,rfl⟩:=alR rfl;obtain ⟨hlen,hf⟩:=aK.cond h1;exact Zs gw aR hF0 hf (aW hlen) hv (fun us q=>⟨E,.refl hj.k hj.s,by rw [qD]; exact q⟩) hk
 | Gu g f xs=>
  obtain ⟨u,h1,h2⟩:=aK.map h;simp only [dJ] at h2;obtain ⟨rfl,rfl⟩:=h2;obtain ⟨aR,F0,hF0,rfl⟩:=alS rfl;obtain ⟨hlen,hf⟩:=aK.cond h1;refine Zs gw aR hF0 hf (aW hlen) hv (fun us q=>?_) hk;obtain ⟨E1,p1,p2⟩:=Ii hj.k q;rw [qD];exact ⟨E1,p1.ev (.refl hj.s),p2⟩
 | call f args=>exact h.elim
 | bad=>exact h.elim
end Go.K
end
section
namespace Go.K
open Go Go.aq
variable {P:Program} {E:Env}
theorem Zt {R:Type} {cfg:dE} {bz:mj R} (gw:ru P cfg.pc) (sX:KS P bz) {o:Oper} {t:bq} {A:ao} {k:KV->ao->Option R} {r:R} {N base:Nat} {B:St} {ρ:Ren} {a:Act} {w:World} {next:Act->World->Prop} {Q:Exit->Act->World->Prop}
  (h:O5 bz t A k (bP P cfg o.op)=some r) (ht:jf P E ρ t N a) (hj:KJ P E A B ρ base w)
  (hk:∀ E' A' B' aJ v v' w',k v A' = some r->VC P E' aJ v v'->Ev P base E A B ρ w E' A' B' aJ w'->next (a.put o.dst v') w'):o.wp P a w next Q:=by
 by_cases hc:∃ f args,bP P cfg o.op = .call f args
 ·obtain ⟨f,args,hc⟩:=hc
  rw [hc] at h;have h:Option.rec (motive:=fun _=>Option R) none (fun p=>bz p.1 p.2 A k) (Gv (j6 t args) (jK t f))=some r:=h;cases ahl:Gv (j6 t args) (jK t f) with
  | none=>rw [ahl] at h; exact absurd h (by simp)
  | some p=>
   obtain ⟨g,vs⟩:=p;rw [ahl] at h;have h:bz g vs A k=some r:=h;obtain ⟨hg,j5⟩:=sX g vs A k r h;obtain ⟨cE,h1,h2⟩:=agh (Zr hc) ht ahl hg;unfold Oper.wp;rw [h2 w];refine (j5 E B ρ base w cE h1 hj).mono ?_;rintro e w' ⟨v,v',E',A',B',aJ,rfl,h3,h4,h5⟩;exact hk E' A' B' aJ v v' w' h5 h3 h4
 ·obtain ⟨v,A',h1,h2⟩:=Ij (fun f args e=>hc ⟨f,args,e⟩) h
  exact MO gw h1 (fun x _=>ht.ev x) hj fun E' B' aJ v' w' h3 h4=>hk E' A' B' aJ v v' w' h2 h3 h4
theorem ahV {R:Type} {cfg:dE} {bz:mj R} {all:List Oper} {o:Oper} {k:bq->ao->Option R} {t:bq} {A:ao} {r:R} {N:Nat} {ρ:Ren} {a:Act} (ht:jf P E ρ t N a) (h:xg P cfg bz all o k t A=some r) :
  ∃ t1,(∀ i,t1.get i=t.get i)/\((Region.wanted o (yielded ⟨all⟩ a.tmps)=true/\O5 bz t1 A (fun v A=>k (oy t1 o.dst v) A) (bP P cfg o.op)=some r)\/
   (Region.wanted o (yielded ⟨all⟩ a.tmps)=false/\k (oy t1 o.dst qf) A=some r)):=by
 unfold xg at h;cases hg:o.guard with
 | none=>
  rw [hg] at h;refine ⟨t,fun _=>rfl,.inl ⟨?_,h⟩⟩;unfold Region.wanted;rw [hg]
 | some p=>
  obtain ⟨j,want⟩:=p;rw [hg] at h;exact agf hg ht h
theorem Pm {R:Type} {cfg:dE} {bz:mj R} (gw:ru P cfg.pc) (sX:KS P bz) {N base:Nat} {Q:Exit->Act->World->Prop} {all:List Oper} (hd:all.all (Jl N)=true) {k:bq->ao->Option R} {r:R} :
  ∀ (os:List Oper) (j:Nat) (t:bq) (E:Env) (A:ao) (B:St) (ρ:Ren) (a:Act) (w:World),all.drop j=os->rp P cfg bz all k os t A=some r->jf P E ρ t N a->KJ P E A B ρ base w->
   (∀ t' E' A' B' aJ a' w',k t' A' = some r->jf P E' aJ t' N a'->a'.defers=a.defers->Ev P base E A B ρ w E' A' B' aJ w'->Q .normal a' w')->wpOps P ⟨all⟩ Q (List.range' j os.length) a w
 | [],j,t,E,A,B,ρ,a,w,_,h,ht,hj,hq=>hq t E A B ρ a w h ht rfl (.refl hj.k hj.s)
 | o::os,j,t,E,A,B,ρ,a,w,hk,h,ht,hj,hq=>by
  have ho:(⟨all⟩:Array Oper)[j]? = some o:=by
   have:(all.drop j)[0]? = some o:=by rw [hk]; rfl
   rw [mX] at this;simpa using this
  have tJ:all.drop (j+1)=os:=by rw [<- List.drop_drop,hk]; rfl
  have GB:∀ d,o.dst=some d->d < N:=by
   intro d e;have hm:o∈all:=fR (by simpa using ho);have:=eM.1 hd o hm;unfold Jl at this;rw [e] at this;simp only at this;rw [bO] at this;exact this
  rw [yM,List.range'_succ];simp only [wpOps,ho];have h:xg P cfg bz all o (rp P cfg bz all k os) t A=some r:=h;obtain ⟨t1,DF,h⟩:=ahV ht h;have uQ:=ht.same DF;rcases h with ⟨hw,h⟩ | ⟨hw,h⟩
  ·rw [hw]
   refine .inl (Zt gw sX h uQ hj fun E' A' B' aJ v v' w' h1 h2 h3=>?_);refine Pm gw sX hd os (j+1) _ E' A' B' aJ _ w' tJ h1 ((uQ.mono h3.le (h3.eF.le hj.s)).put GB h2) h3.kj fun t' HV A'' JB sf XX HQ h4 h5 h6 h7=>?_;exact hq t' HV A'' JB sf XX HQ h4 h5 (by rw [h6,put_defers]) (h3.trans h7)
  ·rw [hw]
   refine Pm gw sX hd os (j+1) _ E A B ρ _ w tJ h (uQ.put GB .undef) hj fun t' HV A'' JB sf XX HQ h4 h5 h6 h7=>?_;exact hq t' HV A'' JB sf XX HQ h4 h5 (by rw [h6,put_defers]) h7
abbrev Out:=Bool×KV×ao
inductive Run (P:Program) (cfg:dE) (all:List Oper):List Oper->bq->ao->List Out->bq->ao->Prop where
 | nil {t:bq} {A:ao} : Run P cfg all [] t A [] t A
 | cons {o:Oper} {os:List Oper} {t t1 t' : bq} {A A1 A' : ao} {wd:Bool} {v:KV} {L:List Out}
   (same:∀ i,t1.get i=t.get i)
   (want:(o.guard=none/\wd=true)\/∃ j want d,o.guard=some (j,want)/\(all[j]?).bind (·.dst)=some d/\((∃ b,t.get d=some (.bool b)/\wd=(b==want))\/(∃ l,t.get d=some (.jV l)/\wd=false)))
   (yes:wd=true->aK (tl (bP P cfg o.op) t1 A) (v,A1)) (no:wd=false->v=qf/\A1=A)
   (rest:Run P cfg all os (oy t1 o.dst v) A1 L t' A'):Run P cfg all (o::os) t A ((wd,v,A1)::L) t' A'
theorem MP {R:Type} {t:bq} {d:Option Tmp} {want:Bool} {yes no:bq->Option R} {r:R} (h:ahw t d want yes no=some r) :
  ∃ d',d=some d'/\((∃ b t',t.get d' = some (.bool b)/\(∀ i,t'.get i=t.get i)/\((b==want)=true/\yes t' = some r\/(b==want)=false/\no t' = some r))\/∃ l,t.get d' = some (.jV l)/\no t=some r):=by
 unfold ahw at h;cases d with
 | none=>exact absurd h (by simp)
 | some d=>
  refine ⟨d,rfl,?_⟩;have h:BK.rec (motive:=fun _=>Option R)
   (fun b=>Bool.rec (motive:=fun _=>Option R)
    (Bool.rec (motive:=fun _=>Option R) (yes (t.set (.bool false) d)) (no (t.set (.bool false) d)) want)
    (Bool.rec (motive:=fun _=>Option R) (no (t.set (.bool true) d)) (yes (t.set (.bool true) d)) want) b)
   (no t) none (sV ((t.get d).getD .bA))=some r:=h
  have lY:∀ v,(t.get d).getD .bA=v->v≠.bA->t.get d=some v:=by
   intro v e cH;cases hg:t.get d with
   | none=>rw [hg] at e; exact absurd e.symm cH
   | some u=>rw [hg] at e; simp at e; rw [e]
  cases hb:sV ((t.get d).getD .bA) with
  | no=>rw [hb] at h; exact absurd h (by simp)
  | jV=>
   rw [hb] at h;obtain ⟨l,hl⟩:=acg hb;exact .inr ⟨l,lY _ hl (by simp),h⟩
  | bool b=>
   rw [hb] at h;refine .inl ⟨b,t.set (.bool b) d,lY _ (C6 hb) (by simp),MN hb,?_⟩;cases b <;> cases want
   ·exact .inl ⟨rfl,h⟩
   ·exact .inr ⟨rfl,h⟩
   ·exact .inr ⟨rfl,h⟩
   ·exact .inl ⟨rfl,h⟩
theorem Vv {R:Type} {cfg:dE} {bz:mj R} {all:List Oper} {k:bq->ao->Option R} {r:R} : ∀ {os:List Oper} {t:bq} {A:ao},(∀ o∈os,∀ f args,bP P cfg o.op≠.call f args)->rp P cfg bz all k os t A=some r->
  ∃ L t' A',Run P cfg all os t A L t' A'/\k t' A' = some r
 | [],t,A,_,h=>⟨[],t,A,.nil,h⟩
 | o::os,t,A,hn,h=>by
  have h:xg P cfg bz all o (rp P cfg bz all k os) t A=some r:=h;have Mo:=fun q hq=>hn q (uF o hq);unfold xg at h;cases hg:o.guard with
  | none=>
   rw [hg] at h;obtain ⟨v,A1,h1,h2⟩:=Ij (hn o (by simp)) h;obtain ⟨L,t',A',h3,h4⟩:=Vv Mo h2;exact ⟨_,t',A',.cons (fun _=>rfl) (.inl ⟨hg,rfl⟩) (fun _=>h1) (fun e=>by simp at e) h3,h4⟩
  | some p=>
   obtain ⟨j,want⟩:=p;rw [hg] at h;obtain ⟨d,hd,h⟩:=MP h;rcases h with ⟨b,t1,h1,h2,h3⟩ | ⟨l,h1,h2⟩
   ·rcases h3 with ⟨h3,h4⟩ | ⟨h3,h4⟩
    ·obtain ⟨v,A1,h5,h6⟩:=Ij (hn o (by simp)) h4
     obtain ⟨L,t',A',h7,h8⟩:=Vv Mo h6;exact ⟨_,t',A',.cons h2 (.inr ⟨j,want,d,hg,hd,.inl ⟨b,h1,h3.symm⟩⟩) (fun _=>h5) (fun e=>by simp at e) h7,h8⟩
    ·obtain ⟨L,t',A',h7,h8⟩:=Vv Mo h4
     exact ⟨_,t',A',.cons h2 (.inr ⟨j,want,d,hg,hd,.inl ⟨b,h1,h3.symm⟩⟩) (fun e=>by simp at e) (fun _=>⟨rfl,rfl⟩) h7,h8⟩
   ·obtain ⟨L,t',A',h7,h8⟩:=Vv Mo h2
    exact ⟨_,t',A',.cons (fun _=>rfl) (.inr ⟨j,want,d,hg,hd,.inr ⟨l,h1,rfl⟩⟩) (fun e=>by simp at e) (fun _=>⟨rfl,rfl⟩) h7,h8⟩
noncomputable def turns (P:Program) (cfg:dE) (o:Oper) (x:Out):Bool:=x.1&&Nat.ble 3 (cX (bP P cfg o.op))
noncomputable def gH (S:Nat->Bool):List Oper->List Out->Nat->bq->bq
 | o::os,x::L,i,t=>gH S os L (i+1) (cond (S i) (oy t o.dst x.2.1) t)
 | _,_,_,t=>t
noncomputable def l8 (P:Program) (cfg:dE) (S:Nat->Bool):List Oper->List Out->Nat->ao->ao
 | o::os,x::L,i,A=>l8 P cfg S os L (i+1) (cond (S i&&turns P cfg o x) x.2.2 A)
 | _,_,_,A=>A
theorem qE (t:bq) (dst:Option Tmp) (v:KV) (x:Tmp):(oy t dst v).get x=if dst=some x then some v else t.get x:=by
 cases dst with
 | none=>rfl
 | some d=>
  simp only [oy,Trie.nE,cJ];by_cases h:x=d
  ·rw [aI h,aI h.symm]
  ·rw [ak h,ak (Ne.symm h)]
theorem Bk (S:Nat->Bool):∀ (os:List Oper) (L:List Out) (k:Nat) (t:bq),gH S os L (k+1) t=gH (fun i=>S (i+1)) os L k t
 | [],L,k,t=>by cases L <;> rfl
 | o::os,[],k,t=>rfl
 | o::os,x::L,k,t=>by simp only [gH]; exact Bk S os L (k+1) _
theorem TE {cfg:dE} (S:Nat->Bool):∀ (os:List Oper) (L:List Out) (k:Nat) (A:ao),l8 P cfg S os L (k+1) A=l8 P cfg (fun i=>S (i+1)) os L k A
 | [],L,k,t=>by cases L <;> rfl
 | o::os,[],k,t=>rfl
 | o::os,x::L,k,t=>by simp only [l8]; exact TE S os L (k+1) _
theorem kr {S S' : Nat->Bool} {y:Tmp} : ∀ {os:List Oper} {L:List Out} {k:Nat} {t t' : bq},t.get y=t'.get y->(∀ i o,os[i]? = some o->o.dst=some y->S (k+i)=S' (k+i))->(gH S os L k t).get y=(gH S' os L k t').get y
 | [],L,k,t,t',h,_=>by cases L <;> exact h
 | o::os,[],k,t,t',h,_=>h
 | o::os,x::L,k,t,t',h,hs=>by
  simp only [gH];refine kr ?_ fun i o' ho hd=>by have:=hs (i+1) o' (by simpa using ho) hd; rwa [show k+(i+1)=k+1+i by omega] at this
  by_cases hd:o.dst=some y
  ·have:=hs 0 o rfl hd
   rw [yL] at this;rw [this];cases S' k with
   | true=>simp only [aj,qE,aI hd]
   | false=>exact h
  ·have e:∀ (b:Bool) (u:bq),(cond b (oy u o.dst x.2.1) u).get y=u.get y:=by
    intro b u;cases b with
    | true=>rw [aj,qE,ak hd]
    | false=>rfl
   rw [e,e]; exact h
theorem ach {S:Nat->Bool} {y:Tmp} : ∀ {os:List Oper} {L:List Out} {k i:Nat} {t:bq} {o:Oper} {x:Out},os[i]? = some o->L[i]? = some x->o.dst=some y->(∀ j q,os[j]? = some q->q.dst=some y->i < j->S (k+j)=false)->
  (gH (cF S (k+i)) os L k t).get y=some x.2.1
 | [],L,k,i,t,o,x,ho,_,_,_=>by simp at ho
 | q::os,[],k,i,t,o,x,_,hx,_,_=>by simp at hx
 | q::os,u::L,k,0,t,o,x,ho,hx,hd,hs=>by
  simp at ho hx;subst ho hx;simp only [gH,yL];have hk:cF S k k=true:=by simp [cF]
  rw [hk,aj];have:=kr (S:=cF S k) (S':=fun _=>false) (y:=y) (os:=os) (L:=L) (k:=k+1) (t:=oy t q.dst u.2.1) (t':=oy t q.dst u.2.1) rfl (fun j q' hq hqd=>by
   have h1:=hs (j+1) q' (by simpa using hq) hqd (by omega);rw [show k+(j+1)=k+1+j by omega] at h1;simp only [cF,h1,Bool.false_or];cases hb:Nat.beq (k+1+j) k with
   | false=>rfl
   | true=>have:=aW hb; omega)
  rw [this];have DN:∀ (os:List Oper) (L:List Out) (k:Nat) (t:bq),gH (fun _=>false) os L k t=t:=by
   intro os
   induction os with
   | nil=>intro L k t; cases L <;> rfl
   | cons o os ih=>intro L k t; cases L with
    | nil=>rfl
    | cons x L=>simp only [gH,aF]; exact ih L _ t
  rw [DN,qE,aI hd]
 | q::os,u::L,k,i+1,t,o,x,ho,hx,hd,hs=>by
  simp only [gH];rw [show k+(i+1)=k+1+i by omega];exact ach (by simpa using ho) (by simpa using hx) hd fun j q' hq hqd bh=>by
   have:=hs (j+1) q' (by simpa using hq) hqd (by omega);rwa [show k+(j+1)=k+1+j by omega] at this
theorem Ik {cfg:dE} {S S' : Nat->Bool} : ∀ {os:List Oper} {L:List Out} {k:Nat} {A:ao},(∀ i o x,os[i]? = some o->L[i]? = some x->turns P cfg o x=true->S (k+i)=S' (k+i))->l8 P cfg S os L k A=l8 P cfg S' os L k A
 | [],L,k,A,_=>by cases L <;> rfl
 | o::os,[],k,A,_=>rfl
 | o::os,x::L,k,A,h=>by
  simp only [l8];have h0:(S k&&turns P cfg o x)=(S' k&&turns P cfg o x):=by
   cases ht:turns P cfg o x with
   | false=>simp
   | true=>have:=h 0 o x rfl rfl ht; rw [yL] at this; rw [this]
  rw [h0];exact Ik fun i o' x' ho hx ht=>by have:=h (i+1) o' x' (by simpa using ho) (by simpa using hx) ht; rwa [show k+(i+1)=k+1+i by omega] at this
def MQ (all:List Oper) (o:Oper) (t:bq) (wd:Bool):Prop:=(o.guard=none/\wd=true)\/∃ j want d,o.guard=some (j,want)/\(all[j]?).bind (·.dst)=some d/\((∃ b,t.get d=some (.bool b)/\wd=(b==want))\/(∃ l,t.get d=some (.jV l)/\wd=false))
theorem Bl {cfg:dE} {o:Oper} {t:bq} {A A1:ao} {v:KV} (h:aK (tl (bP P cfg o.op) t A) (v,A1)) (hk:Nat.ble 3 (cX (bP P cfg o.op))=false):A1=A:=by
 generalize bP P cfg o.op=ins at h hk;cases ins with
 | pure f xs=>obtain ⟨u,_,h2⟩:=aK.map h; simp at h2; exact h2.2.symm
 | read f xs=>obtain ⟨u,_,h2⟩:=aK.map h; simp at h2; exact h2.2.symm
 | act f xs=>exact absurd hk (by simp [cX])
 | look f xs=>obtain ⟨u,_,h2⟩:=aK.map h; simp at h2; exact h2.2.symm
 | Ba g f xs=>obtain ⟨u,_,h2⟩:=aK.map h; simp at h2; exact h2.2.symm
 | Gu g f xs=>exact absurd hk (by simp [cX])
 | call f xs=>exact h.elim
 | bad=>exact h.elim
theorem Run.at {cfg:dE} {all:List Oper} : ∀ {os:List Oper} {t t' : bq} {A A' : ao} {L:List Out},Run P cfg all os t A L t' A'->
  L.length=os.length/\(∀ y,t'.get y=(gH (fun _=>true) os L 0 t).get y)/\A' = l8 P cfg (fun _=>true) os L 0 A/\
  ∀ i o x,os[i]? = some o->L[i]? = some x->∃ t1,(∀ y,t1.get y=(gH (fun j=>Nat.blt j i) os L 0 t).get y)/\MQ all o t1 x.1/\(x.1=true->aK (tl (bP P cfg o.op) t1 (l8 P cfg (fun j=>Nat.blt j i) os L 0 A)) (x.2.1,x.2.2))/\(x.1=false->x.2.1=qf)
 | _,_,_,_,_,_,.nil=>⟨rfl,fun _=>rfl,rfl,fun i o x ho=>by simp at ho⟩
 | o::os,t,t',A,A',(wd,v,A1)::L,.cons (t1:=t1) same want yes no rest=>by
  obtain ⟨h1,h2,h3,h4⟩:=rest.at;have hA1:cond (turns P cfg o (wd,v,A1)) A1 A=A1:=by
   cases ht:turns P cfg o (wd,v,A1) with
   | true=>rfl
   | false=>
    rw [aF];cases wd with
    | false=>exact (no rfl).2.symm
    | true=>exact (Bl (yes rfl) (by simpa [turns] using ht)).symm
  have Vw:∀ y,(oy t1 o.dst v).get y=(oy t o.dst v).get y:=fun y=>by rw [qE,qE,same]
  refine ⟨by simp [h1],fun y=>?_,?_,fun i q x hq hx=>?_⟩
  ·rw [h2 y]
   simp only [gH,aj];rw [Bk];exact kr (Vw y) fun _ _ _ _=>rfl
  ·rw [h3]
   simp only [l8,wD];rw [TE,hA1]
  ·cases i with
   | zero=>
    simp at hq hx;subst hq hx;have e0:∀ (os:List Oper) (L:List Out) (k:Nat) (t:bq),gH (fun j=>Nat.blt j 0) os L k t=t:=by
     intro os
     induction os with
     | nil=>intro L k t; cases L <;> rfl
     | cons o os ih=>intro L k t; cases L with
      | nil=>rfl
      | cons x L=>simp only [gH]; exact ih L _ t
    have e1:∀ (os:List Oper) (L:List Out) (k:Nat) (A:ao),l8 P cfg (fun j=>Nat.blt j 0) os L k A=A:=by
     intro os
     induction os with
     | nil=>intro L k t; cases L <;> rfl
     | cons o os ih=>intro L k t; cases L with
      | nil=>rfl
      | cons x L=>simp only [l8]; exact ih L _ t
    refine ⟨t1,fun y=>by rw [e0]; exact same y,?_,fun e=>by rw [e1]; exact yes e,fun e=>(no e).1⟩;rcases want with h | ⟨j,wt,d,e2,e3,e4⟩
    ·exact .inl h
    ·exact .inr ⟨j,wt,d,e2,e3,by rw [same]; exact e4⟩
   | succ i=>
    obtain ⟨t2,h5,h6,h7,h8⟩:=h4 i q x (by simpa using hq) (by simpa using hx);have hsh:(fun j=>Nat.blt (j+1) (i+1))=fun j=>Nat.blt j i:=by
     funext j;cases hb:Nat.blt j i with
     | true=>rw [bO] at hb ⊢; omega
     | false=>
      cases hc:Nat.blt (j+1) (i+1) with
      | false=>rfl
      | true=>rw [bO] at hc; rw [show Nat.blt j i=true from by rw [bO]; omega] at hb; simp at hb
    have h01:Nat.blt 0 (i+1)=true:=by rw [bO]; omega
    have eK:l8 P cfg (fun j=>Nat.blt j (i+1)) (o::os) ((wd,v,A1)::L) 0 A=l8 P cfg (fun j=>Nat.blt j i) os L 0 A1:=by
     simp only [l8,h01,wD];rw [TE,hA1,hsh]
    refine ⟨t2,fun y=>?_,h6,fun e=>by rw [eK]; exact h7 e,h8⟩;rw [h5 y];simp only [gH,h01,aj];rw [Bk,hsh];exact kr (Vw y) fun _ _ _ _=>rfl
end Go.K
end
