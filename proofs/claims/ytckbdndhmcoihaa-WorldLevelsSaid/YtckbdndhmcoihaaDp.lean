/- Part of the proof of WorldLevels: the machine, shown to be the model's, and plain models. No conditions. -/
import Derived.Test.YtckbdndhmcoihaaCp
set_option linter.unusedSimpArgs false
set_option linter.unusedVariables false
section
namespace Go.K
open Go Go.aG
variable {P:Program} {E:Env}
def mkE (agg:Bool) (m:List Value):Value:=cond agg (.agg ⟨m⟩) (m.headD .nilIface)
theorem aan {agg:Bool} {m:List Value} (hs:∀ v∈m,scalar v=true) (h:agg=true\/m.length=1):(mkE agg m).cells.toList=m:=by
 cases agg with
 | true=>rfl
 | false=>
  rcases h with h | h
  ·simp at h
  ·match m,h with
   | [v],_=>
    have:=hs v (by simp);show v.cells.toList = [v];cases v <;> first | rfl | simp [scalar] at this
theorem Wi {l:Lay} {ks:List KV} (h:aD l.ks ks=true) (ha:l.agg=true\/l.ks.length=1):cw l (Om l.agg ks)=true:=by
 obtain ⟨agg,cs⟩:=l;cases agg with
 | true=>simpa [Om,cw] using h
 | false=>
  simp at ha
  match cs,ha,ks,h with
  | [c],_,[v],h=>
   have hk:kindOk c v=true:=by simpa [aD] using h
   show cw ⟨false,[c]⟩ v=true;cases v with
   | agg cs=>cases c <;> simp [kindOk] at hk
   | ma cs=>cases c <;> simp [kindOk] at hk
   | _=>simpa [cw] using h
  | [c],_,[],h=>simp [aD] at h
  | [c],_,_::_::_,h=>simp [aD] at h
theorem aao {E:Env} {ks:List KV} {m:List Value} {agg:Bool} (h:aV P E ks m) (ha:agg=true\/m.length=1):VK P E (Om agg ks) (mkE agg m):=by
 cases agg with
 | true=>exact .rI h
 | false=>
  rcases ha with ha | ha
  ·simp at ha
  ·match m,ha,ks,h with
   | [v],_,ks,h=>
    have hl:=h.length
    match ks,hl,h with
    | [k],_,h=>
     obtain ⟨y,ys,e,h1,_⟩:=h.cons_inv;simp at e;rw [e.1];exact h1
theorem MZ {α:Type} : ∀ {n:Nat} {l vs r:List α},kU n l vs=some r->
  r.length=l.length/\(vs≠[]->n+vs.length<=l.length)/\∀ (i:Nat),r[i]? = if n<=i/\i < n+vs.length then vs[i - n]? else l[i]?
 | 0,l,[],r,h=>by simp [kU] at h; subst h; simp
 | 0,[],_::_,r,h=>by simp [kU] at h
 | 0,x::l,v::vs,r,h=>by
  simp only [kU,ck] at h;obtain ⟨q,hq,rfl⟩:=h;obtain ⟨h1,h2,h3⟩:=MZ hq;refine ⟨by simp [h1],?_,fun i=>?_⟩
  ·intro _
   cases vs with
   | nil=>simp
   | cons u us=>have:=h2 (by simp); simp at this ⊢; omega
  ·cases i with
   | zero=>simp
   | succ i=>simp [h3 i]
 | n+1,[],[],r,h=>by simp [kU] at h; subst h; simp
 | n+1,[],_::_,r,h=>by simp [kU] at h
 | n+1,x::l,vs,r,h=>by
  simp only [kU,ck] at h;obtain ⟨q,hq,rfl⟩:=h;obtain ⟨h1,h2,h3⟩:=MZ hq;refine ⟨by simp [h1],?_,fun i=>?_⟩
  ·intro cH
   have:=h2 cH;simp at this ⊢;omega
  ·cases i with
   | zero=>simp
   | succ i=>
    simp only [Ms,h3 i];by_cases hc:n<=i/\i < n+vs.length
    ·rw [aE hc,aE (by omega),show i+1 - (n+1)=i - n by omega]
    ·rw [aa hc,aa (by omega)]
theorem SB (v:KV):∀ (es:List KV) (i j:Nat),(setAt es i v).getD j .bf=if j=i/\i < es.length then v else es.getD j .bf
 | [],0,j=>by simp [setAt]
 | [],_+1,j=>by simp [setAt]
 | e::es,0,0=>by simp [setAt]
 | e::es,0,j+1=>by simp [setAt]
 | e::es,i+1,0=>by simp [setAt]
 | e::es,i+1,j+1=>by
  have:=SB v es i j;simp only [setAt,List.getD_cons_succ,qN];rw [this];by_cases h:j=i/\i < es.length
  ·rw [aE h,aE ⟨by omega,by omega⟩]
  ·rw [aa h,aa (by omega)]
theorem C1:∀ (n:Nat) (l vs:List Value),n+vs.length<=l.length->∃ r,gu n l vs=some r
 | 0,l,[],_=>⟨l,rfl⟩
 | 0,[],_::_,h=>by simp at h
 | 0,x::l,v::vs,h=>by
  obtain ⟨r,hr⟩:=C1 0 l vs (by simp at h ⊢; omega);exact ⟨v::r,by rw [yz,hr]; rfl⟩
 | n+1,[],[],_=>⟨[],rfl⟩
 | n+1,[],_::_,h=>by simp at h
 | n+1,x::l,vs,h=>by
  obtain ⟨r,hr⟩:=C1 n l vs (by simp at h ⊢; omega);exact ⟨x::r,by rw [uA,hr]; rfl⟩
theorem XG:∀ {ks:List CK} {cs:List KV},cs.length=ks.length->(∀ (i:Nat) c v,ks[i]? = some c->cs[i]? = some v->kindOk c v=true)->aD ks cs=true
 | [],[],_,_=>rfl
 | [],_::_,h,_=>by simp at h
 | _::_,[],h,_=>by simp at h
 | c::ks,v::cs,h,k=>by
  simp only [aD,aq];exact ⟨k 0 c v rfl rfl,XG (by simpa using h) fun i d u e1 e2=>k (i+1) d u (by simpa using e1) (by simpa using e2)⟩
theorem ahK {l:Lay} {e:KV} (h:cw l e=true):l.agg=true\/e.cells.length=1:=by
 by_cases ha:∃ cs,e = .agg cs
 ·obtain ⟨cs,rfl⟩:=ha
  simp only [cw,aq] at h;exact .inl h.1
 ·have hc:e.cells = [e]:=by cases e <;> first | rfl | exact absurd ⟨_,rfl⟩ ha
  rw [hc];exact .inr rfl
theorem aku {T t:TypeId} {k:Nat} {e vn e2:KV} {u w:Value} (hw:Y6 P T t k) (CZ:cw (aQ P T) e=true) (hu:VK P E e u) (hvn:cw (aQ P t) vn=true) (hvw:VK P E vn w) (h:putCells P T k e vn.cells=some e2) :
  ∃ u2,VK P E e2 u2/\cw (aQ P T) e2=true/\u2.cells.size=aU P T/\e2.cells.length=e.cells.length/\(∀ m,u2.cells.toList[m]? = if k<=m/\m < k+w.cells.toList.length then w.cells.toList[m - k]? else u.cells.toList[m]?)/\(w.cells.toList≠[]->k+w.cells.toList.length<=aU P T):=by
 unfold putCells at h;obtain ⟨l1,l2,_⟩:=MW CZ;rw [l1] at h;obtain ⟨ki,h1,rfl⟩:=ck.1 h;obtain ⟨tS,VL⟩:=gf CZ;obtain ⟨QV,Sb⟩:=gf hvn;have hcu:=hu.cells VL;have hcw:=hvw.cells Sb;obtain ⟨r,h2,h3⟩:=aV.kU h1 hcu hcw;obtain ⟨s1,s2,s3⟩:=gw h2;obtain ⟨q1,q2,q3⟩:=MZ h1;have MJ:e.cells.length=aU P T:=tX tS;have BN:=ahK CZ;have hlr:r.length=e.cells.length:=by rw [s1,hcu.length]
 have qE:aD (aQ P T).ks ki=true:=by
  refine XG (by rw [q1]; exact MJ) fun i c v e1 e3=>?_;rw [q3 i] at e3;split at e3
  ·rename_i hc
   obtain ⟨x,DY,hx2⟩:∃ d,(aQ P t).ks[i - k]? = some d/\d=c:=by
    have bj:i - k < (aQ P t).ks.length:=by rw [<- tX QV]; omega
    refine ⟨_,cI bj,?_⟩;have:=hw.is (i - k) _ (cI bj);rw [show k+(i - k)=i by omega,e1] at this;simpa using this.symm
   subst hx2;obtain ⟨v',h4,h5⟩:=CY QV DY;rw [e3] at h4;simp at h4; subst h4;exact h5
  ·obtain ⟨v',h4,h5⟩:=CY tS e1
   rw [e3] at h4;simp at h4; subst h4;exact h5
 have an5:cw (aQ P T) (Om (aQ P T).agg ki)=true:=Wi qE (by
  rcases BN with h | h
  ·exact .inl h
  ·exact .inr (by rw [<- tX tS]; exact h))
 have JC:∀ v∈r,scalar v=true:=h3.scalar (Hc qE);have wC:(mkE (aQ P T).agg r).cells.toList=r:=aan JC (BN.imp id fun h=>by rw [hlr]; exact h);refine ⟨mkE (aQ P T).agg r,aao h3 (BN.imp id fun h=>by rw [hlr]; exact h),an5,?_,?_,fun m=>?_,fun cH=>?_⟩
 ·rw [<- Array.length_toList,wC,hlr]; exact MJ
 ·exact (tX (gf an5).1).trans MJ.symm
 ·rw [wC]; exact s3 m
 ·have:=s2 cH
  rw [hcu.length] at this;omega
theorem akv {sz i k:Nat} {cs:List Value} {bh:List Value} {u u2:Value} {wl:List Value} (hl:qI sz 0 cs bh) (hi:bh[i]? = some u) (hsu:u.cells.size=sz) (mI:wl≠[]->k+wl.length<=sz) (hg:∀ m,u2.cells.toList[m]? = if k<=m/\m < k+wl.length then wl[m - k]? else u.cells.toList[m]?) (jE:u2.cells.size=sz) :
  ∃ ki,gu (i * sz+k) cs wl=some ki/\qI sz 0 ki (bh.set i u2)/\ki.length=cs.length:=by
 have hex:∃ ki,gu (i * sz+k) cs wl=some ki:=by
  cases hwl:wl with
  | nil=>exact ⟨cs,OK _ _⟩
  | cons a l=>
   have hf:=mI (by rw [hwl]; simp);rw [hwl] at hf;obtain ⟨_,hc⟩:=hl i u hi;have bj:k+l.length < u.cells.size:=by rw [hsu]; simp at hf; omega
   have:=hc (k+l.length) u.cells[k+l.length] (by simp [bj]);have hb:=(cG.1 this).1;exact C1 _ _ _ (by simp; omega)
 obtain ⟨ki,h1⟩:=hex;obtain ⟨s1,s2,s3⟩:=gw h1;refine ⟨ki,h1,fun j x hx=>?_,s1⟩;rw [List.getElem?_set] at hx;split at hx
 ·rename_i e
  subst e;split at hx
  ·simp at hx; subst hx
   refine ⟨jE,fun m y hy=>?_⟩;have hy' : u2.cells.toList[m]? = some y:=by simpa using hy
   have hm:m < sz:=by rw [<- jE]; exact (rV.1 hy).1
   rw [hg m] at hy';rw [ba,s3];split at hy'
   ·rw [aE (by omega),show i * sz+m - (i * sz+k)=m - k by omega]; exact hy'
   ·rw [aa (by omega)]
    have:=(hl i u hi).2 m y (by simpa using hy');rwa [ba] at this
  ·simp at hx
 ·rename_i cH
  obtain ⟨h2,h3⟩:=hl j x hx;refine ⟨h2,fun m y hy=>?_⟩;have hm:m < sz:=by rw [<- h2]; exact (rV.1 hy).1
  rw [s3,aa]
  ·exact h3 m y hy
  ·rintro ⟨ha,hb⟩
   cases hwl:wl with
   | nil=>rw [hwl] at hb; simp at hb; omega
   | cons a l=>
    have hf:=mI (by rw [hwl]; simp);rcases Nat.lt_or_gt_of_ne cH with h | h
    ·have:(i+1) * sz<=j * sz:=Nat.mul_le_mul_right _ h
     rw [Nat.succ_mul] at this;omega
    ·have:(j+1) * sz<=i * sz:=Nat.mul_le_mul_right _ h
     rw [Nat.succ_mul] at this;omega
theorem ahL {T:TypeId} {N i:Nat} {es:List KV} {acc:Nat->KV} {e:KV} (ht:gU P T N es acc) (hi:i < N) (he:cw (aQ P T) e=true):gU P T N (setAt es i e) (bN acc i e) where
 len:=by rw [EZ]; exact ht.len
 acc j hj:=by
  rw [SB];unfold bN;cases hb:Nat.beq j i with
  | true=>have:=aK hb; rw [aE ⟨this,by rw [<- ht.len]; exact hi⟩]; rfl
  | false=>rw [aa (fun h=>by rw [h.1,tM] at hb; simp at hb)]; exact ht.acc j hj
 typed:=oW fun j x hx=>by
  have hx' : x=(setAt es i e).getD j .bf:=by rw [fC,hx]; rfl
  rw [SB] at hx';split at hx'
  ·rw [hx']; exact he
  ·rename_i cH
   have bj:j < es.length:=by rw [<- EZ es i e]; exact (cG.1 hx).1
   exact gC ht.typed (i:=j) (by rw [hx',fC,cI bj]; rfl)
theorem Hd {B:St} {x y lo hi:Nat} {bK:Option (Nat×Nat)} : (B.fo x bK lo hi).get y=B.get y\/∃ g k,bK=some (g,k)/\y∈B.members g/\y≠x/\(B.fo x bK lo hi).get y=some .dead/\∃ cs e own f j,B.get y=some (.row cs e own (some (f,j))):=by
 cases bK with
 | none=>exact .inl rfl
 | some p=>
  obtain ⟨g,k⟩:=p;simp only [St.fo,D7];by_cases hc:y∈B.members g/\y≠x/\rH (B.get y) (k+lo) (k+hi)=true
  ·refine .inr ⟨g,k,rfl,hc.1,hc.2.1,by rw [aE hc],?_⟩
   have hs:=hc.2.2;unfold rH at hs;split at hs
   ·rename_i cs e own f j hy; exact ⟨cs,e,own,f,j,hy⟩
   ·simp at hs
  ·exact .inl (by rw [aa hc])
theorem LR {B:St} {x lo hi:Nat} {bK:Option (Nat×Nat)} : (B.fo x bK lo hi).members=B.members:=by
 cases bK with
 | none=>rfl
 | some p=>simp [St.fo]
theorem Rv {B:St} {x lo hi:Nat} {bK:Option (Nat×Nat)} : (B.fo x bK lo hi).next=B.next:=by
 cases bK with
 | none=>rfl
 | some p=>simp [St.fo]
theorem cO.aje {A:ae} {B:St} {b x N lo hi:Nat} {T:TypeId} {es:List KV} {acc:Nat->KV} {bh cs lY:List Value} {bK:Option (Nat×Nat)} (h:dr P E A B) (hb:∃ v,A.get b=some (.arr v)) (hx:E.α b=some (x,lY.length,N))
  (fp:B.get x=some (.row lY (aU P T) true bK)) (hlen:cs.length=lY.length) (dS:1<=aU P T) (ht:gU P T N es acc) (SC:aV P E es bh) (hl:qI (aU P T) 0 cs bh) :
  cO P E A B E (A.put b (.arr (.ts T .any N es acc))) ((B.put x (.row cs (aU P T) true bK)).fo x bK lo hi):=by
 obtain ⟨v0,hb⟩:=hb;have r6:AR A E x:=⟨b,v0,_,_,hb,hx⟩
 have jv:((B.put x (.row cs (aU P T) true bK)).fo x bK lo hi).get x=some (.row cs (aU P T) true bK):=by
  rcases Hd (B:=B.put x (.row cs (aU P T) true bK)) (x:=x) (y:=x) (lo:=lo) (hi:=hi) (bK:=bK) with e | ⟨g,k,_,_,h3,_⟩
  ·rw [e]; simp
  ·exact absurd rfl h3
 have hgy:∀ y,y≠x->((B.put x (.row cs (aU P T) true bK)).fo x bK lo hi).get y=B.get y\/(((B.put x (.row cs (aU P T) true bK)).fo x bK lo hi).get y=some .dead/\∃ g k,bK=some (g,k)/\y∈B.members g):=by
  intro y hy;rcases Hd (B:=B.put x (.row cs (aU P T) true bK)) (x:=x) (y:=y) (lo:=lo) (hi:=hi) (bK:=bK) with e | ⟨g,k,h1,h2,_,h4,_⟩
  ·exact .inl (by rw [e,St.bA,aa hy])
  ·exact .inr ⟨h4,g,k,h1,by simpa using h2⟩
 have mJ:((B.put x (.row cs (aU P T) true bK)).fo x bK lo hi).members=B.members:=by rw [LR]; simp
 have fU:((B.put x (.row cs (aU P T) true bK)).fo x bK lo hi).next=B.next:=by rw [Rv]; simp
 generalize (B.put x (.row cs (aU P T) true bK)).fo x bK lo hi=B' at jv hgy mJ fU;have Pc:∀ y,y≠x->(E.z y≠none\/AR A E y\/∃ c,E.κ c=some y)->B'.get y=B.get y:=by
  intro y hy hs;rcases hgy y hy with e | ⟨_,g,k,rfl,h2⟩
  ·exact e
  ·obtain ⟨_,_,h3⟩:=h.ar.vy b v0 x _ _ _ _ _ g k hb hx fp
   obtain ⟨h4,h5,h6⟩:=h3 y h2 hy;rcases hs with hs | hs | ⟨c,hs⟩
   ·exact absurd h4 hs
   ·exact absurd hs h5
   ·exact absurd hs (h6 c)
 have hA:∀ (c:Nat) (v:KV),(A.put b (.arr (.ts T .any N es acc))).get c=some (.arr v)->∃ u,A.get c=some (.arr u):=fun c v hc=>by
  rw [ae.bA] at hc;split at hc
  ·rename_i e; exact ⟨v0,by rw [e]; exact hb⟩
  ·exact ⟨v,hc⟩
 have Pd:∀ y,AR (A.put b (.arr (.ts T .any N es acc))) E y->AR A E y:=fun y q=>by
  obtain ⟨c,v,L,M,h1,h2⟩:=q;obtain ⟨u,h1⟩:=hA c v h1;exact ⟨c,u,L,M,h1,h2⟩
 have aap:∀ y,AR A E y->∀ oG e own Rw,B'.get y=some (.row oG e own Rw)->∃ ki,B.get y=some (.row ki e own Rw)/\ki.length=oG.length:=fun y q oG e own Rw hy=>by
  by_cases Ft:y=x
  ·subst Ft
   rw [jv] at hy;simp at hy;obtain ⟨rfl,rfl,rfl,rfl⟩:=hy;exact ⟨lY,fp,hlen.symm⟩
  ·rw [Pc y Ft (.inr (.inl q))] at hy
   exact ⟨oG,hy,rfl⟩
 have afA:∀ g,AF (A.put b (.arr (.ts T .any N es acc))) E B' g->AF A E B g:=fun g q=>by
  obtain ⟨c,v,y,L,M,oG,e,own,k,h1,h2,h3⟩:=q;obtain ⟨u,h1⟩:=hA c v h1;obtain ⟨ki,h3,_⟩:=aap y ⟨c,u,L,M,h1,h2⟩ _ _ _ _ h3;exact ⟨c,u,y,L,M,ki,e,own,k,h1,h2,h3⟩
 refine ⟨⟨?_,?_,?_,h.apart,h.inj,h.gz.put (.inl fun _ _=>by simp),h.jI,h.kK,?_,fun b x e=>by rw [fU]; exact h.eV b x e,fun b r e=>by rw [fU]; exact h.lB b r e,fun b g e=>by rw [fU]; exact h.ik b g e,fun g hg=>by rw [fU] at hg; rw [mJ]; exact h.fresh g hg,fun g y hy=>by rw [mJ] at hy; rw [fU]; exact h.mem g y hy,?_⟩,Env.le_refl _,aB _,?_,fun _ _ e=>.inl e,fun _ _ e=>.inl e,fun _ _ e=>.inl e,fun _ _ _ _=>by rw [mJ],fun y q=>.inl (Pd y q),fun g q=>.inl (afA g q),fun g y q=>.inl (by rw [mJ] at q; exact q),fun y q=>.inl ?_,?_,oV hb (by simp)⟩
 ·intro c oG bp hc
  rw [ae.bA] at hc;split at hc
  ·simp at hc
  ·obtain ⟨y,c1,h1,h2,h3⟩:=h.row c oG bp hc
   have hy:y≠x:=fun e=>(h.ar.z x r6).2 c (by rw [<- e]; exact h1);exact ⟨y,c1,h1,by rw [Pc y hy (.inr (.inr ⟨c,h1⟩))]; exact h2,h3⟩
 ·intro c top F4 hc
  rw [ae.bA] at hc;split at hc
  ·simp at hc
  ·rcases h.aP c top F4 hc with h1 | ⟨g,h1,h2,h3⟩
   ·exact .inl h1
   ·refine .inr ⟨g,h1,h2,fun y hy oG e own f k hr=>?_⟩
    rw [mJ] at hy;by_cases Ft:y=x
    ·subst Ft
     rw [jv] at hr;simp at hr;obtain ⟨rfl,_,_,rfl⟩:=hr;obtain ⟨h4,h5⟩:=h3 y hy lY _ _ f k fp;exact ⟨h4,by rw [hlen]; exact h5⟩
    ·rcases hgy y Ft with e1 | ⟨e1,_⟩
     ·rw [e1] at hr; exact h3 y hy oG e own f k hr
     ·rw [e1] at hr; simp at hr
 ·intro y r hy
  have Ft:y≠x:=fun e=>by have:=(h.ar.z x r6).1; rw [<- e,hy] at this; simp at this
  rw [Pc y Ft (.inl (by rw [hy]; simp))];exact h.z y r hy
 ·intro c o hc
  rw [ae.bA] at hc;split at hc
  ·rename_i e; rw [e]; exact h.live b _ hb
  ·exact h.live c o hc
 ·refine ⟨?_,?_,fun y q=>h.ar.z y (Pd y q),?_,?_,h.ar.Z6,h.ar.jI,fun b x L N e=>by rw [fU]; exact h.ar.eV b x L N e,?_,fun c v hc=>?_⟩
  ·intro c v hc
   rw [ae.bA] at hc;split at hc
   ·rename_i e
    simp at hc;subst hc e;exact ⟨T,N,es,acc,rfl,ht,dS,.inr ⟨x,cs,bK,bh,by rw [hlen]; exact hx,jv,SC,hl⟩⟩
   ·rename_i cH
    refine (h.ar.arr c v hc).mono (Env.le_refl _) rfl fun y L M e=>?_;have Ft:y≠x:=fun e2=>cH (h.ar.inj c b v v0 x _ _ _ _ hc hb (by rw [<- e2]; exact e) hx);exact Pc y Ft (.inr (.inl ⟨c,v,L,M,hc,e⟩))
  ·intro c v hc
   rw [ae.bA] at hc;split at hc
   ·simp at hc
   ·exact h.ar.iA c v hc
  ·intro c d v u y L M L' M' h1 h2 h3 h4
   obtain ⟨v',h1⟩:=hA c v h1;obtain ⟨u',h2⟩:=hA d u h2;exact h.ar.inj c d v' u' y L M L' M' h1 h2 h3 h4
  ·intro c d v u y w L M L' M' oG e own g k ki e' rm k' h1 h2 h3 h4 h5 h6
   obtain ⟨v',h1⟩:=hA c v h1;obtain ⟨u',h2⟩:=hA d u h2;obtain ⟨_,h5,_⟩:=aap y ⟨c,v',L,M,h1,h3⟩ _ _ _ _ h5;obtain ⟨_,h6,_⟩:=aap w ⟨d,u',L',M',h2,h4⟩ _ _ _ _ h6;exact h.ar.xh c d v' u' y w L M L' M' _ e own g k _ e' rm k' h1 h2 h3 h4 h5 h6
  ·intro c v y L M oG e own g k h1 h2 h3
   obtain ⟨v',h1⟩:=hA c v h1;obtain ⟨_,h3,_⟩:=aap y ⟨c,v',L,M,h1,h2⟩ _ _ _ _ h3;obtain ⟨h4,h5,h6⟩:=h.ar.vy c v' y L M _ e own g k h1 h2 h3;refine ⟨by rw [fU]; exact h4,h5,fun z hz cH=>?_⟩;rw [mJ] at hz;obtain ⟨h7,h8,h9⟩:=h6 z hz cH;exact ⟨h7,fun q=>h8 (Pd z q),h9⟩
  ·rw [ae.bA] at hc
   rw [ae.sv];split at hc
   ·rename_i e; rw [e]; exact h.ar.nk b _ hb
   ·exact h.ar.nk c v hc
 ·intro y hy hn ha
  by_cases Ft:y=x
  ·subst Ft; exact absurd (.inl r6) ha
  ·rcases hgy y Ft with e | ⟨_,g,k,rfl,h2⟩
   ·exact e
   ·exact absurd (.inr ⟨g,⟨b,v0,x,_,_,lY,_,_,k,hb,hx,fp⟩,h2⟩) ha
 ·rcases q with q | ⟨g,h1,h2⟩
  ·exact .inl (Pd y q)
  ·exact .inr ⟨g,afA g h1,by rw [mJ] at h2; exact h2⟩
 ·intro y hy oG e own Rw hr
  by_cases Ft:y=x
  ·exact aap y (by rw [Ft]; exact r6) oG e own Rw hr
  ·rcases hgy y Ft with e1 | ⟨e1,_⟩
   ·exact ⟨oG,by rw [<- e1]; exact hr,rfl⟩
   ·rw [e1] at hr; simp at hr
theorem akw {t:TypeId} : ajc P (TR P t) (JG P t):=by
 intro E A A' B vs us v h hv hg;unfold TR at hg;split at hg
 ·rename_i b off x
  obtain ⟨y,z,rfl,h1,h2⟩:=hv.j7;obtain ⟨c,hx,rfl⟩:=h1.hD;obtain ⟨hc,hg⟩:=hg.cond;simp only [aq,lT] at hc;obtain ⟨dS,ho⟩:=hc;split at hg
  ·rename_i cs bp fp
   split at hg
   ·rename_i bL hw
    have hg:(tT,A.put b (.row bL bp))=(v,A'):=hg;simp only [du] at hg;obtain ⟨rfl,rfl⟩:=hg;obtain ⟨c',d,e1,e2,e3⟩:=h.row b cs bp fp;rw [hx] at e1;simp at e1;subst e1;have Kz:=h2.cells (AH ho);obtain ⟨r,e4,e5⟩:=aV.kU hw e3 Kz;have qF:z.cells.toList.all scalar=true:=fg.2 (Kz.scalar ho);have alI:some z.cells.size=size? P t:=by rw [<- dS,O3 h2 (AH ho)]
    refine ⟨undef,B.put c (.row r bp true none),E,?_,.undef,cO.putRow h ⟨_,_,fp⟩ hx ⟨d,e2,(gw e4).1.symm⟩ e5⟩;simp [JG,storeAt,alI,St.Bd,cJ,qF,e2,e4,St.fo]
   ·exact hg.elim
  ·exact hg.elim
 ·rename_i T Tc b i k x
  obtain ⟨y,z,rfl,h1,h2⟩:=hv.j7;split at hg
  ·rename_i T' mk N es acc hA
   obtain ⟨hc,Oo⟩:=hg.cond;clear hg;simp only [aq,lT] at hc;obtain ⟨⟨⟨hT,hTc⟩,CZ⟩,dS⟩:=hc;have:=aK hT;subst this;have:=aK hTc;subst this;split at Oo
   ·rename_i e2 he2
    have hg:(tT,A.put b (.arr (aiZ T N i es acc e2)))=(v,A'):=Oo;simp only [du] at hg;obtain ⟨rfl,rfl⟩:=hg;obtain ⟨c,L,N',h3,hw,hi,rfl⟩:=h1.JR;obtain ⟨T2,N2,pj,ax,CO,ht,h1s,x9⟩:=h.ar.arr b _ hA;simp only [KV.ts.injEq] at CO;obtain ⟨rfl,rfl,rfl,rfl,rfl⟩:=CO;rcases x9 with ⟨_,h4⟩ | ⟨c',cs,bK,bh,h4,h5,h6,h7⟩
    ·rw [h3] at h4; simp at h4
    rw [h3] at h4;simp only [bM,du] at h4;obtain ⟨rfl,rfl,rfl⟩:=h4;have bj:i < es.length:=by rw [<- ht.len]; exact hi
    have hei:es[i]? = some (acc i):=by rw [ht.acc i hi]; simp [List.getD,bj]
    obtain ⟨u,h8,h9⟩:=h6.get hei;obtain ⟨hsu,qO⟩:=h7 i u h8;rw [ba] at qO;have hvn:=h2.dM (l:=aQ P Tc);obtain ⟨u2,p1,p2,p3,p4,p5,p6⟩:=aku (T:=T) (t:=Tc) hw (gC ht.typed hei) h9 CZ hvn he2;obtain ⟨ki,w1,w2,w3⟩:=akv h7 h8 hsu p6 p5 p3;have gY:=cO.aje (lo:=i * aU P T+k) (hi:=i * aU P T+k+z.cells.toList.length) h ⟨_,hA⟩ h3 h5 (gw w1).1 h1s (ahL ht hi p2) (bh:=bh.set i u2) (Sy p1 i h6) w2;obtain ⟨tS,VL⟩:=gf CZ;have qF:z.cells.toList.all scalar=true:=fg.2 ((hvn.cells VL).scalar (Hc tS));have hzs:some z.cells.size=size? P Tc:=by
     rw [dS,<- tX tS];exact congrArg some (O3 hvn VL)
    refine ⟨undef,_,E,?_,.undef,gY⟩;simp [JG,storeAt,hzs,St.Bd,cJ,qF,h5,w1]
   ·exact Oo.elim
  ·exact hg.elim
 ·exact hg.elim
end Go.K
end
section
namespace Go.K
open Go Go.aG
variable {P:Program} {E:Env}
def Env.DZ (E:Env) (b:Nat) (p:Nat×Nat×Nat):Env:={ E with α:=fun c=>if c=b then some p else E.α c }
theorem Env.alJ {A:ae} {B:St} {p:Nat×Nat×Nat} (h:dr P E A B):E.le (E.DZ A.next p):=⟨fun b q e=>by
 have:=h.ar.jI b q e;simp only [Env.DZ]; rw [aa (by omega)]; exact e,fun _ _ e=>e,fun _ _ e=>e,fun _ _ e=>e⟩
theorem Env.zj {b:Nat} {p:Nat×Nat×Nat} : (E.DZ b p).α b=some p:=by simp [Env.DZ]
theorem Env.LS {b c:Nat} {p:Nat×Nat×Nat} (h:c≠b):(E.DZ b p).α c=E.α c:=by simp [Env.DZ,h]
theorem cO.M0 {A A1:ae} {B B' : St} {X G:Nat->Prop} {y2 N2:Nat} {T:TypeId} {pj:List KV} {ax:Nat->KV} {Fm ki:List Value} {tR:Option (Nat×Nat)} (h:dr P E A B)
  (tY:A1.next=A.next) (F6:∀ c o,A1.get c=some o->A.get c=some o\/(o = .dead/\c < A.next)) (hh:∀ c,A.get c=some wu->A1.get c=some wu)
  (f1:∀ c v,A1.get c=some (.arr v)->∀ y L N,E.α c=some (y,L,N)->¬ X y/\∀ cs e own g k,B.get y=some (.row cs e own (some (g,k)))->¬ G g)
  (f2:∀ y,X y->AR A E y) (f3:∀ g,G g->AF A E B g/\g < B.next/\(∀ f,E.φ f≠some g)/\∀ y∈B.members g,¬ X y->E.z y=none/\¬ AR A E y/\∀ c,E.κ c≠some y)
  (n1:X y2\/B.next<=y2) (n1' : y2 < B'.next) (afB:B'.get y2=some (.row ki (aU P T) true tR)) (n2:∀ g k,tR=some (g,k)->G g\/(B.next<=g/\g < B'.next))
  (b1:∀ y,y < B.next->¬ X y->B'.get y=B.get y\/(B'.get y=some .dead/\∃ g,G g/\y∈B.members g))
  (b2:∀ y,X y->∀ cs e own bK,B'.get y=some (.row cs e own bK)->∃ c,B.get y=some (.row c e own bK)/\c.length=cs.length)
  (b3:∀ q y,y∈B'.members q->y∈B.members q\/(y=y2/\B.next<=y2/\∃ k,tR=some (q,k))) (b3' : ∀ q,(∀ k,tR≠some (q,k))->B'.members q=B.members q)
  (b4:B.next<=B'.next) (b4' : ∀ g,B'.next<=g->B'.members g = []) (apz:∀ g y,y∈B'.members g->y < B'.next)
  (dS:1<=aU P T) (ht:gU P T N2 pj ax) (SC:aV P E pj Fm) (hl:qI (aU P T) 0 ki Fm) :
  cO P E A B (E.DZ A.next (y2,ki.length,N2)) (A1.new (.arr (.ts T .any N2 pj ax))) B':=by
 have hle:=Env.alJ (p:=(y2,ki.length,N2)) h;have alK:E.α A.next=none:=by
  cases hq:E.α A.next with
  | none=>rfl
  | some p=>have:=h.ar.jI _ p hq; omega
 have hXlt:∀ y,X y->y < B.next:=fun y hy=>h.Ic (f2 y hy);have Pc:∀ y,y < B.next->¬ X y->(E.z y≠none\/AR A E y\/∃ c,E.κ c=some y)->B'.get y=B.get y:=by
  intro y bj hy hs;rcases b1 y bj hy with e | ⟨_,g,hg,h2⟩
  ·exact e
  ·obtain ⟨_,_,_,h3⟩:=f3 g hg
   obtain ⟨h4,h5,h6⟩:=h3 y h2 hy;rcases hs with hs | hs | ⟨c,hs⟩
   ·exact absurd h4 hs
   ·exact absurd hs h5
   ·exact absurd hs (h6 c)
 have hXz:∀ y,X y->E.z y=none/\∀ c,E.κ c≠some y:=fun y hy=>h.ar.z y (f2 y hy);have fH:∀ c o,(A1.new (.arr (.ts T .any N2 pj ax))).get c=some o->(c=A.next/\o = .arr (.ts T .any N2 pj ax))\/(c≠A.next/\A1.get c=some o):=fun c o hc=>by
  rw [ae.cq,tY] at hc;split at hc
  ·rename_i e; simp at hc; exact .inl ⟨e,hc.symm⟩
  ·rename_i e; exact .inr ⟨e,hc⟩
 have hold:∀ c o,A1.get c=some o->o≠.dead->A.get c=some o:=fun c o hc hd=>by
  rcases F6 c o hc with e | ⟨e,_⟩
  ·exact e
  ·exact absurd e hd
 have rJ:∀ c v,(A1.new (.arr (.ts T .any N2 pj ax))).get c=some (.arr v)->(c=A.next/\v = .ts T .any N2 pj ax/\(E.DZ A.next (y2,ki.length,N2)).α c=some (y2,ki.length,N2))\/(c≠A.next/\A1.get c=some (.arr v)/\A.get c=some (.arr v)/\(E.DZ A.next (y2,ki.length,N2)).α c=E.α c):=fun c v hc=>by
  rcases fH c _ hc with ⟨e,e2⟩ | ⟨e,e2⟩
  ·simp at e2
   exact .inl ⟨e,e2,by rw [e]; exact Env.zj⟩
  ·exact .inr ⟨e,e2,hold c _ e2 (by simp),Env.LS e⟩
 have Hf:∀ c v y L N,A1.get c=some (.arr v)->E.α c=some (y,L,N)->AR A E y/\¬ X y/\y < B.next/\B'.get y=B.get y:=fun c v y L N h1 h2=>by
  have h3:AR A E y:=⟨c,v,L,N,hold c _ h1 (by simp),h2⟩
  obtain ⟨h4,_⟩:=f1 c v h1 y L N h2;have h5:=h.Ic h3;exact ⟨h3,h4,h5,Pc y h5 h4 (.inr (.inl h3))⟩
 have Pd:∀ y,AR (A1.new (.arr (.ts T .any N2 pj ax))) (E.DZ A.next (y2,ki.length,N2)) y->y=y2\/(AR A E y/\¬ X y):=fun y q=>by
  obtain ⟨c,v,L,M,h1,h2⟩:=q;rcases rJ c v h1 with ⟨_,_,e⟩ | ⟨_,e1,e2,e⟩
  ·rw [e] at h2; simp at h2; exact .inl h2.1.symm
  ·rw [e] at h2
   obtain ⟨h3,h4,_⟩:=Hf c v y L M e1 h2;exact .inr ⟨h3,h4⟩
 have alL:∀ y,y=y2->AR A E y\/B.next<=y:=fun y e=>by
  subst e;exact n1.imp (f2 y) id
 have afA:∀ g,AF (A1.new (.arr (.ts T .any N2 pj ax))) (E.DZ A.next (y2,ki.length,N2)) B' g->(∃ k,tR=some (g,k))\/(AF A E B g/\¬ G g/\g < B.next):=fun g q=>by
  obtain ⟨c,v,y,L,M,oG,e,own,k,h1,h2,h3⟩:=q;rcases rJ c v h1 with ⟨_,_,e⟩ | ⟨_,e1,e2,e⟩
  ·rw [e] at h2
   simp at h2;rw [<- h2.1,afB] at h3;simp at h3;exact .inl ⟨k,h3.2.2.2⟩
  ·rw [e] at h2
   obtain ⟨_,_,_,h4⟩:=Hf c v y L M e1 h2;rw [h4] at h3;refine .inr ⟨⟨c,v,y,L,M,oG,_,own,k,e2,h2,h3⟩,(f1 c v e1 y L M h2).2 _ _ _ _ _ h3,(h.ar.vy c v y L M _ _ _ g k e2 h2 h3).1⟩
 have an6:∀ g,(∃ k,tR=some (g,k))->AF A E B g\/B.next<=g:=fun g ⟨k,e⟩=>by
  rcases n2 g k e with hg | ⟨hg,_⟩
  ·exact .inl (f3 g hg).1
  ·exact .inr hg
 refine ⟨⟨?_,?_,?_,h.apart,h.inj,?_,fun b x e=>by rw [ae.bS,tY]; have:=h.jI b x e; omega,fun b g e=>by rw [ae.bS,tY]; have:=h.kK b g e; omega,?_,fun b x e=>by have:=h.eV b x e; omega,fun b r e=>by have:=h.lB b r e; omega,fun b g e=>by have:=h.ik b g e; omega,b4',apz,?_⟩,hle,by rw [ae.bS,tY]; omega,?_,fun _ _ e=>.inl e,fun _ _ e=>.inl e,fun _ _ e=>.inl e,?_,fun y q=>?_,fun g q=>?_,fun g y q=>?_,fun y q=>?_,?_,fun b hb=>by
  rw [ae.cq,tY,aa]
  ·exact hh b hb
  ·intro e
   have:=h.live b _ hb;omega⟩
 ·intro c oG bp hc
  rcases fH c _ hc with ⟨_,e⟩ | ⟨_,e⟩
  ·simp at e
  ·obtain ⟨y,c1,h1,h2,h3⟩:=h.row c oG bp (hold c _ e (by simp))
   have hy : ¬ X y:=fun e=>(hXz y e).2 c h1;exact ⟨y,c1,h1,by rw [Pc y (h.eV c y h1) hy (.inr (.inr ⟨c,h1⟩))]; exact h2,h3.mono hle⟩
 ·intro c top F4 hc
  rcases fH c _ hc with ⟨_,e⟩ | ⟨_,e⟩
  ·simp at e
  ·rcases h.aP c top F4 (hold c _ e (by simp)) with h1 | ⟨g,h1,h2,h3⟩
   ·exact .inl h1
   ·refine .inr ⟨g,h1,h2,fun y hy oG e own f k hr=>?_⟩
    have hgG:∀ k,tR≠some (g,k):=fun k e=>by
     rcases n2 g k e with hg | ⟨hg,_⟩
     ·exact (f3 g hg).2.2.1 c h1
     ·have:=h.ik c g h1; omega
    rw [b3' g hgG] at hy;have bj:=h.mem g y hy;by_cases Ft:X y
    ·obtain ⟨c0,h4,h5⟩:=b2 y Ft _ _ _ _ hr
     obtain ⟨h6,h7⟩:=h3 y hy c0 _ _ f k h4;exact ⟨h6,by rw [<- h5]; exact h7⟩
    ·rcases b1 y bj Ft with e1 | ⟨e1,_⟩
     ·rw [e1] at hr; exact h3 y hy oG _ own f k hr
     ·rw [e1] at hr; simp at hr
 ·intro y r hy
  have hy:E.z y=some r:=hy;have Ft : ¬ X y:=fun e=>by have:=(hXz y e).1; rw [hy] at this; simp at this
  rw [Pc y (h.lB y r hy) Ft (.inl (by rw [hy]; simp))];exact h.z y r hy
 ·intro b c g tb sb tc sc hb hc e1 e2
  rcases fH b _ hb with ⟨_,e⟩ | ⟨_,hb⟩
  ·simp at e
  rcases fH c _ hc with ⟨_,e⟩ | ⟨_,hc⟩
  ·simp at e
  exact h.gz b c g _ _ _ _ (hold b _ hb (by simp)) (hold c _ hc (by simp)) e1 e2
 ·intro c o hc
  rw [ae.bS,tY];rcases fH c _ hc with ⟨e,_⟩ | ⟨_,e⟩
  ·omega
  ·rcases F6 c o e with e | ⟨_,e⟩
   ·have:=h.live c o e; omega
   ·omega
 ·refine ⟨?_,?_,?_,?_,?_,?_,?_,?_,?_,?_⟩
  ·intro c v hc
   rcases rJ c v hc with ⟨_,rfl,e⟩ | ⟨_,e1,e2,e⟩
   ·exact ⟨T,N2,pj,ax,rfl,ht,dS,.inr ⟨y2,ki,tR,Fm,e,afB,SC.mono hle,hl⟩⟩
   ·exact (h.ar.arr c v e2).mono hle e fun y L M hy=>(Hf c v y L M e1 hy).2.2.2
  ·intro c v hc
   rcases fH c _ hc with ⟨_,e⟩ | ⟨cH,e⟩
   ·simp at e
   ·exact (h.ar.iA c v (hold c _ e (by simp))).mono hle (Env.LS cH)
  ·intro y q
   rcases Pd y q with e | ⟨e,_⟩
   ·subst e
    rcases n1 with hx | hx
    ·exact hXz y hx
    ·refine ⟨?_,fun c e=>by have:=h.eV c y e; omega⟩
     cases hz:E.z y with
     | none=>exact hz
     | some r=>have:=h.lB y r hz; omega
   ·exact h.ar.z y e
  ·intro c d v u y L M L' M' h1 h2 h3 h4
   rcases rJ c v h1 with ⟨e1,_,e⟩ | ⟨_,p1,p2,e⟩ <;> rcases rJ d u h2 with ⟨e2,_,e'⟩ | ⟨_,q1,q2,e'⟩
   ·omega
   ·rw [e] at h3; rw [e'] at h4
    simp at h3;obtain ⟨_,h5,h6,_⟩:=Hf d u y L' M' q1 h4;rw [<- h3.1] at h5 h6;rcases n1 with hx | hx
    ·exact absurd hx h5
    ·omega
   ·rw [e] at h3; rw [e'] at h4
    simp at h4;obtain ⟨_,h5,h6,_⟩:=Hf c v y L M p1 h3;rw [<- h4.1] at h5 h6;rcases n1 with hx | hx
    ·exact absurd hx h5
    ·omega
   ·rw [e] at h3; rw [e'] at h4
    exact h.ar.inj c d v u y L M L' M' p2 q2 h3 h4
  ·intro c d v u y w L M L' M' oG e own g k cs3 e' rm k' h1 h2 h3 h4 h5 h6
   have Ih:∀ {c v y L M oG e own k k2},A1.get c=some (.arr v)->E.α c=some (y,L,M)->B'.get y=some (.row oG e own (some (g,k)))->tR=some (g,k2)->False:=by
    intro c v y L M oG e own k k2 q1 q2 q3 q4;obtain ⟨r1,r2,r3,r4⟩:=Hf c v y L M q1 q2;rw [r4] at q3;rcases n2 g k2 q4 with hg | ⟨hg,_⟩
    ·exact (f1 c v q1 y L M q2).2 _ _ _ _ _ q3 hg
    ·have:=(h.ar.vy c v y L M _ _ _ g k (hold c _ q1 (by simp)) q2 q3).1; omega
   rcases rJ c v h1 with ⟨e1,_,ea⟩ | ⟨_,p1,p2,ea⟩ <;> rcases rJ d u h2 with ⟨e2,_,eb⟩ | ⟨_,q1,q2,eb⟩
   ·omega
   ·rw [ea] at h3; rw [eb] at h4
    simp at h3;rw [<- h3.1,afB] at h5;simp at h5;exact (Ih q1 h4 h6 h5.2.2.2).elim
   ·rw [ea] at h3; rw [eb] at h4
    simp at h4;rw [<- h4.1,afB] at h6;simp at h6;exact (Ih p1 h3 h5 h6.2.2.2).elim
   ·rw [ea] at h3; rw [eb] at h4
    rw [(Hf c v y L M p1 h3).2.2.2] at h5;rw [(Hf d u w L' M' q1 h4).2.2.2] at h6;exact h.ar.xh c d v u y w L M L' M' _ _ _ g k _ _ _ k' p2 q2 h3 h4 h5 h6
  ·intro b x e
   have hb:=h.jI b x e;rw [Env.LS (by omega)];exact h.ar.Z6 b x e
  ·intro b p e
   rw [ae.bS,tY];by_cases hb:b=A.next
   ·omega
   ·rw [Env.LS hb] at e; have:=h.ar.jI b p e; omega
  ·intro b x L N e
   by_cases hb:b=A.next
   ·subst hb; rw [Env.zj] at e; simp at e; omega
   ·rw [Env.LS hb] at e; have:=h.ar.eV b x L N e; omega
  ·intro c v y L M oG e own g k h1 h2 h3
   rcases rJ c v h1 with ⟨_,_,ea⟩ | ⟨_,p1,p2,ea⟩
   ·rw [ea] at h2
    simp at h2;obtain ⟨rfl,_⟩:=h2;rw [afB] at h3;simp at h3;have hk:=h3.2.2.2;refine ⟨?_,fun f e=>?_,fun z hz cH=>?_⟩
    ·rcases n2 g k hk with hg | ⟨_,hg⟩
     ·have:=(f3 g hg).2.1; omega
     ·exact hg
    ·rcases n2 g k hk with hg | ⟨hg,_⟩
     ·exact (f3 g hg).2.2.1 f e
     ·have:=h.ik f g e; omega
    ·rcases b3 g z hz with hz | ⟨e,_⟩
     ·rcases n2 g k hk with hg | ⟨hg,_⟩
      ·by_cases ajf:X z
       ·exact ⟨(hXz z ajf).1,fun q=>by
         rcases Pd z q with e | ⟨_,e⟩
         ·exact cH e
         ·exact e ajf,(hXz z ajf).2⟩
       ·obtain ⟨h7,h8,h9⟩:=(f3 g hg).2.2.2 z hz ajf
        refine ⟨h7,fun q=>?_,h9⟩;rcases Pd z q with e | ⟨e,_⟩
        ·exact cH e
        ·exact h8 e
      ·rw [h.fresh g hg] at hz; simp at hz
     ·exact absurd e cH
   ·rw [ea] at h2
    obtain ⟨r1,r2,r3,r4⟩:=Hf c v y L M p1 h2;rw [r4] at h3;obtain ⟨h4,h5,h6⟩:=h.ar.vy c v y L M _ _ _ g k p2 h2 h3;refine ⟨by omega,h5,fun z hz cH=>?_⟩;have hnG:=(f1 c v p1 y L M h2).2 _ _ _ _ _ h3;rw [b3' g (fun k e=>by
     rcases n2 g k e with hg | ⟨hg,_⟩
     ·exact hnG hg
     ·omega)] at hz
    obtain ⟨h7,h8,h9⟩:=h6 z hz cH;refine ⟨h7,fun q=>?_,h9⟩;rcases Pd z q with e | ⟨e,_⟩
    ·subst e
     rcases n1 with hx | hx
     ·exact h8 (f2 z hx)
     ·have:=h.mem g z hz; omega
    ·exact h8 e
  ·intro c v hc
   rw [ae.bS,tY];rcases rJ c v hc with ⟨e1,_,_⟩ | ⟨_,_,e2,_⟩
   ·subst e1
    refine ⟨Mt _,?_⟩;show E.κ A.next=none;cases hk:E.κ A.next with
    | none=>rfl
    | some x=>have:=h.jI _ x hk; omega
   ·obtain ⟨q1,q2⟩:=h.ar.nk c v e2
    exact ⟨by omega,q2⟩
 ·intro y hy hn ha
  by_cases Ft:X y
  ·exact absurd (.inl (f2 y Ft)) ha
  ·rcases b1 y hy Ft with e | ⟨_,g,hg,h2⟩
   ·exact e
   ·exact absurd (.inr ⟨g,(f3 g hg).1,h2⟩) ha
 ·intro g hg hn ha
  refine b3' g fun k e=>?_;rcases n2 g k e with hg' | ⟨hg',_⟩
  ·exact ha (f3 g hg').1
  ·omega
 ·rcases Pd y q with e | ⟨e,_⟩
  ·exact alL y e
  ·exact .inl e
 ·rcases afA g q with e | ⟨e,_⟩
  ·exact an6 g e
  ·exact .inl e
 ·rcases b3 g y q with e | ⟨e,e2,_⟩
  ·exact .inl e
  ·exact .inr (by omega)
 ·rcases q with q | ⟨g,h1,h2⟩
  ·rcases Pd y q with e | ⟨e,_⟩
   ·rcases alL y e with e | e
    ·exact .inl (.inl e)
    ·exact .inr e
   ·exact .inl (.inl e)
  ·rcases b3 g y h2 with e | ⟨e,e2,_⟩
   ·rcases afA g h1 with e1 | ⟨e1,_⟩
    ·rcases an6 g e1 with e2 | e2
     ·exact .inl (.inr ⟨g,e2,e⟩)
     ·rw [h.fresh g e2] at e; simp at e
    ·exact .inl (.inr ⟨g,e1,e⟩)
   ·exact .inr (by omega)
 ·intro y hy oG e own Rw hr
  by_cases Ft:X y
  ·exact b2 y Ft oG e own Rw hr
  ·rcases b1 y hy Ft with e1 | ⟨e1,_⟩
   ·exact ⟨oG,by rw [<- e1]; exact hr,rfl⟩
   ·rw [e1] at hr; simp at hr
end Go.K
end
section
namespace Go.K
open Go Go.aG
variable {P:Program} {E:Env}
theorem cO.aoM {A:ae} {B:St} {c:List Value} {n:Nat} (h:dr P E A B):cO P E A B (E.eL B.next ⟨c,n,true,some (B.next,0)⟩) A (B.grow B.next 0 c n):=by
 have nU:∀ x,(B.grow B.next 0 c n).get x=if x=B.next then some (.row c n true (some (B.next,0))) else B.get x:=fun x=>by simp [St.grow]
 have mJ:∀ q,(B.grow B.next 0 c n).members q=if q=B.next then B.next::B.members B.next else B.members q:=fun q=>by simp [St.grow,St.ET]
 have fU:(B.grow B.next 0 c n).next=B.next+1:=rfl;have hle:E.le (E.eL B.next ⟨c,n,true,some (B.next,0)⟩):=⟨fun _ _ e=>e,fun _ _ e=>e,fun b r e=>by
  have:=h.lB b r e;simp only [Env.eL]; rw [aa (by omega)]; exact e,fun _ _ e=>e⟩
 generalize B.grow B.next 0 c n=B' at nU mJ fU;have BP:∀ x,x < B.next->B'.get x=B.get x:=fun x hx=>by rw [nU,aa (by omega)]
 have O9:∀ b r,(E.eL B.next ⟨c,n,true,some (B.next,0)⟩).z b=some r->E.z b=some r\/B.next<=b:=fun b r e=>by
  simp only [Env.eL] at e;split at e
  ·exact .inr (by omega)
  ·exact .inl e
 have SA:∀ q,AF A E B q->B'.members q=B.members q:=fun q hq=>by
  rw [mJ,aa];intro e2;obtain ⟨b,v,x,L,N,cs,e,own,k,h1,h2,h3⟩:=hq;obtain ⟨h4,h5,_⟩:=h.ar.vy b v x L N cs e own q k h1 h2 h3;omega
 have ahJ:∀ q y,y∈B'.members q->y∈B.members q\/B.next<=y:=fun q y hy=>by
  rw [mJ] at hy;split at hy
  ·rename_i e2
   subst e2;rcases de.1 hy with hy | hy
   ·exact .inr (by omega)
   ·exact .inl hy
  ·exact .inl hy
 refine ⟨⟨?_,?_,?_,?_,h.inj,h.gz,h.jI,h.kK,h.live,?_,?_,?_,?_,?_,h.ar.dP hle (fun _=>rfl) (fun _ _ e=>e) (fun _ _ e=>e) (aB _) (by omega) (fun x q=>BP x (h.Ic q)) O9 (fun _ _ e=>.inl e) (fun b q e=>.inl ⟨b,e⟩) SA h.mem⟩,hle,aB _,?_,fun b x e=>.inl e,fun b r e=>(O9 b r e).imp id .inr,fun b q e=>.inl e,fun q hq hn _=>by rw [mJ,aa (by omega)],fun _ q=>.inl q,fun _ q=>.inl (q.of (fun _=>rfl) (fun _ _ e=>e) fun x q=>BP x (h.Ic q)),ahJ,fun _ q=>.inl (q.of (fun _=>rfl) (fun _ _ e=>e) (fun x q=>BP x (h.Ic q)) SA),mm BP,fun _ e=>e⟩
 ·intro b lY O8 hb
  obtain ⟨x,d,h1,h2,h3⟩:=h.row b lY O8 hb;have:=h.eV b x h1;exact ⟨x,d,h1,by rw [nU,aa (by omega)]; exact h2,h3.mono hle⟩
 ·intro b top F4 hb
  rcases h.aP b top F4 hb with h1 | ⟨g,h1,hp0,h2⟩
  ·exact .inl h1
  ·have hg:=h.ik b g h1
   refine .inr ⟨g,h1,hp0,fun x hx d e own f k hr=>?_⟩;rw [mJ,aa (by omega)] at hx;have:=h.mem g x hx;rw [nU,aa (by omega)] at hr;exact h2 x hx d e own f k hr
 ·intro b r hb
  simp only [Env.eL] at hb;rw [nU];split at hb
  ·rename_i e; simp at hb; subst hb; rw [aE e]
  ·rename_i e; rw [aa e]; exact h.z b r hb
 ·intro b x hb
  have:=h.eV b x hb;simp only [Env.eL];rw [aa (by omega)];exact h.apart b x hb
 ·intro b x hb; have:=h.eV b x hb; omega
 ·intro b r hb
  simp only [Env.eL] at hb;rw [fU];split at hb
  ·omega
  ·have:=h.lB b r hb; omega
 ·intro b g hb; have:=h.ik b g hb; omega
 ·intro g hg
  rw [fU] at hg;rw [mJ,aa (by omega)];exact h.fresh g (by omega)
 ·intro g x hx
  rw [fU];rw [mJ] at hx;split at hx
  ·rcases de.1 hx with hx | hx
   ·omega
   ·have:=h.mem _ x hx; omega
  ·have:=h.mem g x hx; omega
 ·intro x hx _ _; rw [nU,aa (by omega)]
theorem cO.after {A A1 A2:ae} {B B2:St} {E2:Env} (h:cO P E A B E A1 B) (k:cO P E A1 B E2 A2 B2):cO P E A B E2 A2 B2 where
 fT:=k.fT
 le:=k.le
 next:=gR h.next k.next
 dP x hx hn ha:=k.dP x hx (fun b e=>h.CW b (hn b e)) fun q=>(h.lZ x q).elim ha fun e=>by omega
 new b x e:=(k.new b x e).imp id fun q=>⟨gR h.next q.1,q.2⟩
 tW b r e:=by
  rcases k.tW b r e with e | e | e
  ·exact .inl e
  ·exact .inr (h.kq b e)
  ·exact .inr (.inr e)
 se:=k.se
 oU g hg hn ha:=k.oU g hg hn fun q=>(h.kL g q).elim ha fun e=>by omega
 kq x q:=(k.kq x q).elim (h.kq x) .inr
 kL g q:=(k.kL g q).elim (h.kL g) .inr
 vz:=k.vz
 lZ y q:=(k.lZ y q).elim (h.lZ y) .inr
 rows:=k.rows
 CW b q:=k.CW b (h.CW b q)
theorem cO.ajg {A:ae} {B:St} {f t:Nat} (sz:Nat) (h:dr P E A B) {F4:Nat} (hA:A.get f=some (.aP t F4)) (JB:E.φ f=none):cO P E A B E (A.put f (.aP 0 sz)) B:=by
 have T7:∀ (b:Nat) (v:KV),(A.put f (.aP 0 sz)).get b=some (.arr v)->A.get b=some (.arr v):=fun b v hb=>by
  rw [ae.bA] at hb;split at hb
  ·simp at hb
  ·exact hb
 have Wd:∀ (b:Nat) (v:KV),(A.put f (.aP 0 sz)).get b=some (.iA v)->A.get b=some (.iA v):=fun b v hb=>by
  rw [ae.bA] at hb;split at hb
  ·simp at hb
  ·exact hb
 refine ⟨⟨fun b cs bp hb=>?_,fun b top F4 hb=>?_,h.z,h.apart,h.inj,h.gz.put (.inr JB),h.jI,h.kK,fun b o hb=>?_,h.eV,h.lB,h.ik,h.fresh,h.mem,h.ar.dP (Env.le_refl _) (fun _=>rfl) T7 Wd (aB _) (aB _) (fun _ _=>rfl) (fun _ _ e=>.inl e) (fun _ _ e=>.inl e) (fun b g e=>.inl ⟨b,e⟩) (fun _ _=>rfl) h.mem⟩,Env.le_refl _,aB _,fun _ _ _ _=>rfl,fun _ _ e=>.inl e,fun _ _ e=>.inl e,fun _ _ e=>.inl e,fun _ _ _ _=>rfl,fun _ q=>.inl (q.of (fun _=>rfl) T7),fun _ q=>.inl (q.of (fun _=>rfl) T7 fun _ _=>rfl),fun _ _ q=>.inl q,fun _ q=>.inl (q.of (fun _=>rfl) T7 (fun _ _=>rfl) fun _ _=>rfl),mm fun _ _=>rfl,oV hA (by simp)⟩
 ·rw [ae.bA] at hb
  split at hb
  ·simp at hb
  ·exact h.row b cs bp hb
 ·rw [ae.bA] at hb
  split at hb
  ·rename_i e2; simp at hb; exact .inl ⟨hb.1.symm,by rw [e2]; exact JB⟩
  ·exact h.aP b top F4 hb
 ·rw [ae.bA] at hb
  split at hb
  ·rename_i e2; rw [e2]; exact h.live f _ hA
  ·exact h.live b o hb
theorem cO.alM {A:ae} {B:St} {f t sz:Nat} (h:dr P E A B) (hA:A.get f=some (.aP t sz)):cO P E A B E (A.put f (.aP t sz)) B:=by
 have hg:∀ b,(A.put f (.aP t sz)).get b=A.get b:=fun b=>by
  rw [ae.bA];split
  ·rename_i e; rw [e,hA]
  ·rfl
 have T7:∀ (b:Nat) (v:KV),(A.put f (.aP t sz)).get b=some (.arr v)->A.get b=some (.arr v):=fun b v hb=>by rwa [hg] at hb
 have Wd:∀ (b:Nat) (v:KV),(A.put f (.aP t sz)).get b=some (.iA v)->A.get b=some (.iA v):=fun b v hb=>by rwa [hg] at hb
 refine ⟨⟨fun b cs bp hb=>h.row b cs bp (by rwa [hg] at hb),fun b top F4 hb=>h.aP b top F4 (by rwa [hg] at hb),h.z,h.apart,h.inj,fun b c g tb sb tc sc q1 q2=>h.gz b c g tb sb tc sc (by rwa [hg] at q1) (by rwa [hg] at q2),h.jI,h.kK,fun b o hb=>h.live b o (by rwa [hg] at hb),h.eV,h.lB,h.ik,h.fresh,h.mem,h.ar.dP (Env.le_refl _) (fun _=>rfl) T7 Wd (aB _) (aB _) (fun _ _=>rfl) (fun _ _ e=>.inl e) (fun _ _ e=>.inl e) (fun b g e=>.inl ⟨b,e⟩) (fun _ _=>rfl) h.mem⟩,Env.le_refl _,aB _,fun _ _ _ _=>rfl,fun _ _ e=>.inl e,fun _ _ e=>.inl e,fun _ _ e=>.inl e,fun _ _ _ _=>rfl,fun _ q=>.inl (q.of (fun _=>rfl) T7),fun _ q=>.inl (q.of (fun _=>rfl) T7 fun _ _=>rfl),fun _ _ q=>.inl q,fun _ q=>.inl (q.of (fun _=>rfl) T7 (fun _ _=>rfl) fun _ _=>rfl),mm fun _ _=>rfl,oV hA (by simp)⟩
theorem alN {t:TypeId} (hu:P.underlying t=some (.int .u8)):aQ P t=⟨false,[.int .u8]⟩:=by
 unfold aQ;rw [lay,hu];rfl
theorem aed {e:TypeId} (he:isByte P e=true):an1 P (Sg e) MG:=by
 intro E A B vs us v h hv hg;unfold Sg at hg;split at hg
 ·rename_i s
  obtain ⟨u,rfl,h1⟩:=hv.ef;have:=h1.vw; subst this;have hg:KV.ts e .any s.size _ _=v:=hg;subst hg;have hu:P.underlying e=some (.int .u8):=by
   unfold isByte at he;split at he
   ·assumption
   ·simp at he
  have aaq:aQ P e=⟨false,[.int .u8]⟩:=alN hu;refine ⟨_,_,_,rfl,?_,cO.aoM h⟩;simp only [VK];have dS:aU P e=1:=by unfold aU; rw [aaq]; rfl
  refine ⟨⟨by simp,fun i hi=>?_,?_⟩,kF s.data.toList,?_,some ⟨B.next,0,none⟩,s.size,rfl,aB _,.inr ⟨B.next,0,⟨kF s.data.toList,1,true,some (B.next,0)⟩,rfl,by simp [Env.eL],dS.symm,?_⟩,trivial⟩
  ·have Vz:i < s.data.toList.length:=by simpa using hi
   simp only [List.getD,o8,cI Vz,Option.map_some,eU]
  ·rw [aaq]
   induction s.data.toList with
   | nil=>rfl
   | cons b l ih=>simp [dH,cw,aD,kindOk,ih]
  ·generalize E.eL B.next _=E'
   induction s.data.toList with
   | nil=>exact .nil
   | cons b l ih=>exact .cons .mkInt ih
  ·rw [dS]
   intro i x hx;obtain ⟨b,_,rfl⟩:∃ b,s.data.toList[i]? = some b/\x = .int .u8 b.toNat:=by
    simp only [kF,o8,ck] at hx;obtain ⟨b,h1,h2⟩:=hx;exact ⟨b,h1,h2.symm⟩
   refine ⟨rfl,fun k y hy=>?_⟩;have hk:k=0:=by
    have:=(rV.1 hy).1;simp [Value.cells] at this;exact this
   subst hk;simp [Value.cells] at hy;subst hy;simpa using hx
 ·exact hg.elim
theorem M1 {B:St} {b off n sz:Nat} {r:afn} {bh:List Value} (hr:B.get b=some (.row r.cs r.bp r.own r.bK)) (hl:qI sz off r.cs bh) (hn:bh.length=n) (dS:1<=sz) :
  B.z6 ⟨b,off,none⟩ (n * sz)=some (bz bh):=by
 have hs:∀ v∈bh,v.cells.size=sz:=fun v hv=>by
  obtain ⟨i,hi⟩:=List.getElem?_of_mem hv;exact (hl i v hi).1
 have hlen:=gV hs;have Jz:=lJ hs;have qO:∀ j,j < n * sz->r.cs[off+j]? = (bz bh)[j]?:=by
  intro j hj;have hi:j / sz < bh.length:=by rw [hn]; exact Nat.div_lt_of_lt_mul (by rw [Nat.mul_comm]; exact hj)
  have hv:bh[j / sz]? = some bh[j / sz]:=cI hi;have hk:j % sz < bh[j / sz].cells.size:=by rw [hs _ (Qk hi)]; exact Nat.mod_lt _ dS
  have hy:bh[j / sz].cells[j % sz]? = some (bh[j / sz].cells[j % sz]):=by simp [hk]
  have h1:=(hl _ _ hv).2 _ _ hy;have h2:=(Jz _ _ hv).2 _ _ hy;have M3:j / sz * sz+j % sz=j:=by rw [Nat.mul_comm]; exact Nat.div_add_mod j sz
  rw [GZ,M3] at h1;rw [ba,M3] at h2;rw [h1,h2]
 simp only [St.z6,cJ,Option.isNone_none,aj,Cg,hr,dN];rw [hn] at hlen;have hle:n * sz<=(r.cs.drop off).length:=by
  cases hm:n * sz with
  | zero=>omega
  | succ q=>
   have:=qO q (by omega);rw [cI (show q < (bz bh).length by omega)] at this;have h7:=(cG.1 this).1;rw [List.length_drop];omega
 rw [vl,LQ hle];congr 1;apply List.ext_getElem?;intro i;rw [mg];split
 ·rename_i hi
  rw [o7];exact qO i hi
 ·exact (YT.2 (by omega)).symm
theorem aar {T:TypeId} {m:Mk} {n:Nat} {es:List KV} {acc:Nat->KV} {u:Value} {A:ae} {B:St} (h:dr P E A B) (hv:VK P E (.ts T m n es acc) u) (dS:1<=aU P T) :
  ∃ bh,aV P E es bh/\Xp u=some n/\za B (aU P T) n u=some (bz bh)/\(∀ v∈bh,v.cells.size=aU P T)/\bh.length=n/\es.length=n/\dH (aQ P T) es=true:=by
 obtain ⟨ht,bh,h1,a,cap,rfl,h2,h3,_⟩:=hv.kW;have hlen:=ht.len;have uY:bh.length=n:=by rw [h1.length]; exact hlen.symm
 have hs:=mn ht.typed h1;refine ⟨bh,h1,rfl,?_,fun v hv=>(hs v hv).1,uY,hlen.symm,ht.typed⟩;rcases h3 with ⟨rfl,h0⟩ | ⟨b,off,r,rfl,h4,h5,h6⟩
 ·have:bh = []:=qL.1 (by omega)
  subst this;simp [za,h0,bz]
 ·exact M1 (h.z b r h4) h6 uY dS
theorem gU.join {T:TypeId} {n m:Nat} {es fs:List KV} {f g:Nat->KV} (h:gU P T n es f) (k:gU P T m fs g):gU P T (n+m) (es++fs) (aw n f g) where
 len:=by rw [kv,<- h.len,<- k.len]
 acc i hi:=by
  unfold aw;by_cases hn:i < n
  ·have:Nat.blt i n=true:=by rw [bF]; exact hn
   rw [this,aj,h.acc i hn,fC,fC,qM (by rw [<- h.len]; exact hn)]
  ·have:Nat.blt i n=false:=by
    cases hb:Nat.blt i n with
    | false=>rfl
    | true=>rw [bF] at hb; omega
   rw [this,aI,k.acc (i - n) (by omega),fC,fC,tL (by rw [<- h.len]; omega),<- h.len]
 typed:=NT h.typed k.typed
theorem gU.none {T:TypeId} {g:Nat->KV} : gU P T 0 [] g:=⟨rfl,fun i h=>by omega,rfl⟩
structure Src (P:Program) (E:Env) (B:St) (T:TypeId) (n:Nat) (es:List KV) (acc:Nat->KV) (u:Value) (bh:List Value):Prop where
 tree:gU P T n es acc
 rel:aV P E es bh
 len:Xp u=some n
 size:∀ v∈bh,v.cells.size=aU P T
 length:bh.length=n
 first:∀ k,k<=n->za B (aU P T) k u=some (bz (bh.take k))
theorem Src.all {B:St} {T:TypeId} {n:Nat} {es:List KV} {acc:Nat->KV} {u:Value} {bh:List Value} (h:Src P E B T n es acc u bh):za B (aU P T) n u=some (bz bh):=by
 rw [h.first n (aB _),List.take_of_length_le (Nat.le_of_eq h.length)]
theorem qI.take {sz off:Nat} {cs es:List Value} (h:qI sz off cs es) (k:Nat):qI sz off cs (es.take k):=fun i x hi=>h i x (by
 rw [mg] at hi;split at hi
 ·exact hi
 ·simp at hi)
theorem qI.drop {sz off:Nat} {cs es:List Value} (h:qI sz off cs es) (o:Nat):qI sz (off+o * sz) cs (es.drop o):=fun i x hi=>by
 rw [o7] at hi;obtain ⟨h1,h2⟩:=h (o+i) x hi;refine ⟨h1,fun k y hy=>?_⟩;rw [<- h2 k y hy,Nat.add_mul];congr 1;omega
theorem ano {T:TypeId} {m:Mk} {n:Nat} {es:List KV} {acc:Nat->KV} {u:Value} {A:ae} {B:St} (h:dr P E A B) (hv:VK P E (.ts T m n es acc) u) (dS:1<=aU P T):∃ bh,Src P E B T n es acc u bh:=by
 obtain ⟨ht,bh,h1,a,cap,rfl,h2,h3,_⟩:=hv.kW;have uY:bh.length=n:=by rw [h1.length]; exact ht.len.symm
 have hs:=mn ht.typed h1;refine ⟨bh,ht,h1,rfl,fun v hv=>(hs v hv).1,uY,fun k hk=>?_⟩;rcases h3 with ⟨rfl,h0⟩ | ⟨b,off,r,rfl,h4,h5,h6⟩
 ·have:bh = []:=qL.1 (by omega)
  subst this;have:k=0:=by omega
  subst this;simp [za,bz]
 ·exact M1 (h.z b r h4) (h6.take k) (by rw [kS]; omega) dS
theorem anp {T:TypeId} {m:Mk} {b o n N:Nat} {es:List KV} {acc:Nat->KV} {u:Value} {A:ae} {B:St} (h:dr P E A B) (hv:VK P E (.al T b o n) u) (ha:KH A b=some (.ts T m N es acc)) (dS:1<=aU P T) :
  ∃ bh,Src P E B T n ((es.drop o).take n) (fun i=>acc (o+i)) u bh:=by
 have row:∀ {x:Nat} {r:afn} {bh:List Value} {c:Nat},u = .slice (some ⟨x,o * aU P T,none⟩) n c->o+n<=N->gU P T N es acc->B.get x=some (.row r.cs r.bp r.own r.bK)->aV P E es bh->qI (aU P T) 0 r.cs bh->∃ bh,Src P E B T n ((es.drop o).take n) (fun i=>acc (o+i)) u bh:=by
  intro x r bh c hu hon ht hr SC hl;subst hu;have SD:bh.length=N:=by rw [SC.length]; exact ht.len.symm
  have ahM:((es.drop o).take n).length=n:=by rw [kS,List.length_drop,<- ht.len]; omega
  have alO:((bh.drop o).take n).length=n:=by rw [kS,List.length_drop,SD]; omega
  have hs:=mn ht.typed SC;refine ⟨(bh.drop o).take n,⟨ahM.symm,fun i hi=>?_,oW fun i x hi=>?_⟩,(SC.drop o).take n,rfl,fun v hv=>(hs v (List.mem_of_mem_drop (List.mem_of_mem_take hv))).1,alO,fun k hk=>?_⟩
  ·rw [ht.acc (o+i) (by omega),fC,fC,mg,aE hi,o7]
  ·rw [mg] at hi
   split at hi
   ·rw [o7] at hi; exact gC ht.typed hi
   ·simp at hi
  ·have kT:=((hl.drop o).take n).take k
   rw [ba] at kT;exact M1 hr kT (by rw [kS,alO]; omega) dS
 rcases hv.yp with ⟨rfl,rfl,rfl⟩ | ⟨x,L,N0,c,h1,h2,h3,h4,h5⟩
 ·refine ⟨[],⟨by simp,fun i hi=>by omega,rfl⟩,by simpa using aV.nil,rfl,by simp,rfl,fun k hk=>?_⟩
  have:k=0:=by omega
  subst this;simp [za,bz]
 ·unfold KH at ha
  split at ha
  ·rename_i v hb
   simp only [bM] at ha;subst ha;obtain ⟨T2,N2,pj,ax,e,ht,_,x9⟩:=h.ar.arr b _ hb;simp only [KV.ts.injEq] at e;obtain ⟨rfl,rfl,rfl,rfl,rfl⟩:=e;rcases x9 with ⟨_,e⟩ | ⟨x2,cs,bK,bh,e,h6,h7,h8⟩
   ·rw [h1] at e; simp at e
   ·rw [h1] at e
    simp only [bM,du] at e;obtain ⟨rfl,rfl,rfl⟩:=e;exact row (r:=⟨cs,aU P T,true,bK⟩) h2 h4 ht h6 h7 h8
  ·rename_i v hb
   simp only [bM] at ha;subst ha;obtain ⟨T2,N2,pj,ax,e,ht,_,x9⟩:=h.ar.iA b _ hb;simp only [KV.ts.injEq] at e;obtain ⟨rfl,rfl,rfl,rfl,rfl⟩:=e;rcases x9 with ⟨_,e⟩ | ⟨x2,r,bh,e,h6,h6',h7,h8⟩
   ·rw [h1] at e; simp at e
   ·rw [h1] at e
    simp only [bM,du] at e;obtain ⟨rfl,rfl,rfl⟩:=e;exact row h2 h4 ht (h.z _ _ h6) h7 h8
  ·simp at ha
theorem ajh {A:ae} {B:St} {y:KV} {u:Value} {T:TypeId} {m:Mk} {n:Nat} {es:List KV} {acc:Nat->KV} (h:dr P E A B) (hv:VK P E y u) (hs:OW A y=some (.ts T m n es acc)) (dS:1<=aU P T):∃ bh,Src P E B T n es acc u bh:=by
 unfold OW at hs;split at hs
 ·rename_i T' b o k
  unfold adW at hs;split at hs
  ·rename_i T2 _ _ pj ax ha
   cases hb:Nat.beq T' T2 with
   | false=>rw [hb] at hs; simp at hs
   | true=>
    have:=aK hb;subst this;rw [hb,aj] at hs;simp only [bM,KV.ts.injEq] at hs;obtain ⟨rfl,rfl,rfl,rfl,rfl⟩:=hs;rw [adV];exact anp h hv ha dS
  ·simp at hs
 ·simp only [bM,KV.ts.injEq] at hs
  obtain ⟨rfl,rfl,rfl,rfl,rfl⟩:=hs;exact ano h hv dS
 ·simp at hs
theorem ahN {e n b:Nat} (hn:aU P e=n) (h1n:1<=n) {E:Env} {A A' : ae} {B:St} {x v:KV} {u w:Value} {e' : TypeId} {mk:Mk} {k:Nat} {new:List KV} {acc:Nat->KV} (h:dr P E A B) (h1:VK P E x u)
  (hsr:Nat.beq e e' = true->∃ bh,Src P E B e' k new acc w bh) (hg:aH (OV e n b A [x,.ts e' mk k new acc]) (v,A')):∃ r B' E',j6 n b B [u,w] = some (r,B')/\VK P E' v r/\cO P E A B E' A' B':=by
 have yq:1<=aU P e:=by omega
 have put:∀ (E1:Env) (A1:ae) (m f k:Nat) (base new:List KV) (ab an:Nat->KV) (more:Bool) (A2:ae) (v:KV),aH (TS e n b m base ab A1 f k new an more) (v,A2)->
   (more=true/\Nat.ble ((m+k) * b) 140737488355328=true/\Nat.ble (m+k) 17592186044416=true)/\v = .ts e (.aP f) (m+k) (base++new) (aw m ab an)/\A2=A1.put f (.aP (m+k) n):=by
  intro E1 A1 m f k base new ab an more A2 v hp;obtain ⟨hc,hp⟩:=aH.jJ hp;simp only [dT,aq] at hc;simp only [du] at hp;exact ⟨⟨hc.1,hc.2.1,hc.2.2⟩,hp.1.symm,hp.2.symm⟩
 unfold OV at hg;split at hg
 ·
  rename_i e9 mk9 k9 aji ajj heq;simp only [List.cons.injEq,KV.ts.injEq,and_true] at heq;obtain ⟨rfl,rfl,rfl,rfl,rfl,rfl⟩:=heq;have:=h1.pk; subst this;obtain ⟨he,Wg⟩:=hg.cond;clear hg;obtain ⟨cA,jE⟩:=hsr he;have:=aK he;subst this;obtain ⟨⟨_,FX,wB⟩,rfl,rfl⟩:=put E _ _ _ _ _ _ _ _ _ _ _ Wg;have Pe:=jE.tree;have h3:=jE.rel;have h4:=jE.len;have h5:=jE.all;have h6:=jE.size;have h7:=jE.length;have h8:=Pe.len.symm;rw [hn] at h5 h6;have vr:=cO.ajd n h;have hAf:(A.new (.aP 0 n)).get A.next=some (.aP 0 n):=by simp
  have JB:E.φ A.next=none:=by
   cases hq:E.φ A.next with
   | none=>rfl
   | some g=>have:=h.kK _ g hq; omega
  cases k with
  | zero=>
   have yn:new = []:=qL.1 h8;have SE:cA = []:=qL.1 h7;subst yn SE;refine ⟨.slice none 0 0,B,E,?_,?_,?_⟩
   ·simp only [j6,h4,dN]
    rw [h5];rfl
   ·simp only [VK]
    exact ⟨⟨rfl,fun i hi=>by omega,rfl⟩,[],.nil,none,0,rfl,aB _,.inl ⟨rfl,rfl⟩,rfl,.inl ⟨rfl,rfl⟩⟩
   ·exact vr.after (cO.ajg n vr.fT hAf JB)
  | succ k=>
   have Hg:=cO.grow (c:=bz cA) (top:=0) (Ru:=k+1) (sz:=n) (g:=B.next) (f:=A.next) vr.fT hAf (.inl ⟨JB,rfl⟩) (by rw [gV h6,h7]) (by omega) (by omega);refine ⟨.slice (some ⟨B.next,0,none⟩) (k+1) (k+1),B.grow B.next 0 (bz cA) n,_,?_,?_,vr.after (by simpa using Hg)⟩
   ·simp only [ba] at FX wB
    simp only [j6,h4,dN,ba];rw [show Nat.ble (k+1) 0=false from rfl,aI,FX,wB,h5];rfl
   ·simp only [VK,ba,List.nil_append]
    have SE:=h3.mono (Env.le_trans vr.le Hg.le);have hl:=lJ h6;refine ⟨by have:=gU.none (P:=P) (T:=e) (g:=qG) |>.join Pe; simpa using this,cA,SE,_,_,rfl,aB _,.inr ⟨B.next,0,⟨bz cA,n,true,some (B.next,0)⟩,rfl,by simp [Env.vA,Env.eL],hn.symm,by rw [hn]; exact hl⟩,rfl,.inr ⟨B.next,⟨bz cA,n,true,some (B.next,0)⟩,B.next,rfl,by simp [Env.vA,Env.eL],rfl,by simp [Env.vA],rfl,?_⟩⟩;rw [hn];simp only;rw [gV h6,h7]
 ·
  rename_i e1 m es an7 e9 mk9 k9 aji ajj heq;simp only [List.cons.injEq,KV.ts.injEq,and_true] at heq;obtain ⟨rfl,rfl,rfl,rfl,rfl,rfl⟩:=heq;obtain ⟨he,Wg⟩:=hg.cond;clear hg;simp only [aq] at he;obtain ⟨cA,jE⟩:=hsr he.1;have:=aK he.1;subst this;have:=aK he.2;subst this;obtain ⟨⟨hk,FX,wB⟩,rfl,rfl⟩:=put E _ _ _ _ _ _ _ _ _ _ _ Wg;have hk:0 < k:=by rwa [bF] at hk
  have vB:=h1.kW.1;have Pe:=jE.tree;have h3:=jE.rel;have h4:=jE.len;have h5:=jE.all;have h6:=jE.size;have h7:=jE.length;have h8:=Pe.len.symm;obtain ⟨uR,h3b,h4b,h5b,h6b,h7b,h8b,h9b⟩:=aar h h1 yq;rw [hn] at h5 h6 h5b h6b;obtain ⟨_,afd,yy,a,cap,rfl,aiY,M4,ahO⟩:=h1.kW;obtain ⟨rfl,SA⟩:=ahO;have vr:=cO.ajd n h;have hAf:(A.new (.aP 0 n)).get A.next=some (.aP 0 n):=by simp
  have JB:E.φ A.next=none:=by
   cases hq:E.φ A.next with
   | none=>rfl
   | some g=>have:=h.kK _ g hq; omega
  have hs:∀ v∈uR++cA,v.cells.size=n:=fun v hv=>by
   rcases jF.1 hv with hv | hv
   ·exact h6b v hv
   ·exact h6 v hv
  have hlen:(bz (uR++cA)).length=(cap+k) * n:=by rw [gV hs,kv,h7b,h7]
  have Hg:=cO.grow (c:=bz (uR++cA)) (top:=0) (Ru:=cap+k) (sz:=n) (g:=B.next) (f:=A.next) vr.fT hAf (.inl ⟨JB,rfl⟩) hlen (by omega) (by omega);refine ⟨.slice (some ⟨B.next,0,none⟩) (cap+k) (cap+k),B.grow B.next 0 (bz (uR++cA)) n,_,?_,?_,vr.after Hg⟩
  ·simp only [j6,h4,dN]
   have hnb:Nat.ble (cap+k) cap=false:=by
    cases hq:Nat.ble (cap+k) cap with
    | false=>rfl
    | true=>have:=dX hq; omega
   rw [hnb,aI,FX,wB];rcases M4 with ⟨rfl,h0⟩ | ⟨b',off,r,rfl,hz,he2,kT⟩
   ·subst h0
    have:uR = []:=qL.1 h7b;subst this;simp only [xK,CF,cK];rw [show Nat.beq 0 0=true from rfl,aj,h5];simp [HV]
   ·obtain ⟨r2,Cz,ho,afC,ajk⟩:=SA b' off rfl
    rw [hz] at Cz;simp at Cz;subst Cz;have fp:=h.z b' r hz;have hex:xK B n cap (some ⟨b',off,none⟩)=true:=by
     simp only [xK,fp,afC];rw [hn] at ajk;simp [ajk]
    rw [hex];simp only [cK,aj,h5,dN];simp only [za] at h5b;have TI:Nat.beq r.bp n=true:=by rw [he2,hn]; simp
    simp only [HV,cJ,Option.isNone_none,aj,h5b,dN,fp,TI,afC,ho];rw [<- AI]
  ·simp only [VK]
   have hrel:=(h3b.append h3).mono (Env.le_trans vr.le Hg.le);have hl:=lJ hs;refine ⟨vB.join Pe,uR++cA,hrel,_,_,rfl,aB _,.inr ⟨B.next,0,⟨bz (uR++cA),n,true,some (B.next,0)⟩,rfl,by simp [Env.vA,Env.eL],hn.symm,by rw [hn]; exact hl⟩,rfl,.inr ⟨B.next,⟨bz (uR++cA),n,true,some (B.next,0)⟩,B.next,rfl,by simp [Env.vA,Env.eL],rfl,by simp [Env.vA],rfl,?_⟩⟩;rw [hn];exact hlen
 ·
  rename_i e1 f m es an7 e9 mk9 k9 aji ajj heq;simp only [List.cons.injEq,KV.ts.injEq,and_true] at heq;obtain ⟨rfl,rfl,rfl,rfl,rfl,rfl⟩:=heq;split at hg
  ·rename_i top sz' XH
   obtain ⟨he,Wg⟩:=hg.cond;clear hg;simp only [aq] at he;obtain ⟨cA,jE⟩:=hsr he.1.1;have:=aK he.1.1;subst this;have:=aK he.1.2;subst this;have alI:=aK he.2;rw [alI] at XH;obtain ⟨⟨QX,FX,wB⟩,rfl,rfl⟩:=put E _ _ _ _ _ _ _ _ _ _ _ Wg;have:=aK QX;subst this;have vB:=h1.kW.1;have Pe:=jE.tree;have h3:=jE.rel;have h4:=jE.len;have h5:=jE.all;have h6:=jE.size;have h7:=jE.length;have h8:=Pe.len.symm;obtain ⟨uR,h3b,h4b,h5b,h6b,h7b,h8b,h9b⟩:=aar h h1 yq;rw [hn] at h5 h6 h5b h6b;obtain ⟨_,afd,yy,a,cap,rfl,aiY,M4,ahO⟩:=h1.kW;obtain ⟨rfl,SA⟩:=ahO;have hs:∀ v∈uR++cA,v.cells.size=n:=fun v hv=>by
    rcases jF.1 hv with hv | hv
    ·exact h6b v hv
    ·exact h6 v hv
   have hlen:(bz (uR++cA)).length=(cap+k) * n:=by rw [gV hs,kv,h7b,h7]
   have aoN:=h3b.append h3;have hl:=lJ hs;have fin:∀ (E2:Env) (x g:Nat),E.le E2->E2.z x=some ⟨bz (uR++cA),n,true,some (g,0)⟩->E2.φ f=some g->VK P E2 (.ts e (.aP f) (cap+k) (es++new) (aw cap an7 acc)) (.slice (some ⟨x,0,none⟩) (cap+k) (cap+k)):=by
    intro E2 x g hle hzx apA;simp only [VK];refine ⟨vB.join Pe,uR++cA,aoN.mono hle,_,_,rfl,aB _,.inr ⟨x,0,_,rfl,hzx,hn.symm,by rw [hn]; exact hl⟩,rfl,.inr ⟨x,_,g,rfl,hzx,rfl,apA,rfl,?_⟩⟩;rw [hn];exact hlen
   rcases SA with ⟨rfl,rfl⟩ | ⟨b',r,g,rfl,hz,ho,JB,afC,hcl⟩
   ·
    have hold:es = []:=qL.1 h8b;have aee:uR = []:=qL.1 h7b;subst hold aee;have JB:E.φ f=none:=by
     rcases h.aP f 0 n XH with ⟨_,Kv⟩ | ⟨g2,_,Kv,_⟩
     ·exact Kv
     ·omega
    cases k with
    | zero=>
     have yn:new = []:=qL.1 h8;have SE:cA = []:=qL.1 h7;subst yn SE;refine ⟨.slice none 0 0,B,E,?_,?_,cO.ajg n h XH JB⟩
     ·simp only [j6,h4,dN]
      rw [h5];rfl
     ·simp only [VK]
      exact ⟨⟨rfl,fun i hi=>by omega,rfl⟩,[],.nil,none,0,rfl,aB _,.inl ⟨rfl,rfl⟩,rfl,.inl ⟨rfl,rfl⟩⟩
    | succ k=>
     have Hg:=cO.grow (c:=bz ([]++cA)) (top:=0) (Ru:=0+(k+1)) (sz:=n) (g:=B.next) (f:=f) h XH (.inl ⟨JB,rfl⟩) hlen (by omega) (by omega);refine ⟨.slice (some ⟨B.next,0,none⟩) (0+(k+1)) (0+(k+1)),B.grow B.next 0 (bz ([]++cA)) n,_,?_,fin _ B.next B.next Hg.le (by simp [Env.vA,Env.eL]) (by simp [Env.vA]),Hg⟩;simp only [ba] at FX wB;simp only [j6,h4,dN,ba,List.nil_append];rw [show Nat.ble (k+1) 0=false from rfl,aI,FX,wB,h5];rfl
   ·
    have hcap1:0 < cap:=by
     rcases Nat.eq_zero_or_pos cap with h0 | h0
     ·subst h0
      rcases h.aP f 0 n XH with ⟨_,Kv⟩ | ⟨g2,_,Kv,_⟩
      ·rw [JB] at Kv; simp at Kv
      ·omega
     ·exact h0
    rcases Nat.eq_zero_or_pos k with xg | xg
    ·subst xg
     have yn:new = []:=qL.1 h8;have SE:cA = []:=qL.1 h7;subst yn SE;refine ⟨.slice (some ⟨b',0,none⟩) cap cap,B,E,?_,?_,cO.alM h XH⟩
     ·simp only [j6,h4,dN]
      rw [show Nat.ble (cap+0) cap=true from Nat.ble_eq_true_of_le (aB _),aj,h5];rfl
     ·simp only [VK]
      exact ⟨vB.join Pe,afd,by rw [yl]; exact yy,some ⟨b',0,none⟩,cap,rfl,aB _,M4,rfl,.inr ⟨b',r,g,rfl,hz,ho,JB,afC,hcl⟩⟩
    have aoO:0 < cap+k/\0 < k:=⟨by omega,xg⟩
    have fp:=h.z b' r hz;rw [ho,afC] at fp;have TI:r.bp=n:=by
     rcases M4 with ⟨h0,_⟩ | ⟨b2,alP,r2,e2,Cz,he2,_⟩
     ·simp at h0
     ·simp at e2
      obtain ⟨rfl,rfl⟩:=e2;rw [hz] at Cz;simp at Cz;subst Cz;rw [he2,hn]
    have aoP:B.kill B.next (0+(0+cap * n)) (0+(0+cap * n)+(bz cA).length) (B.members g)=B:=by
     refine aam fun y hy=>?_;rcases h.aP f cap n XH with ⟨_,Kv⟩ | ⟨g2,Kv,_,h3'⟩
     ·rw [JB] at Kv; simp at Kv
     ·rw [JB] at Kv
      simp at Kv;subst Kv;cases hy2:B.get y with
      | none=>rfl
      | some o=>cases o with
       | row ki e2 JJ tR=>
        cases tR with
        | none=>rfl
        | some p=>
         obtain ⟨f2,k2⟩:=p;obtain ⟨rfl,an8⟩:=h3' y hy ki e2 JJ f2 k2 hy2;simp only [rH,meets,ba];have:Nat.blt (cap * n) ki.length=false:=by
          cases hq:Nat.blt (cap * n) ki.length with
          | false=>rfl
          | true=>rw [bF] at hq; omega
         rw [this,Bool.false_and]
       | _=>rfl
    have Hg:=cO.grow (c:=bz (uR++cA)) (top:=cap) (Ru:=cap+k) (sz:=n) (g:=g) (f:=f) h XH (.inr JB) hlen (by omega) aoO.1;refine ⟨.slice (some ⟨B.next,0,none⟩) (cap+k) (cap+k),B.grow g 0 (bz (uR++cA)) n,_,?_,fin _ B.next g Hg.le (by simp [Env.vA,Env.eL]) (by simp [Env.vA]),Hg⟩;have hnb:Nat.ble (cap+k) cap=false:=by
     cases hq:Nat.ble (cap+k) cap with
     | false=>rfl
     | true=>have:=dX hq; omega
    have hex:xK B n cap (some ⟨b',0,none⟩)=true:=by simp only [xK,fp]
    simp only [j6,h4,dN,hnb,aI,FX,wB,hex,cK,aj,h5];simp only [za] at h5b;have apB:Nat.beq r.bp n=true:=by rw [TI]; simp
    simp only [HV,cJ,Option.isNone_none,aj,h5b,dN,fp,apB,aoP,<- AI]
  ·exact hg.elim
 ·exact hg.elim
end Go.K
end
section
namespace Go.K
open Go Go.aG
variable {P:Program} {E:Env}
theorem cO.ajl {A A1:ae} {B:St} {T:TypeId} {acc:Nat->KV} (h:dr P E A B) (tY:A1.next=A.next) (F6:∀ c o,A1.get c=some o->A.get c=some o\/(o = .dead/\c < A.next)) (hh:∀ c,A.get c=some wu->A1.get c=some wu) (dS:1<=aU P T) :
  cO P E A B E (A1.new (.arr (.ts T .any 0 [] acc))) B:=by
 have alK:E.α A.next=none:=by
  cases hq:E.α A.next with
  | none=>rfl
  | some p=>have:=h.ar.jI _ p hq; omega
 have fH:∀ c o,(A1.new (.arr (.ts T .any 0 [] acc))).get c=some o->(c=A.next/\o = .arr (.ts T .any 0 [] acc))\/(o = .dead/\c < A.next)\/A.get c=some o:=fun c o hc=>by
  rw [ae.cq,tY] at hc;split at hc
  ·rename_i e; simp at hc; exact .inl ⟨e,hc.symm⟩
  ·rcases F6 c o hc with e | e
   ·exact .inr (.inr e)
   ·exact .inr (.inl e)
 have rJ:∀ c v,(A1.new (.arr (.ts T .any 0 [] acc))).get c=some (.arr v)->E.α c=none\/A.get c=some (.arr v):=fun c v hc=>by
  rcases fH c _ hc with ⟨e,_⟩ | ⟨e,_⟩ | e
  ·exact .inl (by rw [e]; exact alK)
  ·simp at e
  ·exact .inr e
 have hA:∀ c v y L N,(A1.new (.arr (.ts T .any 0 [] acc))).get c=some (.arr v)->E.α c=some (y,L,N)->A.get c=some (.arr v):=fun c v y L N hc hy=>by
  rcases rJ c v hc with e | e
  ·rw [e] at hy; simp at hy
  ·exact e
 have r6:∀ y,AR (A1.new (.arr (.ts T .any 0 [] acc))) E y->AR A E y:=fun y ⟨c,v,L,N,h1,h2⟩=>⟨c,v,L,N,hA c v _ _ _ h1 h2,h2⟩
 have KO:∀ g,AF (A1.new (.arr (.ts T .any 0 [] acc))) E B g->AF A E B g:=fun g ⟨c,v,x,L,N,cs,e,own,k,h1,h2,h3⟩=>⟨c,v,x,L,N,cs,e,own,k,hA c v _ _ _ h1 h2,h2,h3⟩
 refine ⟨⟨fun c cs bp hc=>?_,fun c top sz hc=>?_,h.z,h.apart,h.inj,?_,fun b x e=>by rw [ae.bS,tY]; have:=h.jI b x e; omega,fun b g e=>by rw [ae.bS,tY]; have:=h.kK b g e; omega,fun c o hc=>?_,h.eV,h.lB,h.ik,h.fresh,h.mem,?_⟩,Env.le_refl _,by rw [ae.bS,tY]; omega,fun _ _ _ _=>rfl,fun _ _ e=>.inl e,fun _ _ e=>.inl e,fun _ _ e=>.inl e,fun _ _ _ _=>rfl,fun x q=>.inl (r6 x q),fun g q=>.inl (KO g q),fun _ _ q=>.inl q,fun y q=>.inl (q.imp (r6 y) fun ⟨g,q1,q2⟩=>⟨g,KO g q1,q2⟩),mm fun _ _=>rfl,fun b hb=>by
  rw [ae.cq,tY,aa]
  ·exact hh b hb
  ·intro e
   have:=h.live b _ hb;omega⟩
 ·rcases fH c _ hc with ⟨_,e⟩ | ⟨e,_⟩ | e
  ·simp at e
  ·simp at e
  ·exact h.row c cs bp e
 ·rcases fH c _ hc with ⟨_,e⟩ | ⟨e,_⟩ | e
  ·simp at e
  ·simp at e
  ·exact h.aP c top sz e
 ·intro b c g tb sb tc sc hb hc e1 e2
  rcases fH b _ hb with ⟨_,e⟩ | ⟨e,_⟩ | hb
  ·simp at e
  ·simp at e
  rcases fH c _ hc with ⟨_,e⟩ | ⟨e,_⟩ | hc
  ·simp at e
  ·simp at e
  exact h.gz b c g _ _ _ _ hb hc e1 e2
 ·rw [ae.bS,tY]
  rcases fH c _ hc with ⟨e,_⟩ | ⟨_,e⟩ | e
  ·omega
  ·omega
  ·have:=h.live c o e; omega
 ·refine ⟨fun c v hc=>?_,fun c v hc=>?_,fun x q=>h.ar.z x (r6 x q),fun b c v u x L N L' N' h1 h2 h3 h4=>h.ar.inj b c v u x L N L' N' (hA b v _ _ _ h1 h3) (hA c u _ _ _ h2 h4) h3 h4,fun b c v u x y L N L' N' cs e own g k bL e' rm k' h1 h2 h3 h4=>h.ar.xh b c v u x y L N L' N' cs e own g k bL e' rm k' (hA b v _ _ _ h1 h3) (hA c u _ _ _ h2 h4) h3 h4,h.ar.Z6,fun b p e=>by rw [ae.bS,tY]; have:=h.ar.jI b p e; omega,h.ar.eV,fun b v x L N cs e own g k h1 h2 h3=>?_,fun c v hc=>?_⟩
  ·rcases fH c _ hc with ⟨e,e2⟩ | ⟨e,_⟩ | e
   ·simp at e2
    subst e2;exact ⟨T,0,[],acc,rfl,⟨rfl,fun i hi=>by omega,rfl⟩,dS,.inl ⟨rfl,by rw [e]; exact alK⟩⟩
   ·simp at e
   ·exact h.ar.arr c v e
  ·rcases fH c _ hc with ⟨_,e⟩ | ⟨e,_⟩ | e
   ·simp at e
   ·simp at e
   ·exact h.ar.iA c v e
  ·obtain ⟨q1,q2,q3⟩:=h.ar.vy b v x L N cs e own g k (hA b v _ _ _ h1 h2) h2 h3
   exact ⟨q1,q2,fun y hy cH=>⟨(q3 y hy cH).1,fun q=>(q3 y hy cH).2.1 (r6 y q),(q3 y hy cH).2.2⟩⟩
  ·rw [ae.bS,tY]
   rcases fH c _ hc with ⟨e,_⟩ | ⟨e,_⟩ | e
   ·rw [e]
    refine ⟨Mt _,?_⟩;cases hk:E.κ A.next with
    | none=>rfl
    | some x=>have:=h.jI _ x hk; omega
   ·simp at e
   ·obtain ⟨q1,q2⟩:=h.ar.nk c v e
    exact ⟨by omega,q2⟩
theorem aas {E:Env} {T:TypeId} {b x L N n c:Nat} (tV:E.α b=some (x,L,N)) (h1:n<=c) (h2:n<=N) (h3:c * aU P T=L):VK P E (.al T b 0 n) (.slice (some ⟨x,0,none⟩) n c):=
 .O2 (.inr ⟨x,L,N,c,tV,by simp,h1,by omega,by rw [ba]; exact h3⟩)
theorem afD {T b n:Nat} {z:Value} (hn:aU P T=n) (h1n:1<=n) (hz:z.cells.size=n) (he:cw (aQ P T) (K.dM (aQ P T) (fy z))=true):aai P (V3 T b (K.dM (aQ P T) (fy z))) (Fk n b z):=by
 intro E A A' B vs us v h hv hg;unfold V3 at hg;split at hg
 ·rename_i k l k' c
  obtain ⟨x,y,rfl,h1,h2⟩:=hv.j7;have:=h1.cj; subst this;have:=h2.cj; subst this;obtain ⟨hc,hg⟩:=aH.jJ hg;simp only [du] at hg;obtain ⟨rfl,rfl⟩:=hg;simp only [aq,lT] at hc;obtain ⟨⟨h3,h4⟩,h5⟩:=hc;obtain ⟨l',rfl⟩:=Int.eq_ofNat_of_zero_le h3;obtain ⟨c',rfl⟩:=Int.eq_ofNat_of_zero_le (Int.le_trans h3 h4);have h6:Nat.ble l' c' = true:=Nat.ble_eq_true_of_le (by omega);have hs:∀ v∈List.replicate c' z,v.cells.size=n:=fun v hv=>by rw [List.eq_of_mem_replicate hv]; exact hz
  have hlen:(bz (List.replicate c' z)).length=c' * n:=by rw [gV hs,List.length_replicate]
  have M5:∀ m,dj [K.dM (aQ P T) (fy z)] m=List.replicate m (K.dM (aQ P T) (fy z)):=fun m=>by
   induction m with
   | zero=>rfl
   | succ m ih=>simp [dj,ih,List.replicate_succ]
  have gY:=cO.M0 (P:=P) (X:=fun _=>False) (G:=fun _=>False) (y2:=B.next) (N2:=c') (T:=T) (pj:=dj [K.dM (aQ P T) (fy z)] c') (ax:=fun _=>K.dM (aQ P T) (fy z)) (Fm:=List.replicate c' z) (ki:=bz (List.replicate c' z)) (tR:=none) (A1:=A) (B':=B.new (.row (bz (List.replicate c' z)) n true none)) h rfl (fun _ _ e=>.inl e) (fun _ e=>e) (fun _ _ _ _ _ _ _=>⟨id,fun _ _ _ _ _ _=>id⟩) (fun _ e=>e.elim) (fun _ e=>e.elim) (.inr (aB _)) (by simp) (by simp [hn]) (fun _ _ e=>by simp at e)
   (fun y hy _=>.inl (by rw [St.cq,aa (by omega)])) (fun _ e=>e.elim) (fun q y hy=>.inl (by simpa using hy)) (fun q _=>by simp) (by simp) (fun g hg=>by rw [St.jh]; exact h.fresh g (by rw [St.bS] at hg; omega)) (fun g y hy=>by rw [St.jh] at hy; rw [St.bS]; have:=h.mem g y hy; omega)
   (by omega) ⟨by rw [M5]; simp,fun i hi=>by rw [M5,fC,List.getElem?_replicate,aE hi]; rfl,by
    rw [M5];exact oW fun i x hx=>by rw [List.getElem?_replicate] at hx; split at hx <;> simp at hx; subst hx; exact he⟩ (by
    rw [M5];generalize c' = m
    induction m with
    | zero=>exact .nil
    | succ m ih=>exact .cons (VK.fy z).dM ih) (by rw [hn]; exact lJ hs)
  refine ⟨.row (fw z.cells.toList c') n true none,fun k=>.slice (some ⟨k,0,none⟩) l' c',E.DZ A.next (B.next,(bz (List.replicate c' z)).length,c'),?_,?_,?_⟩
  ·have h5:Nat.ble (b * c') 281474976710656=true:=h5
   show cond (Nat.ble l' c'&&Nat.ble (b * c') 281474976710656) _ _=_;rw [h6,h5];rfl
  ·exact aas Env.zj (by omega) (by show l'<=c'; omega) (by rw [hn,hlen])
  ·rw [C0]; exact gY
 ·exact hg.elim
theorem aef {e:TypeId} {n len:Nat} {z:Value} {is:List Nat} (hn:(aQ P e).ks.length=n) (h1n:1<=n) (hz:z.cells.size=n) (hb:Eb len is=true) :
  aai P (Se (aQ P e) e (K.dM (aQ P e) (fy z)) len is) (tN n z len is):=by
 intro E A A' B vs us v h hv hg;unfold Se at hg;obtain ⟨hc,hg⟩:=aH.cond hg;simp only [aq] at hc;obtain ⟨⟨hk,hvs⟩,CZ⟩:=hc;have hg:(KV.al e A.next 0 len,A.new (.arr (.ts e .any len _ _)))=(v,A'):=hg;simp only [du] at hg;obtain ⟨rfl,rfl⟩:=hg;have Wg:VK P E (K.dM (aQ P e) (fy z)) z:=(VK.fy z).dM;have hrel:=Sz (l:=aQ P e) (is:=is) hv (MX Wg len);have hlen:(F3 (dj [K.dM (aQ P e) (fy z)] len) ((zW is vs).map fun p=>(p.1,K.dM (aQ P e) p.2))).length=len:=by
  rw [KN,Bh]; simp
 have ad8:∀ p∈zipIdx is us,p.2.cells.size=n/\p.1 < (List.replicate len z).length:=by
  intro p hp;obtain ⟨h5,h6⟩:=ad7 us hb p hp;have hm:aV P E (vs.map (K.dM (aQ P e))) us:=Wf hv;exact ⟨by rw [<- hn]; exact (mn hvs hm p.2 h6).1,by simpa using h5⟩
 obtain ⟨h3,h4⟩:=Sx h1n (ps:=zipIdx is us) (es:=List.replicate len z) (fun u hu=>by rw [(List.mem_replicate.1 hu).2]; exact hz) ad8;have wC:=mn CZ hrel;have qF:(bz (sk (List.replicate len z) (zipIdx is us))).all scalar=true:=fg.2 (AJ fun u hu=>(wC u hu).2);have kT:(sk (List.replicate len z) (zipIdx is us)).length=len:=by rw [KM]; simp
 have gY:=cO.M0 (P:=P) (X:=fun _=>False) (G:=fun _=>False) (y2:=B.next) (N2:=len) (T:=e) (pj:=F3 (dj [K.dM (aQ P e) (fy z)] len) ((zW is vs).map fun p=>(p.1,K.dM (aQ P e) p.2))) (ax:=cZ _) (Fm:=sk (List.replicate len z) (zipIdx is us)) (ki:=bz (sk (List.replicate len z) (zipIdx is us))) (tR:=none) (A1:=A) (B':=B.new (.row (bz (sk (List.replicate len z) (zipIdx is us))) n true none)) h rfl (fun _ _ e=>.inl e) (fun _ e=>e) (fun _ _ _ _ _ _ _=>⟨id,fun _ _ _ _ _ _=>id⟩) (fun _ e=>e.elim) (fun _ e=>e.elim) (.inr (aB _)) (by simp) (by simp [aU,hn]) (fun _ _ e=>by simp at e)
  (fun y hy _=>.inl (by rw [St.cq,aa (by omega)])) (fun _ e=>e.elim) (fun q y hy=>.inl (by simpa using hy)) (fun q _=>by simp) (by simp) (fun g hg=>by rw [St.jh]; exact h.fresh g (by rw [St.bS] at hg; omega)) (fun g y hy=>by rw [St.jh] at hy; rw [St.bS]; have:=h.mem g y hy; omega)
  (by unfold aU; omega) ⟨hlen.symm,fun i _=>rfl,CZ⟩ hrel (by unfold aU; rw [hn]; exact lJ h4)
 refine ⟨.row (bz (sk (List.replicate len z) (zipIdx is us))) n true none,fun b=>.slice (some ⟨b,0,none⟩) len len,E.DZ A.next (B.next,(bz (sk (List.replicate len z) (zipIdx is us))).length,len),?_,?_,gY⟩
 ·unfold tN
  rw [C0,h3];simp only [dN];rw [qF,Ia hv hk];rfl
 ·exact aas Env.zj (aB _) (aB _) (by unfold aU; rw [hn,gV h4,kT])
theorem akx {T b n:Nat} {z:Value} (hn:aU P T=n) (_:1<=n) (hz:z.cells.size=n) (he:cw (aQ P T) (K.dM (aQ P T) (fy z))=true):alG P (adX T b (K.dM (aQ P T) (fy z))) (Fk n b z):=by
 intro E A B vs us v h hv hg;unfold adX at hg;split at hg
 ·rename_i k l k' c
  obtain ⟨x,y,rfl,h1,h2⟩:=hv.j7;have:=h1.cj; subst this;have:=h2.cj; subst this;obtain ⟨hc,hg⟩:=aH.jJ hg;subst hg;simp only [aq,lT] at hc;obtain ⟨⟨h3,h4⟩,h5⟩:=hc;obtain ⟨l',rfl⟩:=Int.eq_ofNat_of_zero_le h3;obtain ⟨c',rfl⟩:=Int.eq_ofNat_of_zero_le (Int.le_trans h3 h4);have G4:l'<=c':=by omega
  have h6:Nat.ble l' c' = true:=Nat.ble_eq_true_of_le G4;have hs:∀ v∈List.replicate c' z,v.cells.size=n:=fun v hv=>by rw [List.eq_of_mem_replicate hv]; exact hz
  have M5:∀ m,dj [K.dM (aQ P T) (fy z)] m=List.replicate m (K.dM (aQ P T) (fy z)):=fun m=>by
   induction m with
   | zero=>rfl
   | succ m ih=>simp [dj,ih,List.replicate_succ]
  have hrel:∀ m,aV P E (List.replicate m (K.dM (aQ P T) (fy z))) (List.replicate m z):=fun m=>by
   induction m with
   | zero=>exact .nil
   | succ m ih=>exact .cons (VK.fy z).dM ih
  refine ⟨.row (fw z.cells.toList c') n true none,fun k=>.slice (some ⟨k,0,none⟩) l' c',E.eL B.next ⟨bz (List.replicate c' z),n,true,none⟩,?_,?_,?_⟩
  ·have h5:Nat.ble (b * c') 281474976710656=true:=h5
   show cond (Nat.ble l' c'&&Nat.ble (b * c') 281474976710656) _ _=_;rw [h6,h5];rfl
  ·have ahI:=(hrel l').mono (cO.aaj (bL:=bz (List.replicate c' z)) (bp:=n) h).le
   simp only [VK];refine ⟨⟨by rw [M5]; simp,fun i hi=>by rw [M5,fC,List.getElem?_replicate,aE hi]; rfl,by
    rw [M5];exact oW fun i x hx=>by rw [List.getElem?_replicate] at hx; split at hx <;> simp at hx; subst hx; exact he⟩,List.replicate l' z,by rw [M5]; exact ahI,some ⟨B.next,0,none⟩,c',rfl,G4,.inr ⟨B.next,0,⟨bz (List.replicate c' z),n,true,none⟩,rfl,by simp [Env.eL],hn.symm,?_⟩,trivial⟩
   rw [hn];intro i x hx;rw [List.getElem?_replicate] at hx;split at hx
   ·rename_i hi
    refine lJ hs i x ?_;rw [List.getElem?_replicate,aE (by have hi:i < l':=hi; omega)];exact hx
   ·simp at hx
  ·rw [C0]; exact cO.aaj h
 ·exact hg.elim
theorem Wj {sz:Nat} {cs:List Value} {xs ys:List Value} (h:qI sz 0 cs xs) (k:qI sz (xs.length * sz) cs ys):qI sz 0 cs (xs++ys):=fun i x hi=>by
 by_cases bj:i < xs.length
 ·rw [qM bj] at hi; exact h i x hi
 ·rw [tL (by omega)] at hi
  obtain ⟨h1,h2⟩:=k _ x hi;refine ⟨h1,fun j y hy=>?_⟩;rw [<- h2 j y hy];congr 1;have:i * sz=xs.length * sz+(i - xs.length) * sz:=by rw [<- Nat.add_mul]; congr 1; omega
  omega
theorem XI {sz o:Nat} {cs r news:List Value} (hs:∀ v∈news,v.cells.size=sz) (hw:gu (o * sz) cs (bz news)=some r):qI sz (o * sz) r news:=fun i x hi=>by
 have Jz:=lJ hs i x hi;have hlen:=gV hs;obtain ⟨_,_,h3⟩:=gw hw;refine ⟨Jz.1,fun k y hy=>?_⟩;have h4:=Jz.2 k y hy;rw [ba] at h4;rw [h3,aE ⟨by omega,by have:=(cG.1 h4).1; omega⟩,<- h4];congr 1;omega
theorem aat {sz o:Nat} {cs r vs es:List Value} (hl:qI sz 0 cs es) (ho:es.length<=o) (hw:gu (o * sz) cs vs=some r) (_:1<=sz):qI sz 0 r es:=fun i x hi=>by
 obtain ⟨h1,h2⟩:=hl i x hi;obtain ⟨_,_,h3⟩:=gw hw;refine ⟨h1,fun k y hy=>?_⟩;have hk:k < sz:=by have:=(rV.1 hy).1; omega
 have Vz:=(cG.1 hi).1;have bj:0+i * sz+k < o * sz:=by
  have:(i+1) * sz<=o * sz:=Nat.mul_le_mul_right _ (by omega);rw [Nat.add_mul] at this;omega
 rw [h3,aa (by omega)];exact h2 k y hy
theorem aau {A:ae} {B:St} {f:Nat} {o0:gT} (h:dr P E A B) (hA:A.get f=some o0):∀ c o,(A.put f .dead).get c=some o->A.get c=some o\/(o = .dead/\c < A.next):=fun c o hc=>by
 rw [ae.bA] at hc;split at hc
 ·rename_i e; simp at hc; subst hc e; exact .inr ⟨rfl,h.live _ _ hA⟩
 ·exact .inl hc
theorem T8 {B:St} {g k:Nat} {c:List Value} {n:Nat} (_:g<=B.next):(∀ x,(B.grow g k c n).get x=if x=B.next then some (.row c n true (some (g,k))) else B.get x)/\(∀ q,(B.grow g k c n).members q=if q=g then B.next::B.members g else B.members q)/\(B.grow g k c n).next=B.next+1:=
 ⟨fun x=>by simp [St.grow],fun q=>by simp [St.grow,St.ET],rfl⟩
theorem aav {e b:Nat} {E:Env} {A A' : ae} {B:St} {x v:KV} {u w:Value} {e' : TypeId} {mk:Mk} {k:Nat} {new:List KV} {acc:Nat->KV} (yq:1<=aU P e) (h:dr P E A B) (h1:VK P E x u)
  (hsr:Nat.beq e e' = true->∃ bh,Src P E B e' k new acc w bh) (hg:aH (HG e b A [x,.ts e' mk k new acc]) (v,A')):∃ r B' E',j6 (aU P e) b B [u,w] = some (r,B')/\VK P E' v r/\cO P E A B E' A' B':=by
 have put:∀ (A1:ae) (m:Nat) (base:List KV) (ab:Nat->KV) (more:Bool) (A2:ae) (v:KV),aH (Y4 e b m base ab A1 k new acc more) (v,A2)->
   (more=true/\Nat.ble ((m+k) * b) 140737488355328=true/\Nat.ble (m+k) 17592186044416=true)/\v = .al e A1.next 0 (m+k)/\A2=A1.new (.arr (.ts e .any (m+k) (base++new) (aw m ab acc))):=by
  intro A1 m base ab more A2 v hp;obtain ⟨hc,hp⟩:=aH.jJ hp;simp only [ai8,aq] at hc;simp only [du] at hp;exact ⟨⟨hc.1,hc.2.1,hc.2.2⟩,hp.1.symm,hp.2.symm⟩
 have nil:∀ (A1:ae) (base:List KV) (ab:Nat->KV),base = []->A1.next=A.next->(∀ c o,A1.get c=some o->A.get c=some o\/(o = .dead/\c < A.next))->(∀ c,A.get c=some wu->A1.get c=some wu)->(∃ bh,Src P E B e k new acc w bh)->Nat.ble ((0+k) * b) 140737488355328=true->Nat.ble (0+k) 17592186044416=true->
   ∃ r B' E',j6 (aU P e) b B [.slice none 0 0,w] = some (r,B')/\VK P E' (.al e A.next 0 (0+k)) r/\cO P E A B E' (A1.new (.arr (.ts e .any (0+k) (base++new) (aw 0 ab acc)))) B':=by
  intro A1 base ab M4 ZK hr1 hh1 ⟨cA,jE⟩ FX wB;subst M4;have hj:gU P e (0+k) ([]++new) (aw 0 ab acc):=(gU.none (P:=P) (T:=e) (g:=ab)).join jE.tree;cases k with
  | zero=>
   have yn:new = []:=qL.1 jE.tree.len.symm;subst yn;refine ⟨.slice none 0 0,B,E,?_,.O2 (.inl ⟨rfl,rfl,rfl⟩),cO.ajl h ZK hr1 hh1 yq⟩;simp only [j6,jE.len,dN,jE.all];rfl
  | succ k=>
   obtain ⟨g1,g2,g3⟩:=T8 (B:=B) (g:=B.next) (k:=0) (c:=bz cA) (n:=aU P e) (aB _);have hlen:(bz cA).length=(k+1) * aU P e:=by rw [gV jE.size,jE.length]
   refine ⟨.slice (some ⟨B.next,0,none⟩) (k+1) (k+1),B.grow B.next 0 (bz cA) (aU P e),E.DZ A.next (B.next,(bz cA).length,0+(k+1)),?_,?_,?_⟩
   ·simp only [ba] at FX wB
    simp only [j6,jE.len,dN,ba];rw [show Nat.ble (k+1) 0=false from rfl,aI,FX,wB,jE.all];rfl
   ·rw [ba]; exact aas Env.zj (aB _) (by omega) (by rw [hlen])
   ·generalize B.grow B.next 0 (bz cA) (aU P e)=B' at g1 g2 g3
    exact cO.M0 (X:=fun _=>False) (G:=fun _=>False) (y2:=B.next) (tR:=some (B.next,0)) h ZK hr1 hh1 (fun _ _ _ _ _ _ _=>⟨id,fun _ _ _ _ _ _=>id⟩) (fun _ e=>e.elim) (fun _ e=>e.elim) (.inr (aB _)) (by omega) (by rw [g1,aE rfl]) (fun g k e=>by simp at e; exact .inr (by omega))
     (fun y hy _=>.inl (by rw [g1,aa (by omega)])) (fun _ e=>e.elim) (fun q y hy=>by
      rw [g2] at hy;split at hy
      ·rename_i e
       subst e;rcases de.1 hy with hy | hy
       ·exact .inr ⟨hy,aB _,0,rfl⟩
       ·exact .inl hy
      ·exact .inl hy) (fun q hq=>by rw [g2,aa (fun e=>hq 0 (by rw [e]))]) (by omega) (fun g hg=>by rw [g2,aa (by omega)]; exact h.fresh g (by omega)) (fun g y hy=>by
      rw [g2] at hy;split at hy
      ·rcases de.1 hy with hy | hy
       ·omega
       ·have:=h.mem _ y hy; omega
      ·have:=h.mem g y hy; omega) yq hj (by simpa using jE.rel) (lJ jE.size)
 unfold HG at hg;split at hg
 ·rename_i e9 mk9 k9 aji ajj heq
  simp only [List.cons.injEq,KV.ts.injEq,and_true] at heq;obtain ⟨rfl,rfl,rfl,rfl,rfl,rfl⟩:=heq;have:=h1.pk; subst this;obtain ⟨he,Wg⟩:=hg.cond;have jE:=hsr he;have:=aK he;subst this;obtain ⟨⟨_,FX,wB⟩,rfl,rfl⟩:=put _ _ _ _ _ _ _ Wg;exact nil A [] qG rfl rfl (fun _ _ e=>.inl e) (fun _ e=>e) jE FX wB
 ·rename_i e1 f o n e9 mk9 k9 aji ajj heq
  simp only [List.cons.injEq,KV.ts.injEq,and_true] at heq;obtain ⟨rfl,rfl,rfl,rfl,rfl,rfl⟩:=heq;split at hg
  ·rename_i e2 mk2 N es ac hf
   obtain ⟨he,Wg⟩:=hg.cond;simp only [aq] at he;obtain ⟨cA,jE⟩:=hsr he.1.1;have:=aK he.1.1;subst this;have:=aK he.1.2;subst this;have:=aK he.2;subst this;obtain ⟨⟨ho,FX,wB⟩,rfl,rfl⟩:=put _ _ _ _ _ _ _ Wg;have:=aK ho;subst this;have F6:=aau h hf;rcases h1.yp with ⟨rfl,_,rfl⟩ | ⟨x,L,N0,c,h2,rfl,h3,h4,h5⟩
   ·exact nil (A.put f .dead) (es.take 0) ac (by simp) rfl F6 (oV hf (by simp)) ⟨cA,jE⟩ FX wB
   ·obtain ⟨T2,N2,pj,ax,e2,ht,_,x9⟩:=h.ar.arr f _ hf
    simp only [KV.ts.injEq] at e2;obtain ⟨rfl,rfl,rfl,rfl,rfl⟩:=e2;rcases x9 with ⟨_,e2⟩ | ⟨x2,cs,bK,bh,e2,h6,h7,h8⟩
    ·rw [h2] at e2; simp at e2
    rw [h2] at e2;simp only [bM,du] at e2;obtain ⟨rfl,rfl,rfl⟩:=e2;have r6:AR A E x:=⟨f,_,_,_,hf,h2⟩
    have an9:x < B.next:=h.Ic r6;have SD:bh.length=N0:=by rw [h7.length]; exact ht.len.symm
    have hs:=mn ht.typed h7;have htk:gU P e n (es.take n) ac:=⟨by rw [kS,<- ht.len]; omega,fun i hi=>by rw [ht.acc i (by omega),fC,fC,mg,aE hi],oW fun i x hi=>by
     rw [mg] at hi;split at hi
     ·exact gC ht.typed hi
     ·simp at hi⟩
    have hj:=htk.join jE.tree;have TP:(bh.take n).length=n:=by rw [kS]; omega
    have apC:∀ v∈bh.take n,v.cells.size=aU P e:=fun v hv=>(hs v (List.mem_of_mem_take hv)).1;have hrel:=(h7.take n).append jE.rel;have h5:c * aU P e=cs.length:=by simpa using h5
    have o9:∀ c v,(A.put f .dead).get c=some (.arr v)->c≠f/\A.get c=some (.arr v):=fun c v hc=>by
     rw [ae.bA] at hc;split at hc
     ·simp at hc
     ·rename_i e; exact ⟨e,hc⟩
    have hf1:∀ c v,(A.put f .dead).get c=some (.arr v)->∀ y L N,E.α c=some (y,L,N)->¬ (y=x)/\∀ oG e1 own g k1,B.get y=some (.row oG e1 own (some (g,k1)))->¬ (∃ k,bK=some (g,k)):=fun c v hc y L N hy=>by
     obtain ⟨cH,hc⟩:=o9 c v hc;refine ⟨fun e=>cH (h.ar.inj c f v _ x L N _ _ hc hf (by rw [<- e]; exact hy) h2),fun oG e1 own g k1 hr ⟨k2,hk⟩=>?_⟩;rw [hk] at h6;exact cH (h.ar.xh c f v _ y x L N _ _ _ _ _ g k1 _ _ _ k2 hc hf hy h2 hr h6)
    have hf3:∀ g,(∃ k,bK=some (g,k))->AF A E B g/\g < B.next/\(∀ f,E.φ f≠some g)/\∀ y∈B.members g,¬ (y=x)->E.z y=none/\¬ AR A E y/\∀ c,E.κ c≠some y:=fun g ⟨k2,hk⟩=>by
     rw [hk] at h6;obtain ⟨q1,q2,q3⟩:=h.ar.vy f _ x _ _ _ _ _ g k2 hf h2 h6;exact ⟨⟨f,_,x,_,_,_,_,_,k2,hf,h2,h6⟩,q1,q2,fun y hy cH=>q3 y hy cH⟩
    have ajm:cJ (⟨x,0 * aU P e,none⟩:Addr)=true:=rfl;by_cases mI:n+k<=c
    ·
     have hle:n * aU P e+(bz cA).length<=cs.length:=by
      rw [gV jE.size,jE.length,<- h5,<- Nat.add_mul];exact Nat.mul_le_mul_right _ mI
     obtain ⟨ki,hw⟩:=C1 (n * aU P e) cs (bz cA) hle;have hcl:ki.length=cs.length:=(gw hw).1;have JC:(bz cA).all scalar=true:=fg.2 (AJ fun v hv=>(mn jE.tree.typed jE.rel v hv).2);have hb:Nat.ble (n+k) c=true:=Nat.ble_eq_true_of_le mI;have key:∃ B' : St,j6 (aU P e) b B [.slice (some ⟨x,0 * aU P e,none⟩) n c,w] = some (.slice (some ⟨x,0 * aU P e,none⟩) (n+k) c,B')/\B'.get x=some (.row ki (aU P e) true bK)/\
       (∀ y,y≠x->B'.get y=B.get y\/(B'.get y=some .dead/\∃ g,(∃ k,bK=some (g,k))/\y∈B.members g))/\B'.members=B.members/\B'.next=B.next:=by
      cases xg:Nat.beq k 0 with
      | true=>
       have Ly:cA = []:=qL.1 (by rw [jE.length]; exact aK xg);have Kz:ki=cs:=by
        rw [Ly] at hw;refine List.ext_getElem? fun i=>?_;rw [(gw hw).2.2 i,aa (by simp [bz])]
       refine ⟨B,?_,by rw [Kz]; exact h6,fun _ _=>.inl rfl,rfl,rfl⟩;simp only [j6,jE.len,dN,hb,aj,jE.all,ajm,xg]
      | false=>
       refine ⟨(B.put x (.row ki (aU P e) true bK)).fo x bK (n * aU P e) (n * aU P e+(bz cA).length),?_,?_,?_,by rw [LR]; simp,by rw [Rv]; simp⟩
       ·simp only [j6,jE.len,dN,hb,aj,aI,jE.all,ajm,xg]
        simp only [St.Bd,cJ,Option.isNone_none,CF,JC,aj,Nat.zero_mul,ba,h6,hw,Option.map_some]
       ·rcases Hd (B:=B.put x (.row ki (aU P e) true bK)) (x:=x) (y:=x) (lo:=n * aU P e) (hi:=n * aU P e+(bz cA).length) (bK:=bK) with e | ⟨g,k,_,_,h3,_⟩
        ·rw [e]; simp
        ·exact absurd rfl h3
       ·intro y hy
        rcases Hd (B:=B.put x (.row ki (aU P e) true bK)) (x:=x) (y:=y) (lo:=n * aU P e) (hi:=n * aU P e+(bz cA).length) (bK:=bK) with e | ⟨g,k,h1,h2,_,h4,_⟩
        ·exact .inl (by rw [e,St.bA,aa hy])
        ·exact .inr ⟨h4,g,⟨k,h1⟩,by simpa using h2⟩
     obtain ⟨B',lA,jv,hgy,mJ,fU⟩:=key;refine ⟨_,B',E.DZ A.next (x,ki.length,n+k),lA,?_,?_⟩
     ·rw [Nat.zero_mul]; exact aas Env.zj mI (aB _) (by rw [hcl]; exact h5)
     ·
      have hli:qI (aU P e) 0 ki (bh.take n++cA):=Wj (aat (h8.take n) (by omega) hw yq) (by rw [TP]; exact XI jE.size hw);exact cO.M0 (A1:=A.put f .dead) (X:=fun y=>y=x) (G:=fun g=>∃ k,bK=some (g,k)) (y2:=x) (tR:=bK) h rfl F6 (oV hf (by simp)) hf1 (fun y hy=>by rw [hy]; exact r6) hf3 (.inl rfl) (by omega) jv (fun g k hk=>.inl ⟨k,hk⟩)
       (fun y _ cH=>hgy y cH) (fun y hy oG e1 own Rw hr=>by
        rw [hy,jv] at hr;simp at hr;obtain ⟨rfl,rfl,rfl,rfl⟩:=hr;rw [hy];exact ⟨cs,h6,hcl.symm⟩) (fun q y hy=>.inl (by rw [mJ] at hy; exact hy)) (fun q _=>by rw [mJ]) (by omega) (fun g hg=>by rw [mJ]; exact h.fresh g (by omega)) (fun g y hy=>by rw [mJ] at hy; rw [fU]; exact h.mem g y hy) yq hj hrel hli
    ·
     have hb:Nat.ble (n+k) c=false:=by
      cases hq:Nat.ble (n+k) c with
      | false=>rfl
      | true=>exact absurd (dX hq) mI
     have hex:xK B (aU P e) c (some ⟨x,0 * aU P e,none⟩)=true:=by
      simp only [xK,h6];cases bK with
      | none=>simp [h5]
      | some p=>rfl
     have hold:B.z6 ⟨x,0 * aU P e,none⟩ (n * aU P e)=some (bz (bh.take n)):=by
      have:=M1 (B:=B) (b:=x) (off:=0) (n:=n) (sz:=aU P e) (r:=⟨cs,aU P e,true,bK⟩) (bh:=bh.take n) h6 (h8.take n) TP yq;simpa using this
     have ahP:∀ v∈bh.take n++cA,v.cells.size=aU P e:=fun v hv=>by
      rcases jF.1 hv with hv | hv
      ·exact apC v hv
      ·exact jE.size v hv
     have hlen:(bz (bh.take n++cA)).length=(n+k) * aU P e:=by rw [gV ahP,kv,TP,jE.length]
     cases bK with
     | none=>
      obtain ⟨g1,g2,g3⟩:=T8 (B:=B) (g:=B.next) (k:=0) (c:=bz (bh.take n++cA)) (n:=aU P e) (aB _);refine ⟨.slice (some ⟨B.next,0,none⟩) (n+k) (n+k),B.grow B.next 0 (bz (bh.take n++cA)) (aU P e),E.DZ A.next (B.next,(bz (bh.take n++cA)).length,n+k),?_,?_,?_⟩
      ·simp only [j6,jE.len,dN,hb,aI,FX,wB,hex,cK,aj,jE.all]
       simp only [HV,cJ,Option.isNone_none,aj,hold,dN,h6,tM,<- AI]
      ·exact aas Env.zj (aB _) (aB _) (by rw [hlen])
      ·generalize B.grow B.next 0 (bz (bh.take n++cA)) (aU P e)=B' at g1 g2 g3
       exact cO.M0 (A1:=A.put f .dead) (X:=fun _=>False) (G:=fun _=>False) (y2:=B.next) (tR:=some (B.next,0)) h rfl F6 (oV hf (by simp)) (fun _ _ _ _ _ _ _=>⟨id,fun _ _ _ _ _ _=>id⟩) (fun _ e=>e.elim) (fun _ e=>e.elim) (.inr (aB _)) (by omega) (by rw [g1,aE rfl]) (fun g k e=>by simp at e; exact .inr (by omega))
        (fun y hy _=>.inl (by rw [g1,aa (by omega)])) (fun _ e=>e.elim) (fun q y hy=>by
         rw [g2] at hy;split at hy
         ·rename_i e
          subst e;rcases de.1 hy with hy | hy
          ·exact .inr ⟨hy,aB _,0,rfl⟩
          ·exact .inl hy
         ·exact .inl hy) (fun q hq=>by rw [g2,aa (fun e=>hq 0 (by rw [e]))]) (by omega) (fun g hg=>by rw [g2,aa (by omega)]; exact h.fresh g (by omega)) (fun g y hy=>by
         rw [g2] at hy;split at hy
         ·rcases de.1 hy with hy | hy
          ·omega
          ·have:=h.mem _ y hy; omega
         ·have:=h.mem g y hy; omega) yq hj hrel (lJ ahP)
     | some p=>
      obtain ⟨g,k0⟩:=p;have hgB:g < B.next:=(hf3 g ⟨k0,rfl⟩).2.1;have kg:∀ y,(B.kill B.next (k0+(0+n * aU P e)) (k0+(0+n * aU P e)+(bz cA).length) (B.members g)).get y=B.get y\/((B.kill B.next (k0+(0+n * aU P e)) (k0+(0+n * aU P e)+(bz cA).length) (B.members g)).get y=some .dead/\y∈B.members g):=fun y=>by
       rw [D7];by_cases hc:y∈B.members g/\y≠B.next/\rH (B.get y) (k0+(0+n * aU P e)) (k0+(0+n * aU P e)+(bz cA).length)=true
       ·exact .inr ⟨by rw [aE hc],hc.1⟩
       ·exact .inl (by rw [aa hc])
      have km:(B.kill B.next (k0+(0+n * aU P e)) (k0+(0+n * aU P e)+(bz cA).length) (B.members g)).members=B.members:=by simp
      have kn:(B.kill B.next (k0+(0+n * aU P e)) (k0+(0+n * aU P e)+(bz cA).length) (B.members g)).next=B.next:=by simp
      obtain ⟨g1,g2,g3⟩:=T8 (B:=B.kill B.next (k0+(0+n * aU P e)) (k0+(0+n * aU P e)+(bz cA).length) (B.members g)) (g:=g) (k:=k0+0) (c:=bz (bh.take n++cA)) (n:=aU P e) (by omega);rw [kn] at g3;have g1:∀ y,y≠B.next->_:=fun y hy=>(g1 y).trans (aa (by rw [kn]; exact hy));have g1':=(T8 (B:=B.kill B.next (k0+(0+n * aU P e)) (k0+(0+n * aU P e)+(bz cA).length) (B.members g)) (g:=g) (k:=k0+0) (c:=bz (bh.take n++cA)) (n:=aU P e) (by omega)).1 B.next;rw [kn,aE rfl] at g1';simp only [km,kn] at g2;refine ⟨.slice (some ⟨B.next,0,none⟩) (n+k) (n+k),(B.kill B.next (k0+(0+n * aU P e)) (k0+(0+n * aU P e)+(bz cA).length) (B.members g)).grow g (k0+0) (bz (bh.take n++cA)) (aU P e),E.DZ A.next (B.next,(bz (bh.take n++cA)).length,n+k),?_,?_,?_⟩
      ·simp only [j6,jE.len,dN,hb,aI,FX,wB,hex,cK,aj,jE.all]
       have aee:=hold;rw [Nat.zero_mul] at aee;simp only [HV,cJ,Option.isNone_none,aj,Nat.zero_mul,aee,dN,h6,tM,<- AI]
      ·exact aas Env.zj (aB _) (aB _) (by rw [hlen])
      ·generalize (B.kill B.next (k0+(0+n * aU P e)) (k0+(0+n * aU P e)+(bz cA).length) (B.members g)).grow g (k0+0) (bz (bh.take n++cA)) (aU P e)=B' at g1 g1' g2 g3
       have gy:∀ y,y≠B.next->B'.get y=B.get y\/(B'.get y=some .dead/\y∈B.members g):=fun y hy=>by
        rw [g1 y hy]; exact kg y
       exact cO.M0 (A1:=A.put f .dead) (X:=fun y=>y=x) (G:=fun q=>∃ k,some (g,k0)=some (q,k)) (y2:=B.next) (tR:=some (g,k0+0)) h rfl F6 (oV hf (by simp)) hf1 (fun y hy=>by rw [hy]; exact r6) hf3 (.inr (aB _)) (by omega) g1' (fun q k e=>by simp at e; exact .inl ⟨k0,by rw [e.1]⟩)
        (fun y hy _=>(gy y (by omega)).imp id fun ⟨q1,q2⟩=>⟨q1,g,⟨k0,rfl⟩,q2⟩) (fun y hy oG e1 own Rw hr=>by
         have hy:y=x:=hy;rcases gy y (by omega) with q | ⟨q,_⟩
         ·rw [q] at hr; exact ⟨oG,hr,rfl⟩
         ·rw [q] at hr; simp at hr) (fun q y hy=>by
         rw [g2] at hy;split at hy
         ·rename_i e
          subst e;rcases de.1 hy with hy | hy
          ·exact .inr ⟨hy,aB _,k0+0,rfl⟩
          ·exact .inl hy
         ·exact .inl hy) (fun q hq=>by rw [g2,aa (fun e=>hq (k0+0) (by rw [e]))]) (by omega) (fun q hq=>by rw [g2,aa (by omega)]; exact h.fresh q (by omega)) (fun q y hy=>by
         rw [g2] at hy;split at hy
         ·rcases de.1 hy with hy | hy
          ·omega
          ·have:=h.mem _ y hy; omega
         ·have:=h.mem q y hy; omega) yq hj hrel (lJ ahP)
  ·exact hg.elim
 ·exact hg.elim
def aoa (P:Program) (f:FA) (g:St->List Value->Option Value):Prop:=
 ∀ (E:Env) (A A' : ae) (B:St) (vs:List KV) (us:List Value) (v:KV),dr P E A B->aV P E vs us->aH (f A vs) (v,A')->∃ u E',g B us=some u/\VK P E' v u/\cO P E A B E' A' B
theorem ahQ {o:Oper} {f:FA} {g:St->List Value->Option Value} {xs:List Operand} (hc:compile P o.op = .read g xs) (hs:aoa P f g):Ie P o (.act f xs):=by
 intro E A A' B ρ base w ev cE v hj hv hg;obtain ⟨em,h1,h2⟩:=mid hv;obtain ⟨u,E',h3,h4,h5⟩:=hs E A A' B _ _ v hj.k h1 hg;have cL:=rl P o;rw [hc] at cL;obtain ⟨v',h6,h7⟩:=cL ρ B base w em cE u hj.s.rel h2 h3;exact ⟨E',B,ρ,v',.value v',w,h7,rfl,⟨u,h4,h6⟩,h5.ev (.refl hj.s)⟩
theorem afE {n:Nat} {lo hi:Bool} (h1n:1<=n):aoa P (V1 P n lo hi) (vj n lo hi false):=by
 intro E A A' B vs us v h hv hg;unfold V1 at hg;split at hg
 ·rename_i T f o m r
  split at hg
  ·rename_i T' mk N es ac hf
   split at hg
   ·rename_i x y hb
    obtain ⟨he,Oo⟩:=hg.cond;simp only [aq,lT] at he;obtain ⟨⟨⟨dS,hT⟩,ho⟩,rfl⟩:=he;have dS:aU P T=n:=aK dS;have:=aK hT;subst this;have:=aK ho;subst this;obtain ⟨hc,hg3⟩:=aH.jJ Oo;simp only [aq,lT] at hc;obtain ⟨h0,h1⟩:=hc;simp only [du] at hg3;obtain ⟨rfl,rfl⟩:=hg3;obtain ⟨u,r',rfl,hu,h4⟩:=hv.cons_inv;have F6:=aau h hf;rcases hu.yp with ⟨rfl,_,rfl⟩ | ⟨x,L,N0,c,h2,rfl,h3,h3',h5⟩
    ·have KF:=Fq (cap:=0) hb h4 (Int.le_refl _) h0 h1 (aB _)
     have hy:y.toNat=0:=by omega
     refine ⟨.slice none 0 0,E,by simp [vj,KF,hy],?_,?_⟩
     ·rw [hy]; exact .O2 (.inl ⟨rfl,rfl,rfl⟩)
     ·rw [hy]; exact cO.ajl h rfl F6 (oV hf (by simp)) (by omega)
    ·obtain ⟨T2,N2,pj,ax,e2,ht,_,x9⟩:=h.ar.arr f _ hf
     simp only [KV.ts.injEq] at e2;obtain ⟨rfl,rfl,rfl,rfl,rfl⟩:=e2;rcases x9 with ⟨_,e2⟩ | ⟨x2,cs,bK,bh,e2,h6,h7,h8⟩
     ·rw [h2] at e2; simp at e2
     rw [h2] at e2;simp only [bM,du] at e2;obtain ⟨rfl,rfl,rfl⟩:=e2;have r6:AR A E x:=⟨f,_,_,_,hf,h2⟩
     have an9:x < B.next:=h.Ic r6;have SD:bh.length=N0:=by rw [h7.length]; exact ht.len.symm
     have hym:y.toNat<=N0:=by omega
     have htk:gU P T y.toNat (es.take y.toNat) ac:=⟨by rw [kS,<- ht.len]; omega,fun i hi=>by rw [ht.acc i (by omega),fC,fC,mg,aE hi],oW fun i x hi=>by
      rw [mg] at hi;split at hi
      ·exact gC ht.typed hi
      ·simp at hi⟩
     have o9:∀ c v,(A.put f .dead).get c=some (.arr v)->c≠f/\A.get c=some (.arr v):=fun c v hc=>by
      rw [ae.bA] at hc;split at hc
      ·simp at hc
      ·rename_i e; exact ⟨e,hc⟩
     have hf1:∀ c v,(A.put f .dead).get c=some (.arr v)->∀ y L N,E.α c=some (y,L,N)->¬ (y=x)/\∀ oG e1 own g k1,B.get y=some (.row oG e1 own (some (g,k1)))->¬ (∃ k,bK=some (g,k)):=fun c v hc y L N hy=>by
      obtain ⟨cH,hc⟩:=o9 c v hc;refine ⟨fun e=>cH (h.ar.inj c f v _ x L N _ _ hc hf (by rw [<- e]; exact hy) h2),fun oG e1 own g k1 hr ⟨k2,hk⟩=>?_⟩;rw [hk] at h6;exact cH (h.ar.xh c f v _ y x L N _ _ _ _ _ g k1 _ _ _ k2 hc hf hy h2 hr h6)
     have hf3:∀ g,(∃ k,bK=some (g,k))->AF A E B g/\g < B.next/\(∀ f,E.φ f≠some g)/\∀ y∈B.members g,¬ (y=x)->E.z y=none/\¬ AR A E y/\∀ c,E.κ c≠some y:=fun g ⟨k2,hk⟩=>by
      rw [hk] at h6;obtain ⟨q1,q2,q3⟩:=h.ar.vy f _ x _ _ _ _ _ g k2 hf h2 h6;exact ⟨⟨f,_,x,_,_,_,_,_,k2,hf,h2,h6⟩,q1,q2,fun y hy cH=>q3 y hy cH⟩
     have h5:c * aU P T=cs.length:=by simpa using h5
     have KF:=Fq (cap:=c) hb h4 (Int.le_refl _) h0 h1 (by omega);refine ⟨.slice (some ⟨x,0,none⟩) y.toNat c,E.DZ A.next (x,cs.length,y.toNat),?_,aas Env.zj (by omega) (aB _) h5,?_⟩
     ·simp [vj,KF,cJ,CI,h6,dS]
     ·exact cO.M0 (A1:=A.put f .dead) (X:=fun y=>y=x) (G:=fun g=>∃ k,bK=some (g,k)) (y2:=x) (tR:=bK) h rfl F6 (oV hf (by simp)) hf1 (fun y hy=>by rw [hy]; exact r6) hf3 (.inl rfl) an9 h6 (fun g k hk=>.inl ⟨k,hk⟩)
       (fun y _ _=>.inl rfl) (fun y hy oG e1 own Rw hr=>⟨oG,hr,rfl⟩) (fun q y hy=>.inl hy) (fun q _=>rfl) (aB _) h.fresh h.mem (by omega) htk (h7.take _) (h8.take _)
   ·exact hg.elim
  ·exact hg.elim
 ·exact hg.elim
theorem cO.aoQ {A:ae} {B:St} {b:Nat} {v2:KV} (h:dr P E A B) (hb:∃ v,A.get b=some (.arr v)) (cL:Z5 P E B b v2):cO P E A B E (A.put b (.arr v2)) B:=by
 obtain ⟨v0,hb⟩:=hb;have fH:∀ c o,(A.put b (.arr v2)).get c=some o->(c=b/\o = .arr v2)\/A.get c=some o:=fun c o hc=>by
  rw [ae.bA] at hc;split at hc
  ·rename_i e; simp at hc; exact .inl ⟨e,hc.symm⟩
  ·exact .inr hc
 have hA:∀ c v,(A.put b (.arr v2)).get c=some (.arr v)->∃ u,A.get c=some (.arr u):=fun c v hc=>by
  rcases fH c _ hc with ⟨e,_⟩ | e
  ·exact ⟨v0,by rw [e]; exact hb⟩
  ·exact ⟨v,e⟩
 have r6:∀ y,AR (A.put b (.arr v2)) E y->AR A E y:=fun y ⟨c,v,L,N,h1,h2⟩=>by
  obtain ⟨u,hu⟩:=hA c v h1;exact ⟨c,u,L,N,hu,h2⟩
 have KO:∀ g,AF (A.put b (.arr v2)) E B g->AF A E B g:=fun g ⟨c,v,x,L,N,cs,e,own,k,h1,h2,h3⟩=>by
  obtain ⟨u,hu⟩:=hA c v h1;exact ⟨c,u,x,L,N,cs,e,own,k,hu,h2,h3⟩
 refine ⟨⟨fun c cs bp hc=>?_,fun c top sz hc=>?_,h.z,h.apart,h.inj,?_,h.jI,h.kK,fun c o hc=>?_,h.eV,h.lB,h.ik,h.fresh,h.mem,?_⟩,Env.le_refl _,aB _,fun _ _ _ _=>rfl,fun _ _ e=>.inl e,fun _ _ e=>.inl e,fun _ _ e=>.inl e,fun _ _ _ _=>rfl,fun x q=>.inl (r6 x q),fun g q=>.inl (KO g q),fun _ _ q=>.inl q,fun y q=>.inl (q.imp (r6 y) fun ⟨g,q1,q2⟩=>⟨g,KO g q1,q2⟩),mm fun _ _=>rfl,oV hb (by simp)⟩
 ·rcases fH c _ hc with ⟨_,e⟩ | e
  ·simp at e
  ·exact h.row c cs bp e
 ·rcases fH c _ hc with ⟨_,e⟩ | e
  ·simp at e
  ·exact h.aP c top sz e
 ·exact h.gz.put (.inl fun t s=>by simp)
 ·rw [ae.sv]
  rcases fH c _ hc with ⟨e,_⟩ | e
  ·rw [e]; exact h.live b _ hb
  ·exact h.live c o e
 ·refine ⟨fun c v hc=>?_,fun c v hc=>?_,fun x q=>h.ar.z x (r6 x q),fun c d v u x L N L' N' h1 h2 h3 h4=>?_,fun c d v u x y L N L' N' cs e own g k bL e' rm k' h1 h2 h3 h4=>?_,h.ar.Z6,h.ar.jI,h.ar.eV,fun c v x L N cs e own g k h1 h2 h3=>?_,fun c v hc=>?_⟩
  ·rcases fH c _ hc with ⟨e,e2⟩ | e
   ·simp at e2; rw [e2,e]; exact cL
   ·exact h.ar.arr c v e
  ·rcases fH c _ hc with ⟨_,e⟩ | e
   ·simp at e
   ·exact h.ar.iA c v e
  ·obtain ⟨v',h1⟩:=hA c v h1
   obtain ⟨u',h2⟩:=hA d u h2;exact h.ar.inj c d v' u' x L N L' N' h1 h2 h3 h4
  ·obtain ⟨v',h1⟩:=hA c v h1
   obtain ⟨u',h2⟩:=hA d u h2;exact h.ar.xh c d v' u' x y L N L' N' cs e own g k bL e' rm k' h1 h2 h3 h4
  ·obtain ⟨v',h1⟩:=hA c v h1
   obtain ⟨q1,q2,q3⟩:=h.ar.vy c v' x L N cs e own g k h1 h2 h3;exact ⟨q1,q2,fun y hy cH=>⟨(q3 y hy cH).1,fun q=>(q3 y hy cH).2.1 (r6 y q),(q3 y hy cH).2.2⟩⟩
  ·obtain ⟨v',h1⟩:=hA c v hc
   rw [ae.sv];exact h.ar.nk c v' h1
theorem aaw {es new:List KV} {o:Nat} (h:o+new.length<=es.length):(CT es o new).length=es.length:=by
 simp only [CT,kv,kS,List.length_drop];omega
theorem afF {es new:List KV} {o i:Nat} (h:o+new.length<=es.length):(CT es o new)[i]? = if i < o then es[i]? else if i < o+new.length then new[i - o]? else es[i]?:=by
 unfold CT;by_cases h1:i < o
 ·rw [aE h1,List.append_assoc,qM (by rw [kS]; omega),mg,aE h1]
 ·rw [aa h1]
  by_cases h2:i < o+new.length
  ·rw [aE h2,qM (by rw [kv,kS]; omega),tL (by rw [kS]; omega),kS]
   congr 1;omega
  ·rw [aa h2,tL (by rw [kv,kS]; omega),o7,kv,kS]
   congr 1;omega
theorem acU {T:TypeId} {N m o k:Nat} {es new:List KV} {acc an:Nat->KV} (ht:gU P T N es acc) (hn:gU P T m new an) (hk:k<=m) (ho:o+k<=N):gU P T N (CT es o (new.take k)) (az o k acc an):=by
 have hl:(new.take k).length=k:=by rw [kS,<- hn.len]; omega
 have mI:o+(new.take k).length<=es.length:=by rw [hl,<- ht.len]; exact ho
 have nU:=fun i=>afF (i:=i) mI;rw [hl] at nU;refine ⟨by rw [aaw mI]; exact ht.len,fun i hi=>?_,oW fun i x hx=>?_⟩
 ·rw [fC,nU]
  unfold az;by_cases h1:i < o
  ·rw [aE h1,show Nat.blt i o=true from bF ▸ h1,aj,ht.acc i hi,fC]
  ·have e1:Nat.blt i o=false:=by
    cases hb:Nat.blt i o with
    | false=>rfl
    | true=>exact absurd (bF ▸ hb) h1
   rw [aa h1,e1,aI];by_cases h2:i < o+k
   ·rw [aE h2,show Nat.blt i (o+k)=true from bF ▸ h2,aj,mg,aE (by omega),hn.acc (i - o) (by omega),fC]
   ·have e2:Nat.blt i (o+k)=false:=by
     cases hb:Nat.blt i (o+k) with
     | false=>rfl
     | true=>exact absurd (bF ▸ hb) h2
    rw [aa h2,e2,aI,ht.acc i hi,fC]
 ·rw [nU] at hx
  split at hx
  ·exact gC ht.typed hx
  ·split at hx
   ·rw [mg] at hx
    split at hx
    ·exact gC hn.typed hx
    ·simp at hx
   ·exact gC ht.typed hx
theorem afG {sz o:Nat} {cs r vs es:List Value} (hl:qI sz (o * sz+vs.length) cs es) (hw:gu (o * sz) cs vs=some r):qI sz (o * sz+vs.length) r es:=fun i x hi=>by
 obtain ⟨h1,h2⟩:=hl i x hi;obtain ⟨_,_,h3⟩:=gw hw;exact ⟨h1,fun k y hy=>by rw [h3,aa (by omega)]; exact h2 k y hy⟩
theorem alQ {e n:Nat} (hn:aU P e=n) (h1n:1<=n):ajc P (ahB e) (Zt n):=by
 intro E A A' B vs us v h hv hg;unfold ahB at hg;split at hg
 ·rename_i e1 b o q y
  obtain ⟨u,w,rfl,h1,h2⟩:=hv.j7;split at hg
  ·rename_i e' mk m new an e2 mk2 N es acc hy hb
   obtain ⟨he,Oo⟩:=hg.cond;clear hg;simp only [aq] at he;have:=aK he.1.1;subst this;have:=aK he.1.2;subst this;have:=aK he.2;subst this;have yq:1<=aU P e:=by omega
   obtain ⟨cA,jE⟩:=ajh h h2 hy yq;have Oo:(KV.int .i64 (Nat.min m q:Nat),A.put b (.arr (.ts e .any N (CT es o (new.take (Nat.min m q))) (az o (Nat.min m q) acc an))))=(v,A'):=Oo;simp only [du] at Oo;obtain ⟨rfl,rfl⟩:=Oo;obtain ⟨T2,N2,pj,ax,e2,ht,_,x9⟩:=h.ar.arr b _ hb;simp only [KV.ts.injEq] at e2;obtain ⟨rfl,rfl,rfl,rfl,rfl⟩:=e2;have Vy:Nat.min m q<=m:=Nat.min_le_left _ _;have hkq:Nat.min m q<=q:=Nat.min_le_right _ _;have hf:=jE.first _ Vy
   rw [hn] at hf;rcases h1.yp with ⟨rfl,rfl,rfl⟩ | ⟨x,L,N0,c,p2,rfl,p3,p4,p5⟩
   ·
    have xg:Nat.min m 0=0:=Nat.min_zero m;refine ⟨.int .i64 (Int.ofNat (Nat.min m 0)),B,E,?_,.mkInt,cO.aoQ h ⟨_,hb⟩ ?_⟩
    ·simp only [Zt,jE.len,dN,hf]
    ·have hp:=acU (o:=0) ht jE.tree Vy (by rw [xg]; omega)
     refine ⟨_,_,_,_,rfl,hp,yq,?_⟩;have SC:CT es 0 (new.take (Nat.min m 0))=es:=by rw [xg]; simp [CT]
     rw [SC];exact x9
   ·rcases x9 with ⟨_,e2⟩ | ⟨x2,cs,bK,bh,e2,h6,h7,h8⟩
    ·rw [p2] at e2; simp at e2
    rw [p2] at e2;simp only [bM,du] at e2;obtain ⟨rfl,rfl,rfl⟩:=e2;have SD:bh.length=N0:=by rw [h7.length]; exact ht.len.symm
    have gY:∀ v∈cA.take (Nat.min m q),v.cells.size=aU P e:=fun v hv=>jE.size v (List.mem_of_mem_take hv);have aob:(cA.take (Nat.min m q)).length=Nat.min m q:=by rw [kS,jE.length]; exact Nat.min_eq_left Vy
    have Jz:(bz (cA.take (Nat.min m q))).length=Nat.min m q * aU P e:=by rw [gV gY,aob]
    have hle:o * aU P e+(bz (cA.take (Nat.min m q))).length<=cs.length:=by
     rw [Jz,<- p5,<- Nat.add_mul];exact Nat.mul_le_mul_right _ (by omega)
    obtain ⟨ki,hw⟩:=C1 (o * aU P e) cs (bz (cA.take (Nat.min m q))) hle;have hcl:ki.length=cs.length:=(gw hw).1;have JC:(bz (cA.take (Nat.min m q))).all scalar=true:=fg.2 (AJ fun v hv=>(mn jE.tree.typed jE.rel v (List.mem_of_mem_take hv)).2);have hp:=acU (o:=o) ht jE.tree Vy (by omega);have hon:(bh.take o).length=o:=by rw [kS]; omega
    have hrel:aV P E (CT es o (new.take (Nat.min m q))) (bh.take o++cA.take (Nat.min m q)++bh.drop (o+Nat.min m q)):=by
     unfold CT;have hlk:(new.take (Nat.min m q)).length=Nat.min m q:=by rw [kS,<- jE.tree.len]; exact Nat.min_eq_left Vy
     rw [hlk];exact ((h7.take o).append (jE.rel.take _)).append (h7.drop _)
    have hli:qI (aU P e) 0 ki (bh.take o++cA.take (Nat.min m q)++bh.drop (o+Nat.min m q)):=by
     refine Wj (Wj (aat (h8.take o) (by omega) hw yq) (by rw [hon]; exact XI gY hw)) ?_;have e3:(bh.take o++cA.take (Nat.min m q)).length * aU P e=o * aU P e+(bz (cA.take (Nat.min m q))).length:=by rw [kv,hon,aob,Jz,Nat.add_mul]
     rw [e3];refine afG ?_ hw;have:=h8.drop (o+Nat.min m q);rw [ba,Nat.add_mul] at this;rw [Jz];exact this
    have gY:=cO.aje (lo:=o * aU P e) (hi:=o * aU P e+(bz (cA.take (Nat.min m q))).length) h ⟨_,hb⟩ p2 h6 hcl yq hp hrel hli;refine ⟨.int .i64 (Int.ofNat (Nat.min m q)),_,E,?_,.mkInt,gY⟩;subst hn;simp only [Zt,jE.len,dN,hf,St.Bd,cJ,Option.isNone_none,CF,JC,aj,h6,hw,Option.map_some]
  ·exact hg.elim
 ·exact hg.elim
theorem afH {e n b:Nat} {mt:Bool} (hn:aU P e=n) (h1n:1<=n):ajc P (LG e n b mt) (j6 n b):=by
 intro E A A' B vs us v h hv hg;unfold LG at hg;split at hg
 ·rename_i x y
  obtain ⟨u,w,rfl,h1,h2⟩:=hv.j7;split at hg
  ·rename_i y' hy
   have yq:1<=aU P e:=by omega
   have hts:∃ T m k es acc,y' = .ts T m k es acc:=by
    unfold OW at hy;split at hy
    ·unfold adW at hy
     split at hy
     ·rename_i T' b' o' n' _ T2 _ _ pj ax _
      cases hb:Nat.beq T' T2 with
      | false=>rw [hb] at hy; simp at hy
      | true=>rw [hb,aj] at hy; simp only [bM] at hy; exact ⟨_,_,_,_,_,hy.symm⟩
     ·simp at hy
    ·simp only [bM] at hy; exact ⟨_,_,_,_,_,hy.symm⟩
    ·simp at hy
   obtain ⟨T,m,k,es,acc,rfl⟩:=hts;have hsr:Nat.beq e T=true->∃ bh,Src P E B T k es acc w bh:=fun he=>by
    have:=aK he;subst this;exact ajh h h2 hy yq
   subst hn;cases hx:alD x with
   | true=>rw [hx,aj] at hg; exact aav yq h h1 hsr hg
   | false=>
    rw [hx,aI] at hg;cases mt with
    | true=>rw [aj] at hg; exact aav yq h h1 hsr hg
    | false=>rw [aI] at hg; exact ahN rfl yq h h1 hsr hg
  ·exact hg.elim
 ·exact hg.elim
end Go.K
end
section
namespace Go.K
open Go Go.aG
variable {P:Program} {E:Env}
theorem cO.ajn {E1 E2:Env} {A A1 A2:ae} {B:St} (h:cO P E A B E1 A1 B) (k:cO P E1 A1 B E2 A2 B):cO P E A B E2 A2 B where
 fT:=k.fT
 le:=Env.le_trans h.le k.le
 next:=gR h.next k.next
 dP _ _ _ _:=rfl
 new b x e:=(k.new b x e).elim (h.new b x) fun q=>.inr ⟨gR h.next q.1,q.2⟩
 tW b r e:=by
  rcases k.tW b r e with e | e | e
  ·exact h.tW b r e
  ·exact .inr (h.kq b e)
  ·exact .inr (.inr e)
 se b g e:=(k.se b g e).elim (h.se b g) .inr
 oU _ _ _ _:=rfl
 kq x q:=(k.kq x q).elim (h.kq x) .inr
 kL g q:=(k.kL g q).elim (h.kL g) .inr
 vz _ _ q:=.inl q
 lZ y q:=(k.lZ y q).elim (h.lZ y) .inr
 rows:=mm fun _ _=>rfl
 CW b q:=k.CW b (h.CW b q)
theorem cO.refl {A:ae} {B:St} (h:dr P E A B):cO P E A B E A B:=
 ⟨h,Env.le_refl _,aB _,fun _ _ _ _=>rfl,fun _ _ e=>.inl e,fun _ _ e=>.inl e,fun _ _ e=>.inl e,fun _ _ _ _=>rfl,fun _ q=>.inl q,fun _ q=>.inl q,fun _ _ q=>.inl q,fun _ q=>.inl q,mm fun _ _=>rfl,fun _ e=>e⟩
theorem Env.alR {A:ae} {B:St} {x:Nat} {r:afn} (h:dr P E A B) (hx:AR A E x):E.le (E.eL x r):=⟨fun _ _ e=>e,fun _ _ e=>e,fun b q e=>by
 simp only [Env.eL];rw [aa]
 ·exact e
 ·intro e2; subst e2
  have:=(h.ar.z b hx).1;rw [e] at this; simp at this,fun _ _ e=>e⟩
theorem cO.iA {A:ae} {B:St} {b x N:Nat} {T:TypeId} {m:Mk} {es:List KV} {acc:Nat->KV} {cs:List Value} {bK:Option (Nat×Nat)} {bh:List Value} (h:dr P E A B) (hb:A.get b=some (.arr (.ts T m N es acc))) (hx:E.α b=some (x,cs.length,N))
  (fp:B.get x=some (.row cs (aU P T) true bK)) (ht:gU P T N es acc) (hm:m = .any) (dS:1<=aU P T) (SC:aV P E es bh) (hl:qI (aU P T) 0 cs bh) :
  cO P E A B (E.eL x ⟨cs,aU P T,true,bK⟩) (A.put b (.iA (.ts T m N es acc))) B:=by
 subst hm;have r6:AR A E x:=⟨b,_,_,_,hb,hx⟩
 have hle:=Env.alR (r:=⟨cs,aU P T,true,bK⟩) h r6;have hzx:(E.eL x ⟨cs,aU P T,true,bK⟩).z x=some ⟨cs,aU P T,true,bK⟩:=by simp [Env.eL]
 have O9:∀ c r,(E.eL x ⟨cs,aU P T,true,bK⟩).z c=some r->E.z c=some r\/(c=x/\r=⟨cs,aU P T,true,bK⟩):=fun c r e=>by
  simp only [Env.eL] at e;split at e
  ·rename_i e2; simp at e; exact .inr ⟨e2,e.symm⟩
  ·exact .inl e
 have fH:∀ c o,(A.put b (.iA (.ts T .any N es acc))).get c=some o->(c=b/\o = .iA (.ts T .any N es acc))\/(c≠b/\A.get c=some o):=fun c o hc=>by
  rw [ae.bA] at hc;split at hc
  ·rename_i e; simp at hc; exact .inl ⟨e,hc.symm⟩
  ·rename_i e; exact .inr ⟨e,hc⟩
 have hA:∀ c v,(A.put b (.iA (.ts T .any N es acc))).get c=some (.arr v)->c≠b/\A.get c=some (.arr v):=fun c v hc=>by
  rcases fH c _ hc with ⟨_,e⟩ | e
  ·simp at e
  ·exact e
 have ajo:∀ y,AR (A.put b (.iA (.ts T .any N es acc))) E y->AR A E y/\y≠x:=fun y ⟨c,v,L,M,h1,h2⟩=>by
  obtain ⟨h3,h4⟩:=hA c v h1;refine ⟨⟨c,v,L,M,h4,h2⟩,fun e=>h3 ?_⟩;subst e;exact h.ar.inj c b v _ y L M _ _ h4 hb h2 hx
 have KO:∀ g,AF (A.put b (.iA (.ts T .any N es acc))) E B g->AF A E B g:=fun g ⟨c,v,y,L,M,cs,e,own,k,h1,h2,h3⟩=>⟨c,v,y,L,M,cs,e,own,k,(hA c v h1).2,h2,h3⟩
 refine ⟨⟨fun c oG bp hc=>?_,fun c top sz hc=>?_,fun y r hy=>?_,fun c y hc=>?_,h.inj,?_,h.jI,h.kK,fun c o hc=>?_,h.eV,fun y r hy=>?_,h.ik,h.fresh,h.mem,?_⟩,hle,aB _,fun _ _ _ _=>rfl,fun _ _ e=>.inl e,fun y r e=>?_,fun _ _ e=>.inl e,fun _ _ _ _=>rfl,fun y q=>.inl (ajo y q).1,fun g q=>.inl (KO g q),fun _ _ q=>.inl q,fun y q=>.inl (q.imp (fun q=>(ajo y q).1) fun ⟨g,q1,q2⟩=>⟨g,KO g q1,q2⟩),mm fun _ _=>rfl,oV hb (by simp)⟩
 ·rcases fH c _ hc with ⟨_,e⟩ | ⟨_,e⟩
  ·simp at e
  ·obtain ⟨y,d,h1,h2,h3⟩:=h.row c oG bp e
   exact ⟨y,d,h1,h2,h3.mono hle⟩
 ·rcases fH c _ hc with ⟨_,e⟩ | ⟨_,e⟩
  ·simp at e
  ·exact h.aP c top sz e
 ·rcases O9 y r hy with e | ⟨rfl,rfl⟩
  ·exact h.z y r e
  ·exact fp
 ·have hc:E.κ c=some y:=hc
  cases hz:(E.eL x ⟨cs,aU P T,true,bK⟩).z y with
  | none=>rfl
  | some r=>
   rcases O9 y r hz with e | ⟨rfl,_⟩
   ·rw [h.apart c y hc] at e; simp at e
   ·exact absurd hc ((h.ar.z y r6).2 c)
 ·exact h.gz.put (.inl fun t s=>by simp)
 ·rw [ae.sv]
  rcases fH c _ hc with ⟨e,_⟩ | ⟨_,e⟩
  ·rw [e]; exact h.live b _ hb
  ·exact h.live c o e
 ·rcases O9 y r hy with e | ⟨rfl,_⟩
  ·exact h.lB y r e
  ·exact h.Ic r6
 ·refine ⟨fun c v hc=>?_,fun c v hc=>?_,fun y q=>?_,fun c d v u y L M L' M' h1 h2 h3 h4=>h.ar.inj c d v u y L M L' M' (hA c v h1).2 (hA d u h2).2 h3 h4,fun c d v u y w L M L' M' oG e own g k bL e' rm k' h1 h2 h3 h4=>h.ar.xh c d v u y w L M L' M' oG e own g k bL e' rm k' (hA c v h1).2 (hA d u h2).2 h3 h4,h.ar.Z6,h.ar.jI,h.ar.eV,fun c v y L M oG e own g k h1 h2 h3=>?_,fun c v hc=>h.ar.nk c v (hA c v hc).2⟩
  ·exact (h.ar.arr c v (hA c v hc).2).mono hle rfl fun _ _ _ _=>rfl
  ·rcases fH c _ hc with ⟨e,e2⟩ | ⟨_,e⟩
   ·simp at e2
    subst e2;exact ⟨T,N,es,acc,rfl,ht,dS,.inr ⟨x,⟨cs,aU P T,true,bK⟩,bh,by rw [e]; exact hx,hzx,rfl,SC.mono hle,hl⟩⟩
   ·exact (h.ar.iA c v e).mono hle rfl
  ·obtain ⟨q1,q2⟩:=ajo y q
   refine ⟨?_,(h.ar.z y q1).2⟩;simp only [Env.eL];rw [aa q2];exact (h.ar.z y q1).1
  ·obtain ⟨cH,h1⟩:=hA c v h1
   obtain ⟨q1,q2,q3⟩:=h.ar.vy c v y L M oG e own g k h1 h2 h3;refine ⟨q1,q2,fun z hz hzy=>?_⟩;obtain ⟨q4,q5,q6⟩:=q3 z hz hzy;refine ⟨?_,fun q=>q5 (ajo z q).1,q6⟩;simp only [Env.eL];rw [aa]
   ·exact q4
   ·intro e2
    subst e2;exact q5 r6
 ·rcases O9 y r e with e | ⟨rfl,_⟩
  ·exact .inl e
  ·exact .inr (.inl r6)
theorem cO.aoR {A:ae} {B:St} {b:Nat} {T:TypeId} {m:Mk} {N:Nat} {es:List KV} {acc:Nat->KV} (h:dr P E A B) (hb:A.get b=some (.arr (.ts T m N es acc))) (cL:TZ P E b (.ts T m N es acc)) (tV:E.α b=none):cO P E A B E (A.put b (.iA (.ts T m N es acc))) B:=by
 have fH:∀ c o,(A.put b (.iA (.ts T m N es acc))).get c=some o->(c=b/\o = .iA (.ts T m N es acc))\/A.get c=some o:=fun c o hc=>by
  rw [ae.bA] at hc;split at hc
  ·rename_i e; simp at hc; exact .inl ⟨e,hc.symm⟩
  ·exact .inr hc
 have hA:∀ c v,(A.put b (.iA (.ts T m N es acc))).get c=some (.arr v)->A.get c=some (.arr v):=fun c v hc=>by
  rcases fH c _ hc with ⟨_,e⟩ | e
  ·simp at e
  ·exact e
 have r6:∀ y,AR (A.put b (.iA (.ts T m N es acc))) E y->AR A E y:=fun y ⟨c,v,L,M,h1,h2⟩=>⟨c,v,L,M,hA c v h1,h2⟩
 have KO:∀ g,AF (A.put b (.iA (.ts T m N es acc))) E B g->AF A E B g:=fun g ⟨c,v,y,L,M,cs,e,own,k,h1,h2,h3⟩=>⟨c,v,y,L,M,cs,e,own,k,hA c v h1,h2,h3⟩
 have _:=tV;refine ⟨⟨fun c oG bp hc=>?_,fun c top sz hc=>?_,h.z,h.apart,h.inj,?_,h.jI,h.kK,fun c o hc=>?_,h.eV,h.lB,h.ik,h.fresh,h.mem,?_⟩,Env.le_refl _,aB _,fun _ _ _ _=>rfl,fun _ _ e=>.inl e,fun y r e=>.inl e,fun _ _ e=>.inl e,fun _ _ _ _=>rfl,fun y q=>.inl (r6 y q),fun g q=>.inl (KO g q),fun _ _ q=>.inl q,fun y q=>.inl (q.imp (r6 y) fun ⟨g,q1,q2⟩=>⟨g,KO g q1,q2⟩),mm fun _ _=>rfl,oV hb (by simp)⟩
 ·rcases fH c _ hc with ⟨_,e⟩ | e
  ·simp at e
  ·exact h.row c oG bp e
 ·rcases fH c _ hc with ⟨_,e⟩ | e
  ·simp at e
  ·exact h.aP c top sz e
 ·exact h.gz.put (.inl fun t s=>by simp)
 ·rw [ae.sv]
  rcases fH c _ hc with ⟨e,_⟩ | e
  ·rw [e]; exact h.live b _ hb
  ·exact h.live c o e
 ·refine ⟨fun c v hc=>h.ar.arr c v (hA c v hc),fun c v hc=>?_,fun y q=>h.ar.z y (r6 y q),fun c d v u y L M L' M' h1 h2 h3 h4=>h.ar.inj c d v u y L M L' M' (hA c v h1) (hA d u h2) h3 h4,fun c d v u y w L M L' M' oG e own g k bL e' rm k' h1 h2 h3 h4=>h.ar.xh c d v u y w L M L' M' oG e own g k bL e' rm k' (hA c v h1) (hA d u h2) h3 h4,h.ar.Z6,h.ar.jI,h.ar.eV,fun c v y L M oG e own g k h1 h2 h3=>?_,fun c v hc=>h.ar.nk c v (hA c v hc)⟩
  ·rcases fH c _ hc with ⟨e,e2⟩ | e
   ·simp at e2; rw [e2,e]; exact cL
   ·exact h.ar.iA c v e
  ·obtain ⟨q1,q2,q3⟩:=h.ar.vy c v y L M oG e own g k (hA c v h1) h2 h3
   exact ⟨q1,q2,fun z hz hzy=>⟨(q3 z hz hzy).1,fun q=>(q3 z hz hzy).2.1 (r6 z q),(q3 z hz hzy).2.2⟩⟩
theorem Wk {T:TypeId} {m:Mk} {b o n N:Nat} {es:List KV} {acc:Nat->KV} {u:Value} {A:ae} {B:St} (h:dr P E A B) (hv:VK P E (.al T b o n) u) (ha:A.get b=some (.iA (.ts T m N es acc))) :
  VK P E (.ts T .any n ((es.drop o).take n) (fun i=>acc (o+i))) u:=by
 obtain ⟨T2,N2,pj,ax,e,ht,dS,x9⟩:=h.ar.iA b _ ha;simp only [KV.ts.injEq] at e;obtain ⟨rfl,rfl,rfl,rfl,rfl⟩:=e;simp only [VK];rcases hv.yp with ⟨rfl,rfl,rfl⟩ | ⟨x,L,N0,c,h1,rfl,h3,h4,h5⟩
 ·exact ⟨⟨by simp,fun i hi=>by omega,rfl⟩,[],by simpa using aV.nil,none,0,rfl,aB _,.inl ⟨rfl,rfl⟩,trivial⟩
 ·rcases x9 with ⟨_,e⟩ | ⟨x2,r,bh,e,h6,h6',h7,h8⟩
  ·rw [h1] at e; simp at e
  rw [h1] at e;simp only [bM,du] at e;obtain ⟨rfl,rfl,rfl⟩:=e;have ahM:((es.drop o).take n).length=n:=by rw [kS,List.length_drop,<- ht.len]; omega
  refine ⟨⟨ahM.symm,fun i hi=>?_,oW fun i x hi=>?_⟩,(bh.drop o).take n,(h7.drop o).take n,_,c,rfl,h3,.inr ⟨x,o * aU P T,r,rfl,h6,h6',?_⟩,trivial⟩
  ·rw [ht.acc (o+i) (by omega),fC,fC,mg,aE hi,o7]
  ·rw [mg] at hi
   split at hi
   ·rw [o7] at hi; exact gC ht.typed hi
   ·simp at hi
  ·have:=(h8.drop o).take n
   rw [ba] at this;exact this
theorem XJ {A:ae} {B:St} {v:KV} {u:Value} (h:dr P E A B) (hv:VK P E v u):∃ E',cO P E A B E' (Z1 A v).2 B/\VK P E' (Z1 A v).1 u:=by
 unfold Z1;split
 ·rename_i T b o n
  split
  ·rename_i T' m N es acc hb
   cases ht:Nat.beq T T' with
   | false=>exact ⟨E,.refl h,.vx⟩
   | true=>
    have:=aK ht;subst this;rw [aj];have cL:=h.ar.arr b _ hb;obtain ⟨T2,N2,pj,ax,e,Pe,dS,x9⟩:=cL;simp only [KV.ts.injEq] at e;obtain ⟨rfl,rfl,rfl,rfl,rfl⟩:=e;rcases x9 with ⟨h1,h2⟩ | ⟨x,cs,bK,bh,h2,h3,h4,h5⟩
    ·have gY:=cO.aoR h hb ⟨_,_,_,_,rfl,Pe,dS,.inl ⟨h1,h2⟩⟩ h2
     exact ⟨E,gY,Wk gY.fT hv ((ae.bA _ _ _ _).trans (aE rfl))⟩
    ·have gY:=cO.iA h hb h2 h3 Pe rfl dS h4 h5
     exact ⟨_,gY,Wk gY.fT (hv.mono gY.le) ((ae.bA _ _ _ _).trans (aE rfl))⟩
  ·rename_i T' m N es acc hb
   cases ht:Nat.beq T T' with
   | false=>exact ⟨E,.refl h,.vx⟩
   | true=>
    have:=aK ht;subst this;rw [aj];exact ⟨E,.refl h,Wk h hv hb⟩
  ·exact ⟨E,.refl h,.vx⟩
 ·exact ⟨E,.refl h,hv⟩
theorem aH.map {α β:Type} {r:KR α} {f:α->β} {v:β} (h:aH (r.map f) v):∃ u,aH r u/\f u=v:=by
 cases r with
 | no=>exact h.elim
 | ok u=>exact ⟨u,rfl,h⟩
 | jJ c u=>exact ⟨u,⟨h.1,rfl⟩,h.2⟩
 | br c x y=>
  rcases h with ⟨h1,h2⟩ | ⟨h1,h2⟩
  ·obtain ⟨u,h3,h4⟩:=aH.map (r:=x) h2; exact ⟨u,.inl ⟨h1,h3⟩,h4⟩
  ·obtain ⟨u,h3,h4⟩:=aH.map (r:=y) h2; exact ⟨u,.inr ⟨h1,h3⟩,h4⟩
theorem T9 {B:St} : ∀ {vs:List KV} {us:List Value} {E:Env} {A:ae},dr P E A B->aV P E vs us->∃ E',cO P E A B E' (V2 A vs).2 B/\aV P E' (V2 A vs).1 us
 | [],us,E,A,h,hv=>⟨E,.refl h,hv⟩
 | v::vs,us,E,A,h,hv=>by
  obtain ⟨u,us',rfl,h1,h2⟩:=hv.cons_inv;obtain ⟨E1,h3,h4⟩:=XJ h h1;obtain ⟨E2,h5,h6⟩:=T9 h3.fT (h2.mono h3.le);exact ⟨E2,h3.ajn h5,.cons (h4.mono h5.le) h6⟩
theorem afI {A:ae} {B:St} {v:KV} {u:Value} (h:dr P E A B) (hv:VK P E v u):∃ E',cO P E A B E' (acO A v).2 B/\VK P E' (acO A v).1 u:=by
 unfold acO;split
 ·rename_i cs
  obtain ⟨l,rfl,h1⟩:=hv.kJ;obtain ⟨E1,h2,h3⟩:=T9 h h1;exact ⟨E1,h2,.rI h3⟩
 ·exact XJ h hv
theorem M6:∀ (A:ae) (vs:List KV),(zX A vs).1.length=vs.length
 | _,[]=>rfl
 | A,v::vs=>by simp [zX,M6]
theorem JS {B:St} : ∀ {vs:List KV} {us:List Value} {E:Env} {A:ae},dr P E A B->aV P E vs us->∃ E',cO P E A B E' (zX A vs).2 B/\aV P E' (zX A vs).1 us
 | [],us,E,A,h,hv=>⟨E,.refl h,hv⟩
 | v::vs,us,E,A,h,hv=>by
  obtain ⟨u,us',rfl,h1,h2⟩:=hv.cons_inv;obtain ⟨E1,h3,h4⟩:=afI h h1;obtain ⟨E2,h5,h6⟩:=JS h3.fT (h2.mono h3.le);exact ⟨E2,h3.ajn h5,.cons (h4.mono h5.le) h6⟩
end Go.K
end
section
namespace Go.K
open Go Go.aG
variable {P:Program}
theorem db {o:Oper} : Ie P o .bad:=trivial
theorem aky (P:Program) (cfg:dD) (o:Oper):Ie P o (bw P cfg o.op):=by
 cases ho:o.op with
 | move x=>exact lift_pure (by rw [ho]; rfl) afr
 | assign x=>exact lift_pure (by rw [ho]; rfl) ako
 | pick c a b=>exact lift_pure (by rw [ho]; rfl) alF
 | alloc t=>
  show Ie P o (rC P t);unfold rC;split
  ·rename_i z hz
   cases hc:(flat z&&z.cells.toList.all scalar&&gx (fy z).cells) with
   | false=>exact db
   | true=>
    simp only [aq] at hc;exact Eg (by rw [ho]; rfl) (akt hz hc.1.1 hc.1.2 hc.2)
  ·exact db
 | box t x=>exact Eg (by rw [ho]; rfl) anl
 | build t parts=>
  show Ie P o (wF P t (parts.toList.map (·.1)) (parts.toList.map (·.2)));have aL:compile P o.op=Ll P t (parts.toList.map (·.1)) (parts.toList.map (·.2)):=by rw [ho]; rfl
  unfold wF;unfold Ll at aL;split
  ·rename_i z fields hz hu
   rw [hz,hu] at aL;simp only at aL;split
   ·rename_i l hl
    rw [hl] at aL;cases hc:(flat z&&gx (fy z).cells) with
    | false=>exact db
    | true=>
     simp only [aq] at hc;exact lift_pure aL (acR hc.1 hc.2)
   ·exact db
  ·rename_i z len e hz hu
   rw [hz,hu] at aL;simp only at aL;split
   ·rename_i n hn
    rw [hn] at aL;cases hc:(flat z&&gx (fy z).cells) with
    | false=>exact db
    | true=>
     simp only [aq] at hc;exact lift_pure aL (acR hc.1 hc.2)
   ·exact db
  ·exact db
 | buildSlice t len parts=>
  show Ie P o (kV P cfg.x.mt t len (parts.toList.map (·.1)) (parts.toList.map (·.2)));have aL:compile P o.op=yC P t len (parts.toList.map (·.1)) (parts.toList.map (·.2)):=by rw [ho]; rfl
  unfold kV;unfold yC at aL;split
  ·rename_i e hu
   rw [hu] at aL;simp only at aL;split
   ·rename_i i z hi hz
    have dS:size? P e=some i.size:=by simp [size?,hi]
    rw [dS,hz] at aL;simp only at aL;cases hc:(Nat.ble (len * i.size) 16777216&&Nat.beq z.cells.size i.size&&Nat.ble 1 i.size&&flat z&&Nat.beq (aQ P e).ks.length i.size&&Eb len (parts.toList.map (·.1))) with
    | false=>exact db
    | true=>
     simp only [aq] at hc;obtain ⟨⟨⟨⟨⟨h1,h2⟩,h3⟩,h4⟩,h5⟩,h6⟩:=hc;rw [h1,h2,h3,h4] at aL;cases MM (aQ P e).ks with
     | true=>
      cases cfg.x.mt (e+3000000) with
      | true=>exact Eg aL (aef (aK h5) (dX h3) (aK h2) h6)
      | false=>exact acT aL (ack (aK h5) (dX h3) (aK h2) h6)
     | false=>
      cases h7:gx (fy z).cells with
      | true=>exact Eg aL (ad9 h7)
      | false=>exact db
   ·exact db
  ·exact db
 | load t a=>exact MV (by rw [ho]; rfl) afw
 | store t a x=>exact Wb (by rw [ho]; rfl) akw
 | nilCheck x=>exact lift_pure (by rw [ho]; rfl) anj
 | binOp op t x y yt=>exact lift_pure (by rw [ho]; rfl) ank
 | unOp op t x=>exact lift_pure (by rw [ho]; rfl) aoK
 | convert src dst x=>
  show Ie P o (qQ P src dst x);have aL:compile P o.op=Fl P src dst x:=by rw [ho]; rfl
  unfold qQ;unfold Fl at aL;split
  ·rename_i k k' hs hd
   rw [hs,hd] at aL;exact lift_pure aL (aks hd hs)
  ·rename_i hs hd
   rw [hs,hd] at aL;exact lift_pure aL akr
  ·rename_i e hs hd
   rw [hs,hd] at aL;simp only at aL;cases hb:isByte P e with
   | false=>exact db
   | true=>rw [hb] at aL; exact MV aL aec
  ·rename_i e hs hd
   rw [hs,hd] at aL;simp only at aL;cases hb:isByte P e with
   | false=>exact db
   | true=>rw [hb] at aL; exact ahF aL (aed hb)
  ·exact db
 | makeFunc fn first cap=>
  show Ie P o (cond (AE fn) .bad (.pure (MO fn first.size) (first.toList++cap.toList)));cases hy:AE fn with
  | true=>exact db
  | false=>
   have hn:HC fn=true:=by cases fn <;> first | rfl | simp [AE] at hy
   exact lift_pure (by rw [ho]; show cond (HC fn) _ _=_; rw [hn]; rfl) ad5
 | fieldAddr s x f=>
  show Ie P o (mj P s x f);have aL:compile P o.op=Ay P s x f:=by rw [ho]; rfl
  unfold mj;unfold Ay at aL;split
  ·rename_i fd hf
   rw [hf] at aL;simp only at aL;split
   ·rename_i m hm
    rw [hm] at aL;exact lift_pure aL (ach rfl)
   ·exact db
  ·exact db
 | field t x f=>
  show Ie P o (wG P t x f);have aL:compile P o.op=Lr P t x f:=by rw [ho]; rfl
  unfold wG;unfold Lr at aL;split
  ·rename_i fd hf
   rw [hf] at aL;exact lift_pure aL akp
  ·exact db
 | indexAddr t x ix=>
  show Ie P o (ml P t x ix);have aL:compile P o.op=Az P t x ix:=by rw [ho]; rfl
  unfold ml;unfold Az at aL;split
  ·rename_i len e hu
   rw [hu] at aL;simp only at aL;split
   ·rename_i n hn
    rw [hn] at aL;exact lift_pure aL ad2
   ·exact db
  ·rename_i e hu
   rw [hu] at aL;simp only at aL;split
   ·rename_i n hn
    rw [hn] at aL;exact lift_pure aL (aft rfl)
   ·exact db
  ·exact db
 | index t x ix=>
  show Ie P o (wH P t x ix);have aL:compile P o.op=Ls P t x ix:=by rw [ho]; rfl
  unfold wH;unfold Ls at aL;split
  ·rename_i len e hu
   rw [hu] at aL;simp only at aL;split
   ·rename_i n hn
    rw [hn] at aL;exact lift_pure aL ad3
   ·exact db
  ·rename_i hu
   rw [hu] at aL;exact lift_pure aL ad4
  ·exact db
 | extract t i=>exact lift_pure (by rw [ho]; rfl) afu
 | slice t x lo hi mx=>
  show Ie P o (wI P cfg.x.mt t x lo hi mx);have aL:compile P o.op=Lo P t x lo hi mx:=by rw [ho]; rfl
  unfold wI;unfold Lo at aL;split
  ·rename_i e hu
   rw [hu] at aL;simp only at aL;split
   ·rename_i n hn
    rw [hn] at aL;simp only at aL;cases hc:(Nat.ble 1 n&&mx.isNone) with
    | false=>exact db
    | true=>
     simp only [aq] at hc;rw [hc.1] at aL;have hmx:mx=none:=Option.isNone_iff_eq_none.1 hc.2;subst hmx;simp only [aj,eZ,yl,Option.isSome_none] at aL;show Ie P o (cond (cfg.x.mt (e+4000000)) _ _);cases cfg.x.mt (e+4000000) with
     | true=>exact ahQ aL (afE (dX hc.1))
     | false=>exact MV aL (afz (dX hc.1))
   ·exact db
  ·rename_i len e hu
   rw [hu] at aL;simp only at aL;split
   ·rename_i n hn
    rw [hn] at aL;simp only at aL;cases hc:(Nat.ble 1 n&&mx.isNone) with
    | false=>exact db
    | true=>
     simp only [aq] at hc;rw [hc.1] at aL;have hmx:mx=none:=Option.isNone_iff_eq_none.1 hc.2;subst hmx;simp only [aj,eZ,yl,Option.isSome_none] at aL;exact MV aL aea
   ·exact db
  ·rename_i hu
   rw [hu] at aL;simp only at aL;cases hc:mx.isNone with
   | false=>exact db
   | true=>rw [hc] at aL; exact lift_pure aL aeb
  ·exact db
 | makeSlice t l c=>
  show Ie P o (yF P cfg.x.mt t l c);have aL:compile P o.op=Ax P t l c:=by rw [ho]; rfl
  unfold yF;unfold Ax at aL;split
  ·rename_i e hu
   rw [hu] at aL;simp only at aL;split
   ·rename_i i hi
    rw [hi] at aL;simp only at aL;split
    ·rename_i z hz
     rw [hz] at aL;simp only at aL;cases hmz:cfg.x.mt (e+1000000) with
     | true=>
      rw [aj];cases hc:(Nat.ble 1 i.size&&Nat.ble 1 i.bytes&&Nat.beq z.cells.size i.size&&flat z&&z.cells.toList.all scalar&&Nat.beq (aQ P e).ks.length i.size&&cw (aQ P e) (dM (aQ P e) (fy z))) with
      | false=>exact db
      | true=>
       simp only [aq] at hc;obtain ⟨⟨⟨⟨⟨⟨h1,h2⟩,h3⟩,h4⟩,h5⟩,h6⟩,h7⟩:=hc;rw [h1,h2,h3,h4,h5] at aL;exact acT aL (akx (aK h6) (dX h1) (aK h3) h7)
     | false=>
     rw [aI];cases hmt:cfg.x.mt e with
     | true=>
      rw [aj];cases hc:(Nat.ble 1 i.size&&Nat.ble 1 i.bytes&&Nat.beq z.cells.size i.size&&flat z&&z.cells.toList.all scalar&&Nat.beq (aQ P e).ks.length i.size&&cw (aQ P e) (dM (aQ P e) (fy z))) with
      | false=>exact db
      | true=>
       simp only [aq] at hc;obtain ⟨⟨⟨⟨⟨⟨h1,h2⟩,h3⟩,h4⟩,h5⟩,h6⟩,h7⟩:=hc;rw [h1,h2,h3,h4,h5] at aL;exact Eg aL (afD (aK h6) (dX h1) (aK h3) h7)
     | false=>
     rw [aI];cases hc:(Nat.ble 1 i.size&&Nat.ble 1 i.bytes&&Nat.beq z.cells.size i.size&&flat z&&z.cells.toList.all scalar&&gx (fy z).cells) with
     | false=>exact db
     | true=>
      simp only [aq] at hc;obtain ⟨⟨⟨⟨⟨h1,h2⟩,h3⟩,h4⟩,h5⟩,h6⟩:=hc;rw [h1,h2,h3,h4,h5] at aL;exact Eg aL (aci h6)
    ·exact db
   ·exact db
  ·exact db
 | call c=>
  show Ie P o (lH P cfg c);unfold lH;split
  ·split
   ·cases cfg.afj _ <;> trivial
   ·trivial
  ·trivial
  ·rename_i b hb
   obtain ⟨callee,args,argTypes⟩:=c;simp only at hb;subst hb;have aL:compile P o.op=JI P b argTypes.toList args.toList:=by rw [ho]; rfl
   unfold CU;unfold JI at aL;split
   ·
    simp only at aL;unfold Z0;unfold YX at aL;split
    ·rename_i t ht
     rw [ht] at aL;simp only at aL;split
     ·rename_i e hu
      rw [hu] at aL;exact lift_pure aL akq
     ·rename_i hu
      rw [hu] at aL;exact lift_pure aL ahD
     ·exact db
    ·exact db
   ·simp only at aL
    exact lift_pure (f:=LF false) aL aaf
   ·simp only at aL
    exact lift_pure (f:=LF true) aL aaf
   ·
    simp only at aL;unfold JN;unfold MD at aL;split
    ·rename_i t u ht
     rw [ht] at aL;simp only at aL;split
     ·rename_i e eu hu huu
      rw [hu] at aL;simp only at aL;split
      ·rename_i i hi
       rw [hi] at aL;simp only at aL;split
       ·rename_i z hz
        rw [hz] at aL;simp only at aL;cases hc:(Nat.ble 1 i.size&&Nat.beq z.cells.size i.size&&Nat.beq (aQ P e).ks.length i.size) with
        | false=>exact db
        | true=>
         simp only [aq] at hc;have apD:MC P u=true:=by unfold MC; rw [huu]
         rw [hc.1.1,hc.1.2,apD] at aL;exact Wb aL (afH (aK hc.2) (dX hc.1.1))
       ·exact db
      ·exact db
     ·exact db
    ·exact db
   ·
    simp only at aL;show Ie P o (Qr P argTypes.toList args.toList);unfold Qr;unfold TB at aL;split
    ·rename_i t u ht
     rw [ht] at aL;simp only at aL;split
     ·rename_i e eu hu huu
      rw [hu] at aL;simp only at aL;split
      ·rename_i n hn
       rw [hn] at aL;simp only at aL;cases hc:(Nat.ble 1 n&&Nat.beq (aQ P e).ks.length n) with
       | false=>exact db
       | true=>
        simp only [aq] at hc;rw [hc.1] at aL;exact Wb aL (alQ (aK hc.2) (dX hc.1))
      ·exact db
     ·exact db
    ·exact db
   ·trivial
  ·trivial
 | _=>trivial
end Go.K
end
section
namespace Go.K
open Go Go.aG
variable {P:Program} {E:Env}
theorem vC (t:bd):∀ xs,jU t xs=xs.map (gp t)
 | []=>rfl
 | x::xs=>by rw [jU,vC t xs]; rfl
structure iR (P:Program) (E:Env) (ρ:Ren) (t:bd) (N:Nat) (a:Act):Prop where
 size:a.tmps.size=N
 val:∀ i,VC P E ρ ((t.get i).getD .bf) (a.tmps.getD i undef)
 none:∀ i,N<=i->t.get i=Option.none
theorem iR.ev {ρ:Ren} {t:bd} {N:Nat} {a:Act} (h:iR P E ρ t N a) (x:Operand):VC P E ρ (gp t x) (a.eval x):=by
 cases x with
 | tmp i=>exact h.val i
 | const v=>
  simp only [gp,Act.eval];cases hf:flat v with
  | true=>exact ⟨v,.fy v,VR.of_flat hf⟩
  | false=>exact .bf
 | global g=>exact .bf
 | func f=>exact ⟨.func (.func f) ⟨[]⟩ ⟨[]⟩,.afq .nil .nil,VR.YZ (l:=[]) (m:=[]) (.func f) rfl .nil .nil⟩
theorem iR.mono {E' : Env} {ρ aF:Ren} {t:bd} {N:Nat} {a:Act} (h:iR P E ρ t N a) (k:E.le E') (m:ρ.le aF):iR P E' aF t N a:=⟨h.size,fun i=>(h.val i).mono k m,h.none⟩
theorem iR.put {ρ:Ren} {t:bd} {N:Nat} {a:Act} {dst:Option Tmp} {v:KV} {v' : Value} (h:iR P E ρ t N a) (hd:∀ d,dst=some d->d < N) (hv:VC P E ρ v v'):iR P E ρ (qH t dst v) N (a.put dst v'):=by
 cases dst with
 | none=>exact h
 | some d=>
  have hd:=hd d rfl;refine ⟨by simp [Act.put,h.size],fun i=>?_,fun i hi=>?_⟩
  ·simp only [qH,Trie.oO,Act.put]
   by_cases e:i=d
   ·subst e
    have:i < a.tmps.size:=by rw [h.size]; exact hd
    simp [kR,this,hv]
   ·have:=h.val i
    simp only [aa e];simpa [kR,Array.getElem?_setIfInBounds_ne (Ne.symm e)] using this
  ·simp only [qH,Trie.oO]
   have cH:i≠d:=fun e=>absurd hi (by rw [e]; exact Nat.not_le_of_lt hd);rw [aa cH];exact h.none i hi
theorem iR.same {ρ:Ren} {t t' : bd} {N:Nat} {a:Act} (h:iR P E ρ t N a) (hs:∀ i,t'.get i=t.get i):iR P E ρ t' N a:=
 ⟨h.size,fun i=>by rw [hs]; exact h.val i,fun i hi=>by rw [hs]; exact h.none i hi⟩
theorem Fu {v:KV} {b:Bool} (h:x8 v = .bool b):v = .bool b:=by cases v <;> simp [x8] at h; rw [h]
theorem aax {v:KV} (h:x8 v = .ma):∃ l,v = .ma l:=by cases v <;> simp [x8] at h; exact ⟨_,rfl⟩
theorem M7 {t:bd} {d:Tmp} {b:Bool} (h:x8 ((t.get d).getD .bf) = .bool b):∀ i,(Trie.set (.bool b) t d).get i=t.get i:=by
 intro i;have:=Fu h;rw [Trie.oO];split
 ·rename_i e
  subst e;cases ht:t.get i with
  | none=>rw [ht] at this; simp at this
  | some v=>rw [ht] at this; simp at this; rw [this]
 ·rfl
theorem VC.eK {ρ:Ren} {b:Bool} {v:Value} (h:VC P E ρ (.bool b) v):v = .bool b:=by
 obtain ⟨u,h1,h2⟩:=h;have:=h1.eK; subst this;exact h2.eK
theorem aeg {R:Type} {ρ:Ren} {t:bd} {N:Nat} {a:Act} {all:List Oper} {o:Oper} {j:Nat} {want:Bool} {yes no:bd->Option R} {r:R} (hg:o.guard=some (j,want)) (ht:iR P E ρ t N a)
  (h:afk t ((all[j]?).bind (·.dst)) want yes no=some r) :
  ∃ t',(∀ i,t'.get i=t.get i)/\((Region.wanted o (yielded ⟨all⟩ a.tmps)=true/\yes t' = some r)\/(Region.wanted o (yielded ⟨all⟩ a.tmps)=false/\no t' = some r)):=by
 unfold afk at h;cases hd:(all[j]?).bind (·.dst) with
 | none=>rw [hd] at h; exact absurd h (by simp)
 | some d=>
  rw [hd] at h;have hw:∀ u,a.tmps[d]? = some u->Region.wanted o (yielded ⟨all⟩ a.tmps)=(match u with
    | .bool b=>b==want
    | _=>false):=by
   intro u hu;unfold Region.wanted;rw [hg];simp only;unfold yielded;have e:(⟨all⟩:Array Oper)[j]? = all[j]?:=by simp
   rw [e,hd];simp only [dN,hu];cases u <;> rfl
  have AK:=ht.val d;have h:BK.rec (motive:=fun _=>Option R)
   (fun b=>Bool.rec (motive:=fun _=>Option R)
    (Bool.rec (motive:=fun _=>Option R) (yes (t.set (.bool false) d)) (no (t.set (.bool false) d)) want)
    (Bool.rec (motive:=fun _=>Option R) (no (t.set (.bool true) d)) (yes (t.set (.bool true) d)) want) b)
   (no t) none (x8 ((t.get d).getD .bf))=some r:=h
  cases hb:x8 ((t.get d).getD .bf) with
  | no=>rw [hb] at h; exact absurd h (by simp)
  | ma=>
   rw [hb] at h;obtain ⟨l,hl⟩:=aax hb;rw [hl] at AK;obtain ⟨u,h1,h2⟩:=AK;obtain ⟨m,rfl,_⟩:=h1.O1;obtain ⟨m',h3,_⟩:=h2.Sc;refine ⟨t,fun _=>rfl,.inr ⟨?_,h⟩⟩;cases hc:a.tmps[d]? with
   | none=>
    unfold Region.wanted;rw [hg];simp only;unfold yielded;have e:(⟨all⟩:Array Oper)[j]? = all[j]?:=by simp
    rw [e,hd];simp [hc]
   | some u=>
    have:u = .tuple m':=by rw [<- h3]; simp [kR,hc]
    rw [hw u hc,this]
  | bool b=>
   rw [hb] at h;have hbv:=Fu hb;rw [hbv] at AK;have hcv:=AK.eK;have hc:a.tmps[d]? = some (.bool b):=by
    cases hc:a.tmps[d]? with
    | none=>simp [kR,hc,undef] at hcv
    | some u=>have:u = .bool b:=by rw [<- hcv]; simp [kR,hc]
              rw [this]
   have hwd:=hw _ hc;refine ⟨t.set (.bool b) d,M7 hb,?_⟩;cases b <;> cases want
   ·exact .inl ⟨hwd,h⟩
   ·exact .inr ⟨hwd,h⟩
   ·exact .inr ⟨hwd,h⟩
   ·exact .inl ⟨hwd,h⟩
def rK (P:Program) (E:Env) (ρ:Ren) (l:List KV) (l' : List Value):Prop:=∃ m,aV P E l m/\dA ρ m l'
def xM (P : Program) (g : FuncId) : Prop := Nat.blt g yB = true ∧ ∃ fn, P.funcs[g]? = some fn ∧ fn.body.isSome = true ∧ (fn.name == "runtime.NumGoroutine") = false
def Ii {R:Type} (P:Program) (aR:ko R):Prop:=
 ∀ f args A k r,aR f args A k=some r->xM P f/\∀ (E:Env) (B:St) (ρ:Ren) (base:Nat) (w:World) (dZ:List Value),rK P E ρ args dZ->KJ P E A B ρ base w->
  Calls P f dZ.toArray w fun e w'=>∃ v v' E' A' B' aF,e = .returned v'/\VC P E' aF v v'/\Ev P base E A B ρ w E' A' B' aF w'/\k v A' = some r
def bQ (P:Program) (g:FuncId) (F:List KV->KR KV):Prop:=
 ∀ args v,aH (F (normArgs P (bT P g) args)) v->args.length=(bT P g).length->xM P g/\∀ (E:Env) (A:ae) (B:St) (ρ:Ren) (base:Nat) (w:World) (dZ:List Value),rK P E ρ args dZ->KJ P E A B ρ base w->
  Calls P g dZ.toArray w fun e w'=>∃ v' E' B' aF,e = .returned v'/\VC P E' aF v v'/\Ev P base E A B ρ w E' A B' aF w'
def rp (P:Program) (pc:FuncId->Option (List KV->KR KV)):Prop:=∀ g F,pc g=some F->bQ P g F
theorem aeh {o:Oper} {f:Operand} {args:List Operand} (aL:compile P o.op = .call f args) {ρ:Ren} {t:bd} {N:Nat} {a:Act} (ht:iR P E ρ t N a) {g:FuncId} {vs:List KV} (hc:yG (jU t args) (gp t f)=some (g,vs)) (hg:xM P g) :
  ∃ b7,rK P E ρ vs b7/\∀ w,(execOp a.eval o).run P w = .ok (.enter g b7.toArray) w:=by
 have cL:=rl P o;rw [aL] at cL;obtain ⟨em,h1,h2⟩:=mid (xs:=f::args) (ev:=gp t) (cE:=a.eval) fun x _=>ht.ev x;obtain ⟨y,ys,e,h3,h4⟩:=h1.cons_inv;simp only [List.map_cons,List.cons.injEq] at e;obtain ⟨rfl,rfl⟩:=e;have hv:∃ us,BL (args.map em) (em f)=some (g,us)/\aV P E vs us:=by
  unfold yG at hc;split at hc
  ·rename_i g' first cap e
   simp only [bM,du] at hc;obtain ⟨rfl,rfl⟩:=hc;rw [e] at h3;obtain ⟨l,m,e2,h5,h6⟩:=h3.JQ;rw [e2];refine ⟨l++args.map em++m,by simp only [BL]; rw [hg.1]; rfl,?_⟩;rw [vC];exact (h5.append h4).append h6
  ·simp at hc
 obtain ⟨us,h5,h6⟩:=hv;obtain ⟨b7,h7,h8⟩:=cL.2 ρ em a.eval g us h2 hg.1 h5 hg.2;exact ⟨b7,⟨us,h6,h7⟩,h8⟩
def dc:r8->Bool
 | .call _ _=>false
 | .D9 _ _ _=>false
 | .H7 _ _ _=>false
 | _=>true
theorem di {c:Bool} {x:r8} (h:dc x=true):dc (cond c x .bad)=true:=by
 cases c with
 | false=>rfl
 | true=>exact h
theorem Ij {c:Bool} {x y:r8} (h:dc x=true) (k:dc y=true):dc (cond c x y)=true:=by
 cases c with
 | false=>exact k
 | true=>exact h
theorem Eh (mt:TypeId->Bool) (b:Builtin) (ts:List TypeId) (args:List Operand):dc (CU P mt b ts args)=true:=by
 unfold CU Z0 JN Qr
 repeat' split
 all_goals first | rfl | exact di rfl
theorem BQ (mt:TypeId->Bool) (t:TypeId) (l c:Operand):dc (yF P mt t l c)=true:=by
 unfold yF;split
 ·rename_i e he
  split
  ·split
   ·cases mt (e+1000000)
    ·cases mt e <;> exact di rfl
    ·exact di rfl
   ·rfl
  ·rfl
 ·rfl
theorem XK {cfg:dD} {op:Op} {f:Operand} {args:List Operand} (h:bw P cfg op = .call f args):compile P op = .call f args:=by
 have key:dc (bw P cfg op)=true->compile P op = .call f args:=fun hn=>by rw [h] at hn; simp [dc] at hn
 cases op with
 | call c=>
  have h:lH P cfg c = .call f args:=h;show CJ P c=_;unfold lH at h;unfold CJ;split at h
  ·rename_i g hc
   split at h
   ·cases hz:cfg.afj g <;> rw [hz] at h <;> simp at h
   ·simp at h; obtain ⟨rfl,rfl⟩:=h; rw [hc]
  ·rename_i f' cH hc; simp at h; obtain ⟨rfl,rfl⟩:=h; rw [hc]
  ·rename_i b hc
   have:=Eh (P:=P) cfg.x.mt b c.argTypes.toList c.args.toList;rw [h] at this;simp [dc] at this
  ·simp at h
 | alloc t=>exact key (by show dc (rC P t)=true; unfold rC; split <;> first | rfl | exact di rfl)
 | build t ps=>exact key (by show dc (wF P t _ _)=true; unfold wF; (repeat' split); all_goals first | rfl | exact di rfl)
 | buildSlice t n ps=>exact key (by show dc (kV P cfg.x.mt t n _ _)=true; unfold kV; (repeat' split); all_goals first | rfl | exact di (by cases MM _ <;> first | exact di rfl | (cases cfg.x.mt _ <;> rfl) | rfl))
 | convert s d x=>exact key (by show dc (qQ P s d x)=true; unfold qQ; (repeat' split); all_goals first | rfl | exact di rfl)
 | makeFunc fn a b=>exact key (by show dc (cond (AE fn) .bad _)=true; cases AE fn <;> rfl)
 | fieldAddr s x i=>exact key (by show dc (mj P s x i)=true; unfold mj; (repeat' split); all_goals rfl)
 | field s x i=>exact key (by show dc (wG P s x i)=true; unfold wG; (repeat' split); all_goals rfl)
 | indexAddr s x i=>exact key (by show dc (ml P s x i)=true; unfold ml; (repeat' split); all_goals rfl)
 | index s x i=>exact key (by show dc (wH P s x i)=true; unfold wH; (repeat' split); all_goals rfl)
 | slice t x lo hi mx=>exact key (by show dc (wI P cfg.x.mt t x lo hi mx)=true; unfold wI; (repeat' split); all_goals first | rfl | exact di rfl | exact di (Ij rfl rfl))
 | makeSlice t l c=>exact key (BQ _ t l c)
 | _=>exact key rfl
theorem aei {cfg:dD} {op:Op} {g:FuncId} {F:List KV->KR KV} {args:List Operand} (h:bw P cfg op = .D9 g F args):compile P op = .call (.func g) args/\∃ F0,cfg.pc g=some F0/\F=fun vs=>cond (Nat.beq vs.length (bT P g).length) (F0 (normArgs P (bT P g) vs)) .no:=by
 have key:dc (bw P cfg op)=true->compile P op = .call (.func g) args/\∃ F0,cfg.pc g=some F0/\F=fun vs=>cond (Nat.beq vs.length (bT P g).length) (F0 (normArgs P (bT P g) vs)) .no:=fun hn=>by rw [h] at hn; simp [dc] at hn
 cases op with
 | call c=>
  have h:lH P cfg c = .D9 g F args:=h;show CJ P c=_/\_;unfold lH at h;unfold CJ;split at h
  ·rename_i g' hc
   split at h
   ·rename_i F0 hF
    cases hz:cfg.afj g' with
    | true=>rw [hz] at h; simp at h
    | false=>
     rw [hz] at h;simp at h; obtain ⟨rfl,rfl,rfl⟩:=h; rw [hc];exact ⟨rfl,F0,hF,rfl⟩
   ·simp at h
  ·simp at h
  ·rename_i b hc
   have:=Eh (P:=P) cfg.x.mt b c.argTypes.toList c.args.toList;rw [h] at this;simp [dc] at this
  ·simp at h
 | alloc t=>exact key (by show dc (rC P t)=true; unfold rC; split <;> first | rfl | exact di rfl)
 | build t ps=>exact key (by show dc (wF P t _ _)=true; unfold wF; (repeat' split); all_goals first | rfl | exact di rfl)
 | buildSlice t n ps=>exact key (by show dc (kV P cfg.x.mt t n _ _)=true; unfold kV; (repeat' split); all_goals first | rfl | exact di (by cases MM _ <;> first | exact di rfl | (cases cfg.x.mt _ <;> rfl) | rfl))
 | convert s d x=>exact key (by show dc (qQ P s d x)=true; unfold qQ; (repeat' split); all_goals first | rfl | exact di rfl)
 | makeFunc fn a b=>exact key (by show dc (cond (AE fn) .bad _)=true; cases AE fn <;> rfl)
 | fieldAddr s x i=>exact key (by show dc (mj P s x i)=true; unfold mj; (repeat' split); all_goals rfl)
 | field s x i=>exact key (by show dc (wG P s x i)=true; unfold wG; (repeat' split); all_goals rfl)
 | indexAddr s x i=>exact key (by show dc (ml P s x i)=true; unfold ml; (repeat' split); all_goals rfl)
 | index s x i=>exact key (by show dc (wH P s x i)=true; unfold wH; (repeat' split); all_goals rfl)
 | slice t x lo hi mx=>exact key (by show dc (wI P cfg.x.mt t x lo hi mx)=true; unfold wI; (repeat' split); all_goals first | rfl | exact di rfl | exact di (Ij rfl rfl))
 | makeSlice t l c=>exact key (BQ _ t l c)
 | _=>exact key rfl
theorem aej {cfg:dD} {op:Op} {g:FuncId} {F:List KV->KR KV} {args:List Operand} (h:bw P cfg op = .H7 g F args):compile P op = .call (.func g) args/\∃ F0,cfg.pc g=some F0/\F=fun vs=>cond (Nat.beq vs.length (bT P g).length) (F0 (normArgs P (bT P g) vs)) .no:=by
 have key:dc (bw P cfg op)=true->compile P op = .call (.func g) args/\∃ F0,cfg.pc g=some F0/\F=fun vs=>cond (Nat.beq vs.length (bT P g).length) (F0 (normArgs P (bT P g) vs)) .no:=fun hn=>by rw [h] at hn; simp [dc] at hn
 cases op with
 | call c=>
  have h:lH P cfg c = .H7 g F args:=h;show CJ P c=_/\_;unfold lH at h;unfold CJ;split at h
  ·rename_i g' hc
   split at h
   ·rename_i F0 hF
    cases hz:cfg.afj g' with
    | false=>rw [hz] at h; simp at h
    | true=>
     rw [hz] at h;simp at h; obtain ⟨rfl,rfl,rfl⟩:=h; rw [hc];exact ⟨rfl,F0,hF,rfl⟩
   ·simp at h
  ·simp at h
  ·rename_i b hc
   have:=Eh (P:=P) cfg.x.mt b c.argTypes.toList c.args.toList;rw [h] at this;simp [dc] at this
  ·simp at h
 | alloc t=>exact key (by show dc (rC P t)=true; unfold rC; split <;> first | rfl | exact di rfl)
 | build t ps=>exact key (by show dc (wF P t _ _)=true; unfold wF; (repeat' split); all_goals first | rfl | exact di rfl)
 | buildSlice t n ps=>exact key (by show dc (kV P cfg.x.mt t n _ _)=true; unfold kV; (repeat' split); all_goals first | rfl | exact di (by cases MM _ <;> first | exact di rfl | (cases cfg.x.mt _ <;> rfl) | rfl))
 | convert s d x=>exact key (by show dc (qQ P s d x)=true; unfold qQ; (repeat' split); all_goals first | rfl | exact di rfl)
 | makeFunc fn a b=>exact key (by show dc (cond (AE fn) .bad _)=true; cases AE fn <;> rfl)
 | fieldAddr s x i=>exact key (by show dc (mj P s x i)=true; unfold mj; (repeat' split); all_goals rfl)
 | field s x i=>exact key (by show dc (wG P s x i)=true; unfold wG; (repeat' split); all_goals rfl)
 | indexAddr s x i=>exact key (by show dc (ml P s x i)=true; unfold ml; (repeat' split); all_goals rfl)
 | index s x i=>exact key (by show dc (wH P s x i)=true; unfold wH; (repeat' split); all_goals rfl)
 | slice t x lo hi mx=>exact key (by show dc (wI P cfg.x.mt t x lo hi mx)=true; unfold wI; (repeat' split); all_goals first | rfl | exact di rfl | exact di (Ij rfl rfl))
 | makeSlice t l c=>exact key (BQ _ t l c)
 | _=>exact key rfl
noncomputable def xm (ins:r8) (t:bd) (A:ae):KR (KV×ae):=
 match ins with
 | .pure f xs=>(f (jU t xs)).map fun v=>(v,A)
 | .read f xs=>(f A (jU t xs)).map fun v=>(v,A)
 | .act f xs=>f A (jU t xs)
 | .look f xs=>(f (jU t xs)).map fun v=>(v,A)
 | .D9 _ f xs=>(f (jU t xs)).map fun v=>(v,A)
 | .H7 _ f xs=>(f (zX A (jU t xs)).1).map fun v=>(v,(zX A (jU t xs)).2)
 | .call _ _=>.no
 | .bad=>.no
theorem aH.Bi {α β:Type} {r:KR α} {f:α->β} {u:α} (h:aH r u):aH (r.map f) (f u):=by
 cases r with
 | no=>exact h.elim
 | ok x=>have h:x=u:=h; subst h; exact rfl
 | jJ c x=>obtain ⟨h1,rfl⟩:=h; exact ⟨h1,rfl⟩
 | br c x y=>exact h.imp (fun h=>⟨h.1,aH.Bi (r:=x) h.2⟩) (fun h=>⟨h.1,aH.Bi (r:=y) h.2⟩)
theorem JT {R:Type} {aR:ko R} {t:bd} {A:ae} {k:KV->ae->Option R} {ins:r8} {r:R} (hn:∀ f args,ins≠.call f args) (h:JO aR t A k ins=some r):∃ v A',aH (xm ins t A) (v,A')/\k v A' = some r:=by
 cases ins with
 | pure f xs=>obtain ⟨v,h1,h2⟩:=KR.Cj h; exact ⟨v,A,h1.Bi,h2⟩
 | read f xs=>obtain ⟨v,h1,h2⟩:=KR.Cj h; exact ⟨v,A,h1.Bi,h2⟩
 | act f xs=>obtain ⟨v,h1,h2⟩:=KR.Cj h; exact ⟨v.1,v.2,h1,h2⟩
 | look f xs=>obtain ⟨v,h1,h2⟩:=KR.Cj h; exact ⟨v,A,h1.Bi,h2⟩
 | D9 g f xs=>obtain ⟨v,h1,h2⟩:=KR.Cj h; exact ⟨v,A,h1.Bi,h2⟩
 | H7 g f xs=>obtain ⟨v,h1,h2⟩:=KR.Cj h; exact ⟨v,(zX A (jU t xs)).2,h1.Bi (f:=fun v=>(v,(zX A (jU t xs)).2)),h2⟩
 | call f args=>exact absurd rfl (hn f args)
 | bad=>exact absurd h (by simp [JO])
theorem XL {cfg:dD} (eW:rp P cfg.pc) {o:Oper} {g:FuncId} {xs:List Operand} (aL:compile P o.op = .call (.func g) xs) {F0:List KV->KR KV} (hF0:cfg.pc g=some F0) {t:bd} {vs0:List KV} {v:KV}
  (hf:aH (F0 (normArgs P (bT P g) vs0)) v) (hlen:vs0.length=(bT P g).length) {E:Env} {ρ:Ren} {a:Act} (hv:∀ x∈xs,VC P E ρ (gp t x) (a.eval x)) {A A1:ae} {B:St} {base:Nat} {w:World}
  (alS:∀ us,aV P E (xs.map (gp t)) us->∃ E1,Ev P base E A B ρ w E1 A1 B ρ w/\aV P E1 vs0 us) {next:Act->World->Prop} {Q:Exit->Act->World->Prop}
  (hk:∀ E' B' aF v' w',VC P E' aF v v'->Ev P base E A B ρ w E' A1 B' aF w'->next (a.put o.dst v') w'):o.upon P a next Q ((execOp a.eval o).run P w):=by
 obtain ⟨hg,lA⟩:=eW g F0 hF0 _ _ hf hlen;have acV:=rl P o;rw [aL] at acV;obtain ⟨em,h3,h4⟩:=mid (xs:=xs) hv
 let em2:Operand->Value:=fun x=>match x with
  | .func f=>.func (.func f) #[] #[]
  | x=>em x
 have e3:∀ x∈xs,VK P E (gp t x) (em2 x)/\VR ρ (em2 x) (a.eval x):=by
  intro x hx;have key:∀ (l:List Operand),aV P E (l.map (gp t)) (l.map em)->x∈l->VK P E (gp t x) (em x):=by
   intro l
   induction l with
   | nil=>intro _ h; simp at h
   | cons y l ih=>
    intro h hm;obtain ⟨z,zs,e,q1,q2⟩:=h.cons_inv;simp only [List.map_cons,List.cons.injEq] at e;obtain ⟨rfl,rfl⟩:=e;rcases de.1 hm with rfl | hm
    ·exact q1
    ·exact ih q2 hm
  cases x with
  | func f=>exact ⟨.afq .nil .nil,VR.YZ (l:=[]) (m:=[]) (.func f) rfl .nil .nil⟩
  | tmp i=>exact ⟨key xs h3 hx,h4 _ hx⟩
  | const c=>exact ⟨key xs h3 hx,h4 _ hx⟩
  | global q=>exact ⟨key xs h3 hx,h4 _ hx⟩
 have e4:aV P E (xs.map (gp t)) (xs.map em2):=by
  have:∀ (l:List Operand),(∀ x∈l,VK P E (gp t x) (em2 x))->aV P E (l.map (gp t)) (l.map em2):=by
   intro l
   induction l with
   | nil=>intro _; exact .nil
   | cons y l ih=>intro h; exact .cons (h y (by simp)) (ih fun z hz=>h z (by simp [hz]))
  exact this xs fun x hx=>(e3 x hx).1
 obtain ⟨b7,h5,h6⟩:=acV.2 ρ em2 a.eval g (xs.map em2) (fun x hx=>by
   rcases de.1 hx with rfl | hx
   ·exact VR.YZ (l:=[]) (m:=[]) (.func g) rfl .nil .nil
   ·exact (e3 x hx).2) hg.1 (by simp only [em2,BL]; rw [hg.1]; simp) hg.2
 rw [h6 w];obtain ⟨E1,q1,q2⟩:=alS _ e4;refine (lA E1 A1 B ρ base w b7 ⟨xs.map em2,q2,h5⟩ q1.kj).mono ?_;rintro e w' ⟨v',E',B',aF,rfl,h7,h8⟩;exact hk E' B' aF v' w' h7 (q1.trans h8)
theorem M8 {cfg:dD} (eW:rp P cfg.pc) {o:Oper} {t:bd} {A A' : ae} {v:KV} {base:Nat} {B:St} {ρ:Ren} {a:Act} {w:World} {next:Act->World->Prop} {Q:Exit->Act->World->Prop}
  (h:aH (xm (bw P cfg o.op) t A) (v,A')) (hv:∀ x∈TU (bw P cfg o.op),VC P E ρ (gp t x) (a.eval x)) (hj:KJ P E A B ρ base w)
  (hk:∀ E' B' aF v' w',VC P E' aF v v'->Ev P base E A B ρ w E' A' B' aF w'->next (a.put o.dst v') w'):o.wp P a w next Q:=by
 have cL:=aky P cfg o;have ajp:=@aei P cfg o.op;have ajq:=@aej P cfg o.op;generalize bw P cfg o.op=ins at h cL hv ajp ajq;unfold Oper.wp;cases ins with
 | pure f xs=>
  obtain ⟨u,h1,h2⟩:=aH.map h;simp only [du] at h2;obtain ⟨rfl,rfl⟩:=h2;rw [vC] at h1;obtain ⟨v',h3,h4⟩:=cL E ρ (gp t) a.eval u hv h1;rw [h4 w];exact hk E B ρ v' w h3 (.refl hj.k hj.s)
 | read f xs=>
  obtain ⟨u,h1,h2⟩:=aH.map h;simp only [du] at h2;obtain ⟨rfl,rfl⟩:=h2;rw [vC] at h1;obtain ⟨v',h3,h4⟩:=cL E A B ρ base w (gp t) a.eval u hj hv h1;rw [h4];exact hk E B ρ v' w h3 (.refl hj.k hj.s)
 | act f xs=>
  have h:aH (f A (jU t xs)) (v,A'):=h;rw [vC] at h;obtain ⟨E',B',aF,v',nx,w',h1,h2,h3,h4⟩:=cL E A A' B ρ base w (gp t) a.eval v hj hv h;rw [h1];have hd:=hk E' B' aF v' w' h3 h4;cases nx with
  | value u=>have:u=v':=h2; subst this; exact hd
  | skip=>have:v' = undef:=h2; subst this; exact hd
  | _=>exact h2.elim
 | look f xs=>
  obtain ⟨u,h1,h2⟩:=aH.map h;simp only [du] at h2;obtain ⟨rfl,rfl⟩:=h2;rw [vC] at h1;obtain ⟨E',B',aF,v',nx,w',h3,h4,h5,h6⟩:=cL E A B ρ base w (gp t) a.eval u hj hv h1;rw [h3];have hd:=hk E' B' aF v' w' h5 h6;cases nx with
  | value u=>have:u=v':=h4; subst this; exact hd
  | skip=>have:v' = undef:=h4; subst this; exact hd
  | _=>exact h4.elim
 | D9 g f xs=>
  obtain ⟨u,h1,h2⟩:=aH.map h;simp only [du] at h2;obtain ⟨rfl,rfl⟩:=h2;obtain ⟨aL,F0,hF0,rfl⟩:=ajp rfl;obtain ⟨hlen,hf⟩:=aH.cond h1;exact XL eW aL hF0 hf (aK hlen) hv (fun us q=>⟨E,.refl hj.k hj.s,by rw [vC]; exact q⟩) hk
 | H7 g f xs=>
  obtain ⟨u,h1,h2⟩:=aH.map h;simp only [du] at h2;obtain ⟨rfl,rfl⟩:=h2;obtain ⟨aL,F0,hF0,rfl⟩:=ajq rfl;obtain ⟨hlen,hf⟩:=aH.cond h1;refine XL eW aL hF0 hf (aK hlen) hv (fun us q=>?_) hk;obtain ⟨E1,p1,p2⟩:=JS hj.k q;rw [vC];exact ⟨E1,p1.ev (.refl hj.s),p2⟩
 | call f args=>exact h.elim
 | bad=>exact h.elim
end Go.K
end
