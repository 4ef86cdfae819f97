/- Part of the proof of WorldIn: the machine, shown to be the model's, and plain models. No conditions. -/
import Derived.Test.YtckbdndhmcoihaaCq
set_option linter.unusedSimpArgs false
set_option linter.unusedVariables false
section
namespace Go.K
open Go Go.aG
variable {P:Program} {E:Env}
def mkE (agg:Bool) (m:List Value):Value:=cond agg (.agg ⟨m⟩) (m.headD .nilIface)
theorem abh {agg:Bool} {m:List Value} (hs:∀ v∈m,scalar v=true) (h:agg=true\/m.length=1):(mkE agg m).cells.toList=m:=by
 cases agg with
 | true=>rfl
 | false=>
  rcases h with h | h
  ·simp at h
  ·match m,h with
   | [v],_=>
    have:=hs v (by simp);show v.cells.toList = [v];cases v <;> first | rfl | simp [scalar] at this
theorem Xy {l:Lay} {ks:List KV} (h:aE l.ks ks=true) (ha:l.agg=true\/l.ks.length=1):cv l (Pe l.agg ks)=true:=by
 obtain ⟨agg,cs⟩:=l;cases agg with
 | true=>simpa [Pe,cv] using h
 | false=>
  simp at ha
  match cs,ha,ks,h with
  | [c],_,[v],h=>
   have hk:kindOk c v=true:=by simpa [aE] using h
   show cv ⟨false,[c]⟩ v=true;cases v with
   | agg cs=>cases c <;> simp [kindOk] at hk
   | kL cs=>cases c <;> simp [kindOk] at hk
   | _=>simpa [cv] using h
  | [c],_,[],h=>simp [aE] at h
  | [c],_,_::_::_,h=>simp [aE] at h
theorem abi {E:Env} {ks:List KV} {m:List Value} {agg:Bool} (h:aV P E ks m) (ha:agg=true\/m.length=1):VK P E (Pe agg ks) (mkE agg m):=by
 cases agg with
 | true=>exact .rR h
 | false=>
  rcases ha with ha | ha
  ·simp at ha
  ·match m,ha,ks,h with
   | [v],_,ks,h=>
    have hl:=h.length
    match ks,hl,h with
    | [k],_,h=>
     obtain ⟨y,ys,e,h1,_⟩:=h.cons_inv;simp at e;rw [e.1];exact h1
theorem NH {α:Type} : ∀ {n:Nat} {l vs r:List α},k8 n l vs=some r->
  r.length=l.length/\(vs≠[]->n+vs.length<=l.length)/\∀ (i:Nat),r[i]? = if n<=i/\i < n+vs.length then vs[i - n]? else l[i]?
 | 0,l,[],r,h=>by simp [k8] at h; subst h; simp
 | 0,[],_::_,r,h=>by simp [k8] at h
 | 0,x::l,v::vs,r,h=>by
  simp only [k8,cj] at h;obtain ⟨q,hq,rfl⟩:=h;obtain ⟨h1,h2,h3⟩:=NH hq;refine ⟨by simp [h1],?_,fun i=>?_⟩
  ·intro _
   cases vs with
   | nil=>simp
   | cons u us=>have:=h2 (by simp); simp at this ⊢; omega
  ·cases i with
   | zero=>simp
   | succ i=>simp [h3 i]
 | n+1,[],[],r,h=>by simp [k8] at h; subst h; simp
 | n+1,[],_::_,r,h=>by simp [k8] at h
 | n+1,x::l,vs,r,h=>by
  simp only [k8,cj] at h;obtain ⟨q,hq,rfl⟩:=h;obtain ⟨h1,h2,h3⟩:=NH hq;refine ⟨by simp [h1],?_,fun i=>?_⟩
  ·intro cD
   have:=h2 cD;simp at this ⊢;omega
  ·cases i with
   | zero=>simp
   | succ i=>
    simp only [M9,h3 i];by_cases hc:n<=i/\i < n+vs.length
    ·rw [aD hc,aD (by omega),show i+1 - (n+1)=i - n by omega]
    ·rw [aa hc,aa (by omega)]
theorem TG (v:KV):∀ (es:List KV) (i j:Nat),(setAt es i v).getD j .bh=if j=i/\i < es.length then v else es.getD j .bh
 | [],0,j=>by simp [setAt]
 | [],_+1,j=>by simp [setAt]
 | e::es,0,0=>by simp [setAt]
 | e::es,0,j+1=>by simp [setAt]
 | e::es,i+1,0=>by simp [setAt]
 | e::es,i+1,j+1=>by
  have:=TG v es i j;simp only [setAt,List.getD_cons_succ,qT];rw [this];by_cases h:j=i/\i < es.length
  ·rw [aD h,aD ⟨by omega,by omega⟩]
  ·rw [aa h,aa (by omega)]
theorem Dv:∀ (n:Nat) (l vs:List Value),n+vs.length<=l.length->∃ r,gH n l vs=some r
 | 0,l,[],_=>⟨l,rfl⟩
 | 0,[],_::_,h=>by simp at h
 | 0,x::l,v::vs,h=>by
  obtain ⟨r,hr⟩:=Dv 0 l vs (by simp at h ⊢; omega);exact ⟨v::r,by rw [yT,hr]; rfl⟩
 | n+1,[],[],_=>⟨[],rfl⟩
 | n+1,[],_::_,h=>by simp at h
 | n+1,x::l,vs,h=>by
  obtain ⟨r,hr⟩:=Dv n l vs (by simp at h ⊢; omega);exact ⟨x::r,by rw [uI,hr]; rfl⟩
theorem YR:∀ {ks:List CK} {cs:List KV},cs.length=ks.length->(∀ (i:Nat) c v,ks[i]? = some c->cs[i]? = some v->kindOk c v=true)->aE ks cs=true
 | [],[],_,_=>rfl
 | [],_::_,h,_=>by simp at h
 | _::_,[],h,_=>by simp at h
 | c::ks,v::cs,h,k=>by
  simp only [aE,ao];exact ⟨k 0 c v rfl rfl,YR (by simpa using h) fun i d u e1 e2=>k (i+1) d u (by simpa using e1) (by simpa using e2)⟩
theorem aiy {l:Lay} {e:KV} (h:cv l e=true):l.agg=true\/e.cells.length=1:=by
 by_cases ha:∃ cs,e = .agg cs
 ·obtain ⟨cs,rfl⟩:=ha
  simp only [cv,ao] at h;exact .inl h.1
 ·have hc:e.cells = [e]:=by cases e <;> first | rfl | exact absurd ⟨_,rfl⟩ ha
  rw [hc];exact .inr rfl
theorem alg {T t:TypeId} {k:Nat} {e vn e2:KV} {u w:Value} (hw:aac P T t k) (Dt:cv (aQ P T) e=true) (hu:VK P E e u) (hvn:cv (aQ P t) vn=true) (hvw:VK P E vn w) (h:putCells P T k e vn.cells=some e2) :
  ∃ u2,VK P E e2 u2/\cv (aQ P T) e2=true/\u2.cells.size=aU P T/\e2.cells.length=e.cells.length/\(∀ m,u2.cells.toList[m]? = if k<=m/\m < k+w.cells.toList.length then w.cells.toList[m - k]? else u.cells.toList[m]?)/\(w.cells.toList≠[]->k+w.cells.toList.length<=aU P T):=by
 unfold putCells at h;obtain ⟨l1,l2,_⟩:=NF Dt;rw [l1] at h;obtain ⟨kx,h1,rfl⟩:=cj.1 h;obtain ⟨tY,WZ⟩:=gq Dt;obtain ⟨RP,Ti⟩:=gq hvn;have hcu:=hu.cells WZ;have hcw:=hvw.cells Ti;obtain ⟨r,h2,h3⟩:=aV.k8 h1 hcu hcw;obtain ⟨s1,s2,s3⟩:=gI h2;obtain ⟨q1,q2,q3⟩:=NH h1;have Nq:e.cells.length=aU P T:=ue tY;have Ch:=aiy Dt;have hlr:r.length=e.cells.length:=by rw [s1,hcu.length]
 have qL:aE (aQ P T).ks kx=true:=by
  refine YR (by rw [q1]; exact Nq) fun i c v e1 e3=>?_;rw [q3 i] at e3;split at e3
  ·rename_i hc
   obtain ⟨x,Es,hx2⟩:∃ d,(aQ P t).ks[i - k]? = some d/\d=c:=by
    have bm:i - k < (aQ P t).ks.length:=by rw [<- ue RP]; omega
    refine ⟨_,cJ bm,?_⟩;have:=hw.is (i - k) _ (cJ bm);rw [show k+(i - k)=i by omega,e1] at this;simpa using this.symm
   subst hx2;obtain ⟨v',h4,h5⟩:=Ds RP Es;rw [e3] at h4;simp at h4; subst h4;exact h5
  ·obtain ⟨v',h4,h5⟩:=Ds tY e1
   rw [e3] at h4;simp at h4; subst h4;exact h5
 have aoQ:cv (aQ P T) (Pe (aQ P T).agg kx)=true:=Xy qL (by
  rcases Ch with h | h
  ·exact .inl h
  ·exact .inr (by rw [<- ue tY]; exact h))
 have Kl:∀ v∈r,scalar v=true:=h3.scalar (HZ qL);have wN:(mkE (aQ P T).agg r).cells.toList=r:=abh Kl (Ch.imp id fun h=>by rw [hlr]; exact h);refine ⟨mkE (aQ P T).agg r,abi h3 (Ch.imp id fun h=>by rw [hlr]; exact h),aoQ,?_,?_,fun m=>?_,fun cD=>?_⟩
 ·rw [<- Array.length_toList,wN,hlr]; exact Nq
 ·exact (ue (gq aoQ).1).trans Nq.symm
 ·rw [wN]; exact s3 m
 ·have:=s2 cD
  rw [hcu.length] at this;omega
theorem alh {sz i k:Nat} {cs:List Value} {bo:List Value} {u u2:Value} {wl:List Value} (hl:qP sz 0 cs bo) (hi:bo[i]? = some u) (hsu:u.cells.size=sz) (mR:wl≠[]->k+wl.length<=sz) (hg:∀ m,u2.cells.toList[m]? = if k<=m/\m < k+wl.length then wl[m - k]? else u.cells.toList[m]?) (jL:u2.cells.size=sz) :
  ∃ kx,gH (i * sz+k) cs wl=some kx/\qP sz 0 kx (bo.set i u2)/\kx.length=cs.length:=by
 have hex:∃ kx,gH (i * sz+k) cs wl=some kx:=by
  cases hwl:wl with
  | nil=>exact ⟨cs,Pw _ _⟩
  | cons a l=>
   have hf:=mR (by rw [hwl]; simp);rw [hwl] at hf;obtain ⟨_,hc⟩:=hl i u hi;have bm:k+l.length < u.cells.size:=by rw [hsu]; simp at hf; omega
   have:=hc (k+l.length) u.cells[k+l.length] (by simp [bm]);have hb:=(cH.1 this).1;exact Dv _ _ _ (by simp; omega)
 obtain ⟨kx,h1⟩:=hex;obtain ⟨s1,s2,s3⟩:=gI h1;refine ⟨kx,h1,fun j x hx=>?_,s1⟩;rw [List.getElem?_set] at hx;split at hx
 ·rename_i e
  subst e;split at hx
  ·simp at hx; subst hx
   refine ⟨jL,fun m y hy=>?_⟩;have hy' : u2.cells.toList[m]? = some y:=by simpa using hy
   have hm:m < sz:=by rw [<- jL]; exact (r8.1 hy).1
   rw [hg m] at hy';rw [bd,s3];split at hy'
   ·rw [aD (by omega),show i * sz+m - (i * sz+k)=m - k by omega]; exact hy'
   ·rw [aa (by omega)]
    have:=(hl i u hi).2 m y (by simpa using hy');rwa [bd] at this
  ·simp at hx
 ·rename_i cD
  obtain ⟨h2,h3⟩:=hl j x hx;refine ⟨h2,fun m y hy=>?_⟩;have hm:m < sz:=by rw [<- h2]; exact (r8.1 hy).1
  rw [s3,aa]
  ·exact h3 m y hy
  ·rintro ⟨ha,hb⟩
   cases hwl:wl with
   | nil=>rw [hwl] at hb; simp at hb; omega
   | cons a l=>
    have hf:=mR (by rw [hwl]; simp);rcases Nat.lt_or_gt_of_ne cD with h | h
    ·have:(i+1) * sz<=j * sz:=Nat.mul_le_mul_right _ h
     rw [Nat.succ_mul] at this;omega
    ·have:(j+1) * sz<=i * sz:=Nat.mul_le_mul_right _ h
     rw [Nat.succ_mul] at this;omega
theorem aiz {T:TypeId} {N i:Nat} {es:List KV} {acc:Nat->KV} {e:KV} (ht:hX P T N es acc) (hi:i < N) (he:cv (aQ P T) e=true):hX P T N (setAt es i e) (bR acc i e) where
 len:=by rw [FF]; exact ht.len
 acc j hj:=by
  rw [TG];unfold bR;cases hb:Nat.beq j i with
  | true=>have:=aL hb; rw [aD ⟨this,by rw [<- ht.len]; exact hi⟩]; rfl
  | false=>rw [aa (fun h=>by rw [h.1,tT] at hb; simp at hb)]; exact ht.acc j hj
 typed:=o7 fun j x hx=>by
  have hx' : x=(setAt es i e).getD j .bh:=by rw [fH,hx]; rfl
  rw [TG] at hx';split at hx'
  ·rw [hx']; exact he
  ·rename_i cD
   have bm:j < es.length:=by rw [<- FF es i e]; exact (cH.1 hx).1
   exact gL ht.typed (i:=j) (by rw [hx',fH,cJ bm]; rfl)
theorem H0 {B:St} {x y lo hi:Nat} {bN:Option (Nat×Nat)} : (B.fq x bN lo hi).get y=B.get y\/∃ g k,bN=some (g,k)/\y∈B.members g/\y≠x/\(B.fq x bN lo hi).get y=some .dead/\∃ cs e own f j,B.get y=some (.row cs e own (some (f,j))):=by
 cases bN with
 | none=>exact .inl rfl
 | some p=>
  obtain ⟨g,k⟩:=p;simp only [St.fq,EG];by_cases hc:y∈B.members g/\y≠x/\rQ (B.get y) (k+lo) (k+hi)=true
  ·refine .inr ⟨g,k,rfl,hc.1,hc.2.1,by rw [aD hc],?_⟩
   have hs:=hc.2.2;unfold rQ at hs;split at hs
   ·rename_i cs e own f j hy; exact ⟨cs,e,own,f,j,hy⟩
   ·simp at hs
  ·exact .inl (by rw [aa hc])
theorem MB {B:St} {x lo hi:Nat} {bN:Option (Nat×Nat)} : (B.fq x bN lo hi).members=B.members:=by
 cases bN with
 | none=>rfl
 | some p=>simp [St.fq]
theorem Sv {B:St} {x lo hi:Nat} {bN:Option (Nat×Nat)} : (B.fq x bN lo hi).next=B.next:=by
 cases bN with
 | none=>rfl
 | some p=>simp [St.fq]
theorem cN.aj2 {A:ae} {B:St} {b x N lo hi:Nat} {T:TypeId} {es:List KV} {acc:Nat->KV} {bo cs mg:List Value} {bN:Option (Nat×Nat)} (h:dr P E A B) (hb:∃ v,A.get b=some (.arr v)) (hx:E.α b=some (x,mg.length,N))
  (fv:B.get x=some (.row mg (aU P T) true bN)) (hlen:cs.length=mg.length) (dT:1<=aU P T) (ht:hX P T N es acc) (TH:aV P E es bo) (hl:qP (aU P T) 0 cs bo) :
  cN P E A B E (A.put b (.arr (.ts T .any N es acc))) ((B.put x (.row cs (aU P T) true bN)).fq x bN lo hi):=by
 obtain ⟨v0,hb⟩:=hb;have sq:AR A E x:=⟨b,v0,_,_,hb,hx⟩
 have jE:((B.put x (.row cs (aU P T) true bN)).fq x bN lo hi).get x=some (.row cs (aU P T) true bN):=by
  rcases H0 (B:=B.put x (.row cs (aU P T) true bN)) (x:=x) (y:=x) (lo:=lo) (hi:=hi) (bN:=bN) with e | ⟨g,k,_,_,h3,_⟩
  ·rw [e]; simp
  ·exact absurd rfl h3
 have hgy:∀ y,y≠x->((B.put x (.row cs (aU P T) true bN)).fq x bN lo hi).get y=B.get y\/(((B.put x (.row cs (aU P T) true bN)).fq x bN lo hi).get y=some .dead/\∃ g k,bN=some (g,k)/\y∈B.members g):=by
  intro y hy;rcases H0 (B:=B.put x (.row cs (aU P T) true bN)) (x:=x) (y:=y) (lo:=lo) (hi:=hi) (bN:=bN) with e | ⟨g,k,h1,h2,_,h4,_⟩
  ·exact .inl (by rw [e,St.bA,aa hy])
  ·exact .inr ⟨h4,g,k,h1,by simpa using h2⟩
 have mS:((B.put x (.row cs (aU P T) true bN)).fq x bN lo hi).members=B.members:=by rw [MB]; simp
 have fZ:((B.put x (.row cs (aU P T) true bN)).fq x bN lo hi).next=B.next:=by rw [Sv]; simp
 generalize (B.put x (.row cs (aU P T) true bN)).fq x bN lo hi=B' at jE hgy mS fZ;have PY:∀ y,y≠x->(E.z y≠none\/AR A E y\/∃ c,E.κ c=some y)->B'.get y=B.get y:=by
  intro y hy hs;rcases hgy y hy with e | ⟨_,g,k,rfl,h2⟩
  ·exact e
  ·obtain ⟨_,_,h3⟩:=h.ar.vD b v0 x _ _ _ _ _ g k hb hx fv
   obtain ⟨h4,h5,h6⟩:=h3 y h2 hy;rcases hs with hs | hs | ⟨c,hs⟩
   ·exact absurd h4 hs
   ·exact absurd hs h5
   ·exact absurd hs (h6 c)
 have hA:∀ (c:Nat) (v:KV),(A.put b (.arr (.ts T .any N es acc))).get c=some (.arr v)->∃ u,A.get c=some (.arr u):=fun c v hc=>by
  rw [ae.bA] at hc;split at hc
  ·rename_i e; exact ⟨v0,by rw [e]; exact hb⟩
  ·exact ⟨v,hc⟩
 have PZ:∀ y,AR (A.put b (.arr (.ts T .any N es acc))) E y->AR A E y:=fun y q=>by
  obtain ⟨c,v,L,M,h1,h2⟩:=q;obtain ⟨u,h1⟩:=hA c v h1;exact ⟨c,u,L,M,h1,h2⟩
 have abj:∀ y,AR A E y->∀ oO e own Sx,B'.get y=some (.row oO e own Sx)->∃ kx,B.get y=some (.row kx e own Sx)/\kx.length=oO.length:=fun y q oO e own Sx hy=>by
  by_cases F4:y=x
  ·subst F4
   rw [jE] at hy;simp at hy;obtain ⟨rfl,rfl,rfl,rfl⟩:=hy;exact ⟨mg,fv,hlen.symm⟩
  ·rw [PY y F4 (.inr (.inl q))] at hy
   exact ⟨oO,hy,rfl⟩
 have agr:∀ g,AF (A.put b (.arr (.ts T .any N es acc))) E B' g->AF A E B g:=fun g q=>by
  obtain ⟨c,v,y,L,M,oO,e,own,k,h1,h2,h3⟩:=q;obtain ⟨u,h1⟩:=hA c v h1;obtain ⟨kx,h3,_⟩:=abj y ⟨c,u,L,M,h1,h2⟩ _ _ _ _ h3;exact ⟨c,u,y,L,M,kx,e,own,k,h1,h2,h3⟩
 refine ⟨⟨?_,?_,?_,h.apart,h.inj,h.gK.put (.inl fun _ _=>by simp),h.jP,h.kR,?_,fun b x e=>by rw [fZ]; exact h.eV b x e,fun b r e=>by rw [fZ]; exact h.lJ b r e,fun b g e=>by rw [fZ]; exact h.iv b g e,fun g hg=>by rw [fZ] at hg; rw [mS]; exact h.fresh g hg,fun g y hy=>by rw [mS] at hy; rw [fZ]; exact h.mem g y hy,?_⟩,Env.le_refl _,aC _,?_,fun _ _ e=>.inl e,fun _ _ e=>.inl e,fun _ _ e=>.inl e,fun _ _ _ _=>by rw [mS],fun y q=>.inl (PZ y q),fun g q=>.inl (agr g q),fun g y q=>.inl (by rw [mS] at q; exact q),fun y q=>.inl ?_,?_,o6 hb (by simp)⟩
 ·intro c oO bp hc
  rw [ae.bA] at hc;split at hc
  ·simp at hc
  ·obtain ⟨y,c1,h1,h2,h3⟩:=h.row c oO bp hc
   have hy:y≠x:=fun e=>(h.ar.z x sq).2 c (by rw [<- e]; exact h1);exact ⟨y,c1,h1,by rw [PY y hy (.inr (.inr ⟨c,h1⟩))]; exact h2,h3⟩
 ·intro c top GC hc
  rw [ae.bA] at hc;split at hc
  ·simp at hc
  ·rcases h.aP c top GC hc with h1 | ⟨g,h1,h2,h3⟩
   ·exact .inl h1
   ·refine .inr ⟨g,h1,h2,fun y hy oO e own f k hr=>?_⟩
    rw [mS] at hy;by_cases F4:y=x
    ·subst F4
     rw [jE] at hr;simp at hr;obtain ⟨rfl,_,_,rfl⟩:=hr;obtain ⟨h4,h5⟩:=h3 y hy mg _ _ f k fv;exact ⟨h4,by rw [hlen]; exact h5⟩
    ·rcases hgy y F4 with e1 | ⟨e1,_⟩
     ·rw [e1] at hr; exact h3 y hy oO e own f k hr
     ·rw [e1] at hr; simp at hr
 ·intro y r hy
  have F4:y≠x:=fun e=>by have:=(h.ar.z x sq).1; rw [<- e,hy] at this; simp at this
  rw [PY y F4 (.inl (by rw [hy]; simp))];exact h.z y r hy
 ·intro c o hc
  rw [ae.bA] at hc;split at hc
  ·rename_i e; rw [e]; exact h.live b _ hb
  ·exact h.live c o hc
 ·refine ⟨?_,?_,fun y q=>h.ar.z y (PZ y q),?_,?_,h.ar.dis,h.ar.jP,fun b x L N e=>by rw [fZ]; exact h.ar.eV b x L N e,?_,fun c v hc=>?_⟩
  ·intro c v hc
   rw [ae.bA] at hc;split at hc
   ·rename_i e
    simp at hc;subst hc e;exact ⟨T,N,es,acc,rfl,ht,dT,.inr ⟨x,cs,bN,bo,by rw [hlen]; exact hx,jE,TH,hl⟩⟩
   ·rename_i cD
    refine (h.ar.arr c v hc).mono (Env.le_refl _) rfl fun y L M e=>?_;have F4:y≠x:=fun e2=>cD (h.ar.inj c b v v0 x _ _ _ _ hc hb (by rw [<- e2]; exact e) hx);exact PY y F4 (.inr (.inl ⟨c,v,L,M,hc,e⟩))
  ·intro c v hc
   rw [ae.bA] at hc;split at hc
   ·simp at hc
   ·exact h.ar.iG c v hc
  ·intro c d v u y L M L' M' h1 h2 h3 h4
   obtain ⟨v',h1⟩:=hA c v h1;obtain ⟨u',h2⟩:=hA d u h2;exact h.ar.inj c d v' u' y L M L' M' h1 h2 h3 h4
  ·intro c d v u y w L M L' M' oO e own g k kx e' rC k' h1 h2 h3 h4 h5 h6
   obtain ⟨v',h1⟩:=hA c v h1;obtain ⟨u',h2⟩:=hA d u h2;obtain ⟨_,h5,_⟩:=abj y ⟨c,v',L,M,h1,h3⟩ _ _ _ _ h5;obtain ⟨_,h6,_⟩:=abj w ⟨d,u',L',M',h2,h4⟩ _ _ _ _ h6;exact h.ar.xz c d v' u' y w L M L' M' _ e own g k _ e' rC k' h1 h2 h3 h4 h5 h6
  ·intro c v y L M oO e own g k h1 h2 h3
   obtain ⟨v',h1⟩:=hA c v h1;obtain ⟨_,h3,_⟩:=abj y ⟨c,v',L,M,h1,h2⟩ _ _ _ _ h3;obtain ⟨h4,h5,h6⟩:=h.ar.vD c v' y L M _ e own g k h1 h2 h3;refine ⟨by rw [fZ]; exact h4,h5,fun z hz cD=>?_⟩;rw [mS] at hz;obtain ⟨h7,h8,h9⟩:=h6 z hz cD;exact ⟨h7,fun q=>h8 (PZ z q),h9⟩
  ·rw [ae.bA] at hc
   rw [ae.sF];split at hc
   ·rename_i e; rw [e]; exact h.ar.nk b _ hb
   ·exact h.ar.nk c v hc
 ·intro y hy hn ha
  by_cases F4:y=x
  ·subst F4; exact absurd (.inl sq) ha
  ·rcases hgy y F4 with e | ⟨_,g,k,rfl,h2⟩
   ·exact e
   ·exact absurd (.inr ⟨g,⟨b,v0,x,_,_,mg,_,_,k,hb,hx,fv⟩,h2⟩) ha
 ·rcases q with q | ⟨g,h1,h2⟩
  ·exact .inl (PZ y q)
  ·exact .inr ⟨g,agr g h1,by rw [mS] at h2; exact h2⟩
 ·intro y hy oO e own Sx hr
  by_cases F4:y=x
  ·exact abj y (by rw [F4]; exact sq) oO e own Sx hr
  ·rcases hgy y F4 with e1 | ⟨e1,_⟩
   ·exact ⟨oO,by rw [<- e1]; exact hr,rfl⟩
   ·rw [e1] at hr; simp at hr
theorem ali {t:TypeId} : aj0 P (U0 P t) (Kq P t):=by
 intro E A A' B vs us v h hv hg;unfold U0 at hg;split at hg
 ·rename_i b off x
  obtain ⟨y,z,rfl,h1,h2⟩:=hv.kf;obtain ⟨c,hx,rfl⟩:=h1.ig;obtain ⟨hc,hg⟩:=hg.cond;simp only [ao,l9] at hc;obtain ⟨dT,ho⟩:=hc;split at hg
  ·rename_i cs bp fv
   split at hg
   ·rename_i bP hw
    have hg:(tZ,A.put b (.row bP bp))=(v,A'):=hg;simp only [dt] at hg;obtain ⟨rfl,rfl⟩:=hg;obtain ⟨c',d,e1,e2,e3⟩:=h.row b cs bp fv;rw [hx] at e1;simp at e1;subst e1;have Ls:=h2.cells (Bl ho);obtain ⟨r,e4,e5⟩:=aV.k8 hw e3 Ls;have qM:z.cells.toList.all scalar=true:=fk.2 (Ls.scalar ho);have amw:some z.cells.size=size? P t:=by rw [<- dT,PO h2 (Bl ho)]
    refine ⟨undef,B.put c (.row r bp true none),E,?_,.undef,cN.putRow h ⟨_,_,fv⟩ hx ⟨d,e2,(gI e4).1.symm⟩ e5⟩;simp [Kq,storeAt,amw,St.BO,cK,qM,e2,e4,St.fq]
   ·exact hg.elim
  ·exact hg.elim
 ·rename_i T Tc b i k x
  obtain ⟨y,z,rfl,h1,h2⟩:=hv.kf;split at hg
  ·rename_i T' mk N es acc hA
   obtain ⟨hc,Pf⟩:=hg.cond;clear hg;simp only [ao,l9] at hc;obtain ⟨⟨⟨hT,hTc⟩,Dt⟩,dT⟩:=hc;have:=aL hT;subst this;have:=aL hTc;subst this;split at Pf
   ·rename_i e2 he2
    have hg:(tZ,A.put b (.arr (ajN T N i es acc e2)))=(v,A'):=Pf;simp only [dt] at hg;obtain ⟨rfl,rfl⟩:=hg;obtain ⟨c,L,N',h3,hw,hi,rfl⟩:=h1.KC;obtain ⟨T2,N2,pt,ay,Dh,ht,h1s,yu⟩:=h.ar.arr b _ hA;simp only [KV.ts.injEq] at Dh;obtain ⟨rfl,rfl,rfl,rfl,rfl⟩:=Dh;rcases yu with ⟨_,h4⟩ | ⟨c',cs,bN,bo,h4,h5,h6,h7⟩
    ·rw [h3] at h4; simp at h4
    rw [h3] at h4;simp only [bQ,dt] at h4;obtain ⟨rfl,rfl,rfl⟩:=h4;have bm:i < es.length:=by rw [<- ht.len]; exact hi
    have hei:es[i]? = some (acc i):=by rw [ht.acc i hi]; simp [List.getD,bm]
    obtain ⟨u,h8,h9⟩:=h6.get hei;obtain ⟨hsu,qU⟩:=h7 i u h8;rw [bd] at qU;have hvn:=h2.dN (l:=aQ P Tc);obtain ⟨u2,p1,p2,p3,p4,p5,p6⟩:=alg (T:=T) (t:=Tc) hw (gL ht.typed hei) h9 Dt hvn he2;obtain ⟨kx,w1,w2,w3⟩:=alh h7 h8 hsu p6 p5 p3;have gz:=cN.aj2 (lo:=i * aU P T+k) (hi:=i * aU P T+k+z.cells.toList.length) h ⟨_,hA⟩ h3 h5 (gI w1).1 h1s (aiz ht hi p2) (bo:=bo.set i u2) (TD p1 i h6) w2;obtain ⟨tY,WZ⟩:=gq Dt;have qM:z.cells.toList.all scalar=true:=fk.2 ((hvn.cells WZ).scalar (HZ tY));have hzs:some z.cells.size=size? P Tc:=by
     rw [dT,<- ue tY];exact congrArg some (PO hvn WZ)
    refine ⟨undef,_,E,?_,.undef,gz⟩;simp [Kq,storeAt,hzs,St.BO,cK,qM,h5,w1]
   ·exact Pf.elim
  ·exact hg.elim
 ·exact hg.elim
end Go.K
end
section
namespace Go.K
open Go Go.aG
variable {P:Program} {E:Env}
def Env.Eu (E:Env) (b:Nat) (p:Nat×Nat×Nat):Env:={ E with α:=fun c=>if c=b then some p else E.α c }
theorem Env.amx {A:ae} {B:St} {p:Nat×Nat×Nat} (h:dr P E A B):E.le (E.Eu A.next p):=⟨fun b q e=>by
 have:=h.ar.jP b q e;simp only [Env.Eu]; rw [aa (by omega)]; exact e,fun _ _ e=>e,fun _ _ e=>e,fun _ _ e=>e⟩
theorem Env.zM {b:Nat} {p:Nat×Nat×Nat} : (E.Eu b p).α b=some p:=by simp [Env.Eu]
theorem Env.MC {b c:Nat} {p:Nat×Nat×Nat} (h:c≠b):(E.Eu b p).α c=E.α c:=by simp [Env.Eu,h]
theorem cN.NI {A A1:ae} {B B' : St} {X G:Nat->Prop} {y2 N2:Nat} {T:TypeId} {pt:List KV} {ay:Nat->KV} {FZ kx:List Value} {tX:Option (Nat×Nat)} (h:dr P E A B)
  (uf:A1.next=A.next) (GF:∀ c o,A1.get c=some o->A.get c=some o\/(o = .dead/\c < A.next)) (hh:∀ c,A.get c=some wH->A1.get c=some wH)
  (f1:∀ c v,A1.get c=some (.arr v)->∀ y L N,E.α c=some (y,L,N)->¬ X y/\∀ cs e own g k,B.get y=some (.row cs e own (some (g,k)))->¬ G g)
  (f2:∀ y,X y->AR A E y) (f3:∀ g,G g->AF A E B g/\g < B.next/\(∀ f,E.φ f≠some g)/\∀ y∈B.members g,¬ X y->E.z y=none/\¬ AR A E y/\∀ c,E.κ c≠some y)
  (n1:X y2\/B.next<=y2) (n1' : y2 < B'.next) (ags:B'.get y2=some (.row kx (aU P T) true tX)) (n2:∀ g k,tX=some (g,k)->G g\/(B.next<=g/\g < B'.next))
  (b1:∀ y,y < B.next->¬ X y->B'.get y=B.get y\/(B'.get y=some .dead/\∃ g,G g/\y∈B.members g))
  (b2:∀ y,X y->∀ cs e own bN,B'.get y=some (.row cs e own bN)->∃ c,B.get y=some (.row c e own bN)/\c.length=cs.length)
  (b3:∀ q y,y∈B'.members q->y∈B.members q\/(y=y2/\B.next<=y2/\∃ k,tX=some (q,k))) (b3' : ∀ q,(∀ k,tX≠some (q,k))->B'.members q=B.members q)
  (b4:B.next<=B'.next) (b4' : ∀ g,B'.next<=g->B'.members g = []) (aqn:∀ g y,y∈B'.members g->y < B'.next)
  (dT:1<=aU P T) (ht:hX P T N2 pt ay) (TH:aV P E pt FZ) (hl:qP (aU P T) 0 kx FZ) :
  cN P E A B (E.Eu A.next (y2,kx.length,N2)) (A1.new (.arr (.ts T .any N2 pt ay))) B':=by
 have hle:=Env.amx (p:=(y2,kx.length,N2)) h;have amy:E.α A.next=none:=by
  cases hq:E.α A.next with
  | none=>rfl
  | some p=>have:=h.ar.jP _ p hq; omega
 have hXlt:∀ y,X y->y < B.next:=fun y hy=>h.I5 (f2 y hy);have PY:∀ y,y < B.next->¬ X y->(E.z y≠none\/AR A E y\/∃ c,E.κ c=some y)->B'.get y=B.get y:=by
  intro y bm hy hs;rcases b1 y bm hy with e | ⟨_,g,hg,h2⟩
  ·exact e
  ·obtain ⟨_,_,_,h3⟩:=f3 g hg
   obtain ⟨h4,h5,h6⟩:=h3 y h2 hy;rcases hs with hs | hs | ⟨c,hs⟩
   ·exact absurd h4 hs
   ·exact absurd hs h5
   ·exact absurd hs (h6 c)
 have hXz:∀ y,X y->E.z y=none/\∀ c,E.κ c≠some y:=fun y hy=>h.ar.z y (f2 y hy);have fM:∀ c o,(A1.new (.arr (.ts T .any N2 pt ay))).get c=some o->(c=A.next/\o = .arr (.ts T .any N2 pt ay))\/(c≠A.next/\A1.get c=some o):=fun c o hc=>by
  rw [ae.cp,uf] at hc;split at hc
  ·rename_i e; simp at hc; exact .inl ⟨e,hc.symm⟩
  ·rename_i e; exact .inr ⟨e,hc⟩
 have hold:∀ c o,A1.get c=some o->o≠.dead->A.get c=some o:=fun c o hc hd=>by
  rcases GF c o hc with e | ⟨e,_⟩
  ·exact e
  ·exact absurd e hd
 have rT:∀ c v,(A1.new (.arr (.ts T .any N2 pt ay))).get c=some (.arr v)->(c=A.next/\v = .ts T .any N2 pt ay/\(E.Eu A.next (y2,kx.length,N2)).α c=some (y2,kx.length,N2))\/(c≠A.next/\A1.get c=some (.arr v)/\A.get c=some (.arr v)/\(E.Eu A.next (y2,kx.length,N2)).α c=E.α c):=fun c v hc=>by
  rcases fM c _ hc with ⟨e,e2⟩ | ⟨e,e2⟩
  ·simp at e2
   exact .inl ⟨e,e2,by rw [e]; exact Env.zM⟩
  ·exact .inr ⟨e,e2,hold c _ e2 (by simp),Env.MC e⟩
 have H4:∀ c v y L N,A1.get c=some (.arr v)->E.α c=some (y,L,N)->AR A E y/\¬ X y/\y < B.next/\B'.get y=B.get y:=fun c v y L N h1 h2=>by
  have h3:AR A E y:=⟨c,v,L,N,hold c _ h1 (by simp),h2⟩
  obtain ⟨h4,_⟩:=f1 c v h1 y L N h2;have h5:=h.I5 h3;exact ⟨h3,h4,h5,PY y h5 h4 (.inr (.inl h3))⟩
 have PZ:∀ y,AR (A1.new (.arr (.ts T .any N2 pt ay))) (E.Eu A.next (y2,kx.length,N2)) y->y=y2\/(AR A E y/\¬ X y):=fun y q=>by
  obtain ⟨c,v,L,M,h1,h2⟩:=q;rcases rT c v h1 with ⟨_,_,e⟩ | ⟨_,e1,e2,e⟩
  ·rw [e] at h2; simp at h2; exact .inl h2.1.symm
  ·rw [e] at h2
   obtain ⟨h3,h4,_⟩:=H4 c v y L M e1 h2;exact .inr ⟨h3,h4⟩
 have amz:∀ y,y=y2->AR A E y\/B.next<=y:=fun y e=>by
  subst e;exact n1.imp (f2 y) id
 have agr:∀ g,AF (A1.new (.arr (.ts T .any N2 pt ay))) (E.Eu A.next (y2,kx.length,N2)) B' g->(∃ k,tX=some (g,k))\/(AF A E B g/\¬ G g/\g < B.next):=fun g q=>by
  obtain ⟨c,v,y,L,M,oO,e,own,k,h1,h2,h3⟩:=q;rcases rT c v h1 with ⟨_,_,e⟩ | ⟨_,e1,e2,e⟩
  ·rw [e] at h2
   simp at h2;rw [<- h2.1,ags] at h3;simp at h3;exact .inl ⟨k,h3.2.2.2⟩
  ·rw [e] at h2
   obtain ⟨_,_,_,h4⟩:=H4 c v y L M e1 h2;rw [h4] at h3;refine .inr ⟨⟨c,v,y,L,M,oO,_,own,k,e2,h2,h3⟩,(f1 c v e1 y L M h2).2 _ _ _ _ _ h3,(h.ar.vD c v y L M _ _ _ g k e2 h2 h3).1⟩
 have aoR:∀ g,(∃ k,tX=some (g,k))->AF A E B g\/B.next<=g:=fun g ⟨k,e⟩=>by
  rcases n2 g k e with hg | ⟨hg,_⟩
  ·exact .inl (f3 g hg).1
  ·exact .inr hg
 refine ⟨⟨?_,?_,?_,h.apart,h.inj,?_,fun b x e=>by rw [ae.bX,uf]; have:=h.jP b x e; omega,fun b g e=>by rw [ae.bX,uf]; have:=h.kR b g e; omega,?_,fun b x e=>by have:=h.eV b x e; omega,fun b r e=>by have:=h.lJ b r e; omega,fun b g e=>by have:=h.iv b g e; omega,b4',aqn,?_⟩,hle,by rw [ae.bX,uf]; omega,?_,fun _ _ e=>.inl e,fun _ _ e=>.inl e,fun _ _ e=>.inl e,?_,fun y q=>?_,fun g q=>?_,fun g y q=>?_,fun y q=>?_,?_,fun b hb=>by
  rw [ae.cp,uf,aa]
  ·exact hh b hb
  ·intro e
   have:=h.live b _ hb;omega⟩
 ·intro c oO bp hc
  rcases fM c _ hc with ⟨_,e⟩ | ⟨_,e⟩
  ·simp at e
  ·obtain ⟨y,c1,h1,h2,h3⟩:=h.row c oO bp (hold c _ e (by simp))
   have hy : ¬ X y:=fun e=>(hXz y e).2 c h1;exact ⟨y,c1,h1,by rw [PY y (h.eV c y h1) hy (.inr (.inr ⟨c,h1⟩))]; exact h2,h3.mono hle⟩
 ·intro c top GC hc
  rcases fM c _ hc with ⟨_,e⟩ | ⟨_,e⟩
  ·simp at e
  ·rcases h.aP c top GC (hold c _ e (by simp)) with h1 | ⟨g,h1,h2,h3⟩
   ·exact .inl h1
   ·refine .inr ⟨g,h1,h2,fun y hy oO e own f k hr=>?_⟩
    have hgG:∀ k,tX≠some (g,k):=fun k e=>by
     rcases n2 g k e with hg | ⟨hg,_⟩
     ·exact (f3 g hg).2.2.1 c h1
     ·have:=h.iv c g h1; omega
    rw [b3' g hgG] at hy;have bm:=h.mem g y hy;by_cases F4:X y
    ·obtain ⟨c0,h4,h5⟩:=b2 y F4 _ _ _ _ hr
     obtain ⟨h6,h7⟩:=h3 y hy c0 _ _ f k h4;exact ⟨h6,by rw [<- h5]; exact h7⟩
    ·rcases b1 y bm F4 with e1 | ⟨e1,_⟩
     ·rw [e1] at hr; exact h3 y hy oO _ own f k hr
     ·rw [e1] at hr; simp at hr
 ·intro y r hy
  have hy:E.z y=some r:=hy;have F4 : ¬ X y:=fun e=>by have:=(hXz y e).1; rw [hy] at this; simp at this
  rw [PY y (h.lJ y r hy) F4 (.inl (by rw [hy]; simp))];exact h.z y r hy
 ·intro b c g tb sb tc sc hb hc e1 e2
  rcases fM b _ hb with ⟨_,e⟩ | ⟨_,hb⟩
  ·simp at e
  rcases fM c _ hc with ⟨_,e⟩ | ⟨_,hc⟩
  ·simp at e
  exact h.gK b c g _ _ _ _ (hold b _ hb (by simp)) (hold c _ hc (by simp)) e1 e2
 ·intro c o hc
  rw [ae.bX,uf];rcases fM c _ hc with ⟨e,_⟩ | ⟨_,e⟩
  ·omega
  ·rcases GF c o e with e | ⟨_,e⟩
   ·have:=h.live c o e; omega
   ·omega
 ·refine ⟨?_,?_,?_,?_,?_,?_,?_,?_,?_,?_⟩
  ·intro c v hc
   rcases rT c v hc with ⟨_,rfl,e⟩ | ⟨_,e1,e2,e⟩
   ·exact ⟨T,N2,pt,ay,rfl,ht,dT,.inr ⟨y2,kx,tX,FZ,e,ags,TH.mono hle,hl⟩⟩
   ·exact (h.ar.arr c v e2).mono hle e fun y L M hy=>(H4 c v y L M e1 hy).2.2.2
  ·intro c v hc
   rcases fM c _ hc with ⟨_,e⟩ | ⟨cD,e⟩
   ·simp at e
   ·exact (h.ar.iG c v (hold c _ e (by simp))).mono hle (Env.MC cD)
  ·intro y q
   rcases PZ y q with e | ⟨e,_⟩
   ·subst e
    rcases n1 with hx | hx
    ·exact hXz y hx
    ·refine ⟨?_,fun c e=>by have:=h.eV c y e; omega⟩
     cases hz:E.z y with
     | none=>exact hz
     | some r=>have:=h.lJ y r hz; omega
   ·exact h.ar.z y e
  ·intro c d v u y L M L' M' h1 h2 h3 h4
   rcases rT c v h1 with ⟨e1,_,e⟩ | ⟨_,p1,p2,e⟩ <;> rcases rT d u h2 with ⟨e2,_,e'⟩ | ⟨_,q1,q2,e'⟩
   ·omega
   ·rw [e] at h3; rw [e'] at h4
    simp at h3;obtain ⟨_,h5,h6,_⟩:=H4 d u y L' M' q1 h4;rw [<- h3.1] at h5 h6;rcases n1 with hx | hx
    ·exact absurd hx h5
    ·omega
   ·rw [e] at h3; rw [e'] at h4
    simp at h4;obtain ⟨_,h5,h6,_⟩:=H4 c v y L M p1 h3;rw [<- h4.1] at h5 h6;rcases n1 with hx | hx
    ·exact absurd hx h5
    ·omega
   ·rw [e] at h3; rw [e'] at h4
    exact h.ar.inj c d v u y L M L' M' p2 q2 h3 h4
  ·intro c d v u y w L M L' M' oO e own g k cs3 e' rC k' h1 h2 h3 h4 h5 h6
   have I8:∀ {c v y L M oO e own k k2},A1.get c=some (.arr v)->E.α c=some (y,L,M)->B'.get y=some (.row oO e own (some (g,k)))->tX=some (g,k2)->False:=by
    intro c v y L M oO e own k k2 q1 q2 q3 q4;obtain ⟨r1,r2,r3,r4⟩:=H4 c v y L M q1 q2;rw [r4] at q3;rcases n2 g k2 q4 with hg | ⟨hg,_⟩
    ·exact (f1 c v q1 y L M q2).2 _ _ _ _ _ q3 hg
    ·have:=(h.ar.vD c v y L M _ _ _ g k (hold c _ q1 (by simp)) q2 q3).1; omega
   rcases rT c v h1 with ⟨e1,_,ea⟩ | ⟨_,p1,p2,ea⟩ <;> rcases rT d u h2 with ⟨e2,_,eb⟩ | ⟨_,q1,q2,eb⟩
   ·omega
   ·rw [ea] at h3; rw [eb] at h4
    simp at h3;rw [<- h3.1,ags] at h5;simp at h5;exact (I8 q1 h4 h6 h5.2.2.2).elim
   ·rw [ea] at h3; rw [eb] at h4
    simp at h4;rw [<- h4.1,ags] at h6;simp at h6;exact (I8 p1 h3 h5 h6.2.2.2).elim
   ·rw [ea] at h3; rw [eb] at h4
    rw [(H4 c v y L M p1 h3).2.2.2] at h5;rw [(H4 d u w L' M' q1 h4).2.2.2] at h6;exact h.ar.xz c d v u y w L M L' M' _ _ _ g k _ _ _ k' p2 q2 h3 h4 h5 h6
  ·intro b x e
   have hb:=h.jP b x e;rw [Env.MC (by omega)];exact h.ar.dis b x e
  ·intro b p e
   rw [ae.bX,uf];by_cases hb:b=A.next
   ·omega
   ·rw [Env.MC hb] at e; have:=h.ar.jP b p e; omega
  ·intro b x L N e
   by_cases hb:b=A.next
   ·subst hb; rw [Env.zM] at e; simp at e; omega
   ·rw [Env.MC hb] at e; have:=h.ar.eV b x L N e; omega
  ·intro c v y L M oO e own g k h1 h2 h3
   rcases rT c v h1 with ⟨_,_,ea⟩ | ⟨_,p1,p2,ea⟩
   ·rw [ea] at h2
    simp at h2;obtain ⟨rfl,_⟩:=h2;rw [ags] at h3;simp at h3;have hk:=h3.2.2.2;refine ⟨?_,fun f e=>?_,fun z hz cD=>?_⟩
    ·rcases n2 g k hk with hg | ⟨_,hg⟩
     ·have:=(f3 g hg).2.1; omega
     ·exact hg
    ·rcases n2 g k hk with hg | ⟨hg,_⟩
     ·exact (f3 g hg).2.2.1 f e
     ·have:=h.iv f g e; omega
    ·rcases b3 g z hz with hz | ⟨e,_⟩
     ·rcases n2 g k hk with hg | ⟨hg,_⟩
      ·by_cases aj3:X z
       ·exact ⟨(hXz z aj3).1,fun q=>by
         rcases PZ z q with e | ⟨_,e⟩
         ·exact cD e
         ·exact e aj3,(hXz z aj3).2⟩
       ·obtain ⟨h7,h8,h9⟩:=(f3 g hg).2.2.2 z hz aj3
        refine ⟨h7,fun q=>?_,h9⟩;rcases PZ z q with e | ⟨e,_⟩
        ·exact cD e
        ·exact h8 e
      ·rw [h.fresh g hg] at hz; simp at hz
     ·exact absurd e cD
   ·rw [ea] at h2
    obtain ⟨r1,r2,r3,r4⟩:=H4 c v y L M p1 h2;rw [r4] at h3;obtain ⟨h4,h5,h6⟩:=h.ar.vD c v y L M _ _ _ g k p2 h2 h3;refine ⟨by omega,h5,fun z hz cD=>?_⟩;have hnG:=(f1 c v p1 y L M h2).2 _ _ _ _ _ h3;rw [b3' g (fun k e=>by
     rcases n2 g k e with hg | ⟨hg,_⟩
     ·exact hnG hg
     ·omega)] at hz
    obtain ⟨h7,h8,h9⟩:=h6 z hz cD;refine ⟨h7,fun q=>?_,h9⟩;rcases PZ z q with e | ⟨e,_⟩
    ·subst e
     rcases n1 with hx | hx
     ·exact h8 (f2 z hx)
     ·have:=h.mem g z hz; omega
    ·exact h8 e
  ·intro c v hc
   rw [ae.bX,uf];rcases rT c v hc with ⟨e1,_,_⟩ | ⟨_,_,e2,_⟩
   ·subst e1
    refine ⟨Ra _,?_⟩;show E.κ A.next=none;cases hk:E.κ A.next with
    | none=>rfl
    | some x=>have:=h.jP _ x hk; omega
   ·obtain ⟨q1,q2⟩:=h.ar.nk c v e2
    exact ⟨by omega,q2⟩
 ·intro y hy hn ha
  by_cases F4:X y
  ·exact absurd (.inl (f2 y F4)) ha
  ·rcases b1 y hy F4 with e | ⟨_,g,hg,h2⟩
   ·exact e
   ·exact absurd (.inr ⟨g,(f3 g hg).1,h2⟩) ha
 ·intro g hg hn ha
  refine b3' g fun k e=>?_;rcases n2 g k e with hg' | ⟨hg',_⟩
  ·exact ha (f3 g hg').1
  ·omega
 ·rcases PZ y q with e | ⟨e,_⟩
  ·exact amz y e
  ·exact .inl e
 ·rcases agr g q with e | ⟨e,_⟩
  ·exact aoR g e
  ·exact .inl e
 ·rcases b3 g y q with e | ⟨e,e2,_⟩
  ·exact .inl e
  ·exact .inr (by omega)
 ·rcases q with q | ⟨g,h1,h2⟩
  ·rcases PZ y q with e | ⟨e,_⟩
   ·rcases amz y e with e | e
    ·exact .inl (.inl e)
    ·exact .inr e
   ·exact .inl (.inl e)
  ·rcases b3 g y h2 with e | ⟨e,e2,_⟩
   ·rcases agr g h1 with e1 | ⟨e1,_⟩
    ·rcases aoR g e1 with e2 | e2
     ·exact .inl (.inr ⟨g,e2,e⟩)
     ·rw [h.fresh g e2] at e; simp at e
    ·exact .inl (.inr ⟨g,e1,e⟩)
   ·exact .inr (by omega)
 ·intro y hy oO e own Sx hr
  by_cases F4:X y
  ·exact b2 y F4 oO e own Sx hr
  ·rcases b1 y hy F4 with e1 | ⟨e1,_⟩
   ·exact ⟨oO,by rw [<- e1]; exact hr,rfl⟩
   ·rw [e1] at hr; simp at hr
end Go.K
end
section
namespace Go.K
open Go Go.aG
variable {P:Program} {E:Env}
theorem cN.apy {A:ae} {B:St} {c:List Value} {n:Nat} (h:dr P E A B):cN P E A B (E.eM B.next ⟨c,n,true,some (B.next,0)⟩) A (B.grow B.next 0 c n):=by
 have n5:∀ x,(B.grow B.next 0 c n).get x=if x=B.next then some (.row c n true (some (B.next,0))) else B.get x:=fun x=>by simp [St.grow]
 have mS:∀ q,(B.grow B.next 0 c n).members q=if q=B.next then B.next::B.members B.next else B.members q:=fun q=>by simp [St.grow,St.Fy]
 have fZ:(B.grow B.next 0 c n).next=B.next+1:=rfl;have hle:E.le (E.eM B.next ⟨c,n,true,some (B.next,0)⟩):=⟨fun _ _ e=>e,fun _ _ e=>e,fun b r e=>by
  have:=h.lJ b r e;simp only [Env.eM]; rw [aa (by omega)]; exact e,fun _ _ e=>e⟩
 generalize B.grow B.next 0 c n=B' at n5 mS fZ;have Cj:∀ x,x < B.next->B'.get x=B.get x:=fun x hx=>by rw [n5,aa (by omega)]
 have PV:∀ b r,(E.eM B.next ⟨c,n,true,some (B.next,0)⟩).z b=some r->E.z b=some r\/B.next<=b:=fun b r e=>by
  simp only [Env.eM] at e;split at e
  ·exact .inr (by omega)
  ·exact .inl e
 have TF:∀ q,AF A E B q->B'.members q=B.members q:=fun q hq=>by
  rw [mS,aa];intro e2;obtain ⟨b,v,x,L,N,cs,e,own,k,h1,h2,h3⟩:=hq;obtain ⟨h4,h5,_⟩:=h.ar.vD b v x L N cs e own q k h1 h2 h3;omega
 have aix:∀ q y,y∈B'.members q->y∈B.members q\/B.next<=y:=fun q y hy=>by
  rw [mS] at hy;split at hy
  ·rename_i e2
   subst e2;rcases de.1 hy with hy | hy
   ·exact .inr (by omega)
   ·exact .inl hy
  ·exact .inl hy
 refine ⟨⟨?_,?_,?_,?_,h.inj,h.gK,h.jP,h.kR,h.live,?_,?_,?_,?_,?_,h.ar.dR hle (fun _=>rfl) (fun _ _ e=>e) (fun _ _ e=>e) (aC _) (by omega) (fun x q=>Cj x (h.I5 q)) PV (fun _ _ e=>.inl e) (fun b q e=>.inl ⟨b,e⟩) TF h.mem⟩,hle,aC _,?_,fun b x e=>.inl e,fun b r e=>(PV b r e).imp id .inr,fun b q e=>.inl e,fun q hq hn _=>by rw [mS,aa (by omega)],fun _ q=>.inl q,fun _ q=>.inl (q.of (fun _=>rfl) (fun _ _ e=>e) fun x q=>Cj x (h.I5 q)),aix,fun _ q=>.inl (q.of (fun _=>rfl) (fun _ _ e=>e) (fun x q=>Cj x (h.I5 q)) TF),mv Cj,fun _ e=>e⟩
 ·intro b mg PU hb
  obtain ⟨x,d,h1,h2,h3⟩:=h.row b mg PU hb;have:=h.eV b x h1;exact ⟨x,d,h1,by rw [n5,aa (by omega)]; exact h2,h3.mono hle⟩
 ·intro b top GC hb
  rcases h.aP b top GC hb with h1 | ⟨g,h1,hp0,h2⟩
  ·exact .inl h1
  ·have hg:=h.iv b g h1
   refine .inr ⟨g,h1,hp0,fun x hx d e own f k hr=>?_⟩;rw [mS,aa (by omega)] at hx;have:=h.mem g x hx;rw [n5,aa (by omega)] at hr;exact h2 x hx d e own f k hr
 ·intro b r hb
  simp only [Env.eM] at hb;rw [n5];split at hb
  ·rename_i e; simp at hb; subst hb; rw [aD e]
  ·rename_i e; rw [aa e]; exact h.z b r hb
 ·intro b x hb
  have:=h.eV b x hb;simp only [Env.eM];rw [aa (by omega)];exact h.apart b x hb
 ·intro b x hb; have:=h.eV b x hb; omega
 ·intro b r hb
  simp only [Env.eM] at hb;rw [fZ];split at hb
  ·omega
  ·have:=h.lJ b r hb; omega
 ·intro b g hb; have:=h.iv b g hb; omega
 ·intro g hg
  rw [fZ] at hg;rw [mS,aa (by omega)];exact h.fresh g (by omega)
 ·intro g x hx
  rw [fZ];rw [mS] at hx;split at hx
  ·rcases de.1 hx with hx | hx
   ·omega
   ·have:=h.mem _ x hx; omega
  ·have:=h.mem g x hx; omega
 ·intro x hx _ _; rw [n5,aa (by omega)]
theorem cN.after {A A1 A2:ae} {B B2:St} {E2:Env} (h:cN P E A B E A1 B) (k:cN P E A1 B E2 A2 B2):cN P E A B E2 A2 B2 where
 fY:=k.fY
 le:=k.le
 next:=hD h.next k.next
 dR x hx hn ha:=k.dR x hx (fun b e=>h.Dq b (hn b e)) fun q=>(h.mh x q).elim ha fun e=>by omega
 new b x e:=(k.new b x e).imp id fun q=>⟨hD h.next q.1,q.2⟩
 ud b r e:=by
  rcases k.ud b r e with e | e | e
  ·exact .inl e
  ·exact .inr (h.kA b e)
  ·exact .inr (.inr e)
 su:=k.su
 o5 g hg hn ha:=k.o5 g hg hn fun q=>(h.kS g q).elim ha fun e=>by omega
 kA x q:=(k.kA x q).elim (h.kA x) .inr
 kS g q:=(k.kS g q).elim (h.kS g) .inr
 vE:=k.vE
 mh y q:=(k.mh y q).elim (h.mh y) .inr
 rows:=k.rows
 Dq b q:=k.Dq b (h.Dq b q)
theorem cN.aj4 {A:ae} {B:St} {f t:Nat} (sz:Nat) (h:dr P E A B) {GC:Nat} (hA:A.get f=some (.aP t GC)) (Kk:E.φ f=none):cN P E A B E (A.put f (.aP 0 sz)) B:=by
 have Vd:∀ (b:Nat) (v:KV),(A.put f (.aP 0 sz)).get b=some (.arr v)->A.get b=some (.arr v):=fun b v hb=>by
  rw [ae.bA] at hb;split at hb
  ·simp at hb
  ·exact hb
 have Xu:∀ (b:Nat) (v:KV),(A.put f (.aP 0 sz)).get b=some (.iG v)->A.get b=some (.iG v):=fun b v hb=>by
  rw [ae.bA] at hb;split at hb
  ·simp at hb
  ·exact hb
 refine ⟨⟨fun b cs bp hb=>?_,fun b top GC hb=>?_,h.z,h.apart,h.inj,h.gK.put (.inr Kk),h.jP,h.kR,fun b o hb=>?_,h.eV,h.lJ,h.iv,h.fresh,h.mem,h.ar.dR (Env.le_refl _) (fun _=>rfl) Vd Xu (aC _) (aC _) (fun _ _=>rfl) (fun _ _ e=>.inl e) (fun _ _ e=>.inl e) (fun b g e=>.inl ⟨b,e⟩) (fun _ _=>rfl) h.mem⟩,Env.le_refl _,aC _,fun _ _ _ _=>rfl,fun _ _ e=>.inl e,fun _ _ e=>.inl e,fun _ _ e=>.inl e,fun _ _ _ _=>rfl,fun _ q=>.inl (q.of (fun _=>rfl) Vd),fun _ q=>.inl (q.of (fun _=>rfl) Vd fun _ _=>rfl),fun _ _ q=>.inl q,fun _ q=>.inl (q.of (fun _=>rfl) Vd (fun _ _=>rfl) fun _ _=>rfl),mv fun _ _=>rfl,o6 hA (by simp)⟩
 ·rw [ae.bA] at hb
  split at hb
  ·simp at hb
  ·exact h.row b cs bp hb
 ·rw [ae.bA] at hb
  split at hb
  ·rename_i e2; simp at hb; exact .inl ⟨hb.1.symm,by rw [e2]; exact Kk⟩
  ·exact h.aP b top GC hb
 ·rw [ae.bA] at hb
  split at hb
  ·rename_i e2; rw [e2]; exact h.live f _ hA
  ·exact h.live b o hb
theorem cN.amA {A:ae} {B:St} {f t sz:Nat} (h:dr P E A B) (hA:A.get f=some (.aP t sz)):cN P E A B E (A.put f (.aP t sz)) B:=by
 have hg:∀ b,(A.put f (.aP t sz)).get b=A.get b:=fun b=>by
  rw [ae.bA];split
  ·rename_i e; rw [e,hA]
  ·rfl
 have Vd:∀ (b:Nat) (v:KV),(A.put f (.aP t sz)).get b=some (.arr v)->A.get b=some (.arr v):=fun b v hb=>by rwa [hg] at hb
 have Xu:∀ (b:Nat) (v:KV),(A.put f (.aP t sz)).get b=some (.iG v)->A.get b=some (.iG v):=fun b v hb=>by rwa [hg] at hb
 refine ⟨⟨fun b cs bp hb=>h.row b cs bp (by rwa [hg] at hb),fun b top GC hb=>h.aP b top GC (by rwa [hg] at hb),h.z,h.apart,h.inj,fun b c g tb sb tc sc q1 q2=>h.gK b c g tb sb tc sc (by rwa [hg] at q1) (by rwa [hg] at q2),h.jP,h.kR,fun b o hb=>h.live b o (by rwa [hg] at hb),h.eV,h.lJ,h.iv,h.fresh,h.mem,h.ar.dR (Env.le_refl _) (fun _=>rfl) Vd Xu (aC _) (aC _) (fun _ _=>rfl) (fun _ _ e=>.inl e) (fun _ _ e=>.inl e) (fun b g e=>.inl ⟨b,e⟩) (fun _ _=>rfl) h.mem⟩,Env.le_refl _,aC _,fun _ _ _ _=>rfl,fun _ _ e=>.inl e,fun _ _ e=>.inl e,fun _ _ e=>.inl e,fun _ _ _ _=>rfl,fun _ q=>.inl (q.of (fun _=>rfl) Vd),fun _ q=>.inl (q.of (fun _=>rfl) Vd fun _ _=>rfl),fun _ _ q=>.inl q,fun _ q=>.inl (q.of (fun _=>rfl) Vd (fun _ _=>rfl) fun _ _=>rfl),mv fun _ _=>rfl,o6 hA (by simp)⟩
theorem amB {t:TypeId} (hu:P.underlying t=some (.int .u8)):aQ P t=⟨false,[.int .u8]⟩:=by
 unfold aQ;rw [lay,hu];rfl
theorem ae3 {e:TypeId} (he:isByte P e=true):aoM P (Tp e) Nl:=by
 intro E A B vs us v h hv hg;unfold Tp at hg;split at hg
 ·rename_i s
  obtain ⟨u,rfl,h1⟩:=hv.ee;have:=h1.vB; subst this;have hg:KV.ts e .any s.size _ _=v:=hg;subst hg;have hu:P.underlying e=some (.int .u8):=by
   unfold isByte at he;split at he
   ·assumption
   ·simp at he
  have abk:aQ P e=⟨false,[.int .u8]⟩:=amB hu;refine ⟨_,_,_,rfl,?_,cN.apy h⟩;simp only [VK];have dT:aU P e=1:=by unfold aU; rw [abk]; rfl
  refine ⟨⟨by simp,fun i hi=>?_,?_⟩,kO s.data.toList,?_,some ⟨B.next,0,none⟩,s.size,rfl,aC _,.inr ⟨B.next,0,⟨kO s.data.toList,1,true,some (B.next,0)⟩,rfl,by simp [Env.eM],dT.symm,?_⟩,trivial⟩
  ·have WQ:i < s.data.toList.length:=by simpa using hi
   simp only [List.getD,pg,cJ WQ,Option.map_some,dI]
  ·rw [abk]
   induction s.data.toList with
   | nil=>rfl
   | cons b l ih=>simp [dJ,cv,aE,kindOk,ih]
  ·generalize E.eM B.next _=E'
   induction s.data.toList with
   | nil=>exact .nil
   | cons b l ih=>exact .cons .mkInt ih
  ·rw [dT]
   intro i x hx;obtain ⟨b,_,rfl⟩:∃ b,s.data.toList[i]? = some b/\x = .int .u8 b.toNat:=by
    simp only [kO,pg,cj] at hx;obtain ⟨b,h1,h2⟩:=hx;exact ⟨b,h1,h2.symm⟩
   refine ⟨rfl,fun k y hy=>?_⟩;have hk:k=0:=by
    have:=(r8.1 hy).1;simp [Value.cells] at this;exact this
   subst hk;simp [Value.cells] at hy;subst hy;simpa using hx
 ·exact hg.elim
theorem NJ {B:St} {b off n sz:Nat} {r:agd} {bo:List Value} (hr:B.get b=some (.row r.cs r.bp r.own r.bN)) (hl:qP sz off r.cs bo) (hn:bo.length=n) (dT:1<=sz) :
  B.AG ⟨b,off,none⟩ (n * sz)=some (bz bo):=by
 have hs:∀ v∈bo,v.cells.size=sz:=fun v hv=>by
  obtain ⟨i,hi⟩:=List.getElem?_of_mem hv;exact (hl i v hi).1
 have hlen:=hZ hs;have Ki:=lQ hs;have qU:∀ j,j < n * sz->r.cs[off+j]? = (bz bo)[j]?:=by
  intro j hj;have hi:j / sz < bo.length:=by rw [hn]; exact Nat.div_lt_of_lt_mul (by rw [Nat.mul_comm]; exact hj)
  have hv:bo[j / sz]? = some bo[j / sz]:=cJ hi;have hk:j % sz < bo[j / sz].cells.size:=by rw [hs _ (Rb hi)]; exact Nat.mod_lt _ dT
  have hy:bo[j / sz].cells[j % sz]? = some (bo[j / sz].cells[j % sz]):=by simp [hk]
  have h1:=(hl _ _ hv).2 _ _ hy;have h2:=(Ki _ _ hv).2 _ _ hy;have NK:j / sz * sz+j % sz=j:=by rw [Nat.mul_comm]; exact Nat.div_add_mod j sz
  rw [HK,NK] at h1;rw [bd,NK] at h2;rw [h1,h2]
 simp only [St.AG,cK,Option.isNone_none,aj,CJ,hr,dQ];rw [hn] at hlen;have hle:n * sz<=(r.cs.drop off).length:=by
  cases hm:n * sz with
  | zero=>omega
  | succ q=>
   have:=qU q (by omega);rw [cJ (show q < (bz bo).length by omega)] at this;have h7:=(cH.1 this).1;rw [List.length_drop];omega
 rw [vt,MA hle];congr 1;apply List.ext_getElem?;intro i;rw [mn];split
 ·rename_i hi
  rw [pf];exact qU i hi
 ·exact (ZZ.2 (by omega)).symm
theorem abl {T:TypeId} {m:Mk} {n:Nat} {es:List KV} {acc:Nat->KV} {u:Value} {A:ae} {B:St} (h:dr P E A B) (hv:VK P E (.ts T m n es acc) u) (dT:1<=aU P T) :
  ∃ bo,aV P E es bo/\YA u=some n/\zC B (aU P T) n u=some (bz bo)/\(∀ v∈bo,v.cells.size=aU P T)/\bo.length=n/\es.length=n/\dJ (aQ P T) es=true:=by
 obtain ⟨ht,bo,h1,a,cap,rfl,h2,h3,_⟩:=hv.lh;have hlen:=ht.len;have vb:bo.length=n:=by rw [h1.length]; exact hlen.symm
 have hs:=mw ht.typed h1;refine ⟨bo,h1,rfl,?_,fun v hv=>(hs v hv).1,vb,hlen.symm,ht.typed⟩;rcases h3 with ⟨rfl,h0⟩ | ⟨b,off,r,rfl,h4,h5,h6⟩
 ·have:bo = []:=qR.1 (by omega)
  subst this;simp [zC,h0,bz]
 ·exact NJ (h.z b r h4) h6 vb dT
theorem hX.join {T:TypeId} {n m:Nat} {es fs:List KV} {f g:Nat->KV} (h:hX P T n es f) (k:hX P T m fs g):hX P T (n+m) (es++fs) (ax n f g) where
 len:=by rw [kF,<- h.len,<- k.len]
 acc i hi:=by
  unfold ax;by_cases hn:i < n
  ·have:Nat.blt i n=true:=by rw [bI]; exact hn
   rw [this,aj,h.acc i hn,fH,fH,qS (by rw [<- h.len]; exact hn)]
  ·have:Nat.blt i n=false:=by
    cases hb:Nat.blt i n with
    | false=>rfl
    | true=>rw [bI] at hb; omega
   rw [this,aH,k.acc (i - n) (by omega),fH,fH,tS (by rw [<- h.len]; omega),<- h.len]
 typed:=OK h.typed k.typed
theorem hX.none {T:TypeId} {g:Nat->KV} : hX P T 0 [] g:=⟨rfl,fun i h=>by omega,rfl⟩
structure Src (P:Program) (E:Env) (B:St) (T:TypeId) (n:Nat) (es:List KV) (acc:Nat->KV) (u:Value) (bo:List Value):Prop where
 tree:hX P T n es acc
 rel:aV P E es bo
 len:YA u=some n
 size:∀ v∈bo,v.cells.size=aU P T
 length:bo.length=n
 first:∀ k,k<=n->zC B (aU P T) k u=some (bz (bo.take k))
theorem Src.all {B:St} {T:TypeId} {n:Nat} {es:List KV} {acc:Nat->KV} {u:Value} {bo:List Value} (h:Src P E B T n es acc u bo):zC B (aU P T) n u=some (bz bo):=by
 rw [h.first n (aC _),List.take_of_length_le (Nat.le_of_eq h.length)]
theorem qP.take {sz off:Nat} {cs es:List Value} (h:qP sz off cs es) (k:Nat):qP sz off cs (es.take k):=fun i x hi=>h i x (by
 rw [mn] at hi;split at hi
 ·exact hi
 ·simp at hi)
theorem qP.drop {sz off:Nat} {cs es:List Value} (h:qP sz off cs es) (o:Nat):qP sz (off+o * sz) cs (es.drop o):=fun i x hi=>by
 rw [pf] at hi;obtain ⟨h1,h2⟩:=h (o+i) x hi;refine ⟨h1,fun k y hy=>?_⟩;rw [<- h2 k y hy,Nat.add_mul];congr 1;omega
theorem aoc {T:TypeId} {m:Mk} {n:Nat} {es:List KV} {acc:Nat->KV} {u:Value} {A:ae} {B:St} (h:dr P E A B) (hv:VK P E (.ts T m n es acc) u) (dT:1<=aU P T):∃ bo,Src P E B T n es acc u bo:=by
 obtain ⟨ht,bo,h1,a,cap,rfl,h2,h3,_⟩:=hv.lh;have vb:bo.length=n:=by rw [h1.length]; exact ht.len.symm
 have hs:=mw ht.typed h1;refine ⟨bo,ht,h1,rfl,fun v hv=>(hs v hv).1,vb,fun k hk=>?_⟩;rcases h3 with ⟨rfl,h0⟩ | ⟨b,off,r,rfl,h4,h5,h6⟩
 ·have:bo = []:=qR.1 (by omega)
  subst this;have:k=0:=by omega
  subst this;simp [zC,bz]
 ·exact NJ (h.z b r h4) (h6.take k) (by rw [kZ]; omega) dT
theorem aod {T:TypeId} {m:Mk} {b o n N:Nat} {es:List KV} {acc:Nat->KV} {u:Value} {A:ae} {B:St} (h:dr P E A B) (hv:VK P E (.al T b o n) u) (ha:Ly A b=some (.ts T m N es acc)) (dT:1<=aU P T) :
  ∃ bo,Src P E B T n ((es.drop o).take n) (fun i=>acc (o+i)) u bo:=by
 have row:∀ {x:Nat} {r:agd} {bo:List Value} {c:Nat},u = .slice (some ⟨x,o * aU P T,none⟩) n c->o+n<=N->hX P T N es acc->B.get x=some (.row r.cs r.bp r.own r.bN)->aV P E es bo->qP (aU P T) 0 r.cs bo->∃ bo,Src P E B T n ((es.drop o).take n) (fun i=>acc (o+i)) u bo:=by
  intro x r bo c hu Xz ht hr TH hl;subst hu;have TI:bo.length=N:=by rw [TH.length]; exact ht.len.symm
  have aiA:((es.drop o).take n).length=n:=by rw [kZ,List.length_drop,<- ht.len]; omega
  have amC:((bo.drop o).take n).length=n:=by rw [kZ,List.length_drop,TI]; omega
  have hs:=mw ht.typed TH;refine ⟨(bo.drop o).take n,⟨aiA.symm,fun i hi=>?_,o7 fun i x hi=>?_⟩,(TH.drop o).take n,rfl,fun v hv=>(hs v (List.mem_of_mem_drop (List.mem_of_mem_take hv))).1,amC,fun k hk=>?_⟩
  ·rw [ht.acc (o+i) (by omega),fH,fH,mn,aD hi,pf]
  ·rw [mn] at hi
   split at hi
   ·rw [pf] at hi; exact gL ht.typed hi
   ·simp at hi
  ·have k7:=((hl.drop o).take n).take k
   rw [bd] at k7;exact NJ hr k7 (by rw [kZ,amC]; omega) dT
 rcases hv.yL with ⟨rfl,rfl,rfl⟩ | ⟨x,L,N0,c,h1,h2,h3,h4,h5⟩
 ·refine ⟨[],⟨by simp,fun i hi=>by omega,rfl⟩,by simpa using aV.nil,rfl,by simp,rfl,fun k hk=>?_⟩
  have:k=0:=by omega
  subst this;simp [zC,bz]
 ·unfold Ly at ha
  split at ha
  ·rename_i v hb
   simp only [bQ] at ha;subst ha;obtain ⟨T2,N2,pt,ay,e,ht,_,yu⟩:=h.ar.arr b _ hb;simp only [KV.ts.injEq] at e;obtain ⟨rfl,rfl,rfl,rfl,rfl⟩:=e;rcases yu with ⟨_,e⟩ | ⟨x2,cs,bN,bo,e,h6,h7,h8⟩
   ·rw [h1] at e; simp at e
   ·rw [h1] at e
    simp only [bQ,dt] at e;obtain ⟨rfl,rfl,rfl⟩:=e;exact row (r:=⟨cs,aU P T,true,bN⟩) h2 h4 ht h6 h7 h8
  ·rename_i v hb
   simp only [bQ] at ha;subst ha;obtain ⟨T2,N2,pt,ay,e,ht,_,yu⟩:=h.ar.iG b _ hb;simp only [KV.ts.injEq] at e;obtain ⟨rfl,rfl,rfl,rfl,rfl⟩:=e;rcases yu with ⟨_,e⟩ | ⟨x2,r,bo,e,h6,h6',h7,h8⟩
   ·rw [h1] at e; simp at e
   ·rw [h1] at e
    simp only [bQ,dt] at e;obtain ⟨rfl,rfl,rfl⟩:=e;exact row h2 h4 ht (h.z _ _ h6) h7 h8
  ·simp at ha
theorem aj5 {A:ae} {B:St} {y:KV} {u:Value} {T:TypeId} {m:Mk} {n:Nat} {es:List KV} {acc:Nat->KV} (h:dr P E A B) (hv:VK P E y u) (hs:PH A y=some (.ts T m n es acc)) (dT:1<=aU P T):∃ bo,Src P E B T n es acc u bo:=by
 unfold PH at hs;split at hs
 ·rename_i T' b o k
  unfold aeM at hs;split at hs
  ·rename_i T2 _ _ pt ay ha
   cases hb:Nat.beq T' T2 with
   | false=>rw [hb] at hs; simp at hs
   | true=>
    have:=aL hb;subst this;rw [hb,aj] at hs;simp only [bQ,KV.ts.injEq] at hs;obtain ⟨rfl,rfl,rfl,rfl,rfl⟩:=hs;rw [aeL];exact aod h hv ha dT
  ·simp at hs
 ·simp only [bQ,KV.ts.injEq] at hs
  obtain ⟨rfl,rfl,rfl,rfl,rfl⟩:=hs;exact aoc h hv dT
 ·simp at hs
theorem aiB {e n b:Nat} (hn:aU P e=n) (h1n:1<=n) {E:Env} {A A' : ae} {B:St} {x v:KV} {u w:Value} {e' : TypeId} {mk:Mk} {k:Nat} {new:List KV} {acc:Nat->KV} (h:dr P E A B) (h1:VK P E x u)
  (hsr:Nat.beq e e' = true->∃ bo,Src P E B e' k new acc w bo) (hg:aI (PF e n b A [x,.ts e' mk k new acc]) (v,A')):∃ r B' E',ke n b B [u,w] = some (r,B')/\VK P E' v r/\cN P E A B E' A' B':=by
 have yM:1<=aU P e:=by omega
 have put:∀ (E1:Env) (A1:ae) (m f k:Nat) (base new:List KV) (ab an:Nat->KV) (more:Bool) (A2:ae) (v:KV),aI (U1 e n b m base ab A1 f k new an more) (v,A2)->
   (more=true/\Nat.ble ((m+k) * b) 140737488355328=true/\Nat.ble (m+k) 17592186044416=true)/\v = .ts e (.aP f) (m+k) (base++new) (ax m ab an)/\A2=A1.put f (.aP (m+k) n):=by
  intro E1 A1 m f k base new ab an more A2 v hp;obtain ⟨hc,hp⟩:=aI.jQ hp;simp only [dP,ao] at hc;simp only [dt] at hp;exact ⟨⟨hc.1,hc.2.1,hc.2.2⟩,hp.1.symm,hp.2.symm⟩
 unfold PF at hg;split at hg
 ·
  rename_i e9 mk9 k9 aj6 aj7 heq;simp only [List.cons.injEq,KV.ts.injEq,and_true] at heq;obtain ⟨rfl,rfl,rfl,rfl,rfl,rfl⟩:=heq;have:=h1.pw; subst this;obtain ⟨he,Xw⟩:=hg.cond;clear hg;obtain ⟨cC,jL⟩:=hsr he;have:=aL he;subst this;obtain ⟨⟨_,Gw,wM⟩,rfl,rfl⟩:=put E _ _ _ _ _ _ _ _ _ _ _ Xw;have P0:=jL.tree;have h3:=jL.rel;have h4:=jL.len;have h5:=jL.all;have h6:=jL.size;have h7:=jL.length;have h8:=P0.len.symm;rw [hn] at h5 h6;have vx:=cN.aj1 n h;have hAf:(A.new (.aP 0 n)).get A.next=some (.aP 0 n):=by simp
  have Kk:E.φ A.next=none:=by
   cases hq:E.φ A.next with
   | none=>rfl
   | some g=>have:=h.kR _ g hq; omega
  cases k with
  | zero=>
   have yJ:new = []:=qR.1 h8;have TJ:cC = []:=qR.1 h7;subst yJ TJ;refine ⟨.slice none 0 0,B,E,?_,?_,?_⟩
   ·simp only [ke,h4,dQ]
    rw [h5];rfl
   ·simp only [VK]
    exact ⟨⟨rfl,fun i hi=>by omega,rfl⟩,[],.nil,none,0,rfl,aC _,.inl ⟨rfl,rfl⟩,rfl,.inl ⟨rfl,rfl⟩⟩
   ·exact vx.after (cN.aj4 n vx.fY hAf Kk)
  | succ k=>
   have H5:=cN.grow (c:=bz cC) (top:=0) (Su:=k+1) (sz:=n) (g:=B.next) (f:=A.next) vx.fY hAf (.inl ⟨Kk,rfl⟩) (by rw [hZ h6,h7]) (by omega) (by omega);refine ⟨.slice (some ⟨B.next,0,none⟩) (k+1) (k+1),B.grow B.next 0 (bz cC) n,_,?_,?_,vx.after (by simpa using H5)⟩
   ·simp only [bd] at Gw wM
    simp only [ke,h4,dQ,bd];rw [show Nat.ble (k+1) 0=false from rfl,aH,Gw,wM,h5];rfl
   ·simp only [VK,bd,List.nil_append]
    have TJ:=h3.mono (Env.le_trans vx.le H5.le);have hl:=lQ h6;refine ⟨by have:=hX.none (P:=P) (T:=e) (g:=qN) |>.join P0; simpa using this,cC,TJ,_,_,rfl,aC _,.inr ⟨B.next,0,⟨bz cC,n,true,some (B.next,0)⟩,rfl,by simp [Env.vF,Env.eM],hn.symm,by rw [hn]; exact hl⟩,rfl,.inr ⟨B.next,⟨bz cC,n,true,some (B.next,0)⟩,B.next,rfl,by simp [Env.vF,Env.eM],rfl,by simp [Env.vF],rfl,?_⟩⟩;rw [hn];simp only;rw [hZ h6,h7]
 ·
  rename_i e1 m es aoS e9 mk9 k9 aj6 aj7 heq;simp only [List.cons.injEq,KV.ts.injEq,and_true] at heq;obtain ⟨rfl,rfl,rfl,rfl,rfl,rfl⟩:=heq;obtain ⟨he,Xw⟩:=hg.cond;clear hg;simp only [ao] at he;obtain ⟨cC,jL⟩:=hsr he.1;have:=aL he.1;subst this;have:=aL he.2;subst this;obtain ⟨⟨hk,Gw,wM⟩,rfl,rfl⟩:=put E _ _ _ _ _ _ _ _ _ _ _ Xw;have hk:0 < k:=by rwa [bI] at hk
  have vG:=h1.lh.1;have P0:=jL.tree;have h3:=jL.rel;have h4:=jL.len;have h5:=jL.all;have h6:=jL.size;have h7:=jL.length;have h8:=P0.len.symm;obtain ⟨u6,h3b,h4b,h5b,h6b,h7b,h8b,h9b⟩:=abl h h1 yM;rw [hn] at h5 h6 h5b h6b;obtain ⟨_,af3,yS,a,cap,rfl,ajM,NL,aiC⟩:=h1.lh;obtain ⟨rfl,TF⟩:=aiC;have vx:=cN.aj1 n h;have hAf:(A.new (.aP 0 n)).get A.next=some (.aP 0 n):=by simp
  have Kk:E.φ A.next=none:=by
   cases hq:E.φ A.next with
   | none=>rfl
   | some g=>have:=h.kR _ g hq; omega
  have hs:∀ v∈u6++cC,v.cells.size=n:=fun v hv=>by
   rcases jM.1 hv with hv | hv
   ·exact h6b v hv
   ·exact h6 v hv
  have hlen:(bz (u6++cC)).length=(cap+k) * n:=by rw [hZ hs,kF,h7b,h7]
  have H5:=cN.grow (c:=bz (u6++cC)) (top:=0) (Su:=cap+k) (sz:=n) (g:=B.next) (f:=A.next) vx.fY hAf (.inl ⟨Kk,rfl⟩) hlen (by omega) (by omega);refine ⟨.slice (some ⟨B.next,0,none⟩) (cap+k) (cap+k),B.grow B.next 0 (bz (u6++cC)) n,_,?_,?_,vx.after H5⟩
  ·simp only [ke,h4,dQ]
   have hnb:Nat.ble (cap+k) cap=false:=by
    cases hq:Nat.ble (cap+k) cap with
    | false=>rfl
    | true=>have:=dX hq; omega
   rw [hnb,aH,Gw,wM];rcases NL with ⟨rfl,h0⟩ | ⟨b',off,r,rfl,hz,he2,k7⟩
   ·subst h0
    have:u6 = []:=qR.1 h7b;subst this;simp only [x7,BN,cz];rw [show Nat.beq 0 0=true from rfl,aj,h5];simp [IP]
   ·obtain ⟨r2,C5,ho,agt,aj8⟩:=TF b' off rfl
    rw [hz] at C5;simp at C5;subst C5;have fv:=h.z b' r hz;have hex:x7 B n cap (some ⟨b',off,none⟩)=true:=by
     simp only [x7,fv,agt];rw [hn] at aj8;simp [aj8]
    rw [hex];simp only [cz,aj,h5,dQ];simp only [zC] at h5b;have UQ:Nat.beq r.bp n=true:=by rw [he2,hn]; simp
    simp only [IP,cK,Option.isNone_none,aj,h5b,dQ,fv,UQ,agt,ho];rw [<- Bm]
  ·simp only [VK]
   have hrel:=(h3b.append h3).mono (Env.le_trans vx.le H5.le);have hl:=lQ hs;refine ⟨vG.join P0,u6++cC,hrel,_,_,rfl,aC _,.inr ⟨B.next,0,⟨bz (u6++cC),n,true,some (B.next,0)⟩,rfl,by simp [Env.vF,Env.eM],hn.symm,by rw [hn]; exact hl⟩,rfl,.inr ⟨B.next,⟨bz (u6++cC),n,true,some (B.next,0)⟩,B.next,rfl,by simp [Env.vF,Env.eM],rfl,by simp [Env.vF],rfl,?_⟩⟩;rw [hn];exact hlen
 ·
  rename_i e1 f m es aoS e9 mk9 k9 aj6 aj7 heq;simp only [List.cons.injEq,KV.ts.injEq,and_true] at heq;obtain ⟨rfl,rfl,rfl,rfl,rfl,rfl⟩:=heq;split at hg
  ·rename_i top sz' YS
   obtain ⟨he,Xw⟩:=hg.cond;clear hg;simp only [ao] at he;obtain ⟨cC,jL⟩:=hsr he.1.1;have:=aL he.1.1;subst this;have:=aL he.1.2;subst this;have amw:=aL he.2;rw [amw] at YS;obtain ⟨⟨RR,Gw,wM⟩,rfl,rfl⟩:=put E _ _ _ _ _ _ _ _ _ _ _ Xw;have:=aL RR;subst this;have vG:=h1.lh.1;have P0:=jL.tree;have h3:=jL.rel;have h4:=jL.len;have h5:=jL.all;have h6:=jL.size;have h7:=jL.length;have h8:=P0.len.symm;obtain ⟨u6,h3b,h4b,h5b,h6b,h7b,h8b,h9b⟩:=abl h h1 yM;rw [hn] at h5 h6 h5b h6b;obtain ⟨_,af3,yS,a,cap,rfl,ajM,NL,aiC⟩:=h1.lh;obtain ⟨rfl,TF⟩:=aiC;have hs:∀ v∈u6++cC,v.cells.size=n:=fun v hv=>by
    rcases jM.1 hv with hv | hv
    ·exact h6b v hv
    ·exact h6 v hv
   have hlen:(bz (u6++cC)).length=(cap+k) * n:=by rw [hZ hs,kF,h7b,h7]
   have apz:=h3b.append h3;have hl:=lQ hs;have fin:∀ (E2:Env) (x g:Nat),E.le E2->E2.z x=some ⟨bz (u6++cC),n,true,some (g,0)⟩->E2.φ f=some g->VK P E2 (.ts e (.aP f) (cap+k) (es++new) (ax cap aoS acc)) (.slice (some ⟨x,0,none⟩) (cap+k) (cap+k)):=by
    intro E2 x g hle hzx aqo;simp only [VK];refine ⟨vG.join P0,u6++cC,apz.mono hle,_,_,rfl,aC _,.inr ⟨x,0,_,rfl,hzx,hn.symm,by rw [hn]; exact hl⟩,rfl,.inr ⟨x,_,g,rfl,hzx,rfl,aqo,rfl,?_⟩⟩;rw [hn];exact hlen
   rcases TF with ⟨rfl,rfl⟩ | ⟨b',r,g,rfl,hz,ho,Kk,agt,hcl⟩
   ·
    have hold:es = []:=qR.1 h8b;have ae4:u6 = []:=qR.1 h7b;subst hold ae4;have Kk:E.φ f=none:=by
     rcases h.aP f 0 n YS with ⟨_,Ln⟩ | ⟨g2,_,Ln,_⟩
     ·exact Ln
     ·omega
    cases k with
    | zero=>
     have yJ:new = []:=qR.1 h8;have TJ:cC = []:=qR.1 h7;subst yJ TJ;refine ⟨.slice none 0 0,B,E,?_,?_,cN.aj4 n h YS Kk⟩
     ·simp only [ke,h4,dQ]
      rw [h5];rfl
     ·simp only [VK]
      exact ⟨⟨rfl,fun i hi=>by omega,rfl⟩,[],.nil,none,0,rfl,aC _,.inl ⟨rfl,rfl⟩,rfl,.inl ⟨rfl,rfl⟩⟩
    | succ k=>
     have H5:=cN.grow (c:=bz ([]++cC)) (top:=0) (Su:=0+(k+1)) (sz:=n) (g:=B.next) (f:=f) h YS (.inl ⟨Kk,rfl⟩) hlen (by omega) (by omega);refine ⟨.slice (some ⟨B.next,0,none⟩) (0+(k+1)) (0+(k+1)),B.grow B.next 0 (bz ([]++cC)) n,_,?_,fin _ B.next B.next H5.le (by simp [Env.vF,Env.eM]) (by simp [Env.vF]),H5⟩;simp only [bd] at Gw wM;simp only [ke,h4,dQ,bd,List.nil_append];rw [show Nat.ble (k+1) 0=false from rfl,aH,Gw,wM,h5];rfl
   ·
    have hcap1:0 < cap:=by
     rcases Nat.eq_zero_or_pos cap with h0 | h0
     ·subst h0
      rcases h.aP f 0 n YS with ⟨_,Ln⟩ | ⟨g2,_,Ln,_⟩
      ·rw [Kk] at Ln; simp at Ln
      ·omega
     ·exact h0
    rcases Nat.eq_zero_or_pos k with xy | xy
    ·subst xy
     have yJ:new = []:=qR.1 h8;have TJ:cC = []:=qR.1 h7;subst yJ TJ;refine ⟨.slice (some ⟨b',0,none⟩) cap cap,B,E,?_,?_,cN.amA h YS⟩
     ·simp only [ke,h4,dQ]
      rw [show Nat.ble (cap+0) cap=true from Nat.ble_eq_true_of_le (aC _),aj,h5];rfl
     ·simp only [VK]
      exact ⟨vG.join P0,af3,by rw [yH]; exact yS,some ⟨b',0,none⟩,cap,rfl,aC _,NL,rfl,.inr ⟨b',r,g,rfl,hz,ho,Kk,agt,hcl⟩⟩
    have apA:0 < cap+k/\0 < k:=⟨by omega,xy⟩
    have fv:=h.z b' r hz;rw [ho,agt] at fv;have UQ:r.bp=n:=by
     rcases NL with ⟨h0,_⟩ | ⟨b2,amD,r2,e2,C5,he2,_⟩
     ·simp at h0
     ·simp at e2
      obtain ⟨rfl,rfl⟩:=e2;rw [hz] at C5;simp at C5;subst C5;rw [he2,hn]
    have apB:B.kill B.next (0+(0+cap * n)) (0+(0+cap * n)+(bz cC).length) (B.members g)=B:=by
     refine abg fun y hy=>?_;rcases h.aP f cap n YS with ⟨_,Ln⟩ | ⟨g2,Ln,_,h3'⟩
     ·rw [Kk] at Ln; simp at Ln
     ·rw [Kk] at Ln
      simp at Ln;subst Ln;cases hy2:B.get y with
      | none=>rfl
      | some o=>cases o with
       | row kx e2 Kt tX=>
        cases tX with
        | none=>rfl
        | some p=>
         obtain ⟨f2,k2⟩:=p;obtain ⟨rfl,aoT⟩:=h3' y hy kx e2 Kt f2 k2 hy2;simp only [rQ,meets,bd];have:Nat.blt (cap * n) kx.length=false:=by
          cases hq:Nat.blt (cap * n) kx.length with
          | false=>rfl
          | true=>rw [bI] at hq; omega
         rw [this,Bool.false_and]
       | _=>rfl
    have H5:=cN.grow (c:=bz (u6++cC)) (top:=cap) (Su:=cap+k) (sz:=n) (g:=g) (f:=f) h YS (.inr Kk) hlen (by omega) apA.1;refine ⟨.slice (some ⟨B.next,0,none⟩) (cap+k) (cap+k),B.grow g 0 (bz (u6++cC)) n,_,?_,fin _ B.next g H5.le (by simp [Env.vF,Env.eM]) (by simp [Env.vF]),H5⟩;have hnb:Nat.ble (cap+k) cap=false:=by
     cases hq:Nat.ble (cap+k) cap with
     | false=>rfl
     | true=>have:=dX hq; omega
    have hex:x7 B n cap (some ⟨b',0,none⟩)=true:=by simp only [x7,fv]
    simp only [ke,h4,dQ,hnb,aH,Gw,wM,hex,cz,aj,h5];simp only [zC] at h5b;have aqp:Nat.beq r.bp n=true:=by rw [UQ]; simp
    simp only [IP,cK,Option.isNone_none,aj,h5b,dQ,fv,aqp,apB,<- Bm]
  ·exact hg.elim
 ·exact hg.elim
end Go.K
end
section
namespace Go.K
open Go Go.aG
variable {P:Program} {E:Env}
theorem cN.aj9 {A A1:ae} {B:St} {T:TypeId} {acc:Nat->KV} (h:dr P E A B) (uf:A1.next=A.next) (GF:∀ c o,A1.get c=some o->A.get c=some o\/(o = .dead/\c < A.next)) (hh:∀ c,A.get c=some wH->A1.get c=some wH) (dT:1<=aU P T) :
  cN P E A B E (A1.new (.arr (.ts T .any 0 [] acc))) B:=by
 have amy:E.α A.next=none:=by
  cases hq:E.α A.next with
  | none=>rfl
  | some p=>have:=h.ar.jP _ p hq; omega
 have fM:∀ c o,(A1.new (.arr (.ts T .any 0 [] acc))).get c=some o->(c=A.next/\o = .arr (.ts T .any 0 [] acc))\/(o = .dead/\c < A.next)\/A.get c=some o:=fun c o hc=>by
  rw [ae.cp,uf] at hc;split at hc
  ·rename_i e; simp at hc; exact .inl ⟨e,hc.symm⟩
  ·rcases GF c o hc with e | e
   ·exact .inr (.inr e)
   ·exact .inr (.inl e)
 have rT:∀ c v,(A1.new (.arr (.ts T .any 0 [] acc))).get c=some (.arr v)->E.α c=none\/A.get c=some (.arr v):=fun c v hc=>by
  rcases fM c _ hc with ⟨e,_⟩ | ⟨e,_⟩ | e
  ·exact .inl (by rw [e]; exact amy)
  ·simp at e
  ·exact .inr e
 have hA:∀ c v y L N,(A1.new (.arr (.ts T .any 0 [] acc))).get c=some (.arr v)->E.α c=some (y,L,N)->A.get c=some (.arr v):=fun c v y L N hc hy=>by
  rcases rT c v hc with e | e
  ·rw [e] at hy; simp at hy
  ·exact e
 have sq:∀ y,AR (A1.new (.arr (.ts T .any 0 [] acc))) E y->AR A E y:=fun y ⟨c,v,L,N,h1,h2⟩=>⟨c,v,L,N,hA c v _ _ _ h1 h2,h2⟩
 have LG:∀ g,AF (A1.new (.arr (.ts T .any 0 [] acc))) E B g->AF A E B g:=fun g ⟨c,v,x,L,N,cs,e,own,k,h1,h2,h3⟩=>⟨c,v,x,L,N,cs,e,own,k,hA c v _ _ _ h1 h2,h2,h3⟩
 refine ⟨⟨fun c cs bp hc=>?_,fun c top sz hc=>?_,h.z,h.apart,h.inj,?_,fun b x e=>by rw [ae.bX,uf]; have:=h.jP b x e; omega,fun b g e=>by rw [ae.bX,uf]; have:=h.kR b g e; omega,fun c o hc=>?_,h.eV,h.lJ,h.iv,h.fresh,h.mem,?_⟩,Env.le_refl _,by rw [ae.bX,uf]; omega,fun _ _ _ _=>rfl,fun _ _ e=>.inl e,fun _ _ e=>.inl e,fun _ _ e=>.inl e,fun _ _ _ _=>rfl,fun x q=>.inl (sq x q),fun g q=>.inl (LG g q),fun _ _ q=>.inl q,fun y q=>.inl (q.imp (sq y) fun ⟨g,q1,q2⟩=>⟨g,LG g q1,q2⟩),mv fun _ _=>rfl,fun b hb=>by
  rw [ae.cp,uf,aa]
  ·exact hh b hb
  ·intro e
   have:=h.live b _ hb;omega⟩
 ·rcases fM c _ hc with ⟨_,e⟩ | ⟨e,_⟩ | e
  ·simp at e
  ·simp at e
  ·exact h.row c cs bp e
 ·rcases fM c _ hc with ⟨_,e⟩ | ⟨e,_⟩ | e
  ·simp at e
  ·simp at e
  ·exact h.aP c top sz e
 ·intro b c g tb sb tc sc hb hc e1 e2
  rcases fM b _ hb with ⟨_,e⟩ | ⟨e,_⟩ | hb
  ·simp at e
  ·simp at e
  rcases fM c _ hc with ⟨_,e⟩ | ⟨e,_⟩ | hc
  ·simp at e
  ·simp at e
  exact h.gK b c g _ _ _ _ hb hc e1 e2
 ·rw [ae.bX,uf]
  rcases fM c _ hc with ⟨e,_⟩ | ⟨_,e⟩ | e
  ·omega
  ·omega
  ·have:=h.live c o e; omega
 ·refine ⟨fun c v hc=>?_,fun c v hc=>?_,fun x q=>h.ar.z x (sq x q),fun b c v u x L N L' N' h1 h2 h3 h4=>h.ar.inj b c v u x L N L' N' (hA b v _ _ _ h1 h3) (hA c u _ _ _ h2 h4) h3 h4,fun b c v u x y L N L' N' cs e own g k bP e' rC k' h1 h2 h3 h4=>h.ar.xz b c v u x y L N L' N' cs e own g k bP e' rC k' (hA b v _ _ _ h1 h3) (hA c u _ _ _ h2 h4) h3 h4,h.ar.dis,fun b p e=>by rw [ae.bX,uf]; have:=h.ar.jP b p e; omega,h.ar.eV,fun b v x L N cs e own g k h1 h2 h3=>?_,fun c v hc=>?_⟩
  ·rcases fM c _ hc with ⟨e,e2⟩ | ⟨e,_⟩ | e
   ·simp at e2
    subst e2;exact ⟨T,0,[],acc,rfl,⟨rfl,fun i hi=>by omega,rfl⟩,dT,.inl ⟨rfl,by rw [e]; exact amy⟩⟩
   ·simp at e
   ·exact h.ar.arr c v e
  ·rcases fM c _ hc with ⟨_,e⟩ | ⟨e,_⟩ | e
   ·simp at e
   ·simp at e
   ·exact h.ar.iG c v e
  ·obtain ⟨q1,q2,q3⟩:=h.ar.vD b v x L N cs e own g k (hA b v _ _ _ h1 h2) h2 h3
   exact ⟨q1,q2,fun y hy cD=>⟨(q3 y hy cD).1,fun q=>(q3 y hy cD).2.1 (sq y q),(q3 y hy cD).2.2⟩⟩
  ·rw [ae.bX,uf]
   rcases fM c _ hc with ⟨e,_⟩ | ⟨e,_⟩ | e
   ·rw [e]
    refine ⟨Ra _,?_⟩;cases hk:E.κ A.next with
    | none=>rfl
    | some x=>have:=h.jP _ x hk; omega
   ·simp at e
   ·obtain ⟨q1,q2⟩:=h.ar.nk c v e
    exact ⟨by omega,q2⟩
theorem abm {E:Env} {T:TypeId} {b x L N n c:Nat} (uc:E.α b=some (x,L,N)) (h1:n<=c) (h2:n<=N) (h3:c * aU P T=L):VK P E (.al T b 0 n) (.slice (some ⟨x,0,none⟩) n c):=
 .PN (.inr ⟨x,L,N,c,uc,by simp,h1,by omega,by rw [bd]; exact h3⟩)
theorem agu {T b n:Nat} {z:Value} (hn:aU P T=n) (h1n:1<=n) (hz:z.cells.size=n) (he:cv (aQ P T) (K.dN (aQ P T) (fE z))=true):abc P (Xk T b (K.dN (aQ P T) (fE z))) (FX n b z):=by
 intro E A A' B vs us v h hv hg;unfold Xk at hg;split at hg
 ·rename_i k l k' c
  obtain ⟨x,y,rfl,h1,h2⟩:=hv.kf;have:=h1.cg; subst this;have:=h2.cg; subst this;obtain ⟨hc,hg⟩:=aI.jQ hg;simp only [dt] at hg;obtain ⟨rfl,rfl⟩:=hg;simp only [ao,l9] at hc;obtain ⟨⟨h3,h4⟩,h5⟩:=hc;obtain ⟨l',rfl⟩:=Int.eq_ofNat_of_zero_le h3;obtain ⟨c',rfl⟩:=Int.eq_ofNat_of_zero_le (Int.le_trans h3 h4);have h6:Nat.ble l' c' = true:=Nat.ble_eq_true_of_le (by omega);have hs:∀ v∈List.replicate c' z,v.cells.size=n:=fun v hv=>by rw [List.eq_of_mem_replicate hv]; exact hz
  have hlen:(bz (List.replicate c' z)).length=c' * n:=by rw [hZ hs,List.length_replicate]
  have NM:∀ m,di [K.dN (aQ P T) (fE z)] m=List.replicate m (K.dN (aQ P T) (fE z)):=fun m=>by
   induction m with
   | zero=>rfl
   | succ m ih=>simp [di,ih,List.replicate_succ]
  have gz:=cN.NI (P:=P) (X:=fun _=>False) (G:=fun _=>False) (y2:=B.next) (N2:=c') (T:=T) (pt:=di [K.dN (aQ P T) (fE z)] c') (ay:=fun _=>K.dN (aQ P T) (fE z)) (FZ:=List.replicate c' z) (kx:=bz (List.replicate c' z)) (tX:=none) (A1:=A) (B':=B.new (.row (bz (List.replicate c' z)) n true none)) h rfl (fun _ _ e=>.inl e) (fun _ e=>e) (fun _ _ _ _ _ _ _=>⟨id,fun _ _ _ _ _ _=>id⟩) (fun _ e=>e.elim) (fun _ e=>e.elim) (.inr (aC _)) (by simp) (by simp [hn]) (fun _ _ e=>by simp at e)
   (fun y hy _=>.inl (by rw [St.cp,aa (by omega)])) (fun _ e=>e.elim) (fun q y hy=>.inl (by simpa using hy)) (fun q _=>by simp) (by simp) (fun g hg=>by rw [St.jq]; exact h.fresh g (by rw [St.bX] at hg; omega)) (fun g y hy=>by rw [St.jq] at hy; rw [St.bX]; have:=h.mem g y hy; omega)
   (by omega) ⟨by rw [NM]; simp,fun i hi=>by rw [NM,fH,List.getElem?_replicate,aD hi]; rfl,by
    rw [NM];exact o7 fun i x hx=>by rw [List.getElem?_replicate] at hx; split at hx <;> simp at hx; subst hx; exact he⟩ (by
    rw [NM];generalize c' = m
    induction m with
    | zero=>exact .nil
    | succ m ih=>exact .cons (VK.fE z).dN ih) (by rw [hn]; exact lQ hs)
  refine ⟨.row (fD z.cells.toList c') n true none,fun k=>.slice (some ⟨k,0,none⟩) l' c',E.Eu A.next (B.next,(bz (List.replicate c' z)).length,c'),?_,?_,?_⟩
  ·have h5:Nat.ble (b * c') 281474976710656=true:=h5
   show cond (Nat.ble l' c'&&Nat.ble (b * c') 281474976710656) _ _=_;rw [h6,h5];rfl
  ·exact abm Env.zM (by omega) (by show l'<=c'; omega) (by rw [hn,hlen])
  ·rw [Du]; exact gz
 ·exact hg.elim
theorem ae5 {e:TypeId} {n len:Nat} {z:Value} {is:List Nat} (hn:(aQ P e).ks.length=n) (h1n:1<=n) (hz:z.cells.size=n) (hb:EK len is=true) :
  abc P (Tl (aQ P e) e (K.dN (aQ P e) (fE z)) len is) (tU n z len is):=by
 intro E A A' B vs us v h hv hg;unfold Tl at hg;obtain ⟨hc,hg⟩:=aI.cond hg;simp only [ao] at hc;obtain ⟨⟨hk,hvs⟩,Dt⟩:=hc;have hg:(KV.al e A.next 0 len,A.new (.arr (.ts e .any len _ _)))=(v,A'):=hg;simp only [dt] at hg;obtain ⟨rfl,rfl⟩:=hg;have Xw:VK P E (K.dN (aQ P e) (fE z)) z:=(VK.fE z).dN;have hrel:=TE (l:=aQ P e) (is:=is) hv (NG Xw len);have hlen:(GB (di [K.dN (aQ P e) (fE z)] len) ((AD is vs).map fun p=>(p.1,K.dN (aQ P e) p.2))).length=len:=by
  rw [LF,BR]; simp
 have aeY:∀ p∈zipIdx is us,p.2.cells.size=n/\p.1 < (List.replicate len z).length:=by
  intro p hp;obtain ⟨h5,h6⟩:=aeX us hb p hp;have hm:aV P E (vs.map (K.dN (aQ P e))) us:=Xv hv;exact ⟨by rw [<- hn]; exact (mw hvs hm p.2 h6).1,by simpa using h5⟩
 obtain ⟨h3,h4⟩:=TC h1n (ps:=zipIdx is us) (es:=List.replicate len z) (fun u hu=>by rw [(List.mem_replicate.1 hu).2]; exact hz) aeY;have wN:=mw Dt hrel;have qM:(bz (sC (List.replicate len z) (zipIdx is us))).all scalar=true:=fk.2 (Bn fun u hu=>(wN u hu).2);have k7:(sC (List.replicate len z) (zipIdx is us)).length=len:=by rw [LD]; simp
 have gz:=cN.NI (P:=P) (X:=fun _=>False) (G:=fun _=>False) (y2:=B.next) (N2:=len) (T:=e) (pt:=GB (di [K.dN (aQ P e) (fE z)] len) ((AD is vs).map fun p=>(p.1,K.dN (aQ P e) p.2))) (ay:=cY _) (FZ:=sC (List.replicate len z) (zipIdx is us)) (kx:=bz (sC (List.replicate len z) (zipIdx is us))) (tX:=none) (A1:=A) (B':=B.new (.row (bz (sC (List.replicate len z) (zipIdx is us))) n true none)) h rfl (fun _ _ e=>.inl e) (fun _ e=>e) (fun _ _ _ _ _ _ _=>⟨id,fun _ _ _ _ _ _=>id⟩) (fun _ e=>e.elim) (fun _ e=>e.elim) (.inr (aC _)) (by simp) (by simp [aU,hn]) (fun _ _ e=>by simp at e)
  (fun y hy _=>.inl (by rw [St.cp,aa (by omega)])) (fun _ e=>e.elim) (fun q y hy=>.inl (by simpa using hy)) (fun q _=>by simp) (by simp) (fun g hg=>by rw [St.jq]; exact h.fresh g (by rw [St.bX] at hg; omega)) (fun g y hy=>by rw [St.jq] at hy; rw [St.bX]; have:=h.mem g y hy; omega)
  (by unfold aU; omega) ⟨hlen.symm,fun i _=>rfl,Dt⟩ hrel (by unfold aU; rw [hn]; exact lQ h4)
 refine ⟨.row (bz (sC (List.replicate len z) (zipIdx is us))) n true none,fun b=>.slice (some ⟨b,0,none⟩) len len,E.Eu A.next (B.next,(bz (sC (List.replicate len z) (zipIdx is us))).length,len),?_,?_,gz⟩
 ·unfold tU
  rw [Du,h3];simp only [dQ];rw [qM,I3 hv hk];rfl
 ·exact abm Env.zM (aC _) (aC _) (by unfold aU; rw [hn,hZ h4,k7])
theorem alj {T b n:Nat} {z:Value} (hn:aU P T=n) (_:1<=n) (hz:z.cells.size=n) (he:cv (aQ P T) (K.dN (aQ P T) (fE z))=true):amu P (aeN T b (K.dN (aQ P T) (fE z))) (FX n b z):=by
 intro E A B vs us v h hv hg;unfold aeN at hg;split at hg
 ·rename_i k l k' c
  obtain ⟨x,y,rfl,h1,h2⟩:=hv.kf;have:=h1.cg; subst this;have:=h2.cg; subst this;obtain ⟨hc,hg⟩:=aI.jQ hg;subst hg;simp only [ao,l9] at hc;obtain ⟨⟨h3,h4⟩,h5⟩:=hc;obtain ⟨l',rfl⟩:=Int.eq_ofNat_of_zero_le h3;obtain ⟨c',rfl⟩:=Int.eq_ofNat_of_zero_le (Int.le_trans h3 h4);have HR:l'<=c':=by omega
  have h6:Nat.ble l' c' = true:=Nat.ble_eq_true_of_le HR;have hs:∀ v∈List.replicate c' z,v.cells.size=n:=fun v hv=>by rw [List.eq_of_mem_replicate hv]; exact hz
  have NM:∀ m,di [K.dN (aQ P T) (fE z)] m=List.replicate m (K.dN (aQ P T) (fE z)):=fun m=>by
   induction m with
   | zero=>rfl
   | succ m ih=>simp [di,ih,List.replicate_succ]
  have hrel:∀ m,aV P E (List.replicate m (K.dN (aQ P T) (fE z))) (List.replicate m z):=fun m=>by
   induction m with
   | zero=>exact .nil
   | succ m ih=>exact .cons (VK.fE z).dN ih
  refine ⟨.row (fD z.cells.toList c') n true none,fun k=>.slice (some ⟨k,0,none⟩) l' c',E.eM B.next ⟨bz (List.replicate c' z),n,true,none⟩,?_,?_,?_⟩
  ·have h5:Nat.ble (b * c') 281474976710656=true:=h5
   show cond (Nat.ble l' c'&&Nat.ble (b * c') 281474976710656) _ _=_;rw [h6,h5];rfl
  ·have aiw:=(hrel l').mono (cN.abd (bP:=bz (List.replicate c' z)) (bp:=n) h).le
   simp only [VK];refine ⟨⟨by rw [NM]; simp,fun i hi=>by rw [NM,fH,List.getElem?_replicate,aD hi]; rfl,by
    rw [NM];exact o7 fun i x hx=>by rw [List.getElem?_replicate] at hx; split at hx <;> simp at hx; subst hx; exact he⟩,List.replicate l' z,by rw [NM]; exact aiw,some ⟨B.next,0,none⟩,c',rfl,HR,.inr ⟨B.next,0,⟨bz (List.replicate c' z),n,true,none⟩,rfl,by simp [Env.eM],hn.symm,?_⟩,trivial⟩
   rw [hn];intro i x hx;rw [List.getElem?_replicate] at hx;split at hx
   ·rename_i hi
    refine lQ hs i x ?_;rw [List.getElem?_replicate,aD (by have hi:i < l':=hi; omega)];exact hx
   ·simp at hx
  ·rw [Du]; exact cN.abd h
 ·exact hg.elim
theorem XA {sz:Nat} {cs:List Value} {xs ys:List Value} (h:qP sz 0 cs xs) (k:qP sz (xs.length * sz) cs ys):qP sz 0 cs (xs++ys):=fun i x hi=>by
 by_cases bm:i < xs.length
 ·rw [qS bm] at hi; exact h i x hi
 ·rw [tS (by omega)] at hi
  obtain ⟨h1,h2⟩:=k _ x hi;refine ⟨h1,fun j y hy=>?_⟩;rw [<- h2 j y hy];congr 1;have:i * sz=xs.length * sz+(i - xs.length) * sz:=by rw [<- Nat.add_mul]; congr 1; omega
  omega
theorem YT {sz o:Nat} {cs r news:List Value} (hs:∀ v∈news,v.cells.size=sz) (hw:gH (o * sz) cs (bz news)=some r):qP sz (o * sz) r news:=fun i x hi=>by
 have Ki:=lQ hs i x hi;have hlen:=hZ hs;obtain ⟨_,_,h3⟩:=gI hw;refine ⟨Ki.1,fun k y hy=>?_⟩;have h4:=Ki.2 k y hy;rw [bd] at h4;rw [h3,aD ⟨by omega,by have:=(cH.1 h4).1; omega⟩,<- h4];congr 1;omega
theorem abn {sz o:Nat} {cs r vs es:List Value} (hl:qP sz 0 cs es) (ho:es.length<=o) (hw:gH (o * sz) cs vs=some r) (_:1<=sz):qP sz 0 r es:=fun i x hi=>by
 obtain ⟨h1,h2⟩:=hl i x hi;obtain ⟨_,_,h3⟩:=gI hw;refine ⟨h1,fun k y hy=>?_⟩;have hk:k < sz:=by have:=(r8.1 hy).1; omega
 have WQ:=(cH.1 hi).1;have bm:0+i * sz+k < o * sz:=by
  have:(i+1) * sz<=o * sz:=Nat.mul_le_mul_right _ (by omega);rw [Nat.add_mul] at this;omega
 rw [h3,aa (by omega)];exact h2 k y hy
theorem abo {A:ae} {B:St} {f:Nat} {o0:hO} (h:dr P E A B) (hA:A.get f=some o0):∀ c o,(A.put f .dead).get c=some o->A.get c=some o\/(o = .dead/\c < A.next):=fun c o hc=>by
 rw [ae.bA] at hc;split at hc
 ·rename_i e; simp at hc; subst hc e; exact .inr ⟨rfl,h.live _ _ hA⟩
 ·exact .inl hc
theorem Ve {B:St} {g k:Nat} {c:List Value} {n:Nat} (_:g<=B.next):(∀ x,(B.grow g k c n).get x=if x=B.next then some (.row c n true (some (g,k))) else B.get x)/\(∀ q,(B.grow g k c n).members q=if q=g then B.next::B.members g else B.members q)/\(B.grow g k c n).next=B.next+1:=
 ⟨fun x=>by simp [St.grow],fun q=>by simp [St.grow,St.Fy],rfl⟩
theorem abp {e b:Nat} {E:Env} {A A' : ae} {B:St} {x v:KV} {u w:Value} {e' : TypeId} {mk:Mk} {k:Nat} {new:List KV} {acc:Nat->KV} (yM:1<=aU P e) (h:dr P E A B) (h1:VK P E x u)
  (hsr:Nat.beq e e' = true->∃ bo,Src P E B e' k new acc w bo) (hg:aI (Iy e b A [x,.ts e' mk k new acc]) (v,A')):∃ r B' E',ke (aU P e) b B [u,w] = some (r,B')/\VK P E' v r/\cN P E A B E' A' B':=by
 have put:∀ (A1:ae) (m:Nat) (base:List KV) (ab:Nat->KV) (more:Bool) (A2:ae) (v:KV),aI (aaa e b m base ab A1 k new acc more) (v,A2)->
   (more=true/\Nat.ble ((m+k) * b) 140737488355328=true/\Nat.ble (m+k) 17592186044416=true)/\v = .al e A1.next 0 (m+k)/\A2=A1.new (.arr (.ts e .any (m+k) (base++new) (ax m ab acc))):=by
  intro A1 m base ab more A2 v hp;obtain ⟨hc,hp⟩:=aI.jQ hp;simp only [ajW,ao] at hc;simp only [dt] at hp;exact ⟨⟨hc.1,hc.2.1,hc.2.2⟩,hp.1.symm,hp.2.symm⟩
 have nil:∀ (A1:ae) (base:List KV) (ab:Nat->KV),base = []->A1.next=A.next->(∀ c o,A1.get c=some o->A.get c=some o\/(o = .dead/\c < A.next))->(∀ c,A.get c=some wH->A1.get c=some wH)->(∃ bo,Src P E B e k new acc w bo)->Nat.ble ((0+k) * b) 140737488355328=true->Nat.ble (0+k) 17592186044416=true->
   ∃ r B' E',ke (aU P e) b B [.slice none 0 0,w] = some (r,B')/\VK P E' (.al e A.next 0 (0+k)) r/\cN P E A B E' (A1.new (.arr (.ts e .any (0+k) (base++new) (ax 0 ab acc)))) B':=by
  intro A1 base ab NL hn1 hr1 hh1 ⟨cC,jL⟩ Gw wM;subst NL;have hj:hX P e (0+k) ([]++new) (ax 0 ab acc):=(hX.none (P:=P) (T:=e) (g:=ab)).join jL.tree;cases k with
  | zero=>
   have yJ:new = []:=qR.1 jL.tree.len.symm;subst yJ;refine ⟨.slice none 0 0,B,E,?_,.PN (.inl ⟨rfl,rfl,rfl⟩),cN.aj9 h hn1 hr1 hh1 yM⟩;simp only [ke,jL.len,dQ,jL.all];rfl
  | succ k=>
   obtain ⟨g1,g2,g3⟩:=Ve (B:=B) (g:=B.next) (k:=0) (c:=bz cC) (n:=aU P e) (aC _);have hlen:(bz cC).length=(k+1) * aU P e:=by rw [hZ jL.size,jL.length]
   refine ⟨.slice (some ⟨B.next,0,none⟩) (k+1) (k+1),B.grow B.next 0 (bz cC) (aU P e),E.Eu A.next (B.next,(bz cC).length,0+(k+1)),?_,?_,?_⟩
   ·simp only [bd] at Gw wM
    simp only [ke,jL.len,dQ,bd];rw [show Nat.ble (k+1) 0=false from rfl,aH,Gw,wM,jL.all];rfl
   ·rw [bd]; exact abm Env.zM (aC _) (by omega) (by rw [hlen])
   ·generalize B.grow B.next 0 (bz cC) (aU P e)=B' at g1 g2 g3
    exact cN.NI (X:=fun _=>False) (G:=fun _=>False) (y2:=B.next) (tX:=some (B.next,0)) h hn1 hr1 hh1 (fun _ _ _ _ _ _ _=>⟨id,fun _ _ _ _ _ _=>id⟩) (fun _ e=>e.elim) (fun _ e=>e.elim) (.inr (aC _)) (by omega) (by rw [g1,aD rfl]) (fun g k e=>by simp at e; exact .inr (by omega))
     (fun y hy _=>.inl (by rw [g1,aa (by omega)])) (fun _ e=>e.elim) (fun q y hy=>by
      rw [g2] at hy;split at hy
      ·rename_i e
       subst e;rcases de.1 hy with hy | hy
       ·exact .inr ⟨hy,aC _,0,rfl⟩
       ·exact .inl hy
      ·exact .inl hy) (fun q hq=>by rw [g2,aa (fun e=>hq 0 (by rw [e]))]) (by omega) (fun g hg=>by rw [g2,aa (by omega)]; exact h.fresh g (by omega)) (fun g y hy=>by
      rw [g2] at hy;split at hy
      ·rcases de.1 hy with hy | hy
       ·omega
       ·have:=h.mem _ y hy; omega
      ·have:=h.mem g y hy; omega) yM hj (by simpa using jL.rel) (lQ jL.size)
 unfold Iy at hg;split at hg
 ·rename_i e9 mk9 k9 aj6 aj7 heq
  simp only [List.cons.injEq,KV.ts.injEq,and_true] at heq;obtain ⟨rfl,rfl,rfl,rfl,rfl,rfl⟩:=heq;have:=h1.pw; subst this;obtain ⟨he,Xw⟩:=hg.cond;have jL:=hsr he;have:=aL he;subst this;obtain ⟨⟨_,Gw,wM⟩,rfl,rfl⟩:=put _ _ _ _ _ _ _ Xw;exact nil A [] qN rfl rfl (fun _ _ e=>.inl e) (fun _ e=>e) jL Gw wM
 ·rename_i e1 f o n e9 mk9 k9 aj6 aj7 heq
  simp only [List.cons.injEq,KV.ts.injEq,and_true] at heq;obtain ⟨rfl,rfl,rfl,rfl,rfl,rfl⟩:=heq;split at hg
  ·rename_i e2 mk2 N es ac hf
   obtain ⟨he,Xw⟩:=hg.cond;simp only [ao] at he;obtain ⟨cC,jL⟩:=hsr he.1.1;have:=aL he.1.1;subst this;have:=aL he.1.2;subst this;have:=aL he.2;subst this;obtain ⟨⟨ho,Gw,wM⟩,rfl,rfl⟩:=put _ _ _ _ _ _ _ Xw;have:=aL ho;subst this;have GF:=abo h hf;rcases h1.yL with ⟨rfl,_,rfl⟩ | ⟨x,L,N0,c,h2,rfl,h3,h4,h5⟩
   ·exact nil (A.put f .dead) (es.take 0) ac (by simp) rfl GF (o6 hf (by simp)) ⟨cC,jL⟩ Gw wM
   ·obtain ⟨T2,N2,pt,ay,e2,ht,_,yu⟩:=h.ar.arr f _ hf
    simp only [KV.ts.injEq] at e2;obtain ⟨rfl,rfl,rfl,rfl,rfl⟩:=e2;rcases yu with ⟨_,e2⟩ | ⟨x2,cs,bN,bo,e2,h6,h7,h8⟩
    ·rw [h2] at e2; simp at e2
    rw [h2] at e2;simp only [bQ,dt] at e2;obtain ⟨rfl,rfl,rfl⟩:=e2;have sq:AR A E x:=⟨f,_,_,_,hf,h2⟩
    have aoU:x < B.next:=h.I5 sq;have TI:bo.length=N0:=by rw [h7.length]; exact ht.len.symm
    have hs:=mw ht.typed h7;have htk:hX P e n (es.take n) ac:=⟨by rw [kZ,<- ht.len]; omega,fun i hi=>by rw [ht.acc i (by omega),fH,fH,mn,aD hi],o7 fun i x hi=>by
     rw [mn] at hi;split at hi
     ·exact gL ht.typed hi
     ·simp at hi⟩
    have hj:=htk.join jL.tree;have UY:(bo.take n).length=n:=by rw [kZ]; omega
    have aqq:∀ v∈bo.take n,v.cells.size=aU P e:=fun v hv=>(hs v (List.mem_of_mem_take hv)).1;have hrel:=(h7.take n).append jL.rel;have h5:c * aU P e=cs.length:=by simpa using h5
    have pj:∀ c v,(A.put f .dead).get c=some (.arr v)->c≠f/\A.get c=some (.arr v):=fun c v hc=>by
     rw [ae.bA] at hc;split at hc
     ·simp at hc
     ·rename_i e; exact ⟨e,hc⟩
    have hf1:∀ c v,(A.put f .dead).get c=some (.arr v)->∀ y L N,E.α c=some (y,L,N)->¬ (y=x)/\∀ oO e1 own g k1,B.get y=some (.row oO e1 own (some (g,k1)))->¬ (∃ k,bN=some (g,k)):=fun c v hc y L N hy=>by
     obtain ⟨cD,hc⟩:=pj c v hc;refine ⟨fun e=>cD (h.ar.inj c f v _ x L N _ _ hc hf (by rw [<- e]; exact hy) h2),fun oO e1 own g k1 hr ⟨k2,hk⟩=>?_⟩;rw [hk] at h6;exact cD (h.ar.xz c f v _ y x L N _ _ _ _ _ g k1 _ _ _ k2 hc hf hy h2 hr h6)
    have hf3:∀ g,(∃ k,bN=some (g,k))->AF A E B g/\g < B.next/\(∀ f,E.φ f≠some g)/\∀ y∈B.members g,¬ (y=x)->E.z y=none/\¬ AR A E y/\∀ c,E.κ c≠some y:=fun g ⟨k2,hk⟩=>by
     rw [hk] at h6;obtain ⟨q1,q2,q3⟩:=h.ar.vD f _ x _ _ _ _ _ g k2 hf h2 h6;exact ⟨⟨f,_,x,_,_,_,_,_,k2,hf,h2,h6⟩,q1,q2,fun y hy cD=>q3 y hy cD⟩
    have aka:cK (⟨x,0 * aU P e,none⟩:Addr)=true:=rfl;by_cases mR:n+k<=c
    ·
     have hle:n * aU P e+(bz cC).length<=cs.length:=by
      rw [hZ jL.size,jL.length,<- h5,<- Nat.add_mul];exact Nat.mul_le_mul_right _ mR
     obtain ⟨kx,hw⟩:=Dv (n * aU P e) cs (bz cC) hle;have hcl:kx.length=cs.length:=(gI hw).1;have Kl:(bz cC).all scalar=true:=fk.2 (Bn fun v hv=>(mw jL.tree.typed jL.rel v hv).2);have hb:Nat.ble (n+k) c=true:=Nat.ble_eq_true_of_le mR;have key:∃ B' : St,ke (aU P e) b B [.slice (some ⟨x,0 * aU P e,none⟩) n c,w] = some (.slice (some ⟨x,0 * aU P e,none⟩) (n+k) c,B')/\B'.get x=some (.row kx (aU P e) true bN)/\
       (∀ y,y≠x->B'.get y=B.get y\/(B'.get y=some .dead/\∃ g,(∃ k,bN=some (g,k))/\y∈B.members g))/\B'.members=B.members/\B'.next=B.next:=by
      cases xy:Nat.beq k 0 with
      | true=>
       have Ml:cC = []:=qR.1 (by rw [jL.length]; exact aL xy);have Ls:kx=cs:=by
        rw [Ml] at hw;refine List.ext_getElem? fun i=>?_;rw [(gI hw).2.2 i,aa (by simp [bz])]
       refine ⟨B,?_,by rw [Ls]; exact h6,fun _ _=>.inl rfl,rfl,rfl⟩;simp only [ke,jL.len,dQ,hb,aj,jL.all,aka,xy]
      | false=>
       refine ⟨(B.put x (.row kx (aU P e) true bN)).fq x bN (n * aU P e) (n * aU P e+(bz cC).length),?_,?_,?_,by rw [MB]; simp,by rw [Sv]; simp⟩
       ·simp only [ke,jL.len,dQ,hb,aj,aH,jL.all,aka,xy]
        simp only [St.BO,cK,Option.isNone_none,BN,Kl,aj,Nat.zero_mul,bd,h6,hw,Option.map_some]
       ·rcases H0 (B:=B.put x (.row kx (aU P e) true bN)) (x:=x) (y:=x) (lo:=n * aU P e) (hi:=n * aU P e+(bz cC).length) (bN:=bN) with e | ⟨g,k,_,_,h3,_⟩
        ·rw [e]; simp
        ·exact absurd rfl h3
       ·intro y hy
        rcases H0 (B:=B.put x (.row kx (aU P e) true bN)) (x:=x) (y:=y) (lo:=n * aU P e) (hi:=n * aU P e+(bz cC).length) (bN:=bN) with e | ⟨g,k,h1,h2,_,h4,_⟩
        ·exact .inl (by rw [e,St.bA,aa hy])
        ·exact .inr ⟨h4,g,⟨k,h1⟩,by simpa using h2⟩
     obtain ⟨B',lI,jE,hgy,mS,fZ⟩:=key;refine ⟨_,B',E.Eu A.next (x,kx.length,n+k),lI,?_,?_⟩
     ·rw [Nat.zero_mul]; exact abm Env.zM mR (aC _) (by rw [hcl]; exact h5)
     ·
      have hli:qP (aU P e) 0 kx (bo.take n++cC):=XA (abn (h8.take n) (by omega) hw yM) (by rw [UY]; exact YT jL.size hw);exact cN.NI (A1:=A.put f .dead) (X:=fun y=>y=x) (G:=fun g=>∃ k,bN=some (g,k)) (y2:=x) (tX:=bN) h rfl GF (o6 hf (by simp)) hf1 (fun y hy=>by rw [hy]; exact sq) hf3 (.inl rfl) (by omega) jE (fun g k hk=>.inl ⟨k,hk⟩)
       (fun y _ cD=>hgy y cD) (fun y hy oO e1 own Sx hr=>by
        rw [hy,jE] at hr;simp at hr;obtain ⟨rfl,rfl,rfl,rfl⟩:=hr;rw [hy];exact ⟨cs,h6,hcl.symm⟩) (fun q y hy=>.inl (by rw [mS] at hy; exact hy)) (fun q _=>by rw [mS]) (by omega) (fun g hg=>by rw [mS]; exact h.fresh g (by omega)) (fun g y hy=>by rw [mS] at hy; rw [fZ]; exact h.mem g y hy) yM hj hrel hli
    ·
     have hb:Nat.ble (n+k) c=false:=by
      cases hq:Nat.ble (n+k) c with
      | false=>rfl
      | true=>exact absurd (dX hq) mR
     have hex:x7 B (aU P e) c (some ⟨x,0 * aU P e,none⟩)=true:=by
      simp only [x7,h6];cases bN with
      | none=>simp [h5]
      | some p=>rfl
     have hold:B.AG ⟨x,0 * aU P e,none⟩ (n * aU P e)=some (bz (bo.take n)):=by
      have:=NJ (B:=B) (b:=x) (off:=0) (n:=n) (sz:=aU P e) (r:=⟨cs,aU P e,true,bN⟩) (bo:=bo.take n) h6 (h8.take n) UY yM;simpa using this
     have aiD:∀ v∈bo.take n++cC,v.cells.size=aU P e:=fun v hv=>by
      rcases jM.1 hv with hv | hv
      ·exact aqq v hv
      ·exact jL.size v hv
     have hlen:(bz (bo.take n++cC)).length=(n+k) * aU P e:=by rw [hZ aiD,kF,UY,jL.length]
     cases bN with
     | none=>
      obtain ⟨g1,g2,g3⟩:=Ve (B:=B) (g:=B.next) (k:=0) (c:=bz (bo.take n++cC)) (n:=aU P e) (aC _);refine ⟨.slice (some ⟨B.next,0,none⟩) (n+k) (n+k),B.grow B.next 0 (bz (bo.take n++cC)) (aU P e),E.Eu A.next (B.next,(bz (bo.take n++cC)).length,n+k),?_,?_,?_⟩
      ·simp only [ke,jL.len,dQ,hb,aH,Gw,wM,hex,cz,aj,jL.all]
       simp only [IP,cK,Option.isNone_none,aj,hold,dQ,h6,tT,<- Bm]
      ·exact abm Env.zM (aC _) (aC _) (by rw [hlen])
      ·generalize B.grow B.next 0 (bz (bo.take n++cC)) (aU P e)=B' at g1 g2 g3
       exact cN.NI (A1:=A.put f .dead) (X:=fun _=>False) (G:=fun _=>False) (y2:=B.next) (tX:=some (B.next,0)) h rfl GF (o6 hf (by simp)) (fun _ _ _ _ _ _ _=>⟨id,fun _ _ _ _ _ _=>id⟩) (fun _ e=>e.elim) (fun _ e=>e.elim) (.inr (aC _)) (by omega) (by rw [g1,aD rfl]) (fun g k e=>by simp at e; exact .inr (by omega))
        (fun y hy _=>.inl (by rw [g1,aa (by omega)])) (fun _ e=>e.elim) (fun q y hy=>by
         rw [g2] at hy;split at hy
         ·rename_i e
          subst e;rcases de.1 hy with hy | hy
          ·exact .inr ⟨hy,aC _,0,rfl⟩
          ·exact .inl hy
         ·exact .inl hy) (fun q hq=>by rw [g2,aa (fun e=>hq 0 (by rw [e]))]) (by omega) (fun g hg=>by rw [g2,aa (by omega)]; exact h.fresh g (by omega)) (fun g y hy=>by
         rw [g2] at hy;split at hy
         ·rcases de.1 hy with hy | hy
          ·omega
          ·have:=h.mem _ y hy; omega
         ·have:=h.mem g y hy; omega) yM hj hrel (lQ aiD)
     | some p=>
      obtain ⟨g,k0⟩:=p;have hgB:g < B.next:=(hf3 g ⟨k0,rfl⟩).2.1;have kg:∀ y,(B.kill B.next (k0+(0+n * aU P e)) (k0+(0+n * aU P e)+(bz cC).length) (B.members g)).get y=B.get y\/((B.kill B.next (k0+(0+n * aU P e)) (k0+(0+n * aU P e)+(bz cC).length) (B.members g)).get y=some .dead/\y∈B.members g):=fun y=>by
       rw [EG];by_cases hc:y∈B.members g/\y≠B.next/\rQ (B.get y) (k0+(0+n * aU P e)) (k0+(0+n * aU P e)+(bz cC).length)=true
       ·exact .inr ⟨by rw [aD hc],hc.1⟩
       ·exact .inl (by rw [aa hc])
      have km:(B.kill B.next (k0+(0+n * aU P e)) (k0+(0+n * aU P e)+(bz cC).length) (B.members g)).members=B.members:=by simp
      have kn:(B.kill B.next (k0+(0+n * aU P e)) (k0+(0+n * aU P e)+(bz cC).length) (B.members g)).next=B.next:=by simp
      obtain ⟨g1,g2,g3⟩:=Ve (B:=B.kill B.next (k0+(0+n * aU P e)) (k0+(0+n * aU P e)+(bz cC).length) (B.members g)) (g:=g) (k:=k0+0) (c:=bz (bo.take n++cC)) (n:=aU P e) (by omega);rw [kn] at g3;have g1:∀ y,y≠B.next->_:=fun y hy=>(g1 y).trans (aa (by rw [kn]; exact hy));have g1':=(Ve (B:=B.kill B.next (k0+(0+n * aU P e)) (k0+(0+n * aU P e)+(bz cC).length) (B.members g)) (g:=g) (k:=k0+0) (c:=bz (bo.take n++cC)) (n:=aU P e) (by omega)).1 B.next;rw [kn,aD rfl] at g1';simp only [km,kn] at g2;refine ⟨.slice (some ⟨B.next,0,none⟩) (n+k) (n+k),(B.kill B.next (k0+(0+n * aU P e)) (k0+(0+n * aU P e)+(bz cC).length) (B.members g)).grow g (k0+0) (bz (bo.take n++cC)) (aU P e),E.Eu A.next (B.next,(bz (bo.take n++cC)).length,n+k),?_,?_,?_⟩
      ·simp only [ke,jL.len,dQ,hb,aH,Gw,wM,hex,cz,aj,jL.all]
       have ae4:=hold;rw [Nat.zero_mul] at ae4;simp only [IP,cK,Option.isNone_none,aj,Nat.zero_mul,ae4,dQ,h6,tT,<- Bm]
      ·exact abm Env.zM (aC _) (aC _) (by rw [hlen])
      ·generalize (B.kill B.next (k0+(0+n * aU P e)) (k0+(0+n * aU P e)+(bz cC).length) (B.members g)).grow g (k0+0) (bz (bo.take n++cC)) (aU P e)=B' at g1 g1' g2 g3
       have gy:∀ y,y≠B.next->B'.get y=B.get y\/(B'.get y=some .dead/\y∈B.members g):=fun y hy=>by
        rw [g1 y hy]; exact kg y
       exact cN.NI (A1:=A.put f .dead) (X:=fun y=>y=x) (G:=fun q=>∃ k,some (g,k0)=some (q,k)) (y2:=B.next) (tX:=some (g,k0+0)) h rfl GF (o6 hf (by simp)) hf1 (fun y hy=>by rw [hy]; exact sq) hf3 (.inr (aC _)) (by omega) g1' (fun q k e=>by simp at e; exact .inl ⟨k0,by rw [e.1]⟩)
        (fun y hy _=>(gy y (by omega)).imp id fun ⟨q1,q2⟩=>⟨q1,g,⟨k0,rfl⟩,q2⟩) (fun y hy oO e1 own Sx hr=>by
         have hy:y=x:=hy;rcases gy y (by omega) with q | ⟨q,_⟩
         ·rw [q] at hr; exact ⟨oO,hr,rfl⟩
         ·rw [q] at hr; simp at hr) (fun q y hy=>by
         rw [g2] at hy;split at hy
         ·rename_i e
          subst e;rcases de.1 hy with hy | hy
          ·exact .inr ⟨hy,aC _,k0+0,rfl⟩
          ·exact .inl hy
         ·exact .inl hy) (fun q hq=>by rw [g2,aa (fun e=>hq (k0+0) (by rw [e]))]) (by omega) (fun q hq=>by rw [g2,aa (by omega)]; exact h.fresh q (by omega)) (fun q y hy=>by
         rw [g2] at hy;split at hy
         ·rcases de.1 hy with hy | hy
          ·omega
          ·have:=h.mem _ y hy; omega
         ·have:=h.mem q y hy; omega) yM hj hrel (lQ aiD)
  ·exact hg.elim
 ·exact hg.elim
def aoV (P:Program) (f:FA) (g:St->List Value->Option Value):Prop:=
 ∀ (E:Env) (A A' : ae) (B:St) (vs:List KV) (us:List Value) (v:KV),dr P E A B->aV P E vs us->aI (f A vs) (v,A')->∃ u E',g B us=some u/\VK P E' v u/\cN P E A B E' A' B
theorem aiE {o:Oper} {f:FA} {g:St->List Value->Option Value} {xs:List Operand} (hc:compile P o.op = .read g xs) (hs:aoV P f g):I6 P o (.act f xs):=by
 intro E A A' B ρ base w ev cF v hj hv hg;obtain ⟨em,h1,h2⟩:=mid hv;obtain ⟨u,E',h3,h4,h5⟩:=hs E A A' B _ _ v hj.k h1 hg;have cI:=rB P o;rw [hc] at cI;obtain ⟨v',h6,h7⟩:=cI ρ B base w em cF u hj.s.rel h2 h3;exact ⟨E',B,ρ,v',.value v',w,h7,rfl,⟨u,h4,h6⟩,h5.ev (.refl hj.s)⟩
theorem agv {n:Nat} {lo hi:Bool} (h1n:1<=n):aoV P (Xi P n lo hi) (vr n lo hi false):=by
 intro E A A' B vs us v h hv hg;unfold Xi at hg;split at hg
 ·rename_i T f o m r
  split at hg
  ·rename_i T' mk N es ac hf
   split at hg
   ·rename_i x y hb
    obtain ⟨he,Pf⟩:=hg.cond;simp only [ao,l9] at he;obtain ⟨⟨⟨dT,hT⟩,ho⟩,rfl⟩:=he;have dT:aU P T=n:=aL dT;have:=aL hT;subst this;have:=aL ho;subst this;obtain ⟨hc,hg3⟩:=aI.jQ Pf;simp only [ao,l9] at hc;obtain ⟨h0,h1⟩:=hc;simp only [dt] at hg3;obtain ⟨rfl,rfl⟩:=hg3;obtain ⟨u,r',rfl,hu,h4⟩:=hv.cons_inv;have GF:=abo h hf;rcases hu.yL with ⟨rfl,_,rfl⟩ | ⟨x,L,N0,c,h2,rfl,h3,h3',h5⟩
    ·have Lw:=F2 (cap:=0) hb h4 (Int.le_refl _) h0 h1 (aC _)
     have hy:y.toNat=0:=by omega
     refine ⟨.slice none 0 0,E,by simp [vr,Lw,hy],?_,?_⟩
     ·rw [hy]; exact .PN (.inl ⟨rfl,rfl,rfl⟩)
     ·rw [hy]; exact cN.aj9 h rfl GF (o6 hf (by simp)) (by omega)
    ·obtain ⟨T2,N2,pt,ay,e2,ht,_,yu⟩:=h.ar.arr f _ hf
     simp only [KV.ts.injEq] at e2;obtain ⟨rfl,rfl,rfl,rfl,rfl⟩:=e2;rcases yu with ⟨_,e2⟩ | ⟨x2,cs,bN,bo,e2,h6,h7,h8⟩
     ·rw [h2] at e2; simp at e2
     rw [h2] at e2;simp only [bQ,dt] at e2;obtain ⟨rfl,rfl,rfl⟩:=e2;have sq:AR A E x:=⟨f,_,_,_,hf,h2⟩
     have aoU:x < B.next:=h.I5 sq;have TI:bo.length=N0:=by rw [h7.length]; exact ht.len.symm
     have hym:y.toNat<=N0:=by omega
     have htk:hX P T y.toNat (es.take y.toNat) ac:=⟨by rw [kZ,<- ht.len]; omega,fun i hi=>by rw [ht.acc i (by omega),fH,fH,mn,aD hi],o7 fun i x hi=>by
      rw [mn] at hi;split at hi
      ·exact gL ht.typed hi
      ·simp at hi⟩
     have pj:∀ c v,(A.put f .dead).get c=some (.arr v)->c≠f/\A.get c=some (.arr v):=fun c v hc=>by
      rw [ae.bA] at hc;split at hc
      ·simp at hc
      ·rename_i e; exact ⟨e,hc⟩
     have hf1:∀ c v,(A.put f .dead).get c=some (.arr v)->∀ y L N,E.α c=some (y,L,N)->¬ (y=x)/\∀ oO e1 own g k1,B.get y=some (.row oO e1 own (some (g,k1)))->¬ (∃ k,bN=some (g,k)):=fun c v hc y L N hy=>by
      obtain ⟨cD,hc⟩:=pj c v hc;refine ⟨fun e=>cD (h.ar.inj c f v _ x L N _ _ hc hf (by rw [<- e]; exact hy) h2),fun oO e1 own g k1 hr ⟨k2,hk⟩=>?_⟩;rw [hk] at h6;exact cD (h.ar.xz c f v _ y x L N _ _ _ _ _ g k1 _ _ _ k2 hc hf hy h2 hr h6)
     have hf3:∀ g,(∃ k,bN=some (g,k))->AF A E B g/\g < B.next/\(∀ f,E.φ f≠some g)/\∀ y∈B.members g,¬ (y=x)->E.z y=none/\¬ AR A E y/\∀ c,E.κ c≠some y:=fun g ⟨k2,hk⟩=>by
      rw [hk] at h6;obtain ⟨q1,q2,q3⟩:=h.ar.vD f _ x _ _ _ _ _ g k2 hf h2 h6;exact ⟨⟨f,_,x,_,_,_,_,_,k2,hf,h2,h6⟩,q1,q2,fun y hy cD=>q3 y hy cD⟩
     have h5:c * aU P T=cs.length:=by simpa using h5
     have Lw:=F2 (cap:=c) hb h4 (Int.le_refl _) h0 h1 (by omega);refine ⟨.slice (some ⟨x,0,none⟩) y.toNat c,E.Eu A.next (x,cs.length,y.toNat),?_,abm Env.zM (by omega) (aC _) h5,?_⟩
     ·simp [vr,Lw,cK,Dc,h6,dT]
     ·exact cN.NI (A1:=A.put f .dead) (X:=fun y=>y=x) (G:=fun g=>∃ k,bN=some (g,k)) (y2:=x) (tX:=bN) h rfl GF (o6 hf (by simp)) hf1 (fun y hy=>by rw [hy]; exact sq) hf3 (.inl rfl) aoU h6 (fun g k hk=>.inl ⟨k,hk⟩)
       (fun y _ _=>.inl rfl) (fun y hy oO e1 own Sx hr=>⟨oO,hr,rfl⟩) (fun q y hy=>.inl hy) (fun q _=>rfl) (aC _) h.fresh h.mem (by omega) htk (h7.take _) (h8.take _)
   ·exact hg.elim
  ·exact hg.elim
 ·exact hg.elim
theorem cN.apC {A:ae} {B:St} {b:Nat} {v2:KV} (h:dr P E A B) (hb:∃ v,A.get b=some (.arr v)) (cI:aa0 P E B b v2):cN P E A B E (A.put b (.arr v2)) B:=by
 obtain ⟨v0,hb⟩:=hb;have fM:∀ c o,(A.put b (.arr v2)).get c=some o->(c=b/\o = .arr v2)\/A.get c=some o:=fun c o hc=>by
  rw [ae.bA] at hc;split at hc
  ·rename_i e; simp at hc; exact .inl ⟨e,hc.symm⟩
  ·exact .inr hc
 have hA:∀ c v,(A.put b (.arr v2)).get c=some (.arr v)->∃ u,A.get c=some (.arr u):=fun c v hc=>by
  rcases fM c _ hc with ⟨e,_⟩ | e
  ·exact ⟨v0,by rw [e]; exact hb⟩
  ·exact ⟨v,e⟩
 have sq:∀ y,AR (A.put b (.arr v2)) E y->AR A E y:=fun y ⟨c,v,L,N,h1,h2⟩=>by
  obtain ⟨u,hu⟩:=hA c v h1;exact ⟨c,u,L,N,hu,h2⟩
 have LG:∀ g,AF (A.put b (.arr v2)) E B g->AF A E B g:=fun g ⟨c,v,x,L,N,cs,e,own,k,h1,h2,h3⟩=>by
  obtain ⟨u,hu⟩:=hA c v h1;exact ⟨c,u,x,L,N,cs,e,own,k,hu,h2,h3⟩
 refine ⟨⟨fun c cs bp hc=>?_,fun c top sz hc=>?_,h.z,h.apart,h.inj,?_,h.jP,h.kR,fun c o hc=>?_,h.eV,h.lJ,h.iv,h.fresh,h.mem,?_⟩,Env.le_refl _,aC _,fun _ _ _ _=>rfl,fun _ _ e=>.inl e,fun _ _ e=>.inl e,fun _ _ e=>.inl e,fun _ _ _ _=>rfl,fun x q=>.inl (sq x q),fun g q=>.inl (LG g q),fun _ _ q=>.inl q,fun y q=>.inl (q.imp (sq y) fun ⟨g,q1,q2⟩=>⟨g,LG g q1,q2⟩),mv fun _ _=>rfl,o6 hb (by simp)⟩
 ·rcases fM c _ hc with ⟨_,e⟩ | e
  ·simp at e
  ·exact h.row c cs bp e
 ·rcases fM c _ hc with ⟨_,e⟩ | e
  ·simp at e
  ·exact h.aP c top sz e
 ·exact h.gK.put (.inl fun t s=>by simp)
 ·rw [ae.sF]
  rcases fM c _ hc with ⟨e,_⟩ | e
  ·rw [e]; exact h.live b _ hb
  ·exact h.live c o e
 ·refine ⟨fun c v hc=>?_,fun c v hc=>?_,fun x q=>h.ar.z x (sq x q),fun c d v u x L N L' N' h1 h2 h3 h4=>?_,fun c d v u x y L N L' N' cs e own g k bP e' rC k' h1 h2 h3 h4=>?_,h.ar.dis,h.ar.jP,h.ar.eV,fun c v x L N cs e own g k h1 h2 h3=>?_,fun c v hc=>?_⟩
  ·rcases fM c _ hc with ⟨e,e2⟩ | e
   ·simp at e2; rw [e2,e]; exact cI
   ·exact h.ar.arr c v e
  ·rcases fM c _ hc with ⟨_,e⟩ | e
   ·simp at e
   ·exact h.ar.iG c v e
  ·obtain ⟨v',h1⟩:=hA c v h1
   obtain ⟨u',h2⟩:=hA d u h2;exact h.ar.inj c d v' u' x L N L' N' h1 h2 h3 h4
  ·obtain ⟨v',h1⟩:=hA c v h1
   obtain ⟨u',h2⟩:=hA d u h2;exact h.ar.xz c d v' u' x y L N L' N' cs e own g k bP e' rC k' h1 h2 h3 h4
  ·obtain ⟨v',h1⟩:=hA c v h1
   obtain ⟨q1,q2,q3⟩:=h.ar.vD c v' x L N cs e own g k h1 h2 h3;exact ⟨q1,q2,fun y hy cD=>⟨(q3 y hy cD).1,fun q=>(q3 y hy cD).2.1 (sq y q),(q3 y hy cD).2.2⟩⟩
  ·obtain ⟨v',h1⟩:=hA c v hc
   rw [ae.sF];exact h.ar.nk c v' h1
theorem abq {es new:List KV} {o:Nat} (h:o+new.length<=es.length):(Dn es o new).length=es.length:=by
 simp only [Dn,kF,kZ,List.length_drop];omega
theorem agw {es new:List KV} {o i:Nat} (h:o+new.length<=es.length):(Dn es o new)[i]? = if i < o then es[i]? else if i < o+new.length then new[i - o]? else es[i]?:=by
 unfold Dn;by_cases h1:i < o
 ·rw [aD h1,List.append_assoc,qS (by rw [kZ]; omega),mn,aD h1]
 ·rw [aa h1]
  by_cases h2:i < o+new.length
  ·rw [aD h2,qS (by rw [kF,kZ]; omega),tS (by rw [kZ]; omega),kZ]
   congr 1;omega
  ·rw [aa h2,tS (by rw [kF,kZ]; omega),pf,kF,kZ]
   congr 1;omega
theorem adM {T:TypeId} {N m o k:Nat} {es new:List KV} {acc an:Nat->KV} (ht:hX P T N es acc) (hn:hX P T m new an) (hk:k<=m) (ho:o+k<=N):hX P T N (Dn es o (new.take k)) (aB o k acc an):=by
 have hl:(new.take k).length=k:=by rw [kZ,<- hn.len]; omega
 have mR:o+(new.take k).length<=es.length:=by rw [hl,<- ht.len]; exact ho
 have n5:=fun i=>agw (i:=i) mR;rw [hl] at n5;refine ⟨by rw [abq mR]; exact ht.len,fun i hi=>?_,o7 fun i x hx=>?_⟩
 ·rw [fH,n5]
  unfold aB;by_cases h1:i < o
  ·rw [aD h1,show Nat.blt i o=true from bI ▸ h1,aj,ht.acc i hi,fH]
  ·have e1:Nat.blt i o=false:=by
    cases hb:Nat.blt i o with
    | false=>rfl
    | true=>exact absurd (bI ▸ hb) h1
   rw [aa h1,e1,aH];by_cases h2:i < o+k
   ·rw [aD h2,show Nat.blt i (o+k)=true from bI ▸ h2,aj,mn,aD (by omega),hn.acc (i - o) (by omega),fH]
   ·have e2:Nat.blt i (o+k)=false:=by
     cases hb:Nat.blt i (o+k) with
     | false=>rfl
     | true=>exact absurd (bI ▸ hb) h2
    rw [aa h2,e2,aH,ht.acc i hi,fH]
 ·rw [n5] at hx
  split at hx
  ·exact gL ht.typed hx
  ·split at hx
   ·rw [mn] at hx
    split at hx
    ·exact gL hn.typed hx
    ·simp at hx
   ·exact gL ht.typed hx
theorem agx {sz o:Nat} {cs r vs es:List Value} (hl:qP sz (o * sz+vs.length) cs es) (hw:gH (o * sz) cs vs=some r):qP sz (o * sz+vs.length) r es:=fun i x hi=>by
 obtain ⟨h1,h2⟩:=hl i x hi;obtain ⟨_,_,h3⟩:=gI hw;exact ⟨h1,fun k y hy=>by rw [h3,aa (by omega)]; exact h2 k y hy⟩
theorem amE {e n:Nat} (hn:aU P e=n) (h1n:1<=n):aj0 P (aip e) (aaw n):=by
 intro E A A' B vs us v h hv hg;unfold aip at hg;split at hg
 ·rename_i e1 b o q y
  obtain ⟨u,w,rfl,h1,h2⟩:=hv.kf;split at hg
  ·rename_i e' mk m new an e2 mk2 N es acc hy hb
   obtain ⟨he,Pf⟩:=hg.cond;clear hg;simp only [ao] at he;have:=aL he.1.1;subst this;have:=aL he.1.2;subst this;have:=aL he.2;subst this;have yM:1<=aU P e:=by omega
   obtain ⟨cC,jL⟩:=aj5 h h2 hy yM;have Pf:(KV.int .i64 (Nat.min m q:Nat),A.put b (.arr (.ts e .any N (Dn es o (new.take (Nat.min m q))) (aB o (Nat.min m q) acc an))))=(v,A'):=Pf;simp only [dt] at Pf;obtain ⟨rfl,rfl⟩:=Pf;obtain ⟨T2,N2,pt,ay,e2,ht,_,yu⟩:=h.ar.arr b _ hb;simp only [KV.ts.injEq] at e2;obtain ⟨rfl,rfl,rfl,rfl,rfl⟩:=e2;have WO:Nat.min m q<=m:=Nat.min_le_left _ _;have hkq:Nat.min m q<=q:=Nat.min_le_right _ _;have hf:=jL.first _ WO
   rw [hn] at hf;rcases h1.yL with ⟨rfl,rfl,rfl⟩ | ⟨x,L,N0,c,p2,rfl,p3,p4,p5⟩
   ·
    have xy:Nat.min m 0=0:=Nat.min_zero m;refine ⟨.int .i64 (Int.ofNat (Nat.min m 0)),B,E,?_,.mkInt,cN.apC h ⟨_,hb⟩ ?_⟩
    ·simp only [aaw,jL.len,dQ,hf]
    ·have hp:=adM (o:=0) ht jL.tree WO (by rw [xy]; omega)
     refine ⟨_,_,_,_,rfl,hp,yM,?_⟩;have TH:Dn es 0 (new.take (Nat.min m 0))=es:=by rw [xy]; simp [Dn]
     rw [TH];exact yu
   ·rcases yu with ⟨_,e2⟩ | ⟨x2,cs,bN,bo,e2,h6,h7,h8⟩
    ·rw [p2] at e2; simp at e2
    rw [p2] at e2;simp only [bQ,dt] at e2;obtain ⟨rfl,rfl,rfl⟩:=e2;have TI:bo.length=N0:=by rw [h7.length]; exact ht.len.symm
    have gz:∀ v∈cC.take (Nat.min m q),v.cells.size=aU P e:=fun v hv=>jL.size v (List.mem_of_mem_take hv);have aoW:(cC.take (Nat.min m q)).length=Nat.min m q:=by rw [kZ,jL.length]; exact Nat.min_eq_left WO
    have Ki:(bz (cC.take (Nat.min m q))).length=Nat.min m q * aU P e:=by rw [hZ gz,aoW]
    have hle:o * aU P e+(bz (cC.take (Nat.min m q))).length<=cs.length:=by
     rw [Ki,<- p5,<- Nat.add_mul];exact Nat.mul_le_mul_right _ (by omega)
    obtain ⟨kx,hw⟩:=Dv (o * aU P e) cs (bz (cC.take (Nat.min m q))) hle;have hcl:kx.length=cs.length:=(gI hw).1;have Kl:(bz (cC.take (Nat.min m q))).all scalar=true:=fk.2 (Bn fun v hv=>(mw jL.tree.typed jL.rel v (List.mem_of_mem_take hv)).2);have hp:=adM (o:=o) ht jL.tree WO (by omega);have Xz:(bo.take o).length=o:=by rw [kZ]; omega
    have hrel:aV P E (Dn es o (new.take (Nat.min m q))) (bo.take o++cC.take (Nat.min m q)++bo.drop (o+Nat.min m q)):=by
     unfold Dn;have hlk:(new.take (Nat.min m q)).length=Nat.min m q:=by rw [kZ,<- jL.tree.len]; exact Nat.min_eq_left WO
     rw [hlk];exact ((h7.take o).append (jL.rel.take _)).append (h7.drop _)
    have hli:qP (aU P e) 0 kx (bo.take o++cC.take (Nat.min m q)++bo.drop (o+Nat.min m q)):=by
     refine XA (XA (abn (h8.take o) (by omega) hw yM) (by rw [Xz]; exact YT gz hw)) ?_;have e3:(bo.take o++cC.take (Nat.min m q)).length * aU P e=o * aU P e+(bz (cC.take (Nat.min m q))).length:=by rw [kF,Xz,aoW,Ki,Nat.add_mul]
     rw [e3];refine agx ?_ hw;have:=h8.drop (o+Nat.min m q);rw [bd,Nat.add_mul] at this;rw [Ki];exact this
    have gz:=cN.aj2 (lo:=o * aU P e) (hi:=o * aU P e+(bz (cC.take (Nat.min m q))).length) h ⟨_,hb⟩ p2 h6 hcl yM hp hrel hli;refine ⟨.int .i64 (Int.ofNat (Nat.min m q)),_,E,?_,.mkInt,gz⟩;subst hn;simp only [aaw,jL.len,dQ,hf,St.BO,cK,Option.isNone_none,BN,Kl,aj,h6,hw,Option.map_some]
  ·exact hg.elim
 ·exact hg.elim
theorem agy {e n b:Nat} {mt:Bool} (hn:aU P e=n) (h1n:1<=n):aj0 P (Mq e n b mt) (ke n b):=by
 intro E A A' B vs us v h hv hg;unfold Mq at hg;split at hg
 ·rename_i x y
  obtain ⟨u,w,rfl,h1,h2⟩:=hv.kf;split at hg
  ·rename_i y' hy
   have yM:1<=aU P e:=by omega
   have hts:∃ T m k es acc,y' = .ts T m k es acc:=by
    unfold PH at hy;split at hy
    ·unfold aeM at hy
     split at hy
     ·rename_i T' b' o' n' _ T2 _ _ pt ay _
      cases hb:Nat.beq T' T2 with
      | false=>rw [hb] at hy; simp at hy
      | true=>rw [hb,aj] at hy; simp only [bQ] at hy; exact ⟨_,_,_,_,_,hy.symm⟩
     ·simp at hy
    ·simp only [bQ] at hy; exact ⟨_,_,_,_,_,hy.symm⟩
    ·simp at hy
   obtain ⟨T,m,k,es,acc,rfl⟩:=hts;have hsr:Nat.beq e T=true->∃ bo,Src P E B T k es acc w bo:=fun he=>by
    have:=aL he;subst this;exact aj5 h h2 hy yM
   subst hn;cases hx:amr x with
   | true=>rw [hx,aj] at hg; exact abp yM h h1 hsr hg
   | false=>
    rw [hx,aH] at hg;cases mt with
    | true=>rw [aj] at hg; exact abp yM h h1 hsr hg
    | false=>rw [aH] at hg; exact aiB rfl yM h h1 hsr hg
  ·exact hg.elim
 ·exact hg.elim
end Go.K
end
section
namespace Go.K
open Go Go.aG
variable {P:Program} {E:Env}
theorem cN.akb {E1 E2:Env} {A A1 A2:ae} {B:St} (h:cN P E A B E1 A1 B) (k:cN P E1 A1 B E2 A2 B):cN P E A B E2 A2 B where
 fY:=k.fY
 le:=Env.le_trans h.le k.le
 next:=hD h.next k.next
 dR _ _ _ _:=rfl
 new b x e:=(k.new b x e).elim (h.new b x) fun q=>.inr ⟨hD h.next q.1,q.2⟩
 ud b r e:=by
  rcases k.ud b r e with e | e | e
  ·exact h.ud b r e
  ·exact .inr (h.kA b e)
  ·exact .inr (.inr e)
 su b g e:=(k.su b g e).elim (h.su b g) .inr
 o5 _ _ _ _:=rfl
 kA x q:=(k.kA x q).elim (h.kA x) .inr
 kS g q:=(k.kS g q).elim (h.kS g) .inr
 vE _ _ q:=.inl q
 mh y q:=(k.mh y q).elim (h.mh y) .inr
 rows:=mv fun _ _=>rfl
 Dq b q:=k.Dq b (h.Dq b q)
theorem cN.refl {A:ae} {B:St} (h:dr P E A B):cN P E A B E A B:=
 ⟨h,Env.le_refl _,aC _,fun _ _ _ _=>rfl,fun _ _ e=>.inl e,fun _ _ e=>.inl e,fun _ _ e=>.inl e,fun _ _ _ _=>rfl,fun _ q=>.inl q,fun _ q=>.inl q,fun _ _ q=>.inl q,fun _ q=>.inl q,mv fun _ _=>rfl,fun _ e=>e⟩
theorem Env.amF {A:ae} {B:St} {x:Nat} {r:agd} (h:dr P E A B) (hx:AR A E x):E.le (E.eM x r):=⟨fun _ _ e=>e,fun _ _ e=>e,fun b q e=>by
 simp only [Env.eM];rw [aa]
 ·exact e
 ·intro e2; subst e2
  have:=(h.ar.z b hx).1;rw [e] at this; simp at this,fun _ _ e=>e⟩
theorem cN.iG {A:ae} {B:St} {b x N:Nat} {T:TypeId} {m:Mk} {es:List KV} {acc:Nat->KV} {cs:List Value} {bN:Option (Nat×Nat)} {bo:List Value} (h:dr P E A B) (hb:A.get b=some (.arr (.ts T m N es acc))) (hx:E.α b=some (x,cs.length,N))
  (fv:B.get x=some (.row cs (aU P T) true bN)) (ht:hX P T N es acc) (hm:m = .any) (dT:1<=aU P T) (TH:aV P E es bo) (hl:qP (aU P T) 0 cs bo) :
  cN P E A B (E.eM x ⟨cs,aU P T,true,bN⟩) (A.put b (.iG (.ts T m N es acc))) B:=by
 subst hm;have sq:AR A E x:=⟨b,_,_,_,hb,hx⟩
 have hle:=Env.amF (r:=⟨cs,aU P T,true,bN⟩) h sq;have hzx:(E.eM x ⟨cs,aU P T,true,bN⟩).z x=some ⟨cs,aU P T,true,bN⟩:=by simp [Env.eM]
 have PV:∀ c r,(E.eM x ⟨cs,aU P T,true,bN⟩).z c=some r->E.z c=some r\/(c=x/\r=⟨cs,aU P T,true,bN⟩):=fun c r e=>by
  simp only [Env.eM] at e;split at e
  ·rename_i e2; simp at e; exact .inr ⟨e2,e.symm⟩
  ·exact .inl e
 have fM:∀ c o,(A.put b (.iG (.ts T .any N es acc))).get c=some o->(c=b/\o = .iG (.ts T .any N es acc))\/(c≠b/\A.get c=some o):=fun c o hc=>by
  rw [ae.bA] at hc;split at hc
  ·rename_i e; simp at hc; exact .inl ⟨e,hc.symm⟩
  ·rename_i e; exact .inr ⟨e,hc⟩
 have hA:∀ c v,(A.put b (.iG (.ts T .any N es acc))).get c=some (.arr v)->c≠b/\A.get c=some (.arr v):=fun c v hc=>by
  rcases fM c _ hc with ⟨_,e⟩ | e
  ·simp at e
  ·exact e
 have akc:∀ y,AR (A.put b (.iG (.ts T .any N es acc))) E y->AR A E y/\y≠x:=fun y ⟨c,v,L,M,h1,h2⟩=>by
  obtain ⟨h3,h4⟩:=hA c v h1;refine ⟨⟨c,v,L,M,h4,h2⟩,fun e=>h3 ?_⟩;subst e;exact h.ar.inj c b v _ y L M _ _ h4 hb h2 hx
 have LG:∀ g,AF (A.put b (.iG (.ts T .any N es acc))) E B g->AF A E B g:=fun g ⟨c,v,y,L,M,cs,e,own,k,h1,h2,h3⟩=>⟨c,v,y,L,M,cs,e,own,k,(hA c v h1).2,h2,h3⟩
 refine ⟨⟨fun c oO bp hc=>?_,fun c top sz hc=>?_,fun y r hy=>?_,fun c y hc=>?_,h.inj,?_,h.jP,h.kR,fun c o hc=>?_,h.eV,fun y r hy=>?_,h.iv,h.fresh,h.mem,?_⟩,hle,aC _,fun _ _ _ _=>rfl,fun _ _ e=>.inl e,fun y r e=>?_,fun _ _ e=>.inl e,fun _ _ _ _=>rfl,fun y q=>.inl (akc y q).1,fun g q=>.inl (LG g q),fun _ _ q=>.inl q,fun y q=>.inl (q.imp (fun q=>(akc y q).1) fun ⟨g,q1,q2⟩=>⟨g,LG g q1,q2⟩),mv fun _ _=>rfl,o6 hb (by simp)⟩
 ·rcases fM c _ hc with ⟨_,e⟩ | ⟨_,e⟩
  ·simp at e
  ·obtain ⟨y,d,h1,h2,h3⟩:=h.row c oO bp e
   exact ⟨y,d,h1,h2,h3.mono hle⟩
 ·rcases fM c _ hc with ⟨_,e⟩ | ⟨_,e⟩
  ·simp at e
  ·exact h.aP c top sz e
 ·rcases PV y r hy with e | ⟨rfl,rfl⟩
  ·exact h.z y r e
  ·exact fv
 ·have hc:E.κ c=some y:=hc
  cases hz:(E.eM x ⟨cs,aU P T,true,bN⟩).z y with
  | none=>rfl
  | some r=>
   rcases PV y r hz with e | ⟨rfl,_⟩
   ·rw [h.apart c y hc] at e; simp at e
   ·exact absurd hc ((h.ar.z y sq).2 c)
 ·exact h.gK.put (.inl fun t s=>by simp)
 ·rw [ae.sF]
  rcases fM c _ hc with ⟨e,_⟩ | ⟨_,e⟩
  ·rw [e]; exact h.live b _ hb
  ·exact h.live c o e
 ·rcases PV y r hy with e | ⟨rfl,_⟩
  ·exact h.lJ y r e
  ·exact h.I5 sq
 ·refine ⟨fun c v hc=>?_,fun c v hc=>?_,fun y q=>?_,fun c d v u y L M L' M' h1 h2 h3 h4=>h.ar.inj c d v u y L M L' M' (hA c v h1).2 (hA d u h2).2 h3 h4,fun c d v u y w L M L' M' oO e own g k bP e' rC k' h1 h2 h3 h4=>h.ar.xz c d v u y w L M L' M' oO e own g k bP e' rC k' (hA c v h1).2 (hA d u h2).2 h3 h4,h.ar.dis,h.ar.jP,h.ar.eV,fun c v y L M oO e own g k h1 h2 h3=>?_,fun c v hc=>h.ar.nk c v (hA c v hc).2⟩
  ·exact (h.ar.arr c v (hA c v hc).2).mono hle rfl fun _ _ _ _=>rfl
  ·rcases fM c _ hc with ⟨e,e2⟩ | ⟨_,e⟩
   ·simp at e2
    subst e2;exact ⟨T,N,es,acc,rfl,ht,dT,.inr ⟨x,⟨cs,aU P T,true,bN⟩,bo,by rw [e]; exact hx,hzx,rfl,TH.mono hle,hl⟩⟩
   ·exact (h.ar.iG c v e).mono hle rfl
  ·obtain ⟨q1,q2⟩:=akc y q
   refine ⟨?_,(h.ar.z y q1).2⟩;simp only [Env.eM];rw [aa q2];exact (h.ar.z y q1).1
  ·obtain ⟨cD,h1⟩:=hA c v h1
   obtain ⟨q1,q2,q3⟩:=h.ar.vD c v y L M oO e own g k h1 h2 h3;refine ⟨q1,q2,fun z hz hzy=>?_⟩;obtain ⟨q4,q5,q6⟩:=q3 z hz hzy;refine ⟨?_,fun q=>q5 (akc z q).1,q6⟩;simp only [Env.eM];rw [aa]
   ·exact q4
   ·intro e2
    subst e2;exact q5 sq
 ·rcases PV y r e with e | ⟨rfl,_⟩
  ·exact .inl e
  ·exact .inr (.inl sq)
theorem cN.apD {A:ae} {B:St} {b:Nat} {T:TypeId} {m:Mk} {N:Nat} {es:List KV} {acc:Nat->KV} (h:dr P E A B) (hb:A.get b=some (.arr (.ts T m N es acc))) (cI:U8 P E b (.ts T m N es acc)) (uc:E.α b=none):cN P E A B E (A.put b (.iG (.ts T m N es acc))) B:=by
 have fM:∀ c o,(A.put b (.iG (.ts T m N es acc))).get c=some o->(c=b/\o = .iG (.ts T m N es acc))\/A.get c=some o:=fun c o hc=>by
  rw [ae.bA] at hc;split at hc
  ·rename_i e; simp at hc; exact .inl ⟨e,hc.symm⟩
  ·exact .inr hc
 have hA:∀ c v,(A.put b (.iG (.ts T m N es acc))).get c=some (.arr v)->A.get c=some (.arr v):=fun c v hc=>by
  rcases fM c _ hc with ⟨_,e⟩ | e
  ·simp at e
  ·exact e
 have sq:∀ y,AR (A.put b (.iG (.ts T m N es acc))) E y->AR A E y:=fun y ⟨c,v,L,M,h1,h2⟩=>⟨c,v,L,M,hA c v h1,h2⟩
 have LG:∀ g,AF (A.put b (.iG (.ts T m N es acc))) E B g->AF A E B g:=fun g ⟨c,v,y,L,M,cs,e,own,k,h1,h2,h3⟩=>⟨c,v,y,L,M,cs,e,own,k,hA c v h1,h2,h3⟩
 have _:=uc;refine ⟨⟨fun c oO bp hc=>?_,fun c top sz hc=>?_,h.z,h.apart,h.inj,?_,h.jP,h.kR,fun c o hc=>?_,h.eV,h.lJ,h.iv,h.fresh,h.mem,?_⟩,Env.le_refl _,aC _,fun _ _ _ _=>rfl,fun _ _ e=>.inl e,fun y r e=>.inl e,fun _ _ e=>.inl e,fun _ _ _ _=>rfl,fun y q=>.inl (sq y q),fun g q=>.inl (LG g q),fun _ _ q=>.inl q,fun y q=>.inl (q.imp (sq y) fun ⟨g,q1,q2⟩=>⟨g,LG g q1,q2⟩),mv fun _ _=>rfl,o6 hb (by simp)⟩
 ·rcases fM c _ hc with ⟨_,e⟩ | e
  ·simp at e
  ·exact h.row c oO bp e
 ·rcases fM c _ hc with ⟨_,e⟩ | e
  ·simp at e
  ·exact h.aP c top sz e
 ·exact h.gK.put (.inl fun t s=>by simp)
 ·rw [ae.sF]
  rcases fM c _ hc with ⟨e,_⟩ | e
  ·rw [e]; exact h.live b _ hb
  ·exact h.live c o e
 ·refine ⟨fun c v hc=>h.ar.arr c v (hA c v hc),fun c v hc=>?_,fun y q=>h.ar.z y (sq y q),fun c d v u y L M L' M' h1 h2 h3 h4=>h.ar.inj c d v u y L M L' M' (hA c v h1) (hA d u h2) h3 h4,fun c d v u y w L M L' M' oO e own g k bP e' rC k' h1 h2 h3 h4=>h.ar.xz c d v u y w L M L' M' oO e own g k bP e' rC k' (hA c v h1) (hA d u h2) h3 h4,h.ar.dis,h.ar.jP,h.ar.eV,fun c v y L M oO e own g k h1 h2 h3=>?_,fun c v hc=>h.ar.nk c v (hA c v hc)⟩
  ·rcases fM c _ hc with ⟨e,e2⟩ | e
   ·simp at e2; rw [e2,e]; exact cI
   ·exact h.ar.iG c v e
  ·obtain ⟨q1,q2,q3⟩:=h.ar.vD c v y L M oO e own g k (hA c v h1) h2 h3
   exact ⟨q1,q2,fun z hz hzy=>⟨(q3 z hz hzy).1,fun q=>(q3 z hz hzy).2.1 (sq z q),(q3 z hz hzy).2.2⟩⟩
theorem XB {T:TypeId} {m:Mk} {b o n N:Nat} {es:List KV} {acc:Nat->KV} {u:Value} {A:ae} {B:St} (h:dr P E A B) (hv:VK P E (.al T b o n) u) (ha:A.get b=some (.iG (.ts T m N es acc))) :
  VK P E (.ts T .any n ((es.drop o).take n) (fun i=>acc (o+i))) u:=by
 obtain ⟨T2,N2,pt,ay,e,ht,dT,yu⟩:=h.ar.iG b _ ha;simp only [KV.ts.injEq] at e;obtain ⟨rfl,rfl,rfl,rfl,rfl⟩:=e;simp only [VK];rcases hv.yL with ⟨rfl,rfl,rfl⟩ | ⟨x,L,N0,c,h1,rfl,h3,h4,h5⟩
 ·exact ⟨⟨by simp,fun i hi=>by omega,rfl⟩,[],by simpa using aV.nil,none,0,rfl,aC _,.inl ⟨rfl,rfl⟩,trivial⟩
 ·rcases yu with ⟨_,e⟩ | ⟨x2,r,bo,e,h6,h6',h7,h8⟩
  ·rw [h1] at e; simp at e
  rw [h1] at e;simp only [bQ,dt] at e;obtain ⟨rfl,rfl,rfl⟩:=e;have aiA:((es.drop o).take n).length=n:=by rw [kZ,List.length_drop,<- ht.len]; omega
  refine ⟨⟨aiA.symm,fun i hi=>?_,o7 fun i x hi=>?_⟩,(bo.drop o).take n,(h7.drop o).take n,_,c,rfl,h3,.inr ⟨x,o * aU P T,r,rfl,h6,h6',?_⟩,trivial⟩
  ·rw [ht.acc (o+i) (by omega),fH,fH,mn,aD hi,pf]
  ·rw [mn] at hi
   split at hi
   ·rw [pf] at hi; exact gL ht.typed hi
   ·simp at hi
  ·have:=(h8.drop o).take n
   rw [bd] at this;exact this
theorem YU {A:ae} {B:St} {v:KV} {u:Value} (h:dr P E A B) (hv:VK P E v u):∃ E',cN P E A B E' (aaW A v).2 B/\VK P E' (aaW A v).1 u:=by
 unfold aaW;split
 ·rename_i T b o n
  split
  ·rename_i T' m N es acc hb
   cases ht:Nat.beq T T' with
   | false=>exact ⟨E,.refl h,.vC⟩
   | true=>
    have:=aL ht;subst this;rw [aj];have cI:=h.ar.arr b _ hb;obtain ⟨T2,N2,pt,ay,e,P0,dT,yu⟩:=cI;simp only [KV.ts.injEq] at e;obtain ⟨rfl,rfl,rfl,rfl,rfl⟩:=e;rcases yu with ⟨h1,h2⟩ | ⟨x,cs,bN,bo,h2,h3,h4,h5⟩
    ·have gz:=cN.apD h hb ⟨_,_,_,_,rfl,P0,dT,.inl ⟨h1,h2⟩⟩ h2
     exact ⟨E,gz,XB gz.fY hv ((ae.bA _ _ _ _).trans (aD rfl))⟩
    ·have gz:=cN.iG h hb h2 h3 P0 rfl dT h4 h5
     exact ⟨_,gz,XB gz.fY (hv.mono gz.le) ((ae.bA _ _ _ _).trans (aD rfl))⟩
  ·rename_i T' m N es acc hb
   cases ht:Nat.beq T T' with
   | false=>exact ⟨E,.refl h,.vC⟩
   | true=>
    have:=aL ht;subst this;rw [aj];exact ⟨E,.refl h,XB h hv hb⟩
  ·exact ⟨E,.refl h,.vC⟩
 ·exact ⟨E,.refl h,hv⟩
theorem aI.map {α β:Type} {r:KR α} {f:α->β} {v:β} (h:aI (r.map f) v):∃ u,aI r u/\f u=v:=by
 cases r with
 | no=>exact h.elim
 | ok u=>exact ⟨u,rfl,h⟩
 | jQ c u=>exact ⟨u,⟨h.1,rfl⟩,h.2⟩
 | br c x y=>
  rcases h with ⟨h1,h2⟩ | ⟨h1,h2⟩
  ·obtain ⟨u,h3,h4⟩:=aI.map (r:=x) h2; exact ⟨u,.inl ⟨h1,h3⟩,h4⟩
  ·obtain ⟨u,h3,h4⟩:=aI.map (r:=y) h2; exact ⟨u,.inr ⟨h1,h3⟩,h4⟩
theorem Vf {B:St} : ∀ {vs:List KV} {us:List Value} {E:Env} {A:ae},dr P E A B->aV P E vs us->∃ E',cN P E A B E' (Xj A vs).2 B/\aV P E' (Xj A vs).1 us
 | [],us,E,A,h,hv=>⟨E,.refl h,hv⟩
 | v::vs,us,E,A,h,hv=>by
  obtain ⟨u,us',rfl,h1,h2⟩:=hv.cons_inv;obtain ⟨E1,h3,h4⟩:=YU h h1;obtain ⟨E2,h5,h6⟩:=Vf h3.fY (h2.mono h3.le);exact ⟨E2,h3.akb h5,.cons (h4.mono h5.le) h6⟩
theorem agz {A:ae} {B:St} {v:KV} {u:Value} (h:dr P E A B) (hv:VK P E v u):∃ E',cN P E A B E' (adG A v).2 B/\VK P E' (adG A v).1 u:=by
 unfold adG;split
 ·rename_i cs
  obtain ⟨l,rfl,h1⟩:=hv.kQ;obtain ⟨E1,h2,h3⟩:=Vf h h1;exact ⟨E1,h2,.rR h3⟩
 ·exact YU h hv
theorem NN:∀ (A:ae) (vs:List KV),(AE A vs).1.length=vs.length
 | _,[]=>rfl
 | A,v::vs=>by simp [AE,NN]
theorem KD {B:St} : ∀ {vs:List KV} {us:List Value} {E:Env} {A:ae},dr P E A B->aV P E vs us->∃ E',cN P E A B E' (AE A vs).2 B/\aV P E' (AE A vs).1 us
 | [],us,E,A,h,hv=>⟨E,.refl h,hv⟩
 | v::vs,us,E,A,h,hv=>by
  obtain ⟨u,us',rfl,h1,h2⟩:=hv.cons_inv;obtain ⟨E1,h3,h4⟩:=agz h h1;obtain ⟨E2,h5,h6⟩:=KD h3.fY (h2.mono h3.le);exact ⟨E2,h3.akb h5,.cons (h4.mono h5.le) h6⟩
end Go.K
end
section
namespace Go.K
open Go Go.aG
variable {P:Program}
theorem db {o:Oper} : I6 P o .bad:=trivial
theorem alk (P:Program) (cfg:dF) (o:Oper):I6 P o (bw P cfg o.op):=by
 cases ho:o.op with
 | move x=>exact lift_pure (by rw [ho]; rfl) agi
 | assign x=>exact lift_pure (by rw [ho]; rfl) ala
 | pick c a b=>exact lift_pure (by rw [ho]; rfl) amt
 | alloc t=>
  show I6 P o (rJ P t);unfold rJ;split
  ·rename_i z hz
   cases hc:(flat z&&z.cells.toList.all scalar&&gJ (fE z).cells) with
   | false=>exact db
   | true=>
    simp only [ao] at hc;exact ER (by rw [ho]; rfl) (alf hz hc.1.1 hc.1.2 hc.2)
  ·exact db
 | box t x=>exact ER (by rw [ho]; rfl) an9
 | build t parts=>
  show I6 P o (wP P t (parts.toList.map (·.1)) (parts.toList.map (·.2)));have aO:compile P o.op=L7 P t (parts.toList.map (·.1)) (parts.toList.map (·.2)):=by rw [ho]; rfl
  unfold wP;unfold L7 at aO;split
  ·rename_i z fields hz hu
   rw [hz,hu] at aO;simp only at aO;split
   ·rename_i l hl
    rw [hl] at aO;cases hc:(flat z&&gJ (fE z).cells) with
    | false=>exact db
    | true=>
     simp only [ao] at hc;exact lift_pure aO (adJ hc.1 hc.2)
   ·exact db
  ·rename_i z len e hz hu
   rw [hz,hu] at aO;simp only at aO;split
   ·rename_i n hn
    rw [hn] at aO;cases hc:(flat z&&gJ (fE z).cells) with
    | false=>exact db
    | true=>
     simp only [ao] at hc;exact lift_pure aO (adJ hc.1 hc.2)
   ·exact db
  ·exact db
 | buildSlice t len parts=>
  show I6 P o (la P cfg.x.mt t len (parts.toList.map (·.1)) (parts.toList.map (·.2)));have aO:compile P o.op=yV P t len (parts.toList.map (·.1)) (parts.toList.map (·.2)):=by rw [ho]; rfl
  unfold la;unfold yV at aO;split
  ·rename_i e hu
   rw [hu] at aO;simp only at aO;split
   ·rename_i i z hi hz
    have dT:size? P e=some i.size:=by simp [size?,hi]
    rw [dT,hz] at aO;simp only at aO;cases hc:(Nat.ble (len * i.size) 16777216&&Nat.beq z.cells.size i.size&&Nat.ble 1 i.size&&flat z&&Nat.beq (aQ P e).ks.length i.size&&EK len (parts.toList.map (·.1))) with
    | false=>exact db
    | true=>
     simp only [ao] at hc;obtain ⟨⟨⟨⟨⟨h1,h2⟩,h3⟩,h4⟩,h5⟩,h6⟩:=hc;rw [h1,h2,h3,h4] at aO;cases Nu (aQ P e).ks with
     | true=>
      cases cfg.x.mt (e+3000000) with
      | true=>exact ER aO (ae5 (aL h5) (dX h3) (aL h2) h6)
      | false=>exact adL aO (adb (aL h5) (dX h3) (aL h2) h6)
     | false=>
      cases h7:gJ (fE z).cells with
      | true=>exact ER aO (aeZ h7)
      | false=>exact db
   ·exact db
  ·exact db
 | load t a=>exact ND (by rw [ho]; rfl) agn
 | store t a x=>exact Xs (by rw [ho]; rfl) ali
 | nilCheck x=>exact lift_pure (by rw [ho]; rfl) an7
 | binOp op t x y yt=>exact lift_pure (by rw [ho]; rfl) an8
 | unOp op t x=>exact lift_pure (by rw [ho]; rfl) apw
 | convert src dst x=>
  show I6 P o (qW P src dst x);have aO:compile P o.op=FY P src dst x:=by rw [ho]; rfl
  unfold qW;unfold FY at aO;split
  ·rename_i k k' hs hd
   rw [hs,hd] at aO;exact lift_pure aO (ale hd hs)
  ·rename_i hs hd
   rw [hs,hd] at aO;exact lift_pure aO ald
  ·rename_i e hs hd
   rw [hs,hd] at aO;simp only at aO;cases hb:isByte P e with
   | false=>exact db
   | true=>rw [hb] at aO; exact ND aO ae2
  ·rename_i e hs hd
   rw [hs,hd] at aO;simp only at aO;cases hb:isByte P e with
   | false=>exact db
   | true=>rw [hb] at aO; exact ait aO (ae3 hb)
  ·exact db
 | makeFunc fn first cap=>
  show I6 P o (cond (Bj fn) .bad (.pure (Nw fn first.size) (first.toList++cap.toList)));cases hy:Bj fn with
  | true=>exact db
  | false=>
   have hn:Iv fn=true:=by cases fn <;> first | rfl | simp [Bj] at hy
   exact lift_pure (by rw [ho]; show cond (Iv fn) _ _=_; rw [hn]; rfl) aeV
 | fieldAddr s x f=>
  show I6 P o (mr P s x f);have aO:compile P o.op=Bd P s x f:=by rw [ho]; rfl
  unfold mr;unfold Bd at aO;split
  ·rename_i fd hf
   rw [hf] at aO;simp only at aO;split
   ·rename_i m hm
    rw [hm] at aO;exact lift_pure aO (ac8 rfl)
   ·exact db
  ·exact db
 | field t x f=>
  show I6 P o (wQ P t x f);have aO:compile P o.op=Mc P t x f:=by rw [ho]; rfl
  unfold wQ;unfold Mc at aO;split
  ·rename_i fd hf
   rw [hf] at aO;exact lift_pure aO alb
  ·exact db
 | indexAddr t x ix=>
  show I6 P o (mu P t x ix);have aO:compile P o.op=Bf P t x ix:=by rw [ho]; rfl
  unfold mu;unfold Bf at aO;split
  ·rename_i len e hu
   rw [hu] at aO;simp only at aO;split
   ·rename_i n hn
    rw [hn] at aO;exact lift_pure aO aeS
   ·exact db
  ·rename_i e hu
   rw [hu] at aO;simp only at aO;split
   ·rename_i n hn
    rw [hn] at aO;exact lift_pure aO (agk rfl)
   ·exact db
  ·exact db
 | index t x ix=>
  show I6 P o (wR P t x ix);have aO:compile P o.op=Md P t x ix:=by rw [ho]; rfl
  unfold wR;unfold Md at aO;split
  ·rename_i len e hu
   rw [hu] at aO;simp only at aO;split
   ·rename_i n hn
    rw [hn] at aO;exact lift_pure aO aeT
   ·exact db
  ·rename_i hu
   rw [hu] at aO;exact lift_pure aO aeU
  ·exact db
 | extract t i=>exact lift_pure (by rw [ho]; rfl) agl
 | slice t x lo hi mx=>
  show I6 P o (wS P cfg.x.mt t x lo hi mx);have aO:compile P o.op=Ma P t x lo hi mx:=by rw [ho]; rfl
  unfold wS;unfold Ma at aO;split
  ·rename_i e hu
   rw [hu] at aO;simp only at aO;split
   ·rename_i n hn
    rw [hn] at aO;simp only at aO;cases hc:(Nat.ble 1 n&&mx.isNone) with
    | false=>exact db
    | true=>
     simp only [ao] at hc;rw [hc.1] at aO;have hmx:mx=none:=Option.isNone_iff_eq_none.1 hc.2;subst hmx;simp only [aj,eY,yH,Option.isSome_none] at aO;show I6 P o (cond (cfg.x.mt (e+4000000)) _ _);cases cfg.x.mt (e+4000000) with
     | true=>exact aiE aO (agv (dX hc.1))
     | false=>exact ND aO (agq (dX hc.1))
   ·exact db
  ·rename_i len e hu
   rw [hu] at aO;simp only at aO;split
   ·rename_i n hn
    rw [hn] at aO;simp only at aO;cases hc:(Nat.ble 1 n&&mx.isNone) with
    | false=>exact db
    | true=>
     simp only [ao] at hc;rw [hc.1] at aO;have hmx:mx=none:=Option.isNone_iff_eq_none.1 hc.2;subst hmx;simp only [aj,eY,yH,Option.isSome_none] at aO;exact ND aO ae0
   ·exact db
  ·rename_i hu
   rw [hu] at aO;simp only at aO;cases hc:mx.isNone with
   | false=>exact db
   | true=>rw [hc] at aO; exact lift_pure aO ae1
  ·exact db
 | makeSlice t l c=>
  show I6 P o (yY P cfg.x.mt t l c);have aO:compile P o.op=Bc P t l c:=by rw [ho]; rfl
  unfold yY;unfold Bc at aO;split
  ·rename_i e hu
   rw [hu] at aO;simp only at aO;split
   ·rename_i i hi
    rw [hi] at aO;simp only at aO;split
    ·rename_i z hz
     rw [hz] at aO;simp only at aO;cases hmz:cfg.x.mt (e+1000000) with
     | true=>
      rw [aj];cases hc:(Nat.ble 1 i.size&&Nat.ble 1 i.bytes&&Nat.beq z.cells.size i.size&&flat z&&z.cells.toList.all scalar&&Nat.beq (aQ P e).ks.length i.size&&cv (aQ P e) (dN (aQ P e) (fE z))) with
      | false=>exact db
      | true=>
       simp only [ao] at hc;obtain ⟨⟨⟨⟨⟨⟨h1,h2⟩,h3⟩,h4⟩,h5⟩,h6⟩,h7⟩:=hc;rw [h1,h2,h3,h4,h5] at aO;exact adL aO (alj (aL h6) (dX h1) (aL h3) h7)
     | false=>
     rw [aH];cases hmt:cfg.x.mt e with
     | true=>
      rw [aj];cases hc:(Nat.ble 1 i.size&&Nat.ble 1 i.bytes&&Nat.beq z.cells.size i.size&&flat z&&z.cells.toList.all scalar&&Nat.beq (aQ P e).ks.length i.size&&cv (aQ P e) (dN (aQ P e) (fE z))) with
      | false=>exact db
      | true=>
       simp only [ao] at hc;obtain ⟨⟨⟨⟨⟨⟨h1,h2⟩,h3⟩,h4⟩,h5⟩,h6⟩,h7⟩:=hc;rw [h1,h2,h3,h4,h5] at aO;exact ER aO (agu (aL h6) (dX h1) (aL h3) h7)
     | false=>
     rw [aH];cases hc:(Nat.ble 1 i.size&&Nat.ble 1 i.bytes&&Nat.beq z.cells.size i.size&&flat z&&z.cells.toList.all scalar&&gJ (fE z).cells) with
     | false=>exact db
     | true=>
      simp only [ao] at hc;obtain ⟨⟨⟨⟨⟨h1,h2⟩,h3⟩,h4⟩,h5⟩,h6⟩:=hc;rw [h1,h2,h3,h4,h5] at aO;exact ER aO (ac9 h6)
    ·exact db
   ·exact db
  ·exact db
 | call c=>
  show I6 P o (lO P cfg c);unfold lO;split
  ·split
   ·cases cfg.af9 _ <;> trivial
   ·trivial
  ·trivial
  ·rename_i b hb
   obtain ⟨callee,args,argTypes⟩:=c;simp only at hb;subst hb;have aO:compile P o.op=Ks P b argTypes.toList args.toList:=by rw [ho]; rfl
   unfold Dp;unfold Ks at aO;split
   ·
    simp only at aO;unfold aaV;unfold Z3 at aO;split
    ·rename_i t ht
     rw [ht] at aO;simp only at aO;split
     ·rename_i e hu
      rw [hu] at aO;exact lift_pure aO alc
     ·rename_i hu
      rw [hu] at aO;exact lift_pure aO air
     ·exact db
    ·exact db
   ·simp only at aO
    exact lift_pure (f:=Mp false) aO aa9
   ·simp only at aO
    exact lift_pure (f:=Mp true) aO aa9
   ·
    simp only at aO;unfold Kx;unfold Nj at aO;split
    ·rename_i t u ht
     rw [ht] at aO;simp only at aO;split
     ·rename_i e eu hu huu
      rw [hu] at aO;simp only at aO;split
      ·rename_i i hi
       rw [hi] at aO;simp only at aO;split
       ·rename_i z hz
        rw [hz] at aO;simp only at aO;cases hc:(Nat.ble 1 i.size&&Nat.beq z.cells.size i.size&&Nat.beq (aQ P e).ks.length i.size) with
        | false=>exact db
        | true=>
         simp only [ao] at hc;have aqr:Ni P u=true:=by unfold Ni; rw [huu]
         rw [hc.1.1,hc.1.2,aqr] at aO;exact Xs aO (agy (aL hc.2) (dX hc.1.1))
       ·exact db
      ·exact db
     ·exact db
    ·exact db
   ·
    simp only at aO;show I6 P o (Ri P argTypes.toList args.toList);unfold Ri;unfold UI at aO;split
    ·rename_i t u ht
     rw [ht] at aO;simp only at aO;split
     ·rename_i e eu hu huu
      rw [hu] at aO;simp only at aO;split
      ·rename_i n hn
       rw [hn] at aO;simp only at aO;cases hc:(Nat.ble 1 n&&Nat.beq (aQ P e).ks.length n) with
       | false=>exact db
       | true=>
        simp only [ao] at hc;rw [hc.1] at aO;exact Xs aO (amE (aL hc.2) (dX hc.1))
      ·exact db
     ·exact db
    ·exact db
   ·trivial
  ·trivial
 | _=>trivial
end Go.K
end
section
namespace Go.K
open Go Go.aG
variable {P:Program} {E:Env}
theorem vH (t:bf):∀ xs,j3 t xs=xs.map (gD t)
 | []=>rfl
 | x::xs=>by rw [j3,vH t xs]; rfl
structure iZ (P:Program) (E:Env) (ρ:Ren) (t:bf) (N:Nat) (a:Act):Prop where
 size:a.tmps.size=N
 val:∀ i,VC P E ρ ((t.get i).getD .bh) (a.tmps.getD i undef)
 none:∀ i,N<=i->t.get i=Option.none
theorem iZ.ev {ρ:Ren} {t:bf} {N:Nat} {a:Act} (h:iZ P E ρ t N a) (x:Operand):VC P E ρ (gD t x) (a.eval x):=by
 cases x with
 | tmp i=>exact h.val i
 | const v=>
  simp only [gD,Act.eval];cases hf:flat v with
  | true=>exact ⟨v,.fE v,VR.of_flat hf⟩
  | false=>exact .bh
 | global g=>exact .bh
 | func f=>exact ⟨.func (.func f) ⟨[]⟩ ⟨[]⟩,.agh .nil .nil,VR.Z5 (l:=[]) (m:=[]) (.func f) rfl .nil .nil⟩
theorem iZ.mono {E' : Env} {ρ aF:Ren} {t:bf} {N:Nat} {a:Act} (h:iZ P E ρ t N a) (k:E.le E') (m:ρ.le aF):iZ P E' aF t N a:=⟨h.size,fun i=>(h.val i).mono k m,h.none⟩
theorem iZ.put {ρ:Ren} {t:bf} {N:Nat} {a:Act} {dst:Option Tmp} {v:KV} {v' : Value} (h:iZ P E ρ t N a) (hd:∀ d,dst=some d->d < N) (hv:VC P E ρ v v'):iZ P E ρ (qO t dst v) N (a.put dst v'):=by
 cases dst with
 | none=>exact h
 | some d=>
  have hd:=hd d rfl;refine ⟨by simp [Act.put,h.size],fun i=>?_,fun i hi=>?_⟩
  ·simp only [qO,Trie.oX,Act.put]
   by_cases e:i=d
   ·subst e
    have:i < a.tmps.size:=by rw [h.size]; exact hd
    simp [kY,this,hv]
   ·have:=h.val i
    simp only [aa e];simpa [kY,Array.getElem?_setIfInBounds_ne (Ne.symm e)] using this
  ·simp only [qO,Trie.oX]
   have cD:i≠d:=fun e=>absurd hi (by rw [e]; exact Nat.not_le_of_lt hd);rw [aa cD];exact h.none i hi
theorem iZ.same {ρ:Ren} {t t' : bf} {N:Nat} {a:Act} (h:iZ P E ρ t N a) (hs:∀ i,t'.get i=t.get i):iZ P E ρ t' N a:=
 ⟨h.size,fun i=>by rw [hs]; exact h.val i,fun i hi=>by rw [hs]; exact h.none i hi⟩
theorem F5 {v:KV} {b:Bool} (h:yr v = .bool b):v = .bool b:=by cases v <;> simp [yr] at h; rw [h]
theorem abr {v:KV} (h:yr v = .kL):∃ l,v = .kL l:=by cases v <;> simp [yr] at h; exact ⟨_,rfl⟩
theorem NP {t:bf} {d:Tmp} {b:Bool} (h:yr ((t.get d).getD .bh) = .bool b):∀ i,(Trie.set (.bool b) t d).get i=t.get i:=by
 intro i;have:=F5 h;rw [Trie.oX];split
 ·rename_i e
  subst e;cases ht:t.get i with
  | none=>rw [ht] at this; simp at this
  | some v=>rw [ht] at this; simp at this; rw [this]
 ·rfl
theorem VC.eK {ρ:Ren} {b:Bool} {v:Value} (h:VC P E ρ (.bool b) v):v = .bool b:=by
 obtain ⟨u,h1,h2⟩:=h;have:=h1.eK; subst this;exact h2.eK
theorem ae6 {R:Type} {ρ:Ren} {t:bf} {N:Nat} {a:Act} {all:List Oper} {o:Oper} {j:Nat} {want:Bool} {yes no:bf->Option R} {r:R} (hg:o.guard=some (j,want)) (ht:iZ P E ρ t N a)
  (h:aga t ((all[j]?).bind (·.dst)) want yes no=some r) :
  ∃ t',(∀ i,t'.get i=t.get i)/\((Region.wanted o (yielded ⟨all⟩ a.tmps)=true/\yes t' = some r)\/(Region.wanted o (yielded ⟨all⟩ a.tmps)=false/\no t' = some r)):=by
 unfold aga at h;cases hd:(all[j]?).bind (·.dst) with
 | none=>rw [hd] at h; exact absurd h (by simp)
 | some d=>
  rw [hd] at h;have hw:∀ u,a.tmps[d]? = some u->Region.wanted o (yielded ⟨all⟩ a.tmps)=(match u with
    | .bool b=>b==want
    | _=>false):=by
   intro u hu;unfold Region.wanted;rw [hg];simp only;unfold yielded;have e:(⟨all⟩:Array Oper)[j]? = all[j]?:=by simp
   rw [e,hd];simp only [dQ,hu];cases u <;> rfl
  have Bo:=ht.val d;have h:BK.rec (motive:=fun _=>Option R)
   (fun b=>Bool.rec (motive:=fun _=>Option R)
    (Bool.rec (motive:=fun _=>Option R) (yes (t.set (.bool false) d)) (no (t.set (.bool false) d)) want)
    (Bool.rec (motive:=fun _=>Option R) (no (t.set (.bool true) d)) (yes (t.set (.bool true) d)) want) b)
   (no t) none (yr ((t.get d).getD .bh))=some r:=h
  cases hb:yr ((t.get d).getD .bh) with
  | no=>rw [hb] at h; exact absurd h (by simp)
  | kL=>
   rw [hb] at h;obtain ⟨l,hl⟩:=abr hb;rw [hl] at Bo;obtain ⟨u,h1,h2⟩:=Bo;obtain ⟨m,rfl,_⟩:=h1.PM;obtain ⟨m',h3,_⟩:=h2.Tj;refine ⟨t,fun _=>rfl,.inr ⟨?_,h⟩⟩;cases hc:a.tmps[d]? with
   | none=>
    unfold Region.wanted;rw [hg];simp only;unfold yielded;have e:(⟨all⟩:Array Oper)[j]? = all[j]?:=by simp
    rw [e,hd];simp [hc]
   | some u=>
    have:u = .tuple m':=by rw [<- h3]; simp [kY,hc]
    rw [hw u hc,this]
  | bool b=>
   rw [hb] at h;have hbv:=F5 hb;rw [hbv] at Bo;have hcv:=Bo.eK;have hc:a.tmps[d]? = some (.bool b):=by
    cases hc:a.tmps[d]? with
    | none=>simp [kY,hc,undef] at hcv
    | some u=>have:u = .bool b:=by rw [<- hcv]; simp [kY,hc]
              rw [this]
   have hwd:=hw _ hc;refine ⟨t.set (.bool b) d,NP hb,?_⟩;cases b <;> cases want
   ·exact .inl ⟨hwd,h⟩
   ·exact .inr ⟨hwd,h⟩
   ·exact .inr ⟨hwd,h⟩
   ·exact .inl ⟨hwd,h⟩
def rU (P:Program) (E:Env) (ρ:Ren) (l:List KV) (l' : List Value):Prop:=∃ m,aV P E l m/\dB ρ m l'
def x9 (P : Program) (g : FuncId) : Prop := Nat.blt g yB = true ∧ ∃ fn, P.funcs[g]? = some fn ∧ fn.body.isSome = true ∧ (fn.name == "runtime.NumGoroutine") = false
def I9 {R:Type} (P:Program) (aR:kz R):Prop:=
 ∀ f args A k r,aR f args A k=some r->x9 P f/\∀ (E:Env) (B:St) (ρ:Ren) (base:Nat) (w:World) (dY:List Value),rU P E ρ args dY->KJ P E A B ρ base w->
  Calls P f dY.toArray w fun e w'=>∃ v v' E' A' B' aF,e = .returned v'/\VC P E' aF v v'/\Ev P base E A B ρ w E' A' B' aF w'/\k v A' = some r
def bB (P:Program) (g:FuncId) (F:List KV->KR KV):Prop:=
 ∀ args v,aI (F (normArgs P (bT P g) args)) v->args.length=(bT P g).length->x9 P g/\∀ (E:Env) (A:ae) (B:St) (ρ:Ren) (base:Nat) (w:World) (dY:List Value),rU P E ρ args dY->KJ P E A B ρ base w->
  Calls P g dY.toArray w fun e w'=>∃ v' E' B' aF,e = .returned v'/\VC P E' aF v v'/\Ev P base E A B ρ w E' A B' aF w'
def rD (P:Program) (pc:FuncId->Option (List KV->KR KV)):Prop:=∀ g F,pc g=some F->bB P g F
theorem ae7 {o:Oper} {f:Operand} {args:List Operand} (aO:compile P o.op = .call f args) {ρ:Ren} {t:bf} {N:Nat} {a:Act} (ht:iZ P E ρ t N a) {g:FuncId} {vs:List KV} (hc:yZ (j3 t args) (gD t f)=some (g,vs)) (hg:x9 P g) :
  ∃ b7,rU P E ρ vs b7/\∀ w,(execOp a.eval o).run P w = .ok (.enter g b7.toArray) w:=by
 have cI:=rB P o;rw [aO] at cI;obtain ⟨em,h1,h2⟩:=mid (xs:=f::args) (ev:=gD t) (cF:=a.eval) fun x _=>ht.ev x;obtain ⟨y,ys,e,h3,h4⟩:=h1.cons_inv;simp only [List.map_cons,List.cons.injEq] at e;obtain ⟨rfl,rfl⟩:=e;have hv:∃ us,Cf (args.map em) (em f)=some (g,us)/\aV P E vs us:=by
  unfold yZ at hc;split at hc
  ·rename_i g' first cap e
   simp only [bQ,dt] at hc;obtain ⟨rfl,rfl⟩:=hc;rw [e] at h3;obtain ⟨l,m,e2,h5,h6⟩:=h3.KB;rw [e2];refine ⟨l++args.map em++m,by simp only [Cf]; rw [hg.1]; rfl,?_⟩;rw [vH];exact (h5.append h4).append h6
  ·simp at hc
 obtain ⟨us,h5,h6⟩:=hv;obtain ⟨b7,h7,h8⟩:=cI.2 ρ em a.eval g us h2 hg.1 h5 hg.2;exact ⟨b7,⟨us,h6,h7⟩,h8⟩
def dc:ss->Bool
 | .call _ _=>false
 | .EI _ _ _=>false
 | .I1 _ _ _=>false
 | _=>true
theorem dh {c:Bool} {x:ss} (h:dc x=true):dc (cond c x .bad)=true:=by
 cases c with
 | false=>rfl
 | true=>exact h
theorem Ja {c:Bool} {x y:ss} (h:dc x=true) (k:dc y=true):dc (cond c x y)=true:=by
 cases c with
 | false=>exact k
 | true=>exact h
theorem ES (mt:TypeId->Bool) (b:Builtin) (ts:List TypeId) (args:List Operand):dc (Dp P mt b ts args)=true:=by
 unfold Dp aaV Kx Ri
 repeat' split
 all_goals first | rfl | exact dh rfl
theorem Ck (mt:TypeId->Bool) (t:TypeId) (l c:Operand):dc (yY P mt t l c)=true:=by
 unfold yY;split
 ·rename_i e he
  split
  ·split
   ·cases mt (e+1000000)
    ·cases mt e <;> exact dh rfl
    ·exact dh rfl
   ·rfl
  ·rfl
 ·rfl
theorem YV {cfg:dF} {op:Op} {f:Operand} {args:List Operand} (h:bw P cfg op = .call f args):compile P op = .call f args:=by
 have key:dc (bw P cfg op)=true->compile P op = .call f args:=fun hn=>by rw [h] at hn; simp [dc] at hn
 cases op with
 | call c=>
  have h:lO P cfg c = .call f args:=h;show Dd P c=_;unfold lO at h;unfold Dd;split at h
  ·rename_i g hc
   split at h
   ·cases hz:cfg.af9 g <;> rw [hz] at h <;> simp at h
   ·simp at h; obtain ⟨rfl,rfl⟩:=h; rw [hc]
  ·rename_i f' cD hc; simp at h; obtain ⟨rfl,rfl⟩:=h; rw [hc]
  ·rename_i b hc
   have:=ES (P:=P) cfg.x.mt b c.argTypes.toList c.args.toList;rw [h] at this;simp [dc] at this
  ·simp at h
 | alloc t=>exact key (by show dc (rJ P t)=true; unfold rJ; split <;> first | rfl | exact dh rfl)
 | build t ps=>exact key (by show dc (wP P t _ _)=true; unfold wP; (repeat' split); all_goals first | rfl | exact dh rfl)
 | buildSlice t n ps=>exact key (by show dc (la P cfg.x.mt t n _ _)=true; unfold la; (repeat' split); all_goals first | rfl | exact dh (by cases Nu _ <;> first | exact dh rfl | (cases cfg.x.mt _ <;> rfl) | rfl))
 | convert s d x=>exact key (by show dc (qW P s d x)=true; unfold qW; (repeat' split); all_goals first | rfl | exact dh rfl)
 | makeFunc fn a b=>exact key (by show dc (cond (Bj fn) .bad _)=true; cases Bj fn <;> rfl)
 | fieldAddr s x i=>exact key (by show dc (mr P s x i)=true; unfold mr; (repeat' split); all_goals rfl)
 | field s x i=>exact key (by show dc (wQ P s x i)=true; unfold wQ; (repeat' split); all_goals rfl)
 | indexAddr s x i=>exact key (by show dc (mu P s x i)=true; unfold mu; (repeat' split); all_goals rfl)
 | index s x i=>exact key (by show dc (wR P s x i)=true; unfold wR; (repeat' split); all_goals rfl)
 | slice t x lo hi mx=>exact key (by show dc (wS P cfg.x.mt t x lo hi mx)=true; unfold wS; (repeat' split); all_goals first | rfl | exact dh rfl | exact dh (Ja rfl rfl))
 | makeSlice t l c=>exact key (Ck _ t l c)
 | _=>exact key rfl
theorem ae8 {cfg:dF} {op:Op} {g:FuncId} {F:List KV->KR KV} {args:List Operand} (h:bw P cfg op = .EI g F args):compile P op = .call (.func g) args/\∃ F0,cfg.pc g=some F0/\F=fun vs=>cond (Nat.beq vs.length (bT P g).length) (F0 (normArgs P (bT P g) vs)) .no:=by
 have key:dc (bw P cfg op)=true->compile P op = .call (.func g) args/\∃ F0,cfg.pc g=some F0/\F=fun vs=>cond (Nat.beq vs.length (bT P g).length) (F0 (normArgs P (bT P g) vs)) .no:=fun hn=>by rw [h] at hn; simp [dc] at hn
 cases op with
 | call c=>
  have h:lO P cfg c = .EI g F args:=h;show Dd P c=_/\_;unfold lO at h;unfold Dd;split at h
  ·rename_i g' hc
   split at h
   ·rename_i F0 hF
    cases hz:cfg.af9 g' with
    | true=>rw [hz] at h; simp at h
    | false=>
     rw [hz] at h;simp at h; obtain ⟨rfl,rfl,rfl⟩:=h; rw [hc];exact ⟨rfl,F0,hF,rfl⟩
   ·simp at h
  ·simp at h
  ·rename_i b hc
   have:=ES (P:=P) cfg.x.mt b c.argTypes.toList c.args.toList;rw [h] at this;simp [dc] at this
  ·simp at h
 | alloc t=>exact key (by show dc (rJ P t)=true; unfold rJ; split <;> first | rfl | exact dh rfl)
 | build t ps=>exact key (by show dc (wP P t _ _)=true; unfold wP; (repeat' split); all_goals first | rfl | exact dh rfl)
 | buildSlice t n ps=>exact key (by show dc (la P cfg.x.mt t n _ _)=true; unfold la; (repeat' split); all_goals first | rfl | exact dh (by cases Nu _ <;> first | exact dh rfl | (cases cfg.x.mt _ <;> rfl) | rfl))
 | convert s d x=>exact key (by show dc (qW P s d x)=true; unfold qW; (repeat' split); all_goals first | rfl | exact dh rfl)
 | makeFunc fn a b=>exact key (by show dc (cond (Bj fn) .bad _)=true; cases Bj fn <;> rfl)
 | fieldAddr s x i=>exact key (by show dc (mr P s x i)=true; unfold mr; (repeat' split); all_goals rfl)
 | field s x i=>exact key (by show dc (wQ P s x i)=true; unfold wQ; (repeat' split); all_goals rfl)
 | indexAddr s x i=>exact key (by show dc (mu P s x i)=true; unfold mu; (repeat' split); all_goals rfl)
 | index s x i=>exact key (by show dc (wR P s x i)=true; unfold wR; (repeat' split); all_goals rfl)
 | slice t x lo hi mx=>exact key (by show dc (wS P cfg.x.mt t x lo hi mx)=true; unfold wS; (repeat' split); all_goals first | rfl | exact dh rfl | exact dh (Ja rfl rfl))
 | makeSlice t l c=>exact key (Ck _ t l c)
 | _=>exact key rfl
theorem ae9 {cfg:dF} {op:Op} {g:FuncId} {F:List KV->KR KV} {args:List Operand} (h:bw P cfg op = .I1 g F args):compile P op = .call (.func g) args/\∃ F0,cfg.pc g=some F0/\F=fun vs=>cond (Nat.beq vs.length (bT P g).length) (F0 (normArgs P (bT P g) vs)) .no:=by
 have key:dc (bw P cfg op)=true->compile P op = .call (.func g) args/\∃ F0,cfg.pc g=some F0/\F=fun vs=>cond (Nat.beq vs.length (bT P g).length) (F0 (normArgs P (bT P g) vs)) .no:=fun hn=>by rw [h] at hn; simp [dc] at hn
 cases op with
 | call c=>
  have h:lO P cfg c = .I1 g F args:=h;show Dd P c=_/\_;unfold lO at h;unfold Dd;split at h
  ·rename_i g' hc
   split at h
   ·rename_i F0 hF
    cases hz:cfg.af9 g' with
    | false=>rw [hz] at h; simp at h
    | true=>
     rw [hz] at h;simp at h; obtain ⟨rfl,rfl,rfl⟩:=h; rw [hc];exact ⟨rfl,F0,hF,rfl⟩
   ·simp at h
  ·simp at h
  ·rename_i b hc
   have:=ES (P:=P) cfg.x.mt b c.argTypes.toList c.args.toList;rw [h] at this;simp [dc] at this
  ·simp at h
 | alloc t=>exact key (by show dc (rJ P t)=true; unfold rJ; split <;> first | rfl | exact dh rfl)
 | build t ps=>exact key (by show dc (wP P t _ _)=true; unfold wP; (repeat' split); all_goals first | rfl | exact dh rfl)
 | buildSlice t n ps=>exact key (by show dc (la P cfg.x.mt t n _ _)=true; unfold la; (repeat' split); all_goals first | rfl | exact dh (by cases Nu _ <;> first | exact dh rfl | (cases cfg.x.mt _ <;> rfl) | rfl))
 | convert s d x=>exact key (by show dc (qW P s d x)=true; unfold qW; (repeat' split); all_goals first | rfl | exact dh rfl)
 | makeFunc fn a b=>exact key (by show dc (cond (Bj fn) .bad _)=true; cases Bj fn <;> rfl)
 | fieldAddr s x i=>exact key (by show dc (mr P s x i)=true; unfold mr; (repeat' split); all_goals rfl)
 | field s x i=>exact key (by show dc (wQ P s x i)=true; unfold wQ; (repeat' split); all_goals rfl)
 | indexAddr s x i=>exact key (by show dc (mu P s x i)=true; unfold mu; (repeat' split); all_goals rfl)
 | index s x i=>exact key (by show dc (wR P s x i)=true; unfold wR; (repeat' split); all_goals rfl)
 | slice t x lo hi mx=>exact key (by show dc (wS P cfg.x.mt t x lo hi mx)=true; unfold wS; (repeat' split); all_goals first | rfl | exact dh rfl | exact dh (Ja rfl rfl))
 | makeSlice t l c=>exact key (Ck _ t l c)
 | _=>exact key rfl
noncomputable def xE (ins:ss) (t:bf) (A:ae):KR (KV×ae):=
 match ins with
 | .pure f xs=>(f (j3 t xs)).map fun v=>(v,A)
 | .read f xs=>(f A (j3 t xs)).map fun v=>(v,A)
 | .act f xs=>f A (j3 t xs)
 | .look f xs=>(f (j3 t xs)).map fun v=>(v,A)
 | .EI _ f xs=>(f (j3 t xs)).map fun v=>(v,A)
 | .I1 _ f xs=>(f (AE A (j3 t xs)).1).map fun v=>(v,(AE A (j3 t xs)).2)
 | .call _ _=>.no
 | .bad=>.no
theorem aI.BS {α β:Type} {r:KR α} {f:α->β} {u:α} (h:aI r u):aI (r.map f) (f u):=by
 cases r with
 | no=>exact h.elim
 | ok x=>have h:x=u:=h; subst h; exact rfl
 | jQ c x=>obtain ⟨h1,rfl⟩:=h; exact ⟨h1,rfl⟩
 | br c x y=>exact h.imp (fun h=>⟨h.1,aI.BS (r:=x) h.2⟩) (fun h=>⟨h.1,aI.BS (r:=y) h.2⟩)
theorem KF {R:Type} {aR:kz R} {t:bf} {A:ae} {k:KV->ae->Option R} {ins:ss} {r:R} (hn:∀ f args,ins≠.call f args) (h:Ky aR t A k ins=some r):∃ v A',aI (xE ins t A) (v,A')/\k v A' = some r:=by
 cases ins with
 | pure f xs=>obtain ⟨v,h1,h2⟩:=KR.CN h; exact ⟨v,A,h1.BS,h2⟩
 | read f xs=>obtain ⟨v,h1,h2⟩:=KR.CN h; exact ⟨v,A,h1.BS,h2⟩
 | act f xs=>obtain ⟨v,h1,h2⟩:=KR.CN h; exact ⟨v.1,v.2,h1,h2⟩
 | look f xs=>obtain ⟨v,h1,h2⟩:=KR.CN h; exact ⟨v,A,h1.BS,h2⟩
 | EI g f xs=>obtain ⟨v,h1,h2⟩:=KR.CN h; exact ⟨v,A,h1.BS,h2⟩
 | I1 g f xs=>obtain ⟨v,h1,h2⟩:=KR.CN h; exact ⟨v,(AE A (j3 t xs)).2,h1.BS (f:=fun v=>(v,(AE A (j3 t xs)).2)),h2⟩
 | call f args=>exact absurd rfl (hn f args)
 | bad=>exact absurd h (by simp [Ky])
theorem YW {cfg:dF} (eW:rD P cfg.pc) {o:Oper} {g:FuncId} {xs:List Operand} (aO:compile P o.op = .call (.func g) xs) {F0:List KV->KR KV} (hF0:cfg.pc g=some F0) {t:bf} {vs0:List KV} {v:KV}
  (hf:aI (F0 (normArgs P (bT P g) vs0)) v) (hlen:vs0.length=(bT P g).length) {E:Env} {ρ:Ren} {a:Act} (hv:∀ x∈xs,VC P E ρ (gD t x) (a.eval x)) {A A1:ae} {B:St} {base:Nat} {w:World}
  (amG:∀ us,aV P E (xs.map (gD t)) us->∃ E1,Ev P base E A B ρ w E1 A1 B ρ w/\aV P E1 vs0 us) {next:Act->World->Prop} {Q:Exit->Act->World->Prop}
  (hk:∀ E' B' aF v' w',VC P E' aF v v'->Ev P base E A B ρ w E' A1 B' aF w'->next (a.put o.dst v') w'):o.upon P a next Q ((execOp a.eval o).run P w):=by
 obtain ⟨hg,lI⟩:=eW g F0 hF0 _ _ hf hlen;have adN:=rB P o;rw [aO] at adN;obtain ⟨em,h3,h4⟩:=mid (xs:=xs) hv
 let em2:Operand->Value:=fun x=>match x with
  | .func f=>.func (.func f) #[] #[]
  | x=>em x
 have e3:∀ x∈xs,VK P E (gD t x) (em2 x)/\VR ρ (em2 x) (a.eval x):=by
  intro x hx;have key:∀ (l:List Operand),aV P E (l.map (gD t)) (l.map em)->x∈l->VK P E (gD t x) (em x):=by
   intro l
   induction l with
   | nil=>intro _ h; simp at h
   | cons y l ih=>
    intro h hm;obtain ⟨z,zs,e,q1,q2⟩:=h.cons_inv;simp only [List.map_cons,List.cons.injEq] at e;obtain ⟨rfl,rfl⟩:=e;rcases de.1 hm with rfl | hm
    ·exact q1
    ·exact ih q2 hm
  cases x with
  | func f=>exact ⟨.agh .nil .nil,VR.Z5 (l:=[]) (m:=[]) (.func f) rfl .nil .nil⟩
  | tmp i=>exact ⟨key xs h3 hx,h4 _ hx⟩
  | const c=>exact ⟨key xs h3 hx,h4 _ hx⟩
  | global q=>exact ⟨key xs h3 hx,h4 _ hx⟩
 have e4:aV P E (xs.map (gD t)) (xs.map em2):=by
  have:∀ (l:List Operand),(∀ x∈l,VK P E (gD t x) (em2 x))->aV P E (l.map (gD t)) (l.map em2):=by
   intro l
   induction l with
   | nil=>intro _; exact .nil
   | cons y l ih=>intro h; exact .cons (h y (by simp)) (ih fun z hz=>h z (by simp [hz]))
  exact this xs fun x hx=>(e3 x hx).1
 obtain ⟨b7,h5,h6⟩:=adN.2 ρ em2 a.eval g (xs.map em2) (fun x hx=>by
   rcases de.1 hx with rfl | hx
   ·exact VR.Z5 (l:=[]) (m:=[]) (.func g) rfl .nil .nil
   ·exact (e3 x hx).2) hg.1 (by simp only [em2,Cf]; rw [hg.1]; simp) hg.2
 rw [h6 w];obtain ⟨E1,q1,q2⟩:=amG _ e4;refine (lI E1 A1 B ρ base w b7 ⟨xs.map em2,q2,h5⟩ q1.kj).mono ?_;rintro e w' ⟨v',E',B',aF,rfl,h7,h8⟩;exact hk E' B' aF v' w' h7 (q1.trans h8)
theorem NQ {cfg:dF} (eW:rD P cfg.pc) {o:Oper} {t:bf} {A A' : ae} {v:KV} {base:Nat} {B:St} {ρ:Ren} {a:Act} {w:World} {next:Act->World->Prop} {Q:Exit->Act->World->Prop}
  (h:aI (xE (bw P cfg o.op) t A) (v,A')) (hv:∀ x∈U3 (bw P cfg o.op),VC P E ρ (gD t x) (a.eval x)) (hj:KJ P E A B ρ base w)
  (hk:∀ E' B' aF v' w',VC P E' aF v v'->Ev P base E A B ρ w E' A' B' aF w'->next (a.put o.dst v') w'):o.wp P a w next Q:=by
 have cI:=alk P cfg o;have akd:=@ae8 P cfg o.op;have ake:=@ae9 P cfg o.op;generalize bw P cfg o.op=ins at h cI hv akd ake;unfold Oper.wp;cases ins with
 | pure f xs=>
  obtain ⟨u,h1,h2⟩:=aI.map h;simp only [dt] at h2;obtain ⟨rfl,rfl⟩:=h2;rw [vH] at h1;obtain ⟨v',h3,h4⟩:=cI E ρ (gD t) a.eval u hv h1;rw [h4 w];exact hk E B ρ v' w h3 (.refl hj.k hj.s)
 | read f xs=>
  obtain ⟨u,h1,h2⟩:=aI.map h;simp only [dt] at h2;obtain ⟨rfl,rfl⟩:=h2;rw [vH] at h1;obtain ⟨v',h3,h4⟩:=cI E A B ρ base w (gD t) a.eval u hj hv h1;rw [h4];exact hk E B ρ v' w h3 (.refl hj.k hj.s)
 | act f xs=>
  have h:aI (f A (j3 t xs)) (v,A'):=h;rw [vH] at h;obtain ⟨E',B',aF,v',nx,w',h1,h2,h3,h4⟩:=cI E A A' B ρ base w (gD t) a.eval v hj hv h;rw [h1];have hd:=hk E' B' aF v' w' h3 h4;cases nx with
  | value u=>have:u=v':=h2; subst this; exact hd
  | skip=>have:v' = undef:=h2; subst this; exact hd
  | _=>exact h2.elim
 | look f xs=>
  obtain ⟨u,h1,h2⟩:=aI.map h;simp only [dt] at h2;obtain ⟨rfl,rfl⟩:=h2;rw [vH] at h1;obtain ⟨E',B',aF,v',nx,w',h3,h4,h5,h6⟩:=cI E A B ρ base w (gD t) a.eval u hj hv h1;rw [h3];have hd:=hk E' B' aF v' w' h5 h6;cases nx with
  | value u=>have:u=v':=h4; subst this; exact hd
  | skip=>have:v' = undef:=h4; subst this; exact hd
  | _=>exact h4.elim
 | EI g f xs=>
  obtain ⟨u,h1,h2⟩:=aI.map h;simp only [dt] at h2;obtain ⟨rfl,rfl⟩:=h2;obtain ⟨aO,F0,hF0,rfl⟩:=akd rfl;obtain ⟨hlen,hf⟩:=aI.cond h1;exact YW eW aO hF0 hf (aL hlen) hv (fun us q=>⟨E,.refl hj.k hj.s,by rw [vH]; exact q⟩) hk
 | I1 g f xs=>
  obtain ⟨u,h1,h2⟩:=aI.map h;simp only [dt] at h2;obtain ⟨rfl,rfl⟩:=h2;obtain ⟨aO,F0,hF0,rfl⟩:=ake rfl;obtain ⟨hlen,hf⟩:=aI.cond h1;refine YW eW aO hF0 hf (aL hlen) hv (fun us q=>?_) hk;obtain ⟨E1,p1,p2⟩:=KD hj.k q;rw [vH];exact ⟨E1,p1.ev (.refl hj.s),p2⟩
 | call f args=>exact h.elim
 | bad=>exact h.elim
end Go.K
end
