/- Part of the proof of WorldPlain: the machine, shown to be the model's, and plain models. No conditions. -/
import Derived.Test.YtckbdndhmcoihaaCp
set_option linter.unusedSimpArgs false
set_option linter.unusedVariables false
section
namespace Go.K
open Go Go.aI
variable {P:Program} {E:Env}
def mkE (agg:Bool) (m:List Value):Value:=cond agg (.agg ⟨m⟩) (m.headD .nilIface)
theorem ZS {agg:Bool} {m:List Value} (hs:∀ v∈m,scalar v=true) (h:agg=true\/m.length=1):(mkE agg m).cells.toList=m:=by
 cases agg with
 | true=>rfl
 | false=>
  rcases h with h | h
  ·simp at h
  ·match m,h with
   | [v],_=>
    have:=hs v (by simp);show v.cells.toList = [v];cases v <;> first | rfl | simp [scalar] at this
theorem VU {l:Lay} {ks:List KV} (h:aD l.ks ks=true) (ha:l.agg=true\/l.ks.length=1):cw l (N5 l.agg ks)=true:=by
 obtain ⟨agg,cs⟩:=l;cases agg with
 | true=>simpa [N5,cw] using h
 | false=>
  simp at ha
  match cs,ha,ks,h with
  | [c],_,[v],h=>
   have hk:kindOk c v=true:=by simpa [aD] using h
   show cw ⟨false,[c]⟩ v=true;cases v with
   | agg cs=>cases c <;> simp [kindOk] at hk
   | l8 cs=>cases c <;> simp [kindOk] at hk
   | _=>simpa [cw] using h
  | [c],_,[],h=>simp [aD] at h
  | [c],_,_::_::_,h=>simp [aD] at h
theorem ZT {E:Env} {ks:List KV} {m:List Value} {agg:Bool} (h:aV P E ks m) (ha:agg=true\/m.length=1):VK P E (N5 agg ks) (mkE agg m):=by
 cases agg with
 | true=>exact .rC h
 | false=>
  rcases ha with ha | ha
  ·simp at ha
  ·match m,ha,ks,h with
   | [v],_,ks,h=>
    have hl:=h.length
    match ks,hl,h with
    | [k],_,h=>
     obtain ⟨y,ys,e,h1,_⟩:=h.cons_inv;simp at e;rw [e.1];exact h1
theorem MH {α:Type} : ∀ {n:Nat} {l vs r:List α},kW n l vs=some r->
  r.length=l.length/\(vs≠[]->n+vs.length<=l.length)/\∀ (i:Nat),r[i]? = if n<=i/\i < n+vs.length then vs[i - n]? else l[i]?
 | 0,l,[],r,h=>by simp [kW] at h; subst h; simp
 | 0,[],_::_,r,h=>by simp [kW] at h
 | 0,x::l,v::vs,r,h=>by
  simp only [kW,ck] at h;obtain ⟨q,hq,rfl⟩:=h;obtain ⟨h1,h2,h3⟩:=MH hq;refine ⟨by simp [h1],?_,fun i=>?_⟩
  ·intro _
   cases vs with
   | nil=>simp
   | cons u us=>have:=h2 (by simp); simp at this ⊢; omega
  ·cases i with
   | zero=>simp
   | succ i=>simp [h3 i]
 | n+1,[],[],r,h=>by simp [kW] at h; subst h; simp
 | n+1,[],_::_,r,h=>by simp [kW] at h
 | n+1,x::l,vs,r,h=>by
  simp only [kW,ck] at h;obtain ⟨q,hq,rfl⟩:=h;obtain ⟨h1,h2,h3⟩:=MH hq;refine ⟨by simp [h1],?_,fun i=>?_⟩
  ·intro cI
   have:=h2 cI;simp at this ⊢;omega
  ·cases i with
   | zero=>simp
   | succ i=>
    simp only [L9,h3 i];by_cases hc:n<=i/\i < n+vs.length
    ·rw [aE hc,aE (by omega),show i+1 - (n+1)=i - n by omega]
    ·rw [aa hc,aa (by omega)]
theorem Sf (v:KV):∀ (es:List KV) (i j:Nat),(setAt es i v).getD j .bf=if j=i/\i < es.length then v else es.getD j .bf
 | [],0,j=>by simp [setAt]
 | [],_+1,j=>by simp [setAt]
 | e::es,0,0=>by simp [setAt]
 | e::es,0,j+1=>by simp [setAt]
 | e::es,i+1,0=>by simp [setAt]
 | e::es,i+1,j+1=>by
  have:=Sf v es i j;simp only [setAt,List.getD_cons_succ,qI];rw [this];by_cases h:j=i/\i < es.length
  ·rw [aE h,aE ⟨by omega,by omega⟩]
  ·rw [aa h,aa (by omega)]
theorem CW:∀ (n:Nat) (l vs:List Value),n+vs.length<=l.length->∃ r,gx n l vs=some r
 | 0,l,[],_=>⟨l,rfl⟩
 | 0,[],_::_,h=>by simp at h
 | 0,x::l,v::vs,h=>by
  obtain ⟨r,hr⟩:=CW 0 l vs (by simp at h ⊢; omega);exact ⟨v::r,by rw [yu,hr]; rfl⟩
 | n+1,[],[],_=>⟨[],rfl⟩
 | n+1,[],_::_,h=>by simp at h
 | n+1,x::l,vs,h=>by
  obtain ⟨r,hr⟩:=CW n l vs (by simp at h ⊢; omega);exact ⟨x::r,by rw [ux,hr]; rfl⟩
theorem Xh:∀ {ks:List CK} {cs:List KV},cs.length=ks.length->(∀ (i:Nat) c v,ks[i]? = some c->cs[i]? = some v->kindOk c v=true)->aD ks cs=true
 | [],[],_,_=>rfl
 | [],_::_,h,_=>by simp at h
 | _::_,[],h,_=>by simp at h
 | c::ks,v::cs,h,k=>by
  simp only [aD,ao];exact ⟨k 0 c v rfl rfl,Xh (by simpa using h) fun i d u e1 e2=>k (i+1) d u (by simpa using e1) (by simpa using e2)⟩
theorem ahf {l:Lay} {e:KV} (h:cw l e=true):l.agg=true\/e.cells.length=1:=by
 by_cases ha:∃ cs,e = .agg cs
 ·obtain ⟨cs,rfl⟩:=ha
  simp only [cw,ao] at h;exact .inl h.1
 ·have hc:e.cells = [e]:=by cases e <;> first | rfl | exact absurd ⟨_,rfl⟩ ha
  rw [hc];exact .inr rfl
theorem ajW {T t:TypeId} {k:Nat} {e vn e2:KV} {u w:Value} (hw:YB P T t k) (CU:cw (aQ P T) e=true) (hu:VK P E e u) (hvn:cw (aQ P t) vn=true) (hvw:VK P E vn w) (h:putCells P T k e vn.cells=some e2) :
  ∃ u2,VK P E e2 u2/\cw (aQ P T) e2=true/\u2.cells.size=aU P T/\e2.cells.length=e.cells.length/\(∀ m,u2.cells.toList[m]? = if k<=m/\m < k+w.cells.toList.length then w.cells.toList[m - k]? else u.cells.toList[m]?)/\(w.cells.toList≠[]->k+w.cells.toList.length<=aU P T):=by
 unfold putCells at h;obtain ⟨l1,l2,_⟩:=MF CU;rw [l1] at h;obtain ⟨kl,h1,rfl⟩:=ck.1 h;obtain ⟨tN,Vm⟩:=gf CU;obtain ⟨QD,RT⟩:=gf hvn;have hcu:=hu.cells Vm;have hcw:=hvw.cells RT;obtain ⟨r,h2,h3⟩:=aV.kW h1 hcu hcw;obtain ⟨s1,s2,s3⟩:=gz h2;obtain ⟨q1,q2,q3⟩:=MH h1;have Mp:e.cells.length=aU P T:=tU tN;have BI:=ahf CU;have hlr:r.length=e.cells.length:=by rw [s1,hcu.length]
 have qx:aD (aQ P T).ks kl=true:=by
  refine Xh (by rw [q1]; exact Mp) fun i c v e1 e3=>?_;rw [q3 i] at e3;split at e3
  ·rename_i hc
   obtain ⟨x,DT,hx2⟩:∃ d,(aQ P t).ks[i - k]? = some d/\d=c:=by
    have bj:i - k < (aQ P t).ks.length:=by rw [<- tU QD]; omega
    refine ⟨_,cK bj,?_⟩;have:=hw.is (i - k) _ (cK bj);rw [show k+(i - k)=i by omega,e1] at this;simpa using this.symm
   subst hx2;obtain ⟨v',h4,h5⟩:=CT QD DT;rw [e3] at h4;simp at h4; subst h4;exact h5
  ·obtain ⟨v',h4,h5⟩:=CT tN e1
   rw [e3] at h4;simp at h4; subst h4;exact h5
 have ans:cw (aQ P T) (N5 (aQ P T).agg kl)=true:=VU qx (by
  rcases BI with h | h
  ·exact .inl h
  ·exact .inr (by rw [<- tU tN]; exact h))
 have Jp:∀ v∈r,scalar v=true:=h3.scalar (G3 qx);have wm:(mkE (aQ P T).agg r).cells.toList=r:=ZS Jp (BI.imp id fun h=>by rw [hlr]; exact h);refine ⟨mkE (aQ P T).agg r,ZT h3 (BI.imp id fun h=>by rw [hlr]; exact h),ans,?_,?_,fun m=>?_,fun cI=>?_⟩
 ·rw [<- Array.length_toList,wm,hlr]; exact Mp
 ·exact (tU (gf ans).1).trans Mp.symm
 ·rw [wm]; exact s3 m
 ·have:=s2 cI
  rw [hcu.length] at this;omega
theorem ajX {sz i k:Nat} {cs:List Value} {bh:List Value} {u u2:Value} {wl:List Value} (hl:qB sz 0 cs bh) (hi:bh[i]? = some u) (hsu:u.cells.size=sz) (mG:wl≠[]->k+wl.length<=sz) (hg:∀ m,u2.cells.toList[m]? = if k<=m/\m < k+wl.length then wl[m - k]? else u.cells.toList[m]?) (jI:u2.cells.size=sz) :
  ∃ kl,gx (i * sz+k) cs wl=some kl/\qB sz 0 kl (bh.set i u2)/\kl.length=cs.length:=by
 have hex:∃ kl,gx (i * sz+k) cs wl=some kl:=by
  cases hwl:wl with
  | nil=>exact ⟨cs,Oo _ _⟩
  | cons a l=>
   have hf:=mG (by rw [hwl]; simp);rw [hwl] at hf;obtain ⟨_,hc⟩:=hl i u hi;have bj:k+l.length < u.cells.size:=by rw [hsu]; simp at hf; omega
   have:=hc (k+l.length) u.cells[k+l.length] (by simp [bj]);have hb:=(cH.1 this).1;exact CW _ _ _ (by simp; omega)
 obtain ⟨kl,h1⟩:=hex;obtain ⟨s1,s2,s3⟩:=gz h1;refine ⟨kl,h1,fun j x hx=>?_,s1⟩;rw [List.getElem?_set] at hx;split at hx
 ·rename_i e
  subst e;split at hx
  ·simp at hx; subst hx
   refine ⟨jI,fun m y hy=>?_⟩;have hy' : u2.cells.toList[m]? = some y:=by simpa using hy
   have hm:m < sz:=by rw [<- jI]; exact (rS.1 hy).1
   rw [hg m] at hy';rw [ba,s3];split at hy'
   ·rw [aE (by omega),show i * sz+m - (i * sz+k)=m - k by omega]; exact hy'
   ·rw [aa (by omega)]
    have:=(hl i u hi).2 m y (by simpa using hy');rwa [ba] at this
  ·simp at hx
 ·rename_i cI
  obtain ⟨h2,h3⟩:=hl j x hx;refine ⟨h2,fun m y hy=>?_⟩;have hm:m < sz:=by rw [<- h2]; exact (rS.1 hy).1
  rw [s3,aa]
  ·exact h3 m y hy
  ·rintro ⟨ha,hb⟩
   cases hwl:wl with
   | nil=>rw [hwl] at hb; simp at hb; omega
   | cons a l=>
    have hf:=mG (by rw [hwl]; simp);rcases Nat.lt_or_gt_of_ne cI with h | h
    ·have:(i+1) * sz<=j * sz:=Nat.mul_le_mul_right _ h
     rw [Nat.succ_mul] at this;omega
    ·have:(j+1) * sz<=i * sz:=Nat.mul_le_mul_right _ h
     rw [Nat.succ_mul] at this;omega
theorem ahg {T:TypeId} {N i:Nat} {es:List KV} {acc:Nat->KV} {e:KV} (ht:gW P T N es acc) (hi:i < N) (he:cw (aQ P T) e=true):gW P T N (setAt es i e) (bO acc i e) where
 len:=by rw [ER]; exact ht.len
 acc j hj:=by
  rw [Sf];unfold bO;cases hb:Nat.beq j i with
  | true=>have:=aK hb; rw [aE ⟨this,by rw [<- ht.len]; exact hi⟩]; rfl
  | false=>rw [aa (fun h=>by rw [h.1,tI] at hb; simp at hb)]; exact ht.acc j hj
 typed:=oM fun j x hx=>by
  have hx' : x=(setAt es i e).getD j .bf:=by rw [fD,hx]; rfl
  rw [Sf] at hx';split at hx'
  ·rw [hx']; exact he
  ·rename_i cI
   have bj:j < es.length:=by rw [<- ER es i e]; exact (cH.1 hx).1
   exact gE ht.typed (i:=j) (by rw [hx',fD,cK bj]; rfl)
theorem G4 {B:St} {x y lo hi:Nat} {bL:Option (Nat×Nat)} : (B.fj x bL lo hi).get y=B.get y\/∃ g k,bL=some (g,k)/\y∈B.members g/\y≠x/\(B.fj x bL lo hi).get y=some .dead/\∃ cs e own f j,B.get y=some (.row cs e own (some (f,j))):=by
 cases bL with
 | none=>exact .inl rfl
 | some p=>
  obtain ⟨g,k⟩:=p;simp only [St.fj,D2];by_cases hc:y∈B.members g/\y≠x/\rB (B.get y) (k+lo) (k+hi)=true
  ·refine .inr ⟨g,k,rfl,hc.1,hc.2.1,by rw [aE hc],?_⟩
   have hs:=hc.2.2;unfold rB at hs;split at hs
   ·rename_i cs e own f j hy; exact ⟨cs,e,own,f,j,hy⟩
   ·simp at hs
  ·exact .inl (by rw [aa hc])
theorem Lw {B:St} {x lo hi:Nat} {bL:Option (Nat×Nat)} : (B.fj x bL lo hi).members=B.members:=by
 cases bL with
 | none=>rfl
 | some p=>simp [St.fj]
theorem Rd {B:St} {x lo hi:Nat} {bL:Option (Nat×Nat)} : (B.fj x bL lo hi).next=B.next:=by
 cases bL with
 | none=>rfl
 | some p=>simp [St.fj]
theorem cO.aiG {A:ae} {B:St} {b x N lo hi:Nat} {T:TypeId} {es:List KV} {acc:Nat->KV} {bh cs lW:List Value} {bL:Option (Nat×Nat)} (h:dr P E A B) (hb:∃ v,A.get b=some (.arr v)) (hx:E.α b=some (x,lW.length,N))
  (fk:B.get x=some (.row lW (aU P T) true bL)) (hlen:cs.length=lW.length) (dP:1<=aU P T) (ht:gW P T N es acc) (Sg:aV P E es bh) (hl:qB (aU P T) 0 cs bh) :
  cO P E A B E (A.put b (.arr (.ts T .any N es acc))) ((B.put x (.row cs (aU P T) true bL)).fj x bL lo hi):=by
 obtain ⟨v0,hb⟩:=hb;have rX:AR A E x:=⟨b,v0,_,_,hb,hx⟩
 have jz:((B.put x (.row cs (aU P T) true bL)).fj x bL lo hi).get x=some (.row cs (aU P T) true bL):=by
  rcases G4 (B:=B.put x (.row cs (aU P T) true bL)) (x:=x) (y:=x) (lo:=lo) (hi:=hi) (bL:=bL) with e | ⟨g,k,_,_,h3,_⟩
  ·rw [e]; simp
  ·exact absurd rfl h3
 have hgy:∀ y,y≠x->((B.put x (.row cs (aU P T) true bL)).fj x bL lo hi).get y=B.get y\/(((B.put x (.row cs (aU P T) true bL)).fj x bL lo hi).get y=some .dead/\∃ g k,bL=some (g,k)/\y∈B.members g):=by
  intro y hy;rcases G4 (B:=B.put x (.row cs (aU P T) true bL)) (x:=x) (y:=y) (lo:=lo) (hi:=hi) (bL:=bL) with e | ⟨g,k,h1,h2,_,h4,_⟩
  ·exact .inl (by rw [e,St.bB,aa hy])
  ·exact .inr ⟨h4,g,k,h1,by simpa using h2⟩
 have mI:((B.put x (.row cs (aU P T) true bL)).fj x bL lo hi).members=B.members:=by rw [Lw]; simp
 have fU:((B.put x (.row cs (aU P T) true bL)).fj x bL lo hi).next=B.next:=by rw [Rd]; simp
 generalize (B.put x (.row cs (aU P T) true bL)).fj x bL lo hi=B' at jz hgy mI fU;have OU:∀ y,y≠x->(E.z y≠none\/AR A E y\/∃ c,E.κ c=some y)->B'.get y=B.get y:=by
  intro y hy hs;rcases hgy y hy with e | ⟨_,g,k,rfl,h2⟩
  ·exact e
  ·obtain ⟨_,_,h3⟩:=h.ar.vo b v0 x _ _ _ _ _ g k hb hx fk
   obtain ⟨h4,h5,h6⟩:=h3 y h2 hy;rcases hs with hs | hs | ⟨c,hs⟩
   ·exact absurd h4 hs
   ·exact absurd hs h5
   ·exact absurd hs (h6 c)
 have hA:∀ (c:Nat) (v:KV),(A.put b (.arr (.ts T .any N es acc))).get c=some (.arr v)->∃ u,A.get c=some (.arr u):=fun c v hc=>by
  rw [ae.bB] at hc;split at hc
  ·rename_i e; exact ⟨v0,by rw [e]; exact hb⟩
  ·exact ⟨v,hc⟩
 have OV:∀ y,AR (A.put b (.arr (.ts T .any N es acc))) E y->AR A E y:=fun y q=>by
  obtain ⟨c,v,L,M,h1,h2⟩:=q;obtain ⟨u,h1⟩:=hA c v h1;exact ⟨c,u,L,M,h1,h2⟩
 have ZU:∀ y,AR A E y->∀ ow e own Re,B'.get y=some (.row ow e own Re)->∃ kl,B.get y=some (.row kl e own Re)/\kl.length=ow.length:=fun y q ow e own Re hy=>by
  by_cases Fi:y=x
  ·subst Fi
   rw [jz] at hy;simp at hy;obtain ⟨rfl,rfl,rfl,rfl⟩:=hy;exact ⟨lW,fk,hlen.symm⟩
  ·rw [OU y Fi (.inr (.inl q))] at hy
   exact ⟨ow,hy,rfl⟩
 have ae4:∀ g,AF (A.put b (.arr (.ts T .any N es acc))) E B' g->AF A E B g:=fun g q=>by
  obtain ⟨c,v,y,L,M,ow,e,own,k,h1,h2,h3⟩:=q;obtain ⟨u,h1⟩:=hA c v h1;obtain ⟨kl,h3,_⟩:=ZU y ⟨c,u,L,M,h1,h2⟩ _ _ _ _ h3;exact ⟨c,u,y,L,M,kl,e,own,k,h1,h2,h3⟩
 refine ⟨⟨?_,?_,?_,h.apart,h.inj,h.gD.put (.inl fun _ _=>by simp),h.jM,h.kL,?_,fun b x e=>by rw [fU]; exact h.eS b x e,fun b r e=>by rw [fU]; exact h.lD b r e,fun b g e=>by rw [fU]; exact h.il b g e,fun g hg=>by rw [fU] at hg; rw [mI]; exact h.fresh g hg,fun g y hy=>by rw [mI] at hy; rw [fU]; exact h.mem g y hy,?_⟩,Env.le_refl _,aB _,?_,fun _ _ e=>.inl e,fun _ _ e=>.inl e,fun _ _ e=>.inl e,fun _ _ _ _=>by rw [mI],fun y q=>.inl (OV y q),fun g q=>.inl (ae4 g q),fun g y q=>.inl (by rw [mI] at q; exact q),fun y q=>.inl ?_,?_,oL hb (by simp)⟩
 ·intro c ow bm hc
  rw [ae.bB] at hc;split at hc
  ·simp at hc
  ·obtain ⟨y,c1,h1,h2,h3⟩:=h.row c ow bm hc
   have hy:y≠x:=fun e=>(h.ar.z x rX).2 c (by rw [<- e]; exact h1);exact ⟨y,c1,h1,by rw [OU y hy (.inr (.inr ⟨c,h1⟩))]; exact h2,h3⟩
 ·intro c top FU hc
  rw [ae.bB] at hc;split at hc
  ·simp at hc
  ·rcases h.aO c top FU hc with h1 | ⟨g,h1,h2,h3⟩
   ·exact .inl h1
   ·refine .inr ⟨g,h1,h2,fun y hy ow e own f k hr=>?_⟩
    rw [mI] at hy;by_cases Fi:y=x
    ·subst Fi
     rw [jz] at hr;simp at hr;obtain ⟨rfl,_,_,rfl⟩:=hr;obtain ⟨h4,h5⟩:=h3 y hy lW _ _ f k fk;exact ⟨h4,by rw [hlen]; exact h5⟩
    ·rcases hgy y Fi with e1 | ⟨e1,_⟩
     ·rw [e1] at hr; exact h3 y hy ow e own f k hr
     ·rw [e1] at hr; simp at hr
 ·intro y r hy
  have Fi:y≠x:=fun e=>by have:=(h.ar.z x rX).1; rw [<- e,hy] at this; simp at this
  rw [OU y Fi (.inl (by rw [hy]; simp))];exact h.z y r hy
 ·intro c o hc
  rw [ae.bB] at hc;split at hc
  ·rename_i e; rw [e]; exact h.live b _ hb
  ·exact h.live c o hc
 ·refine ⟨?_,?_,fun y q=>h.ar.z y (OV y q),?_,?_,h.ar.ZA,h.ar.jM,fun b x L N e=>by rw [fU]; exact h.ar.eS b x L N e,?_,fun c v hc=>?_⟩
  ·intro c v hc
   rw [ae.bB] at hc;split at hc
   ·rename_i e
    simp at hc;subst hc e;exact ⟨T,N,es,acc,rfl,ht,dP,.inr ⟨x,cs,bL,bh,by rw [hlen]; exact hx,jz,Sg,hl⟩⟩
   ·rename_i cI
    refine (h.ar.arr c v hc).mono (Env.le_refl _) rfl fun y L M e=>?_;have Fi:y≠x:=fun e2=>cI (h.ar.inj c b v v0 x _ _ _ _ hc hb (by rw [<- e2]; exact e) hx);exact OU y Fi (.inr (.inl ⟨c,v,L,M,hc,e⟩))
  ·intro c v hc
   rw [ae.bB] at hc;split at hc
   ·simp at hc
   ·exact h.ar.iC c v hc
  ·intro c d v u y L M L' M' h1 h2 h3 h4
   obtain ⟨v',h1⟩:=hA c v h1;obtain ⟨u',h2⟩:=hA d u h2;exact h.ar.inj c d v' u' y L M L' M' h1 h2 h3 h4
  ·intro c d v u y w L M L' M' ow e own g k kl e' rb k' h1 h2 h3 h4 h5 h6
   obtain ⟨v',h1⟩:=hA c v h1;obtain ⟨u',h2⟩:=hA d u h2;obtain ⟨_,h5,_⟩:=ZU y ⟨c,v',L,M,h1,h3⟩ _ _ _ _ h5;obtain ⟨_,h6,_⟩:=ZU w ⟨d,u',L',M',h2,h4⟩ _ _ _ _ h6;exact h.ar.wW c d v' u' y w L M L' M' _ e own g k _ e' rb k' h1 h2 h3 h4 h5 h6
  ·intro c v y L M ow e own g k h1 h2 h3
   obtain ⟨v',h1⟩:=hA c v h1;obtain ⟨_,h3,_⟩:=ZU y ⟨c,v',L,M,h1,h2⟩ _ _ _ _ h3;obtain ⟨h4,h5,h6⟩:=h.ar.vo c v' y L M _ e own g k h1 h2 h3;refine ⟨by rw [fU]; exact h4,h5,fun z hz cI=>?_⟩;rw [mI] at hz;obtain ⟨h7,h8,h9⟩:=h6 z hz cI;exact ⟨h7,fun q=>h8 (OV z q),h9⟩
  ·rw [ae.bB] at hc
   rw [ae.ss];split at hc
   ·rename_i e; rw [e]; exact h.ar.nk b _ hb
   ·exact h.ar.nk c v hc
 ·intro y hy hn ha
  by_cases Fi:y=x
  ·subst Fi; exact absurd (.inl rX) ha
  ·rcases hgy y Fi with e | ⟨_,g,k,rfl,h2⟩
   ·exact e
   ·exact absurd (.inr ⟨g,⟨b,v0,x,_,_,lW,_,_,k,hb,hx,fk⟩,h2⟩) ha
 ·rcases q with q | ⟨g,h1,h2⟩
  ·exact .inl (OV y q)
  ·exact .inr ⟨g,ae4 g h1,by rw [mI] at h2; exact h2⟩
 ·intro y hy ow e own Re hr
  by_cases Fi:y=x
  ·exact ZU y (by rw [Fi]; exact rX) ow e own Re hr
  ·rcases hgy y Fi with e1 | ⟨e1,_⟩
   ·exact ⟨ow,by rw [<- e1]; exact hr,rfl⟩
   ·rw [e1] at hr; simp at hr
theorem ajY {t:TypeId} : aiE P (Tw P t) (Jt P t):=by
 intro E A A' B vs us v h hv hg;unfold Tw at hg;split at hg
 ·rename_i b off x
  obtain ⟨y,z,rfl,h1,h2⟩:=hv.j9;obtain ⟨c,hx,rfl⟩:=h1.hO;obtain ⟨hc,hg⟩:=hg.cond;simp only [ao,lT] at hc;obtain ⟨dP,ho⟩:=hc;split at hg
  ·rename_i cs bm fk
   split at hg
   ·rename_i bM hw
    have hg:(tP,A.put b (.row bM bm))=(v,A'):=hg;simp only [du] at hg;obtain ⟨rfl,rfl⟩:=hg;obtain ⟨c',d,e1,e2,e3⟩:=h.row b cs bm fk;rw [hx] at e1;simp at e1;subst e1;have Ki:=h2.cells (AK ho);obtain ⟨r,e4,e5⟩:=aV.kW hw e3 Ki;have qy:z.cells.toList.all scalar=true:=fe.2 (Ki.scalar ho);have ak9:some z.cells.size=size? P t:=by rw [<- dP,OJ h2 (AK ho)]
    refine ⟨undef,B.put c (.row r bm true none),E,?_,.undef,cO.putRow h ⟨_,_,fk⟩ hx ⟨d,e2,(gz e4).1.symm⟩ e5⟩;simp [Jt,storeAt,ak9,St.Bg,cL,qy,e2,e4,St.fj]
   ·exact hg.elim
  ·exact hg.elim
 ·rename_i T Tc b i k x
  obtain ⟨y,z,rfl,h1,h2⟩:=hv.j9;split at hg
  ·rename_i T' mk N es acc hA
   obtain ⟨hc,N6⟩:=hg.cond;clear hg;simp only [ao,lT] at hc;obtain ⟨⟨⟨hT,hTc⟩,CU⟩,dP⟩:=hc;have:=aK hT;subst this;have:=aK hTc;subst this;split at N6
   ·rename_i e2 he2
    have hg:(tP,A.put b (.arr (air T N i es acc e2)))=(v,A'):=N6;simp only [du] at hg;obtain ⟨rfl,rfl⟩:=hg;obtain ⟨c,L,N',h3,hw,hi,rfl⟩:=h1.JE;obtain ⟨T2,N2,o9,aw,CJ,ht,h1s,xU⟩:=h.ar.arr b _ hA;simp only [KV.ts.injEq] at CJ;obtain ⟨rfl,rfl,rfl,rfl,rfl⟩:=CJ;rcases xU with ⟨_,h4⟩ | ⟨c',cs,bL,bh,h4,h5,h6,h7⟩
    ·rw [h3] at h4; simp at h4
    rw [h3] at h4;simp only [bN,du] at h4;obtain ⟨rfl,rfl,rfl⟩:=h4;have bj:i < es.length:=by rw [<- ht.len]; exact hi
    have hei:es[i]? = some (acc i):=by rw [ht.acc i hi]; simp [List.getD,bj]
    obtain ⟨u,h8,h9⟩:=h6.get hei;obtain ⟨hsu,qJ⟩:=h7 i u h8;rw [ba] at qJ;have hvn:=h2.dJ (l:=aQ P Tc);obtain ⟨u2,p1,p2,p3,p4,p5,p6⟩:=ajW (T:=T) (t:=Tc) hw (gE ht.typed hei) h9 CU hvn he2;obtain ⟨kl,w1,w2,w3⟩:=ajX h7 h8 hsu p6 p5 p3;have gZ:=cO.aiG (lo:=i * aU P T+k) (hi:=i * aU P T+k+z.cells.toList.length) h ⟨_,hA⟩ h3 h5 (gz w1).1 h1s (ahg ht hi p2) (bh:=bh.set i u2) (Sc p1 i h6) w2;obtain ⟨tN,Vm⟩:=gf CU;have qy:z.cells.toList.all scalar=true:=fe.2 ((hvn.cells Vm).scalar (G3 tN));have hzs:some z.cells.size=size? P Tc:=by
     rw [dP,<- tU tN];exact congrArg some (OJ hvn Vm)
    refine ⟨undef,_,E,?_,.undef,gZ⟩;simp [Jt,storeAt,hzs,St.Bg,cL,qy,h5,w1]
   ·exact N6.elim
  ·exact hg.elim
 ·exact hg.elim
end Go.K
end
section
namespace Go.K
open Go Go.aI
variable {P:Program} {E:Env}
def Env.DU (E:Env) (b:Nat) (p:Nat×Nat×Nat):Env:={ E with α:=fun c=>if c=b then some p else E.α c }
theorem Env.ala {A:ae} {B:St} {p:Nat×Nat×Nat} (h:dr P E A B):E.le (E.DU A.next p):=⟨fun b q e=>by
 have:=h.ar.jM b q e;simp only [Env.DU]; rw [aa (by omega)]; exact e,fun _ _ e=>e,fun _ _ e=>e,fun _ _ e=>e⟩
theorem Env.zj {b:Nat} {p:Nat×Nat×Nat} : (E.DU b p).α b=some p:=by simp [Env.DU]
theorem Env.Lx {b c:Nat} {p:Nat×Nat×Nat} (h:c≠b):(E.DU b p).α c=E.α c:=by simp [Env.DU,h]
theorem cO.MI {A A1:ae} {B B' : St} {X G:Nat->Prop} {y2 N2:Nat} {T:TypeId} {o9:List KV} {aw:Nat->KV} {Fb kl:List Value} {tM:Option (Nat×Nat)} (h:dr P E A B)
  (tV:A1.next=A.next) (FW:∀ c o,A1.get c=some o->A.get c=some o\/(o = .dead/\c < A.next)) (hh:∀ c,A.get c=some wg->A1.get c=some wg)
  (f1:∀ c v,A1.get c=some (.arr v)->∀ y L N,E.α c=some (y,L,N)->¬ X y/\∀ cs e own g k,B.get y=some (.row cs e own (some (g,k)))->¬ G g)
  (f2:∀ y,X y->AR A E y) (f3:∀ g,G g->AF A E B g/\g < B.next/\(∀ f,E.φ f≠some g)/\∀ y∈B.members g,¬ X y->E.z y=none/\¬ AR A E y/\∀ c,E.κ c≠some y)
  (n1:X y2\/B.next<=y2) (n1' : y2 < B'.next) (ae5:B'.get y2=some (.row kl (aU P T) true tM)) (n2:∀ g k,tM=some (g,k)->G g\/(B.next<=g/\g < B'.next))
  (b1:∀ y,y < B.next->¬ X y->B'.get y=B.get y\/(B'.get y=some .dead/\∃ g,G g/\y∈B.members g))
  (b2:∀ y,X y->∀ cs e own bL,B'.get y=some (.row cs e own bL)->∃ c,B.get y=some (.row c e own bL)/\c.length=cs.length)
  (b3:∀ q y,y∈B'.members q->y∈B.members q\/(y=y2/\B.next<=y2/\∃ k,tM=some (q,k))) (b3' : ∀ q,(∀ k,tM≠some (q,k))->B'.members q=B.members q)
  (b4:B.next<=B'.next) (b4' : ∀ g,B'.next<=g->B'.members g = []) (aoZ:∀ g y,y∈B'.members g->y < B'.next)
  (dP:1<=aU P T) (ht:gW P T N2 o9 aw) (Sg:aV P E o9 Fb) (hl:qB (aU P T) 0 kl Fb) :
  cO P E A B (E.DU A.next (y2,kl.length,N2)) (A1.new (.arr (.ts T .any N2 o9 aw))) B':=by
 have hle:=Env.ala (p:=(y2,kl.length,N2)) h;have alb:E.α A.next=none:=by
  cases hq:E.α A.next with
  | none=>rfl
  | some p=>have:=h.ar.jM _ p hq; omega
 have hXlt:∀ y,X y->y < B.next:=fun y hy=>h.HX (f2 y hy);have OU:∀ y,y < B.next->¬ X y->(E.z y≠none\/AR A E y\/∃ c,E.κ c=some y)->B'.get y=B.get y:=by
  intro y bj hy hs;rcases b1 y bj hy with e | ⟨_,g,hg,h2⟩
  ·exact e
  ·obtain ⟨_,_,_,h3⟩:=f3 g hg
   obtain ⟨h4,h5,h6⟩:=h3 y h2 hy;rcases hs with hs | hs | ⟨c,hs⟩
   ·exact absurd h4 hs
   ·exact absurd hs h5
   ·exact absurd hs (h6 c)
 have hXz:∀ y,X y->E.z y=none/\∀ c,E.κ c≠some y:=fun y hy=>h.ar.z y (f2 y hy);have fI:∀ c o,(A1.new (.arr (.ts T .any N2 o9 aw))).get c=some o->(c=A.next/\o = .arr (.ts T .any N2 o9 aw))\/(c≠A.next/\A1.get c=some o):=fun c o hc=>by
  rw [ae.cq,tV] at hc;split at hc
  ·rename_i e; simp at hc; exact .inl ⟨e,hc.symm⟩
  ·rename_i e; exact .inr ⟨e,hc⟩
 have hold:∀ c o,A1.get c=some o->o≠.dead->A.get c=some o:=fun c o hc hd=>by
  rcases FW c o hc with e | ⟨e,_⟩
  ·exact e
  ·exact absurd e hd
 have rD:∀ c v,(A1.new (.arr (.ts T .any N2 o9 aw))).get c=some (.arr v)->(c=A.next/\v = .ts T .any N2 o9 aw/\(E.DU A.next (y2,kl.length,N2)).α c=some (y2,kl.length,N2))\/(c≠A.next/\A1.get c=some (.arr v)/\A.get c=some (.arr v)/\(E.DU A.next (y2,kl.length,N2)).α c=E.α c):=fun c v hc=>by
  rcases fI c _ hc with ⟨e,e2⟩ | ⟨e,e2⟩
  ·simp at e2
   exact .inl ⟨e,e2,by rw [e]; exact Env.zj⟩
  ·exact .inr ⟨e,e2,hold c _ e2 (by simp),Env.Lx e⟩
 have G5:∀ c v y L N,A1.get c=some (.arr v)->E.α c=some (y,L,N)->AR A E y/\¬ X y/\y < B.next/\B'.get y=B.get y:=fun c v y L N h1 h2=>by
  have h3:AR A E y:=⟨c,v,L,N,hold c _ h1 (by simp),h2⟩
  obtain ⟨h4,_⟩:=f1 c v h1 y L N h2;have h5:=h.HX h3;exact ⟨h3,h4,h5,OU y h5 h4 (.inr (.inl h3))⟩
 have OV:∀ y,AR (A1.new (.arr (.ts T .any N2 o9 aw))) (E.DU A.next (y2,kl.length,N2)) y->y=y2\/(AR A E y/\¬ X y):=fun y q=>by
  obtain ⟨c,v,L,M,h1,h2⟩:=q;rcases rD c v h1 with ⟨_,_,e⟩ | ⟨_,e1,e2,e⟩
  ·rw [e] at h2; simp at h2; exact .inl h2.1.symm
  ·rw [e] at h2
   obtain ⟨h3,h4,_⟩:=G5 c v y L M e1 h2;exact .inr ⟨h3,h4⟩
 have alc:∀ y,y=y2->AR A E y\/B.next<=y:=fun y e=>by
  subst e;exact n1.imp (f2 y) id
 have ae4:∀ g,AF (A1.new (.arr (.ts T .any N2 o9 aw))) (E.DU A.next (y2,kl.length,N2)) B' g->(∃ k,tM=some (g,k))\/(AF A E B g/\¬ G g/\g < B.next):=fun g q=>by
  obtain ⟨c,v,y,L,M,ow,e,own,k,h1,h2,h3⟩:=q;rcases rD c v h1 with ⟨_,_,e⟩ | ⟨_,e1,e2,e⟩
  ·rw [e] at h2
   simp at h2;rw [<- h2.1,ae5] at h3;simp at h3;exact .inl ⟨k,h3.2.2.2⟩
  ·rw [e] at h2
   obtain ⟨_,_,_,h4⟩:=G5 c v y L M e1 h2;rw [h4] at h3;refine .inr ⟨⟨c,v,y,L,M,ow,_,own,k,e2,h2,h3⟩,(f1 c v e1 y L M h2).2 _ _ _ _ _ h3,(h.ar.vo c v y L M _ _ _ g k e2 h2 h3).1⟩
 have ant:∀ g,(∃ k,tM=some (g,k))->AF A E B g\/B.next<=g:=fun g ⟨k,e⟩=>by
  rcases n2 g k e with hg | ⟨hg,_⟩
  ·exact .inl (f3 g hg).1
  ·exact .inr hg
 refine ⟨⟨?_,?_,?_,h.apart,h.inj,?_,fun b x e=>by rw [ae.bR,tV]; have:=h.jM b x e; omega,fun b g e=>by rw [ae.bR,tV]; have:=h.kL b g e; omega,?_,fun b x e=>by have:=h.eS b x e; omega,fun b r e=>by have:=h.lD b r e; omega,fun b g e=>by have:=h.il b g e; omega,b4',aoZ,?_⟩,hle,by rw [ae.bR,tV]; omega,?_,fun _ _ e=>.inl e,fun _ _ e=>.inl e,fun _ _ e=>.inl e,?_,fun y q=>?_,fun g q=>?_,fun g y q=>?_,fun y q=>?_,?_,fun b hb=>by
  rw [ae.cq,tV,aa]
  ·exact hh b hb
  ·intro e
   have:=h.live b _ hb;omega⟩
 ·intro c ow bm hc
  rcases fI c _ hc with ⟨_,e⟩ | ⟨_,e⟩
  ·simp at e
  ·obtain ⟨y,c1,h1,h2,h3⟩:=h.row c ow bm (hold c _ e (by simp))
   have hy : ¬ X y:=fun e=>(hXz y e).2 c h1;exact ⟨y,c1,h1,by rw [OU y (h.eS c y h1) hy (.inr (.inr ⟨c,h1⟩))]; exact h2,h3.mono hle⟩
 ·intro c top FU hc
  rcases fI c _ hc with ⟨_,e⟩ | ⟨_,e⟩
  ·simp at e
  ·rcases h.aO c top FU (hold c _ e (by simp)) with h1 | ⟨g,h1,h2,h3⟩
   ·exact .inl h1
   ·refine .inr ⟨g,h1,h2,fun y hy ow e own f k hr=>?_⟩
    have hgG:∀ k,tM≠some (g,k):=fun k e=>by
     rcases n2 g k e with hg | ⟨hg,_⟩
     ·exact (f3 g hg).2.2.1 c h1
     ·have:=h.il c g h1; omega
    rw [b3' g hgG] at hy;have bj:=h.mem g y hy;by_cases Fi:X y
    ·obtain ⟨c0,h4,h5⟩:=b2 y Fi _ _ _ _ hr
     obtain ⟨h6,h7⟩:=h3 y hy c0 _ _ f k h4;exact ⟨h6,by rw [<- h5]; exact h7⟩
    ·rcases b1 y bj Fi with e1 | ⟨e1,_⟩
     ·rw [e1] at hr; exact h3 y hy ow _ own f k hr
     ·rw [e1] at hr; simp at hr
 ·intro y r hy
  have hy:E.z y=some r:=hy;have Fi : ¬ X y:=fun e=>by have:=(hXz y e).1; rw [hy] at this; simp at this
  rw [OU y (h.lD y r hy) Fi (.inl (by rw [hy]; simp))];exact h.z y r hy
 ·intro b c g tb sb tc sc hb hc e1 e2
  rcases fI b _ hb with ⟨_,e⟩ | ⟨_,hb⟩
  ·simp at e
  rcases fI c _ hc with ⟨_,e⟩ | ⟨_,hc⟩
  ·simp at e
  exact h.gD b c g _ _ _ _ (hold b _ hb (by simp)) (hold c _ hc (by simp)) e1 e2
 ·intro c o hc
  rw [ae.bR,tV];rcases fI c _ hc with ⟨e,_⟩ | ⟨_,e⟩
  ·omega
  ·rcases FW c o e with e | ⟨_,e⟩
   ·have:=h.live c o e; omega
   ·omega
 ·refine ⟨?_,?_,?_,?_,?_,?_,?_,?_,?_,?_⟩
  ·intro c v hc
   rcases rD c v hc with ⟨_,rfl,e⟩ | ⟨_,e1,e2,e⟩
   ·exact ⟨T,N2,o9,aw,rfl,ht,dP,.inr ⟨y2,kl,tM,Fb,e,ae5,Sg.mono hle,hl⟩⟩
   ·exact (h.ar.arr c v e2).mono hle e fun y L M hy=>(G5 c v y L M e1 hy).2.2.2
  ·intro c v hc
   rcases fI c _ hc with ⟨_,e⟩ | ⟨cI,e⟩
   ·simp at e
   ·exact (h.ar.iC c v (hold c _ e (by simp))).mono hle (Env.Lx cI)
  ·intro y q
   rcases OV y q with e | ⟨e,_⟩
   ·subst e
    rcases n1 with hx | hx
    ·exact hXz y hx
    ·refine ⟨?_,fun c e=>by have:=h.eS c y e; omega⟩
     cases hz:E.z y with
     | none=>exact hz
     | some r=>have:=h.lD y r hz; omega
   ·exact h.ar.z y e
  ·intro c d v u y L M L' M' h1 h2 h3 h4
   rcases rD c v h1 with ⟨e1,_,e⟩ | ⟨_,p1,p2,e⟩ <;> rcases rD d u h2 with ⟨e2,_,e'⟩ | ⟨_,q1,q2,e'⟩
   ·omega
   ·rw [e] at h3; rw [e'] at h4
    simp at h3;obtain ⟨_,h5,h6,_⟩:=G5 d u y L' M' q1 h4;rw [<- h3.1] at h5 h6;rcases n1 with hx | hx
    ·exact absurd hx h5
    ·omega
   ·rw [e] at h3; rw [e'] at h4
    simp at h4;obtain ⟨_,h5,h6,_⟩:=G5 c v y L M p1 h3;rw [<- h4.1] at h5 h6;rcases n1 with hx | hx
    ·exact absurd hx h5
    ·omega
   ·rw [e] at h3; rw [e'] at h4
    exact h.ar.inj c d v u y L M L' M' p2 q2 h3 h4
  ·intro c d v u y w L M L' M' ow e own g k cs3 e' rb k' h1 h2 h3 h4 h5 h6
   have H0:∀ {c v y L M ow e own k k2},A1.get c=some (.arr v)->E.α c=some (y,L,M)->B'.get y=some (.row ow e own (some (g,k)))->tM=some (g,k2)->False:=by
    intro c v y L M ow e own k k2 q1 q2 q3 q4;obtain ⟨r1,r2,r3,r4⟩:=G5 c v y L M q1 q2;rw [r4] at q3;rcases n2 g k2 q4 with hg | ⟨hg,_⟩
    ·exact (f1 c v q1 y L M q2).2 _ _ _ _ _ q3 hg
    ·have:=(h.ar.vo c v y L M _ _ _ g k (hold c _ q1 (by simp)) q2 q3).1; omega
   rcases rD c v h1 with ⟨e1,_,ea⟩ | ⟨_,p1,p2,ea⟩ <;> rcases rD d u h2 with ⟨e2,_,eb⟩ | ⟨_,q1,q2,eb⟩
   ·omega
   ·rw [ea] at h3; rw [eb] at h4
    simp at h3;rw [<- h3.1,ae5] at h5;simp at h5;exact (H0 q1 h4 h6 h5.2.2.2).elim
   ·rw [ea] at h3; rw [eb] at h4
    simp at h4;rw [<- h4.1,ae5] at h6;simp at h6;exact (H0 p1 h3 h5 h6.2.2.2).elim
   ·rw [ea] at h3; rw [eb] at h4
    rw [(G5 c v y L M p1 h3).2.2.2] at h5;rw [(G5 d u w L' M' q1 h4).2.2.2] at h6;exact h.ar.wW c d v u y w L M L' M' _ _ _ g k _ _ _ k' p2 q2 h3 h4 h5 h6
  ·intro b x e
   have hb:=h.jM b x e;rw [Env.Lx (by omega)];exact h.ar.ZA b x e
  ·intro b p e
   rw [ae.bR,tV];by_cases hb:b=A.next
   ·omega
   ·rw [Env.Lx hb] at e; have:=h.ar.jM b p e; omega
  ·intro b x L N e
   by_cases hb:b=A.next
   ·subst hb; rw [Env.zj] at e; simp at e; omega
   ·rw [Env.Lx hb] at e; have:=h.ar.eS b x L N e; omega
  ·intro c v y L M ow e own g k h1 h2 h3
   rcases rD c v h1 with ⟨_,_,ea⟩ | ⟨_,p1,p2,ea⟩
   ·rw [ea] at h2
    simp at h2;obtain ⟨rfl,_⟩:=h2;rw [ae5] at h3;simp at h3;have hk:=h3.2.2.2;refine ⟨?_,fun f e=>?_,fun z hz cI=>?_⟩
    ·rcases n2 g k hk with hg | ⟨_,hg⟩
     ·have:=(f3 g hg).2.1; omega
     ·exact hg
    ·rcases n2 g k hk with hg | ⟨hg,_⟩
     ·exact (f3 g hg).2.2.1 f e
     ·have:=h.il f g e; omega
    ·rcases b3 g z hz with hz | ⟨e,_⟩
     ·rcases n2 g k hk with hg | ⟨hg,_⟩
      ·by_cases aiH:X z
       ·exact ⟨(hXz z aiH).1,fun q=>by
         rcases OV z q with e | ⟨_,e⟩
         ·exact cI e
         ·exact e aiH,(hXz z aiH).2⟩
       ·obtain ⟨h7,h8,h9⟩:=(f3 g hg).2.2.2 z hz aiH
        refine ⟨h7,fun q=>?_,h9⟩;rcases OV z q with e | ⟨e,_⟩
        ·exact cI e
        ·exact h8 e
      ·rw [h.fresh g hg] at hz; simp at hz
     ·exact absurd e cI
   ·rw [ea] at h2
    obtain ⟨r1,r2,r3,r4⟩:=G5 c v y L M p1 h2;rw [r4] at h3;obtain ⟨h4,h5,h6⟩:=h.ar.vo c v y L M _ _ _ g k p2 h2 h3;refine ⟨by omega,h5,fun z hz cI=>?_⟩;have hnG:=(f1 c v p1 y L M h2).2 _ _ _ _ _ h3;rw [b3' g (fun k e=>by
     rcases n2 g k e with hg | ⟨hg,_⟩
     ·exact hnG hg
     ·omega)] at hz
    obtain ⟨h7,h8,h9⟩:=h6 z hz cI;refine ⟨h7,fun q=>?_,h9⟩;rcases OV z q with e | ⟨e,_⟩
    ·subst e
     rcases n1 with hx | hx
     ·exact h8 (f2 z hx)
     ·have:=h.mem g z hz; omega
    ·exact h8 e
  ·intro c v hc
   rw [ae.bR,tV];rcases rD c v hc with ⟨e1,_,_⟩ | ⟨_,_,e2,_⟩
   ·subst e1
    refine ⟨P1 _,?_⟩;show E.κ A.next=none;cases hk:E.κ A.next with
    | none=>rfl
    | some x=>have:=h.jM _ x hk; omega
   ·obtain ⟨q1,q2⟩:=h.ar.nk c v e2
    exact ⟨by omega,q2⟩
 ·intro y hy hn ha
  by_cases Fi:X y
  ·exact absurd (.inl (f2 y Fi)) ha
  ·rcases b1 y hy Fi with e | ⟨_,g,hg,h2⟩
   ·exact e
   ·exact absurd (.inr ⟨g,(f3 g hg).1,h2⟩) ha
 ·intro g hg hn ha
  refine b3' g fun k e=>?_;rcases n2 g k e with hg' | ⟨hg',_⟩
  ·exact ha (f3 g hg').1
  ·omega
 ·rcases OV y q with e | ⟨e,_⟩
  ·exact alc y e
  ·exact .inl e
 ·rcases ae4 g q with e | ⟨e,_⟩
  ·exact ant g e
  ·exact .inl e
 ·rcases b3 g y q with e | ⟨e,e2,_⟩
  ·exact .inl e
  ·exact .inr (by omega)
 ·rcases q with q | ⟨g,h1,h2⟩
  ·rcases OV y q with e | ⟨e,_⟩
   ·rcases alc y e with e | e
    ·exact .inl (.inl e)
    ·exact .inr e
   ·exact .inl (.inl e)
  ·rcases b3 g y h2 with e | ⟨e,e2,_⟩
   ·rcases ae4 g h1 with e1 | ⟨e1,_⟩
    ·rcases ant g e1 with e2 | e2
     ·exact .inl (.inr ⟨g,e2,e⟩)
     ·rw [h.fresh g e2] at e; simp at e
    ·exact .inl (.inr ⟨g,e1,e⟩)
   ·exact .inr (by omega)
 ·intro y hy ow e own Re hr
  by_cases Fi:X y
  ·exact b2 y Fi ow e own Re hr
  ·rcases b1 y hy Fi with e1 | ⟨e1,_⟩
   ·exact ⟨ow,by rw [<- e1]; exact hr,rfl⟩
   ·rw [e1] at hr; simp at hr
end Go.K
end
section
namespace Go.K
open Go Go.aI
variable {P:Program} {E:Env}
theorem cO.aob {A:ae} {B:St} {c:List Value} {n:Nat} (h:dr P E A B):cO P E A B (E.eI B.next ⟨c,n,true,some (B.next,0)⟩) A (B.grow B.next 0 c n):=by
 have nR:∀ x,(B.grow B.next 0 c n).get x=if x=B.next then some (.row c n true (some (B.next,0))) else B.get x:=fun x=>by simp [St.grow]
 have mI:∀ q,(B.grow B.next 0 c n).members q=if q=B.next then B.next::B.members B.next else B.members q:=fun q=>by simp [St.grow,St.EK]
 have fU:(B.grow B.next 0 c n).next=B.next+1:=rfl;have hle:E.le (E.eI B.next ⟨c,n,true,some (B.next,0)⟩):=⟨fun _ _ e=>e,fun _ _ e=>e,fun b r e=>by
  have:=h.lD b r e;simp only [Env.eI]; rw [aa (by omega)]; exact e,fun _ _ e=>e⟩
 generalize B.grow B.next 0 c n=B' at nR mI fU;have BM:∀ x,x < B.next->B'.get x=B.get x:=fun x hx=>by rw [nR,aa (by omega)]
 have OQ:∀ b r,(E.eI B.next ⟨c,n,true,some (B.next,0)⟩).z b=some r->E.z b=some r\/B.next<=b:=fun b r e=>by
  simp only [Env.eI] at e;split at e
  ·exact .inr (by omega)
  ·exact .inl e
 have Se:∀ q,AF A E B q->B'.members q=B.members q:=fun q hq=>by
  rw [mI,aa];intro e2;obtain ⟨b,v,x,L,N,cs,e,own,k,h1,h2,h3⟩:=hq;obtain ⟨h4,h5,_⟩:=h.ar.vo b v x L N cs e own q k h1 h2 h3;omega
 have ahe:∀ q y,y∈B'.members q->y∈B.members q\/B.next<=y:=fun q y hy=>by
  rw [mI] at hy;split at hy
  ·rename_i e2
   subst e2;rcases de.1 hy with hy | hy
   ·exact .inr (by omega)
   ·exact .inl hy
  ·exact .inl hy
 refine ⟨⟨?_,?_,?_,?_,h.inj,h.gD,h.jM,h.kL,h.live,?_,?_,?_,?_,?_,h.ar.dL hle (fun _=>rfl) (fun _ _ e=>e) (fun _ _ e=>e) (aB _) (by omega) (fun x q=>BM x (h.HX q)) OQ (fun _ _ e=>.inl e) (fun b q e=>.inl ⟨b,e⟩) Se h.mem⟩,hle,aB _,?_,fun b x e=>.inl e,fun b r e=>(OQ b r e).imp id .inr,fun b q e=>.inl e,fun q hq hn _=>by rw [mI,aa (by omega)],fun _ q=>.inl q,fun _ q=>.inl (q.of (fun _=>rfl) (fun _ _ e=>e) fun x q=>BM x (h.HX q)),ahe,fun _ q=>.inl (q.of (fun _=>rfl) (fun _ _ e=>e) (fun x q=>BM x (h.HX q)) Se),mj BM,fun _ e=>e⟩
 ·intro b lW OP hb
  obtain ⟨x,d,h1,h2,h3⟩:=h.row b lW OP hb;have:=h.eS b x h1;exact ⟨x,d,h1,by rw [nR,aa (by omega)]; exact h2,h3.mono hle⟩
 ·intro b top FU hb
  rcases h.aO b top FU hb with h1 | ⟨g,h1,ZN,h2⟩
  ·exact .inl h1
  ·have hg:=h.il b g h1
   refine .inr ⟨g,h1,ZN,fun x hx d e own f k hr=>?_⟩;rw [mI,aa (by omega)] at hx;have:=h.mem g x hx;rw [nR,aa (by omega)] at hr;exact h2 x hx d e own f k hr
 ·intro b r hb
  simp only [Env.eI] at hb;rw [nR];split at hb
  ·rename_i e; simp at hb; subst hb; rw [aE e]
  ·rename_i e; rw [aa e]; exact h.z b r hb
 ·intro b x hb
  have:=h.eS b x hb;simp only [Env.eI];rw [aa (by omega)];exact h.apart b x hb
 ·intro b x hb; have:=h.eS b x hb; omega
 ·intro b r hb
  simp only [Env.eI] at hb;rw [fU];split at hb
  ·omega
  ·have:=h.lD b r hb; omega
 ·intro b g hb; have:=h.il b g hb; omega
 ·intro g hg
  rw [fU] at hg;rw [mI,aa (by omega)];exact h.fresh g (by omega)
 ·intro g x hx
  rw [fU];rw [mI] at hx;split at hx
  ·rcases de.1 hx with hx | hx
   ·omega
   ·have:=h.mem _ x hx; omega
  ·have:=h.mem g x hx; omega
 ·intro x hx _ _; rw [nR,aa (by omega)]
theorem cO.after {A A1 A2:ae} {B B2:St} {E2:Env} (h:cO P E A B E A1 B) (k:cO P E A1 B E2 A2 B2):cO P E A B E2 A2 B2 where
 fT:=k.fT
 le:=k.le
 next:=gS h.next k.next
 dL x hx hn ha:=k.dL x hx (fun b e=>h.CR b (hn b e)) fun q=>(h.lX x q).elim ha fun e=>by omega
 new b x e:=(k.new b x e).imp id fun q=>⟨gS h.next q.1,q.2⟩
 tT b r e:=by
  rcases k.tT b r e with e | e | e
  ·exact .inl e
  ·exact .inr (h.kr b e)
  ·exact .inr (.inr e)
 rZ:=k.rZ
 oK g hg hn ha:=k.oK g hg hn fun q=>(h.kM g q).elim ha fun e=>by omega
 kr x q:=(k.kr x q).elim (h.kr x) .inr
 kM g q:=(k.kM g q).elim (h.kM g) .inr
 vp:=k.vp
 lX y q:=(k.lX y q).elim (h.lX y) .inr
 rows:=k.rows
 CR b q:=k.CR b (h.CR b q)
theorem cO.aiI {A:ae} {B:St} {f t:Nat} (sz:Nat) (h:dr P E A B) {FU:Nat} (hA:A.get f=some (.aO t FU)) (Jo:E.φ f=none):cO P E A B E (A.put f (.aO 0 sz)) B:=by
 have TJ:∀ (b:Nat) (v:KV),(A.put f (.aO 0 sz)).get b=some (.arr v)->A.get b=some (.arr v):=fun b v hb=>by
  rw [ae.bB] at hb;split at hb
  ·simp at hb
  ·exact hb
 have VP:∀ (b:Nat) (v:KV),(A.put f (.aO 0 sz)).get b=some (.iC v)->A.get b=some (.iC v):=fun b v hb=>by
  rw [ae.bB] at hb;split at hb
  ·simp at hb
  ·exact hb
 refine ⟨⟨fun b cs bm hb=>?_,fun b top FU hb=>?_,h.z,h.apart,h.inj,h.gD.put (.inr Jo),h.jM,h.kL,fun b o hb=>?_,h.eS,h.lD,h.il,h.fresh,h.mem,h.ar.dL (Env.le_refl _) (fun _=>rfl) TJ VP (aB _) (aB _) (fun _ _=>rfl) (fun _ _ e=>.inl e) (fun _ _ e=>.inl e) (fun b g e=>.inl ⟨b,e⟩) (fun _ _=>rfl) h.mem⟩,Env.le_refl _,aB _,fun _ _ _ _=>rfl,fun _ _ e=>.inl e,fun _ _ e=>.inl e,fun _ _ e=>.inl e,fun _ _ _ _=>rfl,fun _ q=>.inl (q.of (fun _=>rfl) TJ),fun _ q=>.inl (q.of (fun _=>rfl) TJ fun _ _=>rfl),fun _ _ q=>.inl q,fun _ q=>.inl (q.of (fun _=>rfl) TJ (fun _ _=>rfl) fun _ _=>rfl),mj fun _ _=>rfl,oL hA (by simp)⟩
 ·rw [ae.bB] at hb
  split at hb
  ·simp at hb
  ·exact h.row b cs bm hb
 ·rw [ae.bB] at hb
  split at hb
  ·rename_i e2; simp at hb; exact .inl ⟨hb.1.symm,by rw [e2]; exact Jo⟩
  ·exact h.aO b top FU hb
 ·rw [ae.bB] at hb
  split at hb
  ·rename_i e2; rw [e2]; exact h.live f _ hA
  ·exact h.live b o hb
theorem cO.ald {A:ae} {B:St} {f t sz:Nat} (h:dr P E A B) (hA:A.get f=some (.aO t sz)):cO P E A B E (A.put f (.aO t sz)) B:=by
 have hg:∀ b,(A.put f (.aO t sz)).get b=A.get b:=fun b=>by
  rw [ae.bB];split
  ·rename_i e; rw [e,hA]
  ·rfl
 have TJ:∀ (b:Nat) (v:KV),(A.put f (.aO t sz)).get b=some (.arr v)->A.get b=some (.arr v):=fun b v hb=>by rwa [hg] at hb
 have VP:∀ (b:Nat) (v:KV),(A.put f (.aO t sz)).get b=some (.iC v)->A.get b=some (.iC v):=fun b v hb=>by rwa [hg] at hb
 refine ⟨⟨fun b cs bm hb=>h.row b cs bm (by rwa [hg] at hb),fun b top FU hb=>h.aO b top FU (by rwa [hg] at hb),h.z,h.apart,h.inj,fun b c g tb sb tc sc q1 q2=>h.gD b c g tb sb tc sc (by rwa [hg] at q1) (by rwa [hg] at q2),h.jM,h.kL,fun b o hb=>h.live b o (by rwa [hg] at hb),h.eS,h.lD,h.il,h.fresh,h.mem,h.ar.dL (Env.le_refl _) (fun _=>rfl) TJ VP (aB _) (aB _) (fun _ _=>rfl) (fun _ _ e=>.inl e) (fun _ _ e=>.inl e) (fun b g e=>.inl ⟨b,e⟩) (fun _ _=>rfl) h.mem⟩,Env.le_refl _,aB _,fun _ _ _ _=>rfl,fun _ _ e=>.inl e,fun _ _ e=>.inl e,fun _ _ e=>.inl e,fun _ _ _ _=>rfl,fun _ q=>.inl (q.of (fun _=>rfl) TJ),fun _ q=>.inl (q.of (fun _=>rfl) TJ fun _ _=>rfl),fun _ _ q=>.inl q,fun _ q=>.inl (q.of (fun _=>rfl) TJ (fun _ _=>rfl) fun _ _=>rfl),mj fun _ _=>rfl,oL hA (by simp)⟩
theorem ale {t:TypeId} (hu:P.underlying t=some (.int .u8)):aQ P t=⟨false,[.int .u8]⟩:=by
 unfold aQ;rw [lay,hu];rfl
theorem adG {e:TypeId} (he:isByte P e=true):ano P (RY e) Mm:=by
 intro E A B vs us v h hv hg;unfold RY at hg;split at hg
 ·rename_i s
  obtain ⟨u,rfl,h1⟩:=hv.dX;have:=h1.vl; subst this;have hg:KV.ts e .any s.size _ _=v:=hg;subst hg;have hu:P.underlying e=some (.int .u8):=by
   unfold isByte at he;split at he
   ·assumption
   ·simp at he
  have ZV:aQ P e=⟨false,[.int .u8]⟩:=ale hu;refine ⟨_,_,_,rfl,?_,cO.aob h⟩;simp only [VK];have dP:aU P e=1:=by unfold aU; rw [ZV]; rfl
  refine ⟨⟨by simp,fun i hi=>?_,?_⟩,kH s.data.toList,?_,some ⟨B.next,0,none⟩,s.size,rfl,aB _,.inr ⟨B.next,0,⟨kH s.data.toList,1,true,some (B.next,0)⟩,rfl,by simp [Env.eI],dP.symm,?_⟩,trivial⟩
  ·have Vd:i < s.data.toList.length:=by simpa using hi
   simp only [List.getD,oW,cK Vd,Option.map_some,fv]
  ·rw [ZV]
   induction s.data.toList with
   | nil=>rfl
   | cons b l ih=>simp [dH,cw,aD,kindOk,ih]
  ·generalize E.eI B.next _=E'
   induction s.data.toList with
   | nil=>exact .nil
   | cons b l ih=>exact .cons .mkInt ih
  ·rw [dP]
   intro i x hx;obtain ⟨b,_,rfl⟩:∃ b,s.data.toList[i]? = some b/\x = .int .u8 b.toNat:=by
    simp only [kH,oW,ck] at hx;obtain ⟨b,h1,h2⟩:=hx;exact ⟨b,h1,h2.symm⟩
   refine ⟨rfl,fun k y hy=>?_⟩;have hk:k=0:=by
    have:=(rS.1 hy).1;simp [Value.cells] at this;exact this
   subst hk;simp [Value.cells] at hy;subst hy;simpa using hx
 ·exact hg.elim
theorem MJ {B:St} {b off n sz:Nat} {r:aeR} {bh:List Value} (hr:B.get b=some (.row r.cs r.bm r.own r.bL)) (hl:qB sz off r.cs bh) (hn:bh.length=n) (dP:1<=sz) :
  B.Aa ⟨b,off,none⟩ (n * sz)=some (bA bh):=by
 have hs:∀ v∈bh,v.cells.size=sz:=fun v hv=>by
  obtain ⟨i,hi⟩:=List.getElem?_of_mem hv;exact (hl i v hi).1
 have hlen:=gX hs;have Jm:=lK hs;have qJ:∀ j,j < n * sz->r.cs[off+j]? = (bA bh)[j]?:=by
  intro j hj;have hi:j / sz < bh.length:=by rw [hn]; exact Nat.div_lt_of_lt_mul (by rw [Nat.mul_comm]; exact hj)
  have hv:bh[j / sz]? = some bh[j / sz]:=cK hi;have hk:j % sz < bh[j / sz].cells.size:=by rw [hs _ (P2 hi)]; exact Nat.mod_lt _ dP
  have hy:bh[j / sz].cells[j % sz]? = some (bh[j / sz].cells[j % sz]):=by simp [hk]
  have h1:=(hl _ _ hv).2 _ _ hy;have h2:=(Jm _ _ hv).2 _ _ hy;have MK:j / sz * sz+j % sz=j:=by rw [Nat.mul_comm]; exact Nat.div_add_mod j sz
  rw [GM,MK] at h1;rw [ba,MK] at h2;rw [h1,h2]
 simp only [St.Aa,cL,Option.isNone_none,aj,Cd,hr,dK];rw [hn] at hlen;have hle:n * sz<=(r.cs.drop off).length:=by
  cases hm:n * sz with
  | zero=>omega
  | succ q=>
   have:=qJ q (by omega);rw [cK (show q < (bA bh).length by omega)] at this;have h7:=(cH.1 this).1;rw [List.length_drop];omega
 rw [vb,Lv hle];congr 1;apply List.ext_getElem?;intro i;rw [mc];split
 ·rename_i hi
  rw [oV];exact qJ i hi
 ·exact (Yo.2 (by omega)).symm
theorem ZW {T:TypeId} {m:Mk} {n:Nat} {es:List KV} {acc:Nat->KV} {u:Value} {A:ae} {B:St} (h:dr P E A B) (hv:VK P E (.ts T m n es acc) u) (dP:1<=aU P T) :
  ∃ bh,aV P E es bh/\WV u=some n/\za B (aU P T) n u=some (bA bh)/\(∀ v∈bh,v.cells.size=aU P T)/\bh.length=n/\es.length=n/\dH (aQ P T) es=true:=by
 obtain ⟨ht,bh,h1,a,cap,rfl,h2,h3,_⟩:=hv.kY;have hlen:=ht.len;have uN:bh.length=n:=by rw [h1.length]; exact hlen.symm
 have hs:=ml ht.typed h1;refine ⟨bh,h1,rfl,?_,fun v hv=>(hs v hv).1,uN,hlen.symm,ht.typed⟩;rcases h3 with ⟨rfl,h0⟩ | ⟨b,off,r,rfl,h4,h5,h6⟩
 ·have:bh = []:=qG.1 (by omega)
  subst this;simp [za,h0,bA]
 ·exact MJ (h.z b r h4) h6 uN dP
theorem gW.join {T:TypeId} {n m:Nat} {es fs:List KV} {f g:Nat->KV} (h:gW P T n es f) (k:gW P T m fs g):gW P T (n+m) (es++fs) (av n f g) where
 len:=by rw [kx,<- h.len,<- k.len]
 acc i hi:=by
  unfold av;by_cases hn:i < n
  ·have:Nat.blt i n=true:=by rw [bG]; exact hn
   rw [this,aj,h.acc i hn,fD,fD,qH (by rw [<- h.len]; exact hn)]
  ·have:Nat.blt i n=false:=by
    cases hb:Nat.blt i n with
    | false=>rfl
    | true=>rw [bG] at hb; omega
   rw [this,aG,k.acc (i - n) (by omega),fD,fD,tH (by rw [<- h.len]; omega),<- h.len]
 typed:=ND h.typed k.typed
theorem gW.none {T:TypeId} {g:Nat->KV} : gW P T 0 [] g:=⟨rfl,fun i h=>by omega,rfl⟩
structure Src (P:Program) (E:Env) (B:St) (T:TypeId) (n:Nat) (es:List KV) (acc:Nat->KV) (u:Value) (bh:List Value):Prop where
 tree:gW P T n es acc
 rel:aV P E es bh
 len:WV u=some n
 size:∀ v∈bh,v.cells.size=aU P T
 length:bh.length=n
 first:∀ k,k<=n->za B (aU P T) k u=some (bA (bh.take k))
theorem Src.all {B:St} {T:TypeId} {n:Nat} {es:List KV} {acc:Nat->KV} {u:Value} {bh:List Value} (h:Src P E B T n es acc u bh):za B (aU P T) n u=some (bA bh):=by
 rw [h.first n (aB _),List.take_of_length_le (Nat.le_of_eq h.length)]
theorem qB.take {sz off:Nat} {cs es:List Value} (h:qB sz off cs es) (k:Nat):qB sz off cs (es.take k):=fun i x hi=>h i x (by
 rw [mc] at hi;split at hi
 ·exact hi
 ·simp at hi)
theorem qB.drop {sz off:Nat} {cs es:List Value} (h:qB sz off cs es) (o:Nat):qB sz (off+o * sz) cs (es.drop o):=fun i x hi=>by
 rw [oV] at hi;obtain ⟨h1,h2⟩:=h (o+i) x hi;refine ⟨h1,fun k y hy=>?_⟩;rw [<- h2 k y hy,Nat.add_mul];congr 1;omega
theorem amN {T:TypeId} {m:Mk} {n:Nat} {es:List KV} {acc:Nat->KV} {u:Value} {A:ae} {B:St} (h:dr P E A B) (hv:VK P E (.ts T m n es acc) u) (dP:1<=aU P T):∃ bh,Src P E B T n es acc u bh:=by
 obtain ⟨ht,bh,h1,a,cap,rfl,h2,h3,_⟩:=hv.kY;have uN:bh.length=n:=by rw [h1.length]; exact ht.len.symm
 have hs:=ml ht.typed h1;refine ⟨bh,ht,h1,rfl,fun v hv=>(hs v hv).1,uN,fun k hk=>?_⟩;rcases h3 with ⟨rfl,h0⟩ | ⟨b,off,r,rfl,h4,h5,h6⟩
 ·have:bh = []:=qG.1 (by omega)
  subst this;have:k=0:=by omega
  subst this;simp [za,bA]
 ·exact MJ (h.z b r h4) (h6.take k) (by rw [kU]; omega) dP
theorem amO {T:TypeId} {m:Mk} {b o n N:Nat} {es:List KV} {acc:Nat->KV} {u:Value} {A:ae} {B:St} (h:dr P E A B) (hv:VK P E (.al T b o n) u) (ha:Kq A b=some (.ts T m N es acc)) (dP:1<=aU P T) :
  ∃ bh,Src P E B T n ((es.drop o).take n) (fun i=>acc (o+i)) u bh:=by
 have row:∀ {x:Nat} {r:aeR} {bh:List Value} {c:Nat},u = .slice (some ⟨x,o * aU P T,none⟩) n c->o+n<=N->gW P T N es acc->B.get x=some (.row r.cs r.bm r.own r.bL)->aV P E es bh->qB (aU P T) 0 r.cs bh->∃ bh,Src P E B T n ((es.drop o).take n) (fun i=>acc (o+i)) u bh:=by
  intro x r bh c hu hon ht hr Sg hl;subst hu;have Sh:bh.length=N:=by rw [Sg.length]; exact ht.len.symm
  have ahh:((es.drop o).take n).length=n:=by rw [kU,List.length_drop,<- ht.len]; omega
  have alf:((bh.drop o).take n).length=n:=by rw [kU,List.length_drop,Sh]; omega
  have hs:=ml ht.typed Sg;refine ⟨(bh.drop o).take n,⟨ahh.symm,fun i hi=>?_,oM fun i x hi=>?_⟩,(Sg.drop o).take n,rfl,fun v hv=>(hs v (List.mem_of_mem_drop (List.mem_of_mem_take hv))).1,alf,fun k hk=>?_⟩
  ·rw [ht.acc (o+i) (by omega),fD,fD,mc,aE hi,oV]
  ·rw [mc] at hi
   split at hi
   ·rw [oV] at hi; exact gE ht.typed hi
   ·simp at hi
  ·have kV:=((hl.drop o).take n).take k
   rw [ba] at kV;exact MJ hr kV (by rw [kU,alf]; omega) dP
 rcases hv.yh with ⟨rfl,rfl,rfl⟩ | ⟨x,L,N0,c,h1,h2,h3,h4,h5⟩
 ·refine ⟨[],⟨by simp,fun i hi=>by omega,rfl⟩,by simpa using aV.nil,rfl,by simp,rfl,fun k hk=>?_⟩
  have:k=0:=by omega
  subst this;simp [za,bA]
 ·unfold Kq at ha
  split at ha
  ·rename_i v hb
   simp only [bN] at ha;subst ha;obtain ⟨T2,N2,o9,aw,e,ht,_,xU⟩:=h.ar.arr b _ hb;simp only [KV.ts.injEq] at e;obtain ⟨rfl,rfl,rfl,rfl,rfl⟩:=e;rcases xU with ⟨_,e⟩ | ⟨x2,cs,bL,bh,e,h6,h7,h8⟩
   ·rw [h1] at e; simp at e
   ·rw [h1] at e
    simp only [bN,du] at e;obtain ⟨rfl,rfl,rfl⟩:=e;exact row (r:=⟨cs,aU P T,true,bL⟩) h2 h4 ht h6 h7 h8
  ·rename_i v hb
   simp only [bN] at ha;subst ha;obtain ⟨T2,N2,o9,aw,e,ht,_,xU⟩:=h.ar.iC b _ hb;simp only [KV.ts.injEq] at e;obtain ⟨rfl,rfl,rfl,rfl,rfl⟩:=e;rcases xU with ⟨_,e⟩ | ⟨x2,r,bh,e,h6,h6',h7,h8⟩
   ·rw [h1] at e; simp at e
   ·rw [h1] at e
    simp only [bN,du] at e;obtain ⟨rfl,rfl,rfl⟩:=e;exact row h2 h4 ht (h.z _ _ h6) h7 h8
  ·simp at ha
theorem aiJ {A:ae} {B:St} {y:KV} {u:Value} {T:TypeId} {m:Mk} {n:Nat} {es:List KV} {acc:Nat->KV} (h:dr P E A B) (hv:VK P E y u) (hs:OB A y=some (.ts T m n es acc)) (dP:1<=aU P T):∃ bh,Src P E B T n es acc u bh:=by
 unfold OB at hs;split at hs
 ·rename_i T' b o k
  unfold adp at hs;split at hs
  ·rename_i T2 _ _ o9 aw ha
   cases hb:Nat.beq T' T2 with
   | false=>rw [hb] at hs; simp at hs
   | true=>
    have:=aK hb;subst this;rw [hb,aj] at hs;simp only [bN,KV.ts.injEq] at hs;obtain ⟨rfl,rfl,rfl,rfl,rfl⟩:=hs;rw [ado];exact amO h hv ha dP
  ·simp at hs
 ·simp only [bN,KV.ts.injEq] at hs
  obtain ⟨rfl,rfl,rfl,rfl,rfl⟩:=hs;exact amN h hv dP
 ·simp at hs
theorem ahi {e n b:Nat} (hn:aU P e=n) (h1n:1<=n) {E:Env} {A A' : ae} {B:St} {x v:KV} {u w:Value} {e' : TypeId} {mk:Mk} {k:Nat} {new:List KV} {acc:Nat->KV} (h:dr P E A B) (h1:VK P E x u)
  (hsr:Nat.beq e e' = true->∃ bh,Src P E B e' k new acc w bh) (hg:aH (OA e n b A [x,.ts e' mk k new acc]) (v,A')):∃ r B' E',j8 n b B [u,w] = some (r,B')/\VK P E' v r/\cO P E A B E' A' B':=by
 have yi:1<=aU P e:=by omega
 have put:∀ (E1:Env) (A1:ae) (m f k:Nat) (base new:List KV) (ab an:Nat->KV) (more:Bool) (A2:ae) (v:KV),aH (Tx e n b m base ab A1 f k new an more) (v,A2)->
   (more=true/\Nat.ble ((m+k) * b) 140737488355328=true/\Nat.ble (m+k) 17592186044416=true)/\v = .ts e (.aO f) (m+k) (base++new) (av m ab an)/\A2=A1.put f (.aO (m+k) n):=by
  intro E1 A1 m f k base new ab an more A2 v hp;obtain ⟨hc,hp⟩:=aH.jN hp;simp only [dQ,ao] at hc;simp only [du] at hp;exact ⟨⟨hc.1,hc.2.1,hc.2.2⟩,hp.1.symm,hp.2.symm⟩
 unfold OA at hg;split at hg
 ·
  rename_i e9 mk9 k9 aiK aiL heq;simp only [List.cons.injEq,KV.ts.injEq,and_true] at heq;obtain ⟨rfl,rfl,rfl,rfl,rfl,rfl⟩:=heq;have:=h1.pb; subst this;obtain ⟨he,VS⟩:=hg.cond;clear hg;obtain ⟨cB,jI⟩:=hsr he;have:=aK he;subst this;obtain ⟨⟨_,FK,wk⟩,rfl,rfl⟩:=put E _ _ _ _ _ _ _ _ _ _ _ VS;have OW:=jI.tree;have h3:=jI.rel;have h4:=jI.len;have h5:=jI.all;have h6:=jI.size;have h7:=jI.length;have h8:=OW.len.symm;rw [hn] at h5 h6;have vg:=cO.aiF n h;have hAf:(A.new (.aO 0 n)).get A.next=some (.aO 0 n):=by simp
  have Jo:E.φ A.next=none:=by
   cases hq:E.φ A.next with
   | none=>rfl
   | some g=>have:=h.kL _ g hq; omega
  cases k with
  | zero=>
   have yf:new = []:=qG.1 h8;have Si:cB = []:=qG.1 h7;subst yf Si;refine ⟨.slice none 0 0,B,E,?_,?_,?_⟩
   ·simp only [j8,h4,dK]
    rw [h5];rfl
   ·simp only [VK]
    exact ⟨⟨rfl,fun i hi=>by omega,rfl⟩,[],.nil,none,0,rfl,aB _,.inl ⟨rfl,rfl⟩,rfl,.inl ⟨rfl,rfl⟩⟩
   ·exact vg.after (cO.aiI n vg.fT hAf Jo)
  | succ k=>
   have G6:=cO.grow (c:=bA cB) (top:=0) (Rc:=k+1) (sz:=n) (g:=B.next) (f:=A.next) vg.fT hAf (.inl ⟨Jo,rfl⟩) (by rw [gX h6,h7]) (by omega) (by omega);refine ⟨.slice (some ⟨B.next,0,none⟩) (k+1) (k+1),B.grow B.next 0 (bA cB) n,_,?_,?_,vg.after (by simpa using G6)⟩
   ·simp only [ba] at FK wk
    simp only [j8,h4,dK,ba];rw [show Nat.ble (k+1) 0=false from rfl,aG,FK,wk,h5];rfl
   ·simp only [VK,ba,List.nil_append]
    have Si:=h3.mono (Env.le_trans vg.le G6.le);have hl:=lK h6;refine ⟨by have:=gW.none (P:=P) (T:=e) (g:=qz) |>.join OW; simpa using this,cB,Si,_,_,rfl,aB _,.inr ⟨B.next,0,⟨bA cB,n,true,some (B.next,0)⟩,rfl,by simp [Env.vq,Env.eI],hn.symm,by rw [hn]; exact hl⟩,rfl,.inr ⟨B.next,⟨bA cB,n,true,some (B.next,0)⟩,B.next,rfl,by simp [Env.vq,Env.eI],rfl,by simp [Env.vq],rfl,?_⟩⟩;rw [hn];simp only;rw [gX h6,h7]
 ·
  rename_i e1 m es anu e9 mk9 k9 aiK aiL heq;simp only [List.cons.injEq,KV.ts.injEq,and_true] at heq;obtain ⟨rfl,rfl,rfl,rfl,rfl,rfl⟩:=heq;obtain ⟨he,VS⟩:=hg.cond;clear hg;simp only [ao] at he;obtain ⟨cB,jI⟩:=hsr he.1;have:=aK he.1;subst this;have:=aK he.2;subst this;obtain ⟨⟨hk,FK,wk⟩,rfl,rfl⟩:=put E _ _ _ _ _ _ _ _ _ _ _ VS;have hk:0 < k:=by rwa [bG] at hk
  have vr:=h1.kY.1;have OW:=jI.tree;have h3:=jI.rel;have h4:=jI.len;have h5:=jI.all;have h6:=jI.size;have h7:=jI.length;have h8:=OW.len.symm;obtain ⟨uK,h3b,h4b,h5b,h6b,h7b,h8b,h9b⟩:=ZW h h1 yi;rw [hn] at h5 h6 h5b h6b;obtain ⟨_,aeH,yr,a,cap,rfl,aiq,ML,ahj⟩:=h1.kY;obtain ⟨rfl,Se⟩:=ahj;have vg:=cO.aiF n h;have hAf:(A.new (.aO 0 n)).get A.next=some (.aO 0 n):=by simp
  have Jo:E.φ A.next=none:=by
   cases hq:E.φ A.next with
   | none=>rfl
   | some g=>have:=h.kL _ g hq; omega
  have hs:∀ v∈uK++cB,v.cells.size=n:=fun v hv=>by
   rcases jJ.1 hv with hv | hv
   ·exact h6b v hv
   ·exact h6 v hv
  have hlen:(bA (uK++cB)).length=(cap+k) * n:=by rw [gX hs,kx,h7b,h7]
  have G6:=cO.grow (c:=bA (uK++cB)) (top:=0) (Rc:=cap+k) (sz:=n) (g:=B.next) (f:=A.next) vg.fT hAf (.inl ⟨Jo,rfl⟩) hlen (by omega) (by omega);refine ⟨.slice (some ⟨B.next,0,none⟩) (cap+k) (cap+k),B.grow B.next 0 (bA (uK++cB)) n,_,?_,?_,vg.after G6⟩
  ·simp only [j8,h4,dK]
   have hnb:Nat.ble (cap+k) cap=false:=by
    cases hq:Nat.ble (cap+k) cap with
    | false=>rfl
    | true=>have:=dT hq; omega
   rw [hnb,aG,FK,wk];rcases ML with ⟨rfl,h0⟩ | ⟨b',off,r,rfl,hz,he2,kV⟩
   ·subst h0
    have:uK = []:=qG.1 h7b;subst this;simp only [xA,CA,cC];rw [show Nat.beq 0 0=true from rfl,aj,h5];simp [HI]
   ·obtain ⟨r2,Cu,ho,ae6,aiM⟩:=Se b' off rfl
    rw [hz] at Cu;simp at Cu;subst Cu;have fk:=h.z b' r hz;have hex:xA B n cap (some ⟨b',off,none⟩)=true:=by
     simp only [xA,fk,ae6];rw [hn] at aiM;simp [aiM]
    rw [hex];simp only [cC,aj,h5,dK];simp only [za] at h5b;have Tn:Nat.beq r.bm n=true:=by rw [he2,hn]; simp
    simp only [HI,cL,Option.isNone_none,aj,h5b,dK,fk,Tn,ae6,ho];rw [<- AL]
  ·simp only [VK]
   have hrel:=(h3b.append h3).mono (Env.le_trans vg.le G6.le);have hl:=lK hs;refine ⟨vr.join OW,uK++cB,hrel,_,_,rfl,aB _,.inr ⟨B.next,0,⟨bA (uK++cB),n,true,some (B.next,0)⟩,rfl,by simp [Env.vq,Env.eI],hn.symm,by rw [hn]; exact hl⟩,rfl,.inr ⟨B.next,⟨bA (uK++cB),n,true,some (B.next,0)⟩,B.next,rfl,by simp [Env.vq,Env.eI],rfl,by simp [Env.vq],rfl,?_⟩⟩;rw [hn];exact hlen
 ·
  rename_i e1 f m es anu e9 mk9 k9 aiK aiL heq;simp only [List.cons.injEq,KV.ts.injEq,and_true] at heq;obtain ⟨rfl,rfl,rfl,rfl,rfl,rfl⟩:=heq;split at hg
  ·rename_i top sz' Xi
   obtain ⟨he,VS⟩:=hg.cond;clear hg;simp only [ao] at he;obtain ⟨cB,jI⟩:=hsr he.1.1;have:=aK he.1.1;subst this;have:=aK he.1.2;subst this;have ak9:=aK he.2;rw [ak9] at Xi;obtain ⟨⟨QF,FK,wk⟩,rfl,rfl⟩:=put E _ _ _ _ _ _ _ _ _ _ _ VS;have:=aK QF;subst this;have vr:=h1.kY.1;have OW:=jI.tree;have h3:=jI.rel;have h4:=jI.len;have h5:=jI.all;have h6:=jI.size;have h7:=jI.length;have h8:=OW.len.symm;obtain ⟨uK,h3b,h4b,h5b,h6b,h7b,h8b,h9b⟩:=ZW h h1 yi;rw [hn] at h5 h6 h5b h6b;obtain ⟨_,aeH,yr,a,cap,rfl,aiq,ML,ahj⟩:=h1.kY;obtain ⟨rfl,Se⟩:=ahj;have hs:∀ v∈uK++cB,v.cells.size=n:=fun v hv=>by
    rcases jJ.1 hv with hv | hv
    ·exact h6b v hv
    ·exact h6 v hv
   have hlen:(bA (uK++cB)).length=(cap+k) * n:=by rw [gX hs,kx,h7b,h7]
   have aoc:=h3b.append h3;have hl:=lK hs;have fin:∀ (E2:Env) (x g:Nat),E.le E2->E2.z x=some ⟨bA (uK++cB),n,true,some (g,0)⟩->E2.φ f=some g->VK P E2 (.ts e (.aO f) (cap+k) (es++new) (av cap anu acc)) (.slice (some ⟨x,0,none⟩) (cap+k) (cap+k)):=by
    intro E2 x g hle hzx ao0;simp only [VK];refine ⟨vr.join OW,uK++cB,aoc.mono hle,_,_,rfl,aB _,.inr ⟨x,0,_,rfl,hzx,hn.symm,by rw [hn]; exact hl⟩,rfl,.inr ⟨x,_,g,rfl,hzx,rfl,ao0,rfl,?_⟩⟩;rw [hn];exact hlen
   rcases Se with ⟨rfl,rfl⟩ | ⟨b',r,g,rfl,hz,ho,Jo,ae6,hcl⟩
   ·
    have hold:es = []:=qG.1 h8b;have adH:uK = []:=qG.1 h7b;subst hold adH;have Jo:E.φ f=none:=by
     rcases h.aO f 0 n Xi with ⟨_,Ke⟩ | ⟨g2,_,Ke,_⟩
     ·exact Ke
     ·omega
    cases k with
    | zero=>
     have yf:new = []:=qG.1 h8;have Si:cB = []:=qG.1 h7;subst yf Si;refine ⟨.slice none 0 0,B,E,?_,?_,cO.aiI n h Xi Jo⟩
     ·simp only [j8,h4,dK]
      rw [h5];rfl
     ·simp only [VK]
      exact ⟨⟨rfl,fun i hi=>by omega,rfl⟩,[],.nil,none,0,rfl,aB _,.inl ⟨rfl,rfl⟩,rfl,.inl ⟨rfl,rfl⟩⟩
    | succ k=>
     have G6:=cO.grow (c:=bA ([]++cB)) (top:=0) (Rc:=0+(k+1)) (sz:=n) (g:=B.next) (f:=f) h Xi (.inl ⟨Jo,rfl⟩) hlen (by omega) (by omega);refine ⟨.slice (some ⟨B.next,0,none⟩) (0+(k+1)) (0+(k+1)),B.grow B.next 0 (bA ([]++cB)) n,_,?_,fin _ B.next B.next G6.le (by simp [Env.vq,Env.eI]) (by simp [Env.vq]),G6⟩;simp only [ba] at FK wk;simp only [j8,h4,dK,ba,List.nil_append];rw [show Nat.ble (k+1) 0=false from rfl,aG,FK,wk,h5];rfl
   ·
    have hcap1:0 < cap:=by
     rcases Nat.eq_zero_or_pos cap with h0 | h0
     ·subst h0
      rcases h.aO f 0 n Xi with ⟨_,Ke⟩ | ⟨g2,_,Ke,_⟩
      ·rw [Jo] at Ke; simp at Ke
      ·omega
     ·exact h0
    rcases Nat.eq_zero_or_pos k with wV | wV
    ·subst wV
     have yf:new = []:=qG.1 h8;have Si:cB = []:=qG.1 h7;subst yf Si;refine ⟨.slice (some ⟨b',0,none⟩) cap cap,B,E,?_,?_,cO.ald h Xi⟩
     ·simp only [j8,h4,dK]
      rw [show Nat.ble (cap+0) cap=true from Nat.ble_eq_true_of_le (aB _),aj,h5];rfl
     ·simp only [VK]
      exact ⟨vr.join OW,aeH,by rw [yd]; exact yr,some ⟨b',0,none⟩,cap,rfl,aB _,ML,rfl,.inr ⟨b',r,g,rfl,hz,ho,Jo,ae6,hcl⟩⟩
    have aod:0 < cap+k/\0 < k:=⟨by omega,wV⟩
    have fk:=h.z b' r hz;rw [ho,ae6] at fk;have Tn:r.bm=n:=by
     rcases ML with ⟨h0,_⟩ | ⟨b2,alg,r2,e2,Cu,he2,_⟩
     ·simp at h0
     ·simp at e2
      obtain ⟨rfl,rfl⟩:=e2;rw [hz] at Cu;simp at Cu;subst Cu;rw [he2,hn]
    have aoe:B.kill B.next (0+(0+cap * n)) (0+(0+cap * n)+(bA cB).length) (B.members g)=B:=by
     refine ZR fun y hy=>?_;rcases h.aO f cap n Xi with ⟨_,Ke⟩ | ⟨g2,Ke,_,h3'⟩
     ·rw [Jo] at Ke; simp at Ke
     ·rw [Jo] at Ke
      simp at Ke;subst Ke;cases hy2:B.get y with
      | none=>rfl
      | some o=>cases o with
       | row kl e2 Jw tM=>
        cases tM with
        | none=>rfl
        | some p=>
         obtain ⟨f2,k2⟩:=p;obtain ⟨rfl,anv⟩:=h3' y hy kl e2 Jw f2 k2 hy2;simp only [rB,meets,ba];have:Nat.blt (cap * n) kl.length=false:=by
          cases hq:Nat.blt (cap * n) kl.length with
          | false=>rfl
          | true=>rw [bG] at hq; omega
         rw [this,Bool.false_and]
       | _=>rfl
    have G6:=cO.grow (c:=bA (uK++cB)) (top:=cap) (Rc:=cap+k) (sz:=n) (g:=g) (f:=f) h Xi (.inr Jo) hlen (by omega) aod.1;refine ⟨.slice (some ⟨B.next,0,none⟩) (cap+k) (cap+k),B.grow g 0 (bA (uK++cB)) n,_,?_,fin _ B.next g G6.le (by simp [Env.vq,Env.eI]) (by simp [Env.vq]),G6⟩;have hnb:Nat.ble (cap+k) cap=false:=by
     cases hq:Nat.ble (cap+k) cap with
     | false=>rfl
     | true=>have:=dT hq; omega
    have hex:xA B n cap (some ⟨b',0,none⟩)=true:=by simp only [xA,fk]
    simp only [j8,h4,dK,hnb,aG,FK,wk,hex,cC,aj,h5];simp only [za] at h5b;have ao1:Nat.beq r.bm n=true:=by rw [Tn]; simp
    simp only [HI,cL,Option.isNone_none,aj,h5b,dK,fk,ao1,aoe,<- AL]
  ·exact hg.elim
 ·exact hg.elim
end Go.K
end
section
namespace Go.K
open Go Go.aI
variable {P:Program} {E:Env}
theorem cO.aiN {A A1:ae} {B:St} {T:TypeId} {acc:Nat->KV} (h:dr P E A B) (tV:A1.next=A.next) (FW:∀ c o,A1.get c=some o->A.get c=some o\/(o = .dead/\c < A.next)) (hh:∀ c,A.get c=some wg->A1.get c=some wg) (dP:1<=aU P T) :
  cO P E A B E (A1.new (.arr (.ts T .any 0 [] acc))) B:=by
 have alb:E.α A.next=none:=by
  cases hq:E.α A.next with
  | none=>rfl
  | some p=>have:=h.ar.jM _ p hq; omega
 have fI:∀ c o,(A1.new (.arr (.ts T .any 0 [] acc))).get c=some o->(c=A.next/\o = .arr (.ts T .any 0 [] acc))\/(o = .dead/\c < A.next)\/A.get c=some o:=fun c o hc=>by
  rw [ae.cq,tV] at hc;split at hc
  ·rename_i e; simp at hc; exact .inl ⟨e,hc.symm⟩
  ·rcases FW c o hc with e | e
   ·exact .inr (.inr e)
   ·exact .inr (.inl e)
 have rD:∀ c v,(A1.new (.arr (.ts T .any 0 [] acc))).get c=some (.arr v)->E.α c=none\/A.get c=some (.arr v):=fun c v hc=>by
  rcases fI c _ hc with ⟨e,_⟩ | ⟨e,_⟩ | e
  ·exact .inl (by rw [e]; exact alb)
  ·simp at e
  ·exact .inr e
 have hA:∀ c v y L N,(A1.new (.arr (.ts T .any 0 [] acc))).get c=some (.arr v)->E.α c=some (y,L,N)->A.get c=some (.arr v):=fun c v y L N hc hy=>by
  rcases rD c v hc with e | e
  ·rw [e] at hy; simp at hy
  ·exact e
 have rX:∀ y,AR (A1.new (.arr (.ts T .any 0 [] acc))) E y->AR A E y:=fun y ⟨c,v,L,N,h1,h2⟩=>⟨c,v,L,N,hA c v _ _ _ h1 h2,h2⟩
 have Kw:∀ g,AF (A1.new (.arr (.ts T .any 0 [] acc))) E B g->AF A E B g:=fun g ⟨c,v,x,L,N,cs,e,own,k,h1,h2,h3⟩=>⟨c,v,x,L,N,cs,e,own,k,hA c v _ _ _ h1 h2,h2,h3⟩
 refine ⟨⟨fun c cs bm hc=>?_,fun c top sz hc=>?_,h.z,h.apart,h.inj,?_,fun b x e=>by rw [ae.bR,tV]; have:=h.jM b x e; omega,fun b g e=>by rw [ae.bR,tV]; have:=h.kL b g e; omega,fun c o hc=>?_,h.eS,h.lD,h.il,h.fresh,h.mem,?_⟩,Env.le_refl _,by rw [ae.bR,tV]; omega,fun _ _ _ _=>rfl,fun _ _ e=>.inl e,fun _ _ e=>.inl e,fun _ _ e=>.inl e,fun _ _ _ _=>rfl,fun x q=>.inl (rX x q),fun g q=>.inl (Kw g q),fun _ _ q=>.inl q,fun y q=>.inl (q.imp (rX y) fun ⟨g,q1,q2⟩=>⟨g,Kw g q1,q2⟩),mj fun _ _=>rfl,fun b hb=>by
  rw [ae.cq,tV,aa]
  ·exact hh b hb
  ·intro e
   have:=h.live b _ hb;omega⟩
 ·rcases fI c _ hc with ⟨_,e⟩ | ⟨e,_⟩ | e
  ·simp at e
  ·simp at e
  ·exact h.row c cs bm e
 ·rcases fI c _ hc with ⟨_,e⟩ | ⟨e,_⟩ | e
  ·simp at e
  ·simp at e
  ·exact h.aO c top sz e
 ·intro b c g tb sb tc sc hb hc e1 e2
  rcases fI b _ hb with ⟨_,e⟩ | ⟨e,_⟩ | hb
  ·simp at e
  ·simp at e
  rcases fI c _ hc with ⟨_,e⟩ | ⟨e,_⟩ | hc
  ·simp at e
  ·simp at e
  exact h.gD b c g _ _ _ _ hb hc e1 e2
 ·rw [ae.bR,tV]
  rcases fI c _ hc with ⟨e,_⟩ | ⟨_,e⟩ | e
  ·omega
  ·omega
  ·have:=h.live c o e; omega
 ·refine ⟨fun c v hc=>?_,fun c v hc=>?_,fun x q=>h.ar.z x (rX x q),fun b c v u x L N L' N' h1 h2 h3 h4=>h.ar.inj b c v u x L N L' N' (hA b v _ _ _ h1 h3) (hA c u _ _ _ h2 h4) h3 h4,fun b c v u x y L N L' N' cs e own g k bM e' rb k' h1 h2 h3 h4=>h.ar.wW b c v u x y L N L' N' cs e own g k bM e' rb k' (hA b v _ _ _ h1 h3) (hA c u _ _ _ h2 h4) h3 h4,h.ar.ZA,fun b p e=>by rw [ae.bR,tV]; have:=h.ar.jM b p e; omega,h.ar.eS,fun b v x L N cs e own g k h1 h2 h3=>?_,fun c v hc=>?_⟩
  ·rcases fI c _ hc with ⟨e,e2⟩ | ⟨e,_⟩ | e
   ·simp at e2
    subst e2;exact ⟨T,0,[],acc,rfl,⟨rfl,fun i hi=>by omega,rfl⟩,dP,.inl ⟨rfl,by rw [e]; exact alb⟩⟩
   ·simp at e
   ·exact h.ar.arr c v e
  ·rcases fI c _ hc with ⟨_,e⟩ | ⟨e,_⟩ | e
   ·simp at e
   ·simp at e
   ·exact h.ar.iC c v e
  ·obtain ⟨q1,q2,q3⟩:=h.ar.vo b v x L N cs e own g k (hA b v _ _ _ h1 h2) h2 h3
   exact ⟨q1,q2,fun y hy cI=>⟨(q3 y hy cI).1,fun q=>(q3 y hy cI).2.1 (rX y q),(q3 y hy cI).2.2⟩⟩
  ·rw [ae.bR,tV]
   rcases fI c _ hc with ⟨e,_⟩ | ⟨e,_⟩ | e
   ·rw [e]
    refine ⟨P1 _,?_⟩;cases hk:E.κ A.next with
    | none=>rfl
    | some x=>have:=h.jM _ x hk; omega
   ·simp at e
   ·obtain ⟨q1,q2⟩:=h.ar.nk c v e
    exact ⟨by omega,q2⟩
theorem ZX {E:Env} {T:TypeId} {b x L N n c:Nat} (tS:E.α b=some (x,L,N)) (h1:n<=c) (h2:n<=N) (h3:c * aU P T=L):VK P E (.al T b 0 n) (.slice (some ⟨x,0,none⟩) n c):=
 .OI (.inr ⟨x,L,N,c,tS,by simp,h1,by omega,by rw [ba]; exact h3⟩)
theorem ae7 {T b n:Nat} {z:Value} (hn:aU P T=n) (h1n:1<=n) (hz:z.cells.size=n) (he:cw (aQ P T) (K.dJ (aQ P T) (fy z))=true):ZM P (VE T b (K.dJ (aQ P T) (fy z))) (E8 n b z):=by
 intro E A A' B vs us v h hv hg;unfold VE at hg;split at hg
 ·rename_i k l k' c
  obtain ⟨x,y,rfl,h1,h2⟩:=hv.j9;have:=h1.cj; subst this;have:=h2.cj; subst this;obtain ⟨hc,hg⟩:=aH.jN hg;simp only [du] at hg;obtain ⟨rfl,rfl⟩:=hg;simp only [ao,lT] at hc;obtain ⟨⟨h3,h4⟩,h5⟩:=hc;obtain ⟨l',rfl⟩:=Int.eq_ofNat_of_zero_le h3;obtain ⟨c',rfl⟩:=Int.eq_ofNat_of_zero_le (Int.le_trans h3 h4);have h6:Nat.ble l' c' = true:=Nat.ble_eq_true_of_le (by omega);have hs:∀ v∈List.replicate c' z,v.cells.size=n:=fun v hv=>by rw [List.eq_of_mem_replicate hv]; exact hz
  have hlen:(bA (List.replicate c' z)).length=c' * n:=by rw [gX hs,List.length_replicate]
  have MM:∀ m,dj [K.dJ (aQ P T) (fy z)] m=List.replicate m (K.dJ (aQ P T) (fy z)):=fun m=>by
   induction m with
   | zero=>rfl
   | succ m ih=>simp [dj,ih,List.replicate_succ]
  have gZ:=cO.MI (P:=P) (X:=fun _=>False) (G:=fun _=>False) (y2:=B.next) (N2:=c') (T:=T) (o9:=dj [K.dJ (aQ P T) (fy z)] c') (aw:=fun _=>K.dJ (aQ P T) (fy z)) (Fb:=List.replicate c' z) (kl:=bA (List.replicate c' z)) (tM:=none) (A1:=A) (B':=B.new (.row (bA (List.replicate c' z)) n true none)) h rfl (fun _ _ e=>.inl e) (fun _ e=>e) (fun _ _ _ _ _ _ _=>⟨id,fun _ _ _ _ _ _=>id⟩) (fun _ e=>e.elim) (fun _ e=>e.elim) (.inr (aB _)) (by simp) (by simp [hn]) (fun _ _ e=>by simp at e)
   (fun y hy _=>.inl (by rw [St.cq,aa (by omega)])) (fun _ e=>e.elim) (fun q y hy=>.inl (by simpa using hy)) (fun q _=>by simp) (by simp) (fun g hg=>by rw [St.jm]; exact h.fresh g (by rw [St.bR] at hg; omega)) (fun g y hy=>by rw [St.jm] at hy; rw [St.bR]; have:=h.mem g y hy; omega)
   (by omega) ⟨by rw [MM]; simp,fun i hi=>by rw [MM,fD,List.getElem?_replicate,aE hi]; rfl,by
    rw [MM];exact oM fun i x hx=>by rw [List.getElem?_replicate] at hx; split at hx <;> simp at hx; subst hx; exact he⟩ (by
    rw [MM];generalize c' = m
    induction m with
    | zero=>exact .nil
    | succ m ih=>exact .cons (VK.fy z).dJ ih) (by rw [hn]; exact lK hs)
  refine ⟨.row (fw z.cells.toList c') n true none,fun k=>.slice (some ⟨k,0,none⟩) l' c',E.DU A.next (B.next,(bA (List.replicate c' z)).length,c'),?_,?_,?_⟩
  ·have h5:Nat.ble (b * c') 281474976710656=true:=h5
   show cond (Nat.ble l' c'&&Nat.ble (b * c') 281474976710656) _ _=_;rw [h6,h5];rfl
  ·exact ZX Env.zj (by omega) (by show l'<=c'; omega) (by rw [hn,hlen])
  ·rw [CV]; exact gZ
 ·exact hg.elim
theorem adI {e:TypeId} {n len:Nat} {z:Value} {is:List Nat} (hn:(aQ P e).ks.length=n) (h1n:1<=n) (hz:z.cells.size=n) (hb:D6 len is=true) :
  ZM P (RW (aQ P e) e (K.dJ (aQ P e) (fy z)) len is) (tJ n z len is):=by
 intro E A A' B vs us v h hv hg;unfold RW at hg;obtain ⟨hc,hg⟩:=aH.cond hg;simp only [ao] at hc;obtain ⟨⟨hk,hvs⟩,CU⟩:=hc;have hg:(KV.al e A.next 0 len,A.new (.arr (.ts e .any len _ _)))=(v,A'):=hg;simp only [du] at hg;obtain ⟨rfl,rfl⟩:=hg;have VS:VK P E (K.dJ (aQ P e) (fy z)) z:=(VK.fy z).dJ;have hrel:=Sd (l:=aQ P e) (is:=is) hv (MG VS len);have hlen:(FQ (dj [K.dJ (aQ P e) (fy z)] len) ((zY is vs).map fun p=>(p.1,K.dJ (aQ P e) p.2))).length=len:=by
  rw [Kv,Bj]; simp
 have adB:∀ p∈zipIdx is us,p.2.cells.size=n/\p.1 < (List.replicate len z).length:=by
  intro p hp;obtain ⟨h5,h6⟩:=adA us hb p hp;have hm:aV P E (vs.map (K.dJ (aQ P e))) us:=VQ hv;exact ⟨by rw [<- hn]; exact (ml hvs hm p.2 h6).1,by simpa using h5⟩
 obtain ⟨h3,h4⟩:=Sb h1n (ps:=zipIdx is us) (es:=List.replicate len z) (fun u hu=>by rw [(List.mem_replicate.1 hu).2]; exact hz) adB;have wm:=ml CU hrel;have qy:(bA (r8 (List.replicate len z) (zipIdx is us))).all scalar=true:=fe.2 (AO fun u hu=>(wm u hu).2);have kV:(r8 (List.replicate len z) (zipIdx is us)).length=len:=by rw [Ku]; simp
 have gZ:=cO.MI (P:=P) (X:=fun _=>False) (G:=fun _=>False) (y2:=B.next) (N2:=len) (T:=e) (o9:=FQ (dj [K.dJ (aQ P e) (fy z)] len) ((zY is vs).map fun p=>(p.1,K.dJ (aQ P e) p.2))) (aw:=cZ _) (Fb:=r8 (List.replicate len z) (zipIdx is us)) (kl:=bA (r8 (List.replicate len z) (zipIdx is us))) (tM:=none) (A1:=A) (B':=B.new (.row (bA (r8 (List.replicate len z) (zipIdx is us))) n true none)) h rfl (fun _ _ e=>.inl e) (fun _ e=>e) (fun _ _ _ _ _ _ _=>⟨id,fun _ _ _ _ _ _=>id⟩) (fun _ e=>e.elim) (fun _ e=>e.elim) (.inr (aB _)) (by simp) (by simp [aU,hn]) (fun _ _ e=>by simp at e)
  (fun y hy _=>.inl (by rw [St.cq,aa (by omega)])) (fun _ e=>e.elim) (fun q y hy=>.inl (by simpa using hy)) (fun q _=>by simp) (by simp) (fun g hg=>by rw [St.jm]; exact h.fresh g (by rw [St.bR] at hg; omega)) (fun g y hy=>by rw [St.jm] at hy; rw [St.bR]; have:=h.mem g y hy; omega)
  (by unfold aU; omega) ⟨hlen.symm,fun i _=>rfl,CU⟩ hrel (by unfold aU; rw [hn]; exact lK h4)
 refine ⟨.row (bA (r8 (List.replicate len z) (zipIdx is us))) n true none,fun b=>.slice (some ⟨b,0,none⟩) len len,E.DU A.next (B.next,(bA (r8 (List.replicate len z) (zipIdx is us))).length,len),?_,?_,gZ⟩
 ·unfold tJ
  rw [CV,h3];simp only [dK];rw [qy,HV hv hk];rfl
 ·exact ZX Env.zj (aB _) (aB _) (by unfold aU; rw [hn,gX h4,kV])
theorem ajZ {T b n:Nat} {z:Value} (hn:aU P T=n) (_:1<=n) (hz:z.cells.size=n) (he:cw (aQ P T) (K.dJ (aQ P T) (fy z))=true):ak7 P (adq T b (K.dJ (aQ P T) (fy z))) (E8 n b z):=by
 intro E A B vs us v h hv hg;unfold adq at hg;split at hg
 ·rename_i k l k' c
  obtain ⟨x,y,rfl,h1,h2⟩:=hv.j9;have:=h1.cj; subst this;have:=h2.cj; subst this;obtain ⟨hc,hg⟩:=aH.jN hg;subst hg;simp only [ao,lT] at hc;obtain ⟨⟨h3,h4⟩,h5⟩:=hc;obtain ⟨l',rfl⟩:=Int.eq_ofNat_of_zero_le h3;obtain ⟨c',rfl⟩:=Int.eq_ofNat_of_zero_le (Int.le_trans h3 h4);have GV:l'<=c':=by omega
  have h6:Nat.ble l' c' = true:=Nat.ble_eq_true_of_le GV;have hs:∀ v∈List.replicate c' z,v.cells.size=n:=fun v hv=>by rw [List.eq_of_mem_replicate hv]; exact hz
  have MM:∀ m,dj [K.dJ (aQ P T) (fy z)] m=List.replicate m (K.dJ (aQ P T) (fy z)):=fun m=>by
   induction m with
   | zero=>rfl
   | succ m ih=>simp [dj,ih,List.replicate_succ]
  have hrel:∀ m,aV P E (List.replicate m (K.dJ (aQ P T) (fy z))) (List.replicate m z):=fun m=>by
   induction m with
   | zero=>exact .nil
   | succ m ih=>exact .cons (VK.fy z).dJ ih
  refine ⟨.row (fw z.cells.toList c') n true none,fun k=>.slice (some ⟨k,0,none⟩) l' c',E.eI B.next ⟨bA (List.replicate c' z),n,true,none⟩,?_,?_,?_⟩
  ·have h5:Nat.ble (b * c') 281474976710656=true:=h5
   show cond (Nat.ble l' c'&&Nat.ble (b * c') 281474976710656) _ _=_;rw [h6,h5];rfl
  ·have ahd:=(hrel l').mono (cO.ZO (bM:=bA (List.replicate c' z)) (bm:=n) h).le
   simp only [VK];refine ⟨⟨by rw [MM]; simp,fun i hi=>by rw [MM,fD,List.getElem?_replicate,aE hi]; rfl,by
    rw [MM];exact oM fun i x hx=>by rw [List.getElem?_replicate] at hx; split at hx <;> simp at hx; subst hx; exact he⟩,List.replicate l' z,by rw [MM]; exact ahd,some ⟨B.next,0,none⟩,c',rfl,GV,.inr ⟨B.next,0,⟨bA (List.replicate c' z),n,true,none⟩,rfl,by simp [Env.eI],hn.symm,?_⟩,trivial⟩
   rw [hn];intro i x hx;rw [List.getElem?_replicate] at hx;split at hx
   ·rename_i hi
    refine lK hs i x ?_;rw [List.getElem?_replicate,aE (by have hi:i < l':=hi; omega)];exact hx
   ·simp at hx
  ·rw [CV]; exact cO.ZO h
 ·exact hg.elim
theorem VV {sz:Nat} {cs:List Value} {xs ys:List Value} (h:qB sz 0 cs xs) (k:qB sz (xs.length * sz) cs ys):qB sz 0 cs (xs++ys):=fun i x hi=>by
 by_cases bj:i < xs.length
 ·rw [qH bj] at hi; exact h i x hi
 ·rw [tH (by omega)] at hi
  obtain ⟨h1,h2⟩:=k _ x hi;refine ⟨h1,fun j y hy=>?_⟩;rw [<- h2 j y hy];congr 1;have:i * sz=xs.length * sz+(i - xs.length) * sz:=by rw [<- Nat.add_mul]; congr 1; omega
  omega
theorem Xj {sz o:Nat} {cs r news:List Value} (hs:∀ v∈news,v.cells.size=sz) (hw:gx (o * sz) cs (bA news)=some r):qB sz (o * sz) r news:=fun i x hi=>by
 have Jm:=lK hs i x hi;have hlen:=gX hs;obtain ⟨_,_,h3⟩:=gz hw;refine ⟨Jm.1,fun k y hy=>?_⟩;have h4:=Jm.2 k y hy;rw [ba] at h4;rw [h3,aE ⟨by omega,by have:=(cH.1 h4).1; omega⟩,<- h4];congr 1;omega
theorem ZY {sz o:Nat} {cs r vs es:List Value} (hl:qB sz 0 cs es) (ho:es.length<=o) (hw:gx (o * sz) cs vs=some r) (_:1<=sz):qB sz 0 r es:=fun i x hi=>by
 obtain ⟨h1,h2⟩:=hl i x hi;obtain ⟨_,_,h3⟩:=gz hw;refine ⟨h1,fun k y hy=>?_⟩;have hk:k < sz:=by have:=(rS.1 hy).1; omega
 have Vd:=(cH.1 hi).1;have bj:0+i * sz+k < o * sz:=by
  have:(i+1) * sz<=o * sz:=Nat.mul_le_mul_right _ (by omega);rw [Nat.add_mul] at this;omega
 rw [h3,aa (by omega)];exact h2 k y hy
theorem ZZ {A:ae} {B:St} {f:Nat} {o0:gU} (h:dr P E A B) (hA:A.get f=some o0):∀ c o,(A.put f .dead).get c=some o->A.get c=some o\/(o = .dead/\c < A.next):=fun c o hc=>by
 rw [ae.bB] at hc;split at hc
 ·rename_i e; simp at hc; subst hc e; exact .inr ⟨rfl,h.live _ _ hA⟩
 ·exact .inl hc
theorem TK {B:St} {g k:Nat} {c:List Value} {n:Nat} (_:g<=B.next):(∀ x,(B.grow g k c n).get x=if x=B.next then some (.row c n true (some (g,k))) else B.get x)/\(∀ q,(B.grow g k c n).members q=if q=g then B.next::B.members g else B.members q)/\(B.grow g k c n).next=B.next+1:=
 ⟨fun x=>by simp [St.grow],fun q=>by simp [St.grow,St.EK],rfl⟩
theorem Z0 {e b:Nat} {E:Env} {A A' : ae} {B:St} {x v:KV} {u w:Value} {e' : TypeId} {mk:Mk} {k:Nat} {new:List KV} {acc:Nat->KV} (yi:1<=aU P e) (h:dr P E A B) (h1:VK P E x u)
  (hsr:Nat.beq e e' = true->∃ bh,Src P E B e' k new acc w bh) (hg:aH (Ht e b A [x,.ts e' mk k new acc]) (v,A')):∃ r B' E',j8 (aU P e) b B [u,w] = some (r,B')/\VK P E' v r/\cO P E A B E' A' B':=by
 have put:∀ (A1:ae) (m:Nat) (base:List KV) (ab:Nat->KV) (more:Bool) (A2:ae) (v:KV),aH (Yz e b m base ab A1 k new acc more) (v,A2)->
   (more=true/\Nat.ble ((m+k) * b) 140737488355328=true/\Nat.ble (m+k) 17592186044416=true)/\v = .al e A1.next 0 (m+k)/\A2=A1.new (.arr (.ts e .any (m+k) (base++new) (av m ab acc))):=by
  intro A1 m base ab more A2 v hp;obtain ⟨hc,hp⟩:=aH.jN hp;simp only [aiA,ao] at hc;simp only [du] at hp;exact ⟨⟨hc.1,hc.2.1,hc.2.2⟩,hp.1.symm,hp.2.symm⟩
 have nil:∀ (A1:ae) (base:List KV) (ab:Nat->KV),base = []->A1.next=A.next->(∀ c o,A1.get c=some o->A.get c=some o\/(o = .dead/\c < A.next))->(∀ c,A.get c=some wg->A1.get c=some wg)->(∃ bh,Src P E B e k new acc w bh)->Nat.ble ((0+k) * b) 140737488355328=true->Nat.ble (0+k) 17592186044416=true->
   ∃ r B' E',j8 (aU P e) b B [.slice none 0 0,w] = some (r,B')/\VK P E' (.al e A.next 0 (0+k)) r/\cO P E A B E' (A1.new (.arr (.ts e .any (0+k) (base++new) (av 0 ab acc)))) B':=by
  intro A1 base ab ML Ze hr1 hh1 ⟨cB,jI⟩ FK wk;subst ML;have hj:gW P e (0+k) ([]++new) (av 0 ab acc):=(gW.none (P:=P) (T:=e) (g:=ab)).join jI.tree;cases k with
  | zero=>
   have yf:new = []:=qG.1 jI.tree.len.symm;subst yf;refine ⟨.slice none 0 0,B,E,?_,.OI (.inl ⟨rfl,rfl,rfl⟩),cO.aiN h Ze hr1 hh1 yi⟩;simp only [j8,jI.len,dK,jI.all];rfl
  | succ k=>
   obtain ⟨g1,g2,g3⟩:=TK (B:=B) (g:=B.next) (k:=0) (c:=bA cB) (n:=aU P e) (aB _);have hlen:(bA cB).length=(k+1) * aU P e:=by rw [gX jI.size,jI.length]
   refine ⟨.slice (some ⟨B.next,0,none⟩) (k+1) (k+1),B.grow B.next 0 (bA cB) (aU P e),E.DU A.next (B.next,(bA cB).length,0+(k+1)),?_,?_,?_⟩
   ·simp only [ba] at FK wk
    simp only [j8,jI.len,dK,ba];rw [show Nat.ble (k+1) 0=false from rfl,aG,FK,wk,jI.all];rfl
   ·rw [ba]; exact ZX Env.zj (aB _) (by omega) (by rw [hlen])
   ·generalize B.grow B.next 0 (bA cB) (aU P e)=B' at g1 g2 g3
    exact cO.MI (X:=fun _=>False) (G:=fun _=>False) (y2:=B.next) (tM:=some (B.next,0)) h Ze hr1 hh1 (fun _ _ _ _ _ _ _=>⟨id,fun _ _ _ _ _ _=>id⟩) (fun _ e=>e.elim) (fun _ e=>e.elim) (.inr (aB _)) (by omega) (by rw [g1,aE rfl]) (fun g k e=>by simp at e; exact .inr (by omega))
     (fun y hy _=>.inl (by rw [g1,aa (by omega)])) (fun _ e=>e.elim) (fun q y hy=>by
      rw [g2] at hy;split at hy
      ·rename_i e
       subst e;rcases de.1 hy with hy | hy
       ·exact .inr ⟨hy,aB _,0,rfl⟩
       ·exact .inl hy
      ·exact .inl hy) (fun q hq=>by rw [g2,aa (fun e=>hq 0 (by rw [e]))]) (by omega) (fun g hg=>by rw [g2,aa (by omega)]; exact h.fresh g (by omega)) (fun g y hy=>by
      rw [g2] at hy;split at hy
      ·rcases de.1 hy with hy | hy
       ·omega
       ·have:=h.mem _ y hy; omega
      ·have:=h.mem g y hy; omega) yi hj (by simpa using jI.rel) (lK jI.size)
 unfold Ht at hg;split at hg
 ·rename_i e9 mk9 k9 aiK aiL heq
  simp only [List.cons.injEq,KV.ts.injEq,and_true] at heq;obtain ⟨rfl,rfl,rfl,rfl,rfl,rfl⟩:=heq;have:=h1.pb; subst this;obtain ⟨he,VS⟩:=hg.cond;have jI:=hsr he;have:=aK he;subst this;obtain ⟨⟨_,FK,wk⟩,rfl,rfl⟩:=put _ _ _ _ _ _ _ VS;exact nil A [] qz rfl rfl (fun _ _ e=>.inl e) (fun _ e=>e) jI FK wk
 ·rename_i e1 f o n e9 mk9 k9 aiK aiL heq
  simp only [List.cons.injEq,KV.ts.injEq,and_true] at heq;obtain ⟨rfl,rfl,rfl,rfl,rfl,rfl⟩:=heq;split at hg
  ·rename_i e2 mk2 N es ac hf
   obtain ⟨he,VS⟩:=hg.cond;simp only [ao] at he;obtain ⟨cB,jI⟩:=hsr he.1.1;have:=aK he.1.1;subst this;have:=aK he.1.2;subst this;have:=aK he.2;subst this;obtain ⟨⟨ho,FK,wk⟩,rfl,rfl⟩:=put _ _ _ _ _ _ _ VS;have:=aK ho;subst this;have FW:=ZZ h hf;rcases h1.yh with ⟨rfl,_,rfl⟩ | ⟨x,L,N0,c,h2,rfl,h3,h4,h5⟩
   ·exact nil (A.put f .dead) (es.take 0) ac (by simp) rfl FW (oL hf (by simp)) ⟨cB,jI⟩ FK wk
   ·obtain ⟨T2,N2,o9,aw,e2,ht,_,xU⟩:=h.ar.arr f _ hf
    simp only [KV.ts.injEq] at e2;obtain ⟨rfl,rfl,rfl,rfl,rfl⟩:=e2;rcases xU with ⟨_,e2⟩ | ⟨x2,cs,bL,bh,e2,h6,h7,h8⟩
    ·rw [h2] at e2; simp at e2
    rw [h2] at e2;simp only [bN,du] at e2;obtain ⟨rfl,rfl,rfl⟩:=e2;have rX:AR A E x:=⟨f,_,_,_,hf,h2⟩
    have anw:x < B.next:=h.HX rX;have Sh:bh.length=N0:=by rw [h7.length]; exact ht.len.symm
    have hs:=ml ht.typed h7;have htk:gW P e n (es.take n) ac:=⟨by rw [kU,<- ht.len]; omega,fun i hi=>by rw [ht.acc i (by omega),fD,fD,mc,aE hi],oM fun i x hi=>by
     rw [mc] at hi;split at hi
     ·exact gE ht.typed hi
     ·simp at hi⟩
    have hj:=htk.join jI.tree;have Tu:(bh.take n).length=n:=by rw [kU]; omega
    have ao2:∀ v∈bh.take n,v.cells.size=aU P e:=fun v hv=>(hs v (List.mem_of_mem_take hv)).1;have hrel:=(h7.take n).append jI.rel;have h5:c * aU P e=cs.length:=by simpa using h5
    have oY:∀ c v,(A.put f .dead).get c=some (.arr v)->c≠f/\A.get c=some (.arr v):=fun c v hc=>by
     rw [ae.bB] at hc;split at hc
     ·simp at hc
     ·rename_i e; exact ⟨e,hc⟩
    have hf1:∀ c v,(A.put f .dead).get c=some (.arr v)->∀ y L N,E.α c=some (y,L,N)->¬ (y=x)/\∀ ow e1 own g k1,B.get y=some (.row ow e1 own (some (g,k1)))->¬ (∃ k,bL=some (g,k)):=fun c v hc y L N hy=>by
     obtain ⟨cI,hc⟩:=oY c v hc;refine ⟨fun e=>cI (h.ar.inj c f v _ x L N _ _ hc hf (by rw [<- e]; exact hy) h2),fun ow e1 own g k1 hr ⟨k2,hk⟩=>?_⟩;rw [hk] at h6;exact cI (h.ar.wW c f v _ y x L N _ _ _ _ _ g k1 _ _ _ k2 hc hf hy h2 hr h6)
    have hf3:∀ g,(∃ k,bL=some (g,k))->AF A E B g/\g < B.next/\(∀ f,E.φ f≠some g)/\∀ y∈B.members g,¬ (y=x)->E.z y=none/\¬ AR A E y/\∀ c,E.κ c≠some y:=fun g ⟨k2,hk⟩=>by
     rw [hk] at h6;obtain ⟨q1,q2,q3⟩:=h.ar.vo f _ x _ _ _ _ _ g k2 hf h2 h6;exact ⟨⟨f,_,x,_,_,_,_,_,k2,hf,h2,h6⟩,q1,q2,fun y hy cI=>q3 y hy cI⟩
    have aiO:cL (⟨x,0 * aU P e,none⟩:Addr)=true:=rfl;by_cases mG:n+k<=c
    ·
     have hle:n * aU P e+(bA cB).length<=cs.length:=by
      rw [gX jI.size,jI.length,<- h5,<- Nat.add_mul];exact Nat.mul_le_mul_right _ mG
     obtain ⟨kl,hw⟩:=CW (n * aU P e) cs (bA cB) hle;have hcl:kl.length=cs.length:=(gz hw).1;have Jp:(bA cB).all scalar=true:=fe.2 (AO fun v hv=>(ml jI.tree.typed jI.rel v hv).2);have hb:Nat.ble (n+k) c=true:=Nat.ble_eq_true_of_le mG;have key:∃ B' : St,j8 (aU P e) b B [.slice (some ⟨x,0 * aU P e,none⟩) n c,w] = some (.slice (some ⟨x,0 * aU P e,none⟩) (n+k) c,B')/\B'.get x=some (.row kl (aU P e) true bL)/\
       (∀ y,y≠x->B'.get y=B.get y\/(B'.get y=some .dead/\∃ g,(∃ k,bL=some (g,k))/\y∈B.members g))/\B'.members=B.members/\B'.next=B.next:=by
      cases wV:Nat.beq k 0 with
      | true=>
       have Lf:cB = []:=qG.1 (by rw [jI.length]; exact aK wV);have Ki:kl=cs:=by
        rw [Lf] at hw;refine List.ext_getElem? fun i=>?_;rw [(gz hw).2.2 i,aa (by simp [bA])]
       refine ⟨B,?_,by rw [Ki]; exact h6,fun _ _=>.inl rfl,rfl,rfl⟩;simp only [j8,jI.len,dK,hb,aj,jI.all,aiO,wV]
      | false=>
       refine ⟨(B.put x (.row kl (aU P e) true bL)).fj x bL (n * aU P e) (n * aU P e+(bA cB).length),?_,?_,?_,by rw [Lw]; simp,by rw [Rd]; simp⟩
       ·simp only [j8,jI.len,dK,hb,aj,aG,jI.all,aiO,wV]
        simp only [St.Bg,cL,Option.isNone_none,CA,Jp,aj,Nat.zero_mul,ba,h6,hw,Option.map_some]
       ·rcases G4 (B:=B.put x (.row kl (aU P e) true bL)) (x:=x) (y:=x) (lo:=n * aU P e) (hi:=n * aU P e+(bA cB).length) (bL:=bL) with e | ⟨g,k,_,_,h3,_⟩
        ·rw [e]; simp
        ·exact absurd rfl h3
       ·intro y hy
        rcases G4 (B:=B.put x (.row kl (aU P e) true bL)) (x:=x) (y:=y) (lo:=n * aU P e) (hi:=n * aU P e+(bA cB).length) (bL:=bL) with e | ⟨g,k,h1,h2,_,h4,_⟩
        ·exact .inl (by rw [e,St.bB,aa hy])
        ·exact .inr ⟨h4,g,⟨k,h1⟩,by simpa using h2⟩
     obtain ⟨B',lC,jz,hgy,mI,fU⟩:=key;refine ⟨_,B',E.DU A.next (x,kl.length,n+k),lC,?_,?_⟩
     ·rw [Nat.zero_mul]; exact ZX Env.zj mG (aB _) (by rw [hcl]; exact h5)
     ·
      have hli:qB (aU P e) 0 kl (bh.take n++cB):=VV (ZY (h8.take n) (by omega) hw yi) (by rw [Tu]; exact Xj jI.size hw);exact cO.MI (A1:=A.put f .dead) (X:=fun y=>y=x) (G:=fun g=>∃ k,bL=some (g,k)) (y2:=x) (tM:=bL) h rfl FW (oL hf (by simp)) hf1 (fun y hy=>by rw [hy]; exact rX) hf3 (.inl rfl) (by omega) jz (fun g k hk=>.inl ⟨k,hk⟩)
       (fun y _ cI=>hgy y cI) (fun y hy ow e1 own Re hr=>by
        rw [hy,jz] at hr;simp at hr;obtain ⟨rfl,rfl,rfl,rfl⟩:=hr;rw [hy];exact ⟨cs,h6,hcl.symm⟩) (fun q y hy=>.inl (by rw [mI] at hy; exact hy)) (fun q _=>by rw [mI]) (by omega) (fun g hg=>by rw [mI]; exact h.fresh g (by omega)) (fun g y hy=>by rw [mI] at hy; rw [fU]; exact h.mem g y hy) yi hj hrel hli
    ·
     have hb:Nat.ble (n+k) c=false:=by
      cases hq:Nat.ble (n+k) c with
      | false=>rfl
      | true=>exact absurd (dT hq) mG
     have hex:xA B (aU P e) c (some ⟨x,0 * aU P e,none⟩)=true:=by
      simp only [xA,h6];cases bL with
      | none=>simp [h5]
      | some p=>rfl
     have hold:B.Aa ⟨x,0 * aU P e,none⟩ (n * aU P e)=some (bA (bh.take n)):=by
      have:=MJ (B:=B) (b:=x) (off:=0) (n:=n) (sz:=aU P e) (r:=⟨cs,aU P e,true,bL⟩) (bh:=bh.take n) h6 (h8.take n) Tu yi;simpa using this
     have ahk:∀ v∈bh.take n++cB,v.cells.size=aU P e:=fun v hv=>by
      rcases jJ.1 hv with hv | hv
      ·exact ao2 v hv
      ·exact jI.size v hv
     have hlen:(bA (bh.take n++cB)).length=(n+k) * aU P e:=by rw [gX ahk,kx,Tu,jI.length]
     cases bL with
     | none=>
      obtain ⟨g1,g2,g3⟩:=TK (B:=B) (g:=B.next) (k:=0) (c:=bA (bh.take n++cB)) (n:=aU P e) (aB _);refine ⟨.slice (some ⟨B.next,0,none⟩) (n+k) (n+k),B.grow B.next 0 (bA (bh.take n++cB)) (aU P e),E.DU A.next (B.next,(bA (bh.take n++cB)).length,n+k),?_,?_,?_⟩
      ·simp only [j8,jI.len,dK,hb,aG,FK,wk,hex,cC,aj,jI.all]
       simp only [HI,cL,Option.isNone_none,aj,hold,dK,h6,tI,<- AL]
      ·exact ZX Env.zj (aB _) (aB _) (by rw [hlen])
      ·generalize B.grow B.next 0 (bA (bh.take n++cB)) (aU P e)=B' at g1 g2 g3
       exact cO.MI (A1:=A.put f .dead) (X:=fun _=>False) (G:=fun _=>False) (y2:=B.next) (tM:=some (B.next,0)) h rfl FW (oL hf (by simp)) (fun _ _ _ _ _ _ _=>⟨id,fun _ _ _ _ _ _=>id⟩) (fun _ e=>e.elim) (fun _ e=>e.elim) (.inr (aB _)) (by omega) (by rw [g1,aE rfl]) (fun g k e=>by simp at e; exact .inr (by omega))
        (fun y hy _=>.inl (by rw [g1,aa (by omega)])) (fun _ e=>e.elim) (fun q y hy=>by
         rw [g2] at hy;split at hy
         ·rename_i e
          subst e;rcases de.1 hy with hy | hy
          ·exact .inr ⟨hy,aB _,0,rfl⟩
          ·exact .inl hy
         ·exact .inl hy) (fun q hq=>by rw [g2,aa (fun e=>hq 0 (by rw [e]))]) (by omega) (fun g hg=>by rw [g2,aa (by omega)]; exact h.fresh g (by omega)) (fun g y hy=>by
         rw [g2] at hy;split at hy
         ·rcases de.1 hy with hy | hy
          ·omega
          ·have:=h.mem _ y hy; omega
         ·have:=h.mem g y hy; omega) yi hj hrel (lK ahk)
     | some p=>
      obtain ⟨g,k0⟩:=p;have hgB:g < B.next:=(hf3 g ⟨k0,rfl⟩).2.1;have kg:∀ y,(B.kill B.next (k0+(0+n * aU P e)) (k0+(0+n * aU P e)+(bA cB).length) (B.members g)).get y=B.get y\/((B.kill B.next (k0+(0+n * aU P e)) (k0+(0+n * aU P e)+(bA cB).length) (B.members g)).get y=some .dead/\y∈B.members g):=fun y=>by
       rw [D2];by_cases hc:y∈B.members g/\y≠B.next/\rB (B.get y) (k0+(0+n * aU P e)) (k0+(0+n * aU P e)+(bA cB).length)=true
       ·exact .inr ⟨by rw [aE hc],hc.1⟩
       ·exact .inl (by rw [aa hc])
      have km:(B.kill B.next (k0+(0+n * aU P e)) (k0+(0+n * aU P e)+(bA cB).length) (B.members g)).members=B.members:=by simp
      have kn:(B.kill B.next (k0+(0+n * aU P e)) (k0+(0+n * aU P e)+(bA cB).length) (B.members g)).next=B.next:=by simp
      obtain ⟨g1,g2,g3⟩:=TK (B:=B.kill B.next (k0+(0+n * aU P e)) (k0+(0+n * aU P e)+(bA cB).length) (B.members g)) (g:=g) (k:=k0+0) (c:=bA (bh.take n++cB)) (n:=aU P e) (by omega);rw [kn] at g3;have g1:∀ y,y≠B.next->_:=fun y hy=>(g1 y).trans (aa (by rw [kn]; exact hy));have g1':=(TK (B:=B.kill B.next (k0+(0+n * aU P e)) (k0+(0+n * aU P e)+(bA cB).length) (B.members g)) (g:=g) (k:=k0+0) (c:=bA (bh.take n++cB)) (n:=aU P e) (by omega)).1 B.next;rw [kn,aE rfl] at g1';simp only [km,kn] at g2;refine ⟨.slice (some ⟨B.next,0,none⟩) (n+k) (n+k),(B.kill B.next (k0+(0+n * aU P e)) (k0+(0+n * aU P e)+(bA cB).length) (B.members g)).grow g (k0+0) (bA (bh.take n++cB)) (aU P e),E.DU A.next (B.next,(bA (bh.take n++cB)).length,n+k),?_,?_,?_⟩
      ·simp only [j8,jI.len,dK,hb,aG,FK,wk,hex,cC,aj,jI.all]
       have adH:=hold;rw [Nat.zero_mul] at adH;simp only [HI,cL,Option.isNone_none,aj,Nat.zero_mul,adH,dK,h6,tI,<- AL]
      ·exact ZX Env.zj (aB _) (aB _) (by rw [hlen])
      ·generalize (B.kill B.next (k0+(0+n * aU P e)) (k0+(0+n * aU P e)+(bA cB).length) (B.members g)).grow g (k0+0) (bA (bh.take n++cB)) (aU P e)=B' at g1 g1' g2 g3
       have gy:∀ y,y≠B.next->B'.get y=B.get y\/(B'.get y=some .dead/\y∈B.members g):=fun y hy=>by
        rw [g1 y hy]; exact kg y
       exact cO.MI (A1:=A.put f .dead) (X:=fun y=>y=x) (G:=fun q=>∃ k,some (g,k0)=some (q,k)) (y2:=B.next) (tM:=some (g,k0+0)) h rfl FW (oL hf (by simp)) hf1 (fun y hy=>by rw [hy]; exact rX) hf3 (.inr (aB _)) (by omega) g1' (fun q k e=>by simp at e; exact .inl ⟨k0,by rw [e.1]⟩)
        (fun y hy _=>(gy y (by omega)).imp id fun ⟨q1,q2⟩=>⟨q1,g,⟨k0,rfl⟩,q2⟩) (fun y hy ow e1 own Re hr=>by
         have hy:y=x:=hy;rcases gy y (by omega) with q | ⟨q,_⟩
         ·rw [q] at hr; exact ⟨ow,hr,rfl⟩
         ·rw [q] at hr; simp at hr) (fun q y hy=>by
         rw [g2] at hy;split at hy
         ·rename_i e
          subst e;rcases de.1 hy with hy | hy
          ·exact .inr ⟨hy,aB _,k0+0,rfl⟩
          ·exact .inl hy
         ·exact .inl hy) (fun q hq=>by rw [g2,aa (fun e=>hq (k0+0) (by rw [e]))]) (by omega) (fun q hq=>by rw [g2,aa (by omega)]; exact h.fresh q (by omega)) (fun q y hy=>by
         rw [g2] at hy;split at hy
         ·rcases de.1 hy with hy | hy
          ·omega
          ·have:=h.mem _ y hy; omega
         ·have:=h.mem q y hy; omega) yi hj hrel (lK ahk)
  ·exact hg.elim
 ·exact hg.elim
def anx (P:Program) (f:FA) (g:St->List Value->Option Value):Prop:=
 ∀ (E:Env) (A A' : ae) (B:St) (vs:List KV) (us:List Value) (v:KV),dr P E A B->aV P E vs us->aH (f A vs) (v,A')->∃ u E',g B us=some u/\VK P E' v u/\cO P E A B E' A' B
theorem ahl {o:Oper} {f:FA} {g:St->List Value->Option Value} {xs:List Operand} (hc:compile P o.op = .read g xs) (hs:anx P f g):HY P o (.act f xs):=by
 intro E A A' B ρ base w ev cF v hj hv hg;obtain ⟨em,h1,h2⟩:=mid hv;obtain ⟨u,E',h3,h4,h5⟩:=hs E A A' B _ _ v hj.k h1 hg;have cM:=ra P o;rw [hc] at cM;obtain ⟨v',h6,h7⟩:=cM ρ B base w em cF u hj.s.rel h2 h3;exact ⟨E',B,ρ,v',.value v',w,h7,rfl,⟨u,h4,h6⟩,h5.ev (.refl hj.s)⟩
theorem ae8 {n:Nat} {lo hi:Bool} (h1n:1<=n):anx P (VA P n lo hi) (va n lo hi false):=by
 intro E A A' B vs us v h hv hg;unfold VA at hg;split at hg
 ·rename_i T f o m r
  split at hg
  ·rename_i T' mk N es ac hf
   split at hg
   ·rename_i x y hb
    obtain ⟨he,N6⟩:=hg.cond;simp only [ao,lT] at he;obtain ⟨⟨⟨dP,hT⟩,ho⟩,rfl⟩:=he;have dP:aU P T=n:=aK dP;have:=aK hT;subst this;have:=aK ho;subst this;obtain ⟨hc,hg3⟩:=aH.jN N6;simp only [ao,lT] at hc;obtain ⟨h0,h1⟩:=hc;simp only [du] at hg3;obtain ⟨rfl,rfl⟩:=hg3;obtain ⟨u,r',rfl,hu,h4⟩:=hv.cons_inv;have FW:=ZZ h hf;rcases hu.yh with ⟨rfl,_,rfl⟩ | ⟨x,L,N0,c,h2,rfl,h3,h3',h5⟩
    ·have Km:=Fg (cap:=0) hb h4 (Int.le_refl _) h0 h1 (aB _)
     have hy:y.toNat=0:=by omega
     refine ⟨.slice none 0 0,E,by simp [va,Km,hy],?_,?_⟩
     ·rw [hy]; exact .OI (.inl ⟨rfl,rfl,rfl⟩)
     ·rw [hy]; exact cO.aiN h rfl FW (oL hf (by simp)) (by omega)
    ·obtain ⟨T2,N2,o9,aw,e2,ht,_,xU⟩:=h.ar.arr f _ hf
     simp only [KV.ts.injEq] at e2;obtain ⟨rfl,rfl,rfl,rfl,rfl⟩:=e2;rcases xU with ⟨_,e2⟩ | ⟨x2,cs,bL,bh,e2,h6,h7,h8⟩
     ·rw [h2] at e2; simp at e2
     rw [h2] at e2;simp only [bN,du] at e2;obtain ⟨rfl,rfl,rfl⟩:=e2;have rX:AR A E x:=⟨f,_,_,_,hf,h2⟩
     have anw:x < B.next:=h.HX rX;have Sh:bh.length=N0:=by rw [h7.length]; exact ht.len.symm
     have hym:y.toNat<=N0:=by omega
     have htk:gW P T y.toNat (es.take y.toNat) ac:=⟨by rw [kU,<- ht.len]; omega,fun i hi=>by rw [ht.acc i (by omega),fD,fD,mc,aE hi],oM fun i x hi=>by
      rw [mc] at hi;split at hi
      ·exact gE ht.typed hi
      ·simp at hi⟩
     have oY:∀ c v,(A.put f .dead).get c=some (.arr v)->c≠f/\A.get c=some (.arr v):=fun c v hc=>by
      rw [ae.bB] at hc;split at hc
      ·simp at hc
      ·rename_i e; exact ⟨e,hc⟩
     have hf1:∀ c v,(A.put f .dead).get c=some (.arr v)->∀ y L N,E.α c=some (y,L,N)->¬ (y=x)/\∀ ow e1 own g k1,B.get y=some (.row ow e1 own (some (g,k1)))->¬ (∃ k,bL=some (g,k)):=fun c v hc y L N hy=>by
      obtain ⟨cI,hc⟩:=oY c v hc;refine ⟨fun e=>cI (h.ar.inj c f v _ x L N _ _ hc hf (by rw [<- e]; exact hy) h2),fun ow e1 own g k1 hr ⟨k2,hk⟩=>?_⟩;rw [hk] at h6;exact cI (h.ar.wW c f v _ y x L N _ _ _ _ _ g k1 _ _ _ k2 hc hf hy h2 hr h6)
     have hf3:∀ g,(∃ k,bL=some (g,k))->AF A E B g/\g < B.next/\(∀ f,E.φ f≠some g)/\∀ y∈B.members g,¬ (y=x)->E.z y=none/\¬ AR A E y/\∀ c,E.κ c≠some y:=fun g ⟨k2,hk⟩=>by
      rw [hk] at h6;obtain ⟨q1,q2,q3⟩:=h.ar.vo f _ x _ _ _ _ _ g k2 hf h2 h6;exact ⟨⟨f,_,x,_,_,_,_,_,k2,hf,h2,h6⟩,q1,q2,fun y hy cI=>q3 y hy cI⟩
     have h5:c * aU P T=cs.length:=by simpa using h5
     have Km:=Fg (cap:=c) hb h4 (Int.le_refl _) h0 h1 (by omega);refine ⟨.slice (some ⟨x,0,none⟩) y.toNat c,E.DU A.next (x,cs.length,y.toNat),?_,ZX Env.zj (by omega) (aB _) h5,?_⟩
     ·simp [va,Km,cL,CE,h6,dP]
     ·exact cO.MI (A1:=A.put f .dead) (X:=fun y=>y=x) (G:=fun g=>∃ k,bL=some (g,k)) (y2:=x) (tM:=bL) h rfl FW (oL hf (by simp)) hf1 (fun y hy=>by rw [hy]; exact rX) hf3 (.inl rfl) anw h6 (fun g k hk=>.inl ⟨k,hk⟩)
       (fun y _ _=>.inl rfl) (fun y hy ow e1 own Re hr=>⟨ow,hr,rfl⟩) (fun q y hy=>.inl hy) (fun q _=>rfl) (aB _) h.fresh h.mem (by omega) htk (h7.take _) (h8.take _)
   ·exact hg.elim
  ·exact hg.elim
 ·exact hg.elim
theorem cO.aof {A:ae} {B:St} {b:Nat} {v2:KV} (h:dr P E A B) (hb:∃ v,A.get b=some (.arr v)) (cM:Zz P E B b v2):cO P E A B E (A.put b (.arr v2)) B:=by
 obtain ⟨v0,hb⟩:=hb;have fI:∀ c o,(A.put b (.arr v2)).get c=some o->(c=b/\o = .arr v2)\/A.get c=some o:=fun c o hc=>by
  rw [ae.bB] at hc;split at hc
  ·rename_i e; simp at hc; exact .inl ⟨e,hc.symm⟩
  ·exact .inr hc
 have hA:∀ c v,(A.put b (.arr v2)).get c=some (.arr v)->∃ u,A.get c=some (.arr u):=fun c v hc=>by
  rcases fI c _ hc with ⟨e,_⟩ | e
  ·exact ⟨v0,by rw [e]; exact hb⟩
  ·exact ⟨v,e⟩
 have rX:∀ y,AR (A.put b (.arr v2)) E y->AR A E y:=fun y ⟨c,v,L,N,h1,h2⟩=>by
  obtain ⟨u,hu⟩:=hA c v h1;exact ⟨c,u,L,N,hu,h2⟩
 have Kw:∀ g,AF (A.put b (.arr v2)) E B g->AF A E B g:=fun g ⟨c,v,x,L,N,cs,e,own,k,h1,h2,h3⟩=>by
  obtain ⟨u,hu⟩:=hA c v h1;exact ⟨c,u,x,L,N,cs,e,own,k,hu,h2,h3⟩
 refine ⟨⟨fun c cs bm hc=>?_,fun c top sz hc=>?_,h.z,h.apart,h.inj,?_,h.jM,h.kL,fun c o hc=>?_,h.eS,h.lD,h.il,h.fresh,h.mem,?_⟩,Env.le_refl _,aB _,fun _ _ _ _=>rfl,fun _ _ e=>.inl e,fun _ _ e=>.inl e,fun _ _ e=>.inl e,fun _ _ _ _=>rfl,fun x q=>.inl (rX x q),fun g q=>.inl (Kw g q),fun _ _ q=>.inl q,fun y q=>.inl (q.imp (rX y) fun ⟨g,q1,q2⟩=>⟨g,Kw g q1,q2⟩),mj fun _ _=>rfl,oL hb (by simp)⟩
 ·rcases fI c _ hc with ⟨_,e⟩ | e
  ·simp at e
  ·exact h.row c cs bm e
 ·rcases fI c _ hc with ⟨_,e⟩ | e
  ·simp at e
  ·exact h.aO c top sz e
 ·exact h.gD.put (.inl fun t s=>by simp)
 ·rw [ae.ss]
  rcases fI c _ hc with ⟨e,_⟩ | e
  ·rw [e]; exact h.live b _ hb
  ·exact h.live c o e
 ·refine ⟨fun c v hc=>?_,fun c v hc=>?_,fun x q=>h.ar.z x (rX x q),fun c d v u x L N L' N' h1 h2 h3 h4=>?_,fun c d v u x y L N L' N' cs e own g k bM e' rb k' h1 h2 h3 h4=>?_,h.ar.ZA,h.ar.jM,h.ar.eS,fun c v x L N cs e own g k h1 h2 h3=>?_,fun c v hc=>?_⟩
  ·rcases fI c _ hc with ⟨e,e2⟩ | e
   ·simp at e2; rw [e2,e]; exact cM
   ·exact h.ar.arr c v e
  ·rcases fI c _ hc with ⟨_,e⟩ | e
   ·simp at e
   ·exact h.ar.iC c v e
  ·obtain ⟨v',h1⟩:=hA c v h1
   obtain ⟨u',h2⟩:=hA d u h2;exact h.ar.inj c d v' u' x L N L' N' h1 h2 h3 h4
  ·obtain ⟨v',h1⟩:=hA c v h1
   obtain ⟨u',h2⟩:=hA d u h2;exact h.ar.wW c d v' u' x y L N L' N' cs e own g k bM e' rb k' h1 h2 h3 h4
  ·obtain ⟨v',h1⟩:=hA c v h1
   obtain ⟨q1,q2,q3⟩:=h.ar.vo c v' x L N cs e own g k h1 h2 h3;exact ⟨q1,q2,fun y hy cI=>⟨(q3 y hy cI).1,fun q=>(q3 y hy cI).2.1 (rX y q),(q3 y hy cI).2.2⟩⟩
  ·obtain ⟨v',h1⟩:=hA c v hc
   rw [ae.ss];exact h.ar.nk c v' h1
theorem Z1 {es new:List KV} {o:Nat} (h:o+new.length<=es.length):(CP es o new).length=es.length:=by
 simp only [CP,kx,kU,List.length_drop];omega
theorem ae9 {es new:List KV} {o i:Nat} (h:o+new.length<=es.length):(CP es o new)[i]? = if i < o then es[i]? else if i < o+new.length then new[i - o]? else es[i]?:=by
 unfold CP;by_cases h1:i < o
 ·rw [aE h1,List.append_assoc,qH (by rw [kU]; omega),mc,aE h1]
 ·rw [aa h1]
  by_cases h2:i < o+new.length
  ·rw [aE h2,qH (by rw [kx,kU]; omega),tH (by rw [kU]; omega),kU]
   congr 1;omega
  ·rw [aa h2,tH (by rw [kx,kU]; omega),oV,kx,kU]
   congr 1;omega
theorem acm {T:TypeId} {N m o k:Nat} {es new:List KV} {acc an:Nat->KV} (ht:gW P T N es acc) (hn:gW P T m new an) (hk:k<=m) (ho:o+k<=N):gW P T N (CP es o (new.take k)) (aA o k acc an):=by
 have hl:(new.take k).length=k:=by rw [kU,<- hn.len]; omega
 have mG:o+(new.take k).length<=es.length:=by rw [hl,<- ht.len]; exact ho
 have nR:=fun i=>ae9 (i:=i) mG;rw [hl] at nR;refine ⟨by rw [Z1 mG]; exact ht.len,fun i hi=>?_,oM fun i x hx=>?_⟩
 ·rw [fD,nR]
  unfold aA;by_cases h1:i < o
  ·rw [aE h1,show Nat.blt i o=true from bG ▸ h1,aj,ht.acc i hi,fD]
  ·have e1:Nat.blt i o=false:=by
    cases hb:Nat.blt i o with
    | false=>rfl
    | true=>exact absurd (bG ▸ hb) h1
   rw [aa h1,e1,aG];by_cases h2:i < o+k
   ·rw [aE h2,show Nat.blt i (o+k)=true from bG ▸ h2,aj,mc,aE (by omega),hn.acc (i - o) (by omega),fD]
   ·have e2:Nat.blt i (o+k)=false:=by
     cases hb:Nat.blt i (o+k) with
     | false=>rfl
     | true=>exact absurd (bG ▸ hb) h2
    rw [aa h2,e2,aG,ht.acc i hi,fD]
 ·rw [nR] at hx
  split at hx
  ·exact gE ht.typed hx
  ·split at hx
   ·rw [mc] at hx
    split at hx
    ·exact gE hn.typed hx
    ·simp at hx
   ·exact gE ht.typed hx
theorem afa {sz o:Nat} {cs r vs es:List Value} (hl:qB sz (o * sz+vs.length) cs es) (hw:gx (o * sz) cs vs=some r):qB sz (o * sz+vs.length) r es:=fun i x hi=>by
 obtain ⟨h1,h2⟩:=hl i x hi;obtain ⟨_,_,h3⟩:=gz hw;exact ⟨h1,fun k y hy=>by rw [h3,aa (by omega)]; exact h2 k y hy⟩
theorem alh {e n:Nat} (hn:aU P e=n) (h1n:1<=n):aiE P (ag6 e) (YX n):=by
 intro E A A' B vs us v h hv hg;unfold ag6 at hg;split at hg
 ·rename_i e1 b o q y
  obtain ⟨u,w,rfl,h1,h2⟩:=hv.j9;split at hg
  ·rename_i e' mk m new an e2 mk2 N es acc hy hb
   obtain ⟨he,N6⟩:=hg.cond;clear hg;simp only [ao] at he;have:=aK he.1.1;subst this;have:=aK he.1.2;subst this;have:=aK he.2;subst this;have yi:1<=aU P e:=by omega
   obtain ⟨cB,jI⟩:=aiJ h h2 hy yi;have N6:(KV.int .i64 (Nat.min m q:Nat),A.put b (.arr (.ts e .any N (CP es o (new.take (Nat.min m q))) (aA o (Nat.min m q) acc an))))=(v,A'):=N6;simp only [du] at N6;obtain ⟨rfl,rfl⟩:=N6;obtain ⟨T2,N2,o9,aw,e2,ht,_,xU⟩:=h.ar.arr b _ hb;simp only [KV.ts.injEq] at e2;obtain ⟨rfl,rfl,rfl,rfl,rfl⟩:=e2;have Vc:Nat.min m q<=m:=Nat.min_le_left _ _;have hkq:Nat.min m q<=q:=Nat.min_le_right _ _;have hf:=jI.first _ Vc
   rw [hn] at hf;rcases h1.yh with ⟨rfl,rfl,rfl⟩ | ⟨x,L,N0,c,p2,rfl,p3,p4,p5⟩
   ·
    have wV:Nat.min m 0=0:=Nat.min_zero m;refine ⟨.int .i64 (Int.ofNat (Nat.min m 0)),B,E,?_,.mkInt,cO.aof h ⟨_,hb⟩ ?_⟩
    ·simp only [YX,jI.len,dK,hf]
    ·have hp:=acm (o:=0) ht jI.tree Vc (by rw [wV]; omega)
     refine ⟨_,_,_,_,rfl,hp,yi,?_⟩;have Sg:CP es 0 (new.take (Nat.min m 0))=es:=by rw [wV]; simp [CP]
     rw [Sg];exact xU
   ·rcases xU with ⟨_,e2⟩ | ⟨x2,cs,bL,bh,e2,h6,h7,h8⟩
    ·rw [p2] at e2; simp at e2
    rw [p2] at e2;simp only [bN,du] at e2;obtain ⟨rfl,rfl,rfl⟩:=e2;have Sh:bh.length=N0:=by rw [h7.length]; exact ht.len.symm
    have gZ:∀ v∈cB.take (Nat.min m q),v.cells.size=aU P e:=fun v hv=>jI.size v (List.mem_of_mem_take hv);have anz:(cB.take (Nat.min m q)).length=Nat.min m q:=by rw [kU,jI.length]; exact Nat.min_eq_left Vc
    have Jm:(bA (cB.take (Nat.min m q))).length=Nat.min m q * aU P e:=by rw [gX gZ,anz]
    have hle:o * aU P e+(bA (cB.take (Nat.min m q))).length<=cs.length:=by
     rw [Jm,<- p5,<- Nat.add_mul];exact Nat.mul_le_mul_right _ (by omega)
    obtain ⟨kl,hw⟩:=CW (o * aU P e) cs (bA (cB.take (Nat.min m q))) hle;have hcl:kl.length=cs.length:=(gz hw).1;have Jp:(bA (cB.take (Nat.min m q))).all scalar=true:=fe.2 (AO fun v hv=>(ml jI.tree.typed jI.rel v (List.mem_of_mem_take hv)).2);have hp:=acm (o:=o) ht jI.tree Vc (by omega);have hon:(bh.take o).length=o:=by rw [kU]; omega
    have hrel:aV P E (CP es o (new.take (Nat.min m q))) (bh.take o++cB.take (Nat.min m q)++bh.drop (o+Nat.min m q)):=by
     unfold CP;have hlk:(new.take (Nat.min m q)).length=Nat.min m q:=by rw [kU,<- jI.tree.len]; exact Nat.min_eq_left Vc
     rw [hlk];exact ((h7.take o).append (jI.rel.take _)).append (h7.drop _)
    have hli:qB (aU P e) 0 kl (bh.take o++cB.take (Nat.min m q)++bh.drop (o+Nat.min m q)):=by
     refine VV (VV (ZY (h8.take o) (by omega) hw yi) (by rw [hon]; exact Xj gZ hw)) ?_;have e3:(bh.take o++cB.take (Nat.min m q)).length * aU P e=o * aU P e+(bA (cB.take (Nat.min m q))).length:=by rw [kx,hon,anz,Jm,Nat.add_mul]
     rw [e3];refine afa ?_ hw;have:=h8.drop (o+Nat.min m q);rw [ba,Nat.add_mul] at this;rw [Jm];exact this
    have gZ:=cO.aiG (lo:=o * aU P e) (hi:=o * aU P e+(bA (cB.take (Nat.min m q))).length) h ⟨_,hb⟩ p2 h6 hcl yi hp hrel hli;refine ⟨.int .i64 (Int.ofNat (Nat.min m q)),_,E,?_,.mkInt,gZ⟩;subst hn;simp only [YX,jI.len,dK,hf,St.Bg,cL,Option.isNone_none,CA,Jp,aj,h6,hw,Option.map_some]
  ·exact hg.elim
 ·exact hg.elim
theorem afb {e n b:Nat} {mt:Bool} (hn:aU P e=n) (h1n:1<=n):aiE P (Ll e n b mt) (j8 n b):=by
 intro E A A' B vs us v h hv hg;unfold Ll at hg;split at hg
 ·rename_i x y
  obtain ⟨u,w,rfl,h1,h2⟩:=hv.j9;split at hg
  ·rename_i y' hy
   have yi:1<=aU P e:=by omega
   have hts:∃ T m k es acc,y' = .ts T m k es acc:=by
    unfold OB at hy;split at hy
    ·unfold adp at hy
     split at hy
     ·rename_i T' b' o' n' _ T2 _ _ o9 aw _
      cases hb:Nat.beq T' T2 with
      | false=>rw [hb] at hy; simp at hy
      | true=>rw [hb,aj] at hy; simp only [bN] at hy; exact ⟨_,_,_,_,_,hy.symm⟩
     ·simp at hy
    ·simp only [bN] at hy; exact ⟨_,_,_,_,_,hy.symm⟩
    ·simp at hy
   obtain ⟨T,m,k,es,acc,rfl⟩:=hts;have hsr:Nat.beq e T=true->∃ bh,Src P E B T k es acc w bh:=fun he=>by
    have:=aK he;subst this;exact aiJ h h2 hy yi
   subst hn;cases hx:ak4 x with
   | true=>rw [hx,aj] at hg; exact Z0 yi h h1 hsr hg
   | false=>
    rw [hx,aG] at hg;cases mt with
    | true=>rw [aj] at hg; exact Z0 yi h h1 hsr hg
    | false=>rw [aG] at hg; exact ahi rfl yi h h1 hsr hg
  ·exact hg.elim
 ·exact hg.elim
end Go.K
end
section
namespace Go.K
open Go Go.aI
variable {P:Program} {E:Env}
theorem cO.aiP {E1 E2:Env} {A A1 A2:ae} {B:St} (h:cO P E A B E1 A1 B) (k:cO P E1 A1 B E2 A2 B):cO P E A B E2 A2 B where
 fT:=k.fT
 le:=Env.le_trans h.le k.le
 next:=gS h.next k.next
 dL _ _ _ _:=rfl
 new b x e:=(k.new b x e).elim (h.new b x) fun q=>.inr ⟨gS h.next q.1,q.2⟩
 tT b r e:=by
  rcases k.tT b r e with e | e | e
  ·exact h.tT b r e
  ·exact .inr (h.kr b e)
  ·exact .inr (.inr e)
 rZ b g e:=(k.rZ b g e).elim (h.rZ b g) .inr
 oK _ _ _ _:=rfl
 kr x q:=(k.kr x q).elim (h.kr x) .inr
 kM g q:=(k.kM g q).elim (h.kM g) .inr
 vp _ _ q:=.inl q
 lX y q:=(k.lX y q).elim (h.lX y) .inr
 rows:=mj fun _ _=>rfl
 CR b q:=k.CR b (h.CR b q)
theorem cO.refl {A:ae} {B:St} (h:dr P E A B):cO P E A B E A B:=
 ⟨h,Env.le_refl _,aB _,fun _ _ _ _=>rfl,fun _ _ e=>.inl e,fun _ _ e=>.inl e,fun _ _ e=>.inl e,fun _ _ _ _=>rfl,fun _ q=>.inl q,fun _ q=>.inl q,fun _ _ q=>.inl q,fun _ q=>.inl q,mj fun _ _=>rfl,fun _ e=>e⟩
theorem Env.ali {A:ae} {B:St} {x:Nat} {r:aeR} (h:dr P E A B) (hx:AR A E x):E.le (E.eI x r):=⟨fun _ _ e=>e,fun _ _ e=>e,fun b q e=>by
 simp only [Env.eI];rw [aa]
 ·exact e
 ·intro e2; subst e2
  have:=(h.ar.z b hx).1;rw [e] at this; simp at this,fun _ _ e=>e⟩
theorem cO.iC {A:ae} {B:St} {b x N:Nat} {T:TypeId} {m:Mk} {es:List KV} {acc:Nat->KV} {cs:List Value} {bL:Option (Nat×Nat)} {bh:List Value} (h:dr P E A B) (hb:A.get b=some (.arr (.ts T m N es acc))) (hx:E.α b=some (x,cs.length,N))
  (fk:B.get x=some (.row cs (aU P T) true bL)) (ht:gW P T N es acc) (hm:m = .any) (dP:1<=aU P T) (Sg:aV P E es bh) (hl:qB (aU P T) 0 cs bh) :
  cO P E A B (E.eI x ⟨cs,aU P T,true,bL⟩) (A.put b (.iC (.ts T m N es acc))) B:=by
 subst hm;have rX:AR A E x:=⟨b,_,_,_,hb,hx⟩
 have hle:=Env.ali (r:=⟨cs,aU P T,true,bL⟩) h rX;have hzx:(E.eI x ⟨cs,aU P T,true,bL⟩).z x=some ⟨cs,aU P T,true,bL⟩:=by simp [Env.eI]
 have OQ:∀ c r,(E.eI x ⟨cs,aU P T,true,bL⟩).z c=some r->E.z c=some r\/(c=x/\r=⟨cs,aU P T,true,bL⟩):=fun c r e=>by
  simp only [Env.eI] at e;split at e
  ·rename_i e2; simp at e; exact .inr ⟨e2,e.symm⟩
  ·exact .inl e
 have fI:∀ c o,(A.put b (.iC (.ts T .any N es acc))).get c=some o->(c=b/\o = .iC (.ts T .any N es acc))\/(c≠b/\A.get c=some o):=fun c o hc=>by
  rw [ae.bB] at hc;split at hc
  ·rename_i e; simp at hc; exact .inl ⟨e,hc.symm⟩
  ·rename_i e; exact .inr ⟨e,hc⟩
 have hA:∀ c v,(A.put b (.iC (.ts T .any N es acc))).get c=some (.arr v)->c≠b/\A.get c=some (.arr v):=fun c v hc=>by
  rcases fI c _ hc with ⟨_,e⟩ | e
  ·simp at e
  ·exact e
 have aiQ:∀ y,AR (A.put b (.iC (.ts T .any N es acc))) E y->AR A E y/\y≠x:=fun y ⟨c,v,L,M,h1,h2⟩=>by
  obtain ⟨h3,h4⟩:=hA c v h1;refine ⟨⟨c,v,L,M,h4,h2⟩,fun e=>h3 ?_⟩;subst e;exact h.ar.inj c b v _ y L M _ _ h4 hb h2 hx
 have Kw:∀ g,AF (A.put b (.iC (.ts T .any N es acc))) E B g->AF A E B g:=fun g ⟨c,v,y,L,M,cs,e,own,k,h1,h2,h3⟩=>⟨c,v,y,L,M,cs,e,own,k,(hA c v h1).2,h2,h3⟩
 refine ⟨⟨fun c ow bm hc=>?_,fun c top sz hc=>?_,fun y r hy=>?_,fun c y hc=>?_,h.inj,?_,h.jM,h.kL,fun c o hc=>?_,h.eS,fun y r hy=>?_,h.il,h.fresh,h.mem,?_⟩,hle,aB _,fun _ _ _ _=>rfl,fun _ _ e=>.inl e,fun y r e=>?_,fun _ _ e=>.inl e,fun _ _ _ _=>rfl,fun y q=>.inl (aiQ y q).1,fun g q=>.inl (Kw g q),fun _ _ q=>.inl q,fun y q=>.inl (q.imp (fun q=>(aiQ y q).1) fun ⟨g,q1,q2⟩=>⟨g,Kw g q1,q2⟩),mj fun _ _=>rfl,oL hb (by simp)⟩
 ·rcases fI c _ hc with ⟨_,e⟩ | ⟨_,e⟩
  ·simp at e
  ·obtain ⟨y,d,h1,h2,h3⟩:=h.row c ow bm e
   exact ⟨y,d,h1,h2,h3.mono hle⟩
 ·rcases fI c _ hc with ⟨_,e⟩ | ⟨_,e⟩
  ·simp at e
  ·exact h.aO c top sz e
 ·rcases OQ y r hy with e | ⟨rfl,rfl⟩
  ·exact h.z y r e
  ·exact fk
 ·have hc:E.κ c=some y:=hc
  cases hz:(E.eI x ⟨cs,aU P T,true,bL⟩).z y with
  | none=>rfl
  | some r=>
   rcases OQ y r hz with e | ⟨rfl,_⟩
   ·rw [h.apart c y hc] at e; simp at e
   ·exact absurd hc ((h.ar.z y rX).2 c)
 ·exact h.gD.put (.inl fun t s=>by simp)
 ·rw [ae.ss]
  rcases fI c _ hc with ⟨e,_⟩ | ⟨_,e⟩
  ·rw [e]; exact h.live b _ hb
  ·exact h.live c o e
 ·rcases OQ y r hy with e | ⟨rfl,_⟩
  ·exact h.lD y r e
  ·exact h.HX rX
 ·refine ⟨fun c v hc=>?_,fun c v hc=>?_,fun y q=>?_,fun c d v u y L M L' M' h1 h2 h3 h4=>h.ar.inj c d v u y L M L' M' (hA c v h1).2 (hA d u h2).2 h3 h4,fun c d v u y w L M L' M' ow e own g k bM e' rb k' h1 h2 h3 h4=>h.ar.wW c d v u y w L M L' M' ow e own g k bM e' rb k' (hA c v h1).2 (hA d u h2).2 h3 h4,h.ar.ZA,h.ar.jM,h.ar.eS,fun c v y L M ow e own g k h1 h2 h3=>?_,fun c v hc=>h.ar.nk c v (hA c v hc).2⟩
  ·exact (h.ar.arr c v (hA c v hc).2).mono hle rfl fun _ _ _ _=>rfl
  ·rcases fI c _ hc with ⟨e,e2⟩ | ⟨_,e⟩
   ·simp at e2
    subst e2;exact ⟨T,N,es,acc,rfl,ht,dP,.inr ⟨x,⟨cs,aU P T,true,bL⟩,bh,by rw [e]; exact hx,hzx,rfl,Sg.mono hle,hl⟩⟩
   ·exact (h.ar.iC c v e).mono hle rfl
  ·obtain ⟨q1,q2⟩:=aiQ y q
   refine ⟨?_,(h.ar.z y q1).2⟩;simp only [Env.eI];rw [aa q2];exact (h.ar.z y q1).1
  ·obtain ⟨cI,h1⟩:=hA c v h1
   obtain ⟨q1,q2,q3⟩:=h.ar.vo c v y L M ow e own g k h1 h2 h3;refine ⟨q1,q2,fun z hz hzy=>?_⟩;obtain ⟨q4,q5,q6⟩:=q3 z hz hzy;refine ⟨?_,fun q=>q5 (aiQ z q).1,q6⟩;simp only [Env.eI];rw [aa]
   ·exact q4
   ·intro e2
    subst e2;exact q5 rX
 ·rcases OQ y r e with e | ⟨rfl,_⟩
  ·exact .inl e
  ·exact .inr (.inl rX)
theorem cO.aog {A:ae} {B:St} {b:Nat} {T:TypeId} {m:Mk} {N:Nat} {es:List KV} {acc:Nat->KV} (h:dr P E A B) (hb:A.get b=some (.arr (.ts T m N es acc))) (cM:TE P E b (.ts T m N es acc)) (tS:E.α b=none):cO P E A B E (A.put b (.iC (.ts T m N es acc))) B:=by
 have fI:∀ c o,(A.put b (.iC (.ts T m N es acc))).get c=some o->(c=b/\o = .iC (.ts T m N es acc))\/A.get c=some o:=fun c o hc=>by
  rw [ae.bB] at hc;split at hc
  ·rename_i e; simp at hc; exact .inl ⟨e,hc.symm⟩
  ·exact .inr hc
 have hA:∀ c v,(A.put b (.iC (.ts T m N es acc))).get c=some (.arr v)->A.get c=some (.arr v):=fun c v hc=>by
  rcases fI c _ hc with ⟨_,e⟩ | e
  ·simp at e
  ·exact e
 have rX:∀ y,AR (A.put b (.iC (.ts T m N es acc))) E y->AR A E y:=fun y ⟨c,v,L,M,h1,h2⟩=>⟨c,v,L,M,hA c v h1,h2⟩
 have Kw:∀ g,AF (A.put b (.iC (.ts T m N es acc))) E B g->AF A E B g:=fun g ⟨c,v,y,L,M,cs,e,own,k,h1,h2,h3⟩=>⟨c,v,y,L,M,cs,e,own,k,hA c v h1,h2,h3⟩
 have _:=tS;refine ⟨⟨fun c ow bm hc=>?_,fun c top sz hc=>?_,h.z,h.apart,h.inj,?_,h.jM,h.kL,fun c o hc=>?_,h.eS,h.lD,h.il,h.fresh,h.mem,?_⟩,Env.le_refl _,aB _,fun _ _ _ _=>rfl,fun _ _ e=>.inl e,fun y r e=>.inl e,fun _ _ e=>.inl e,fun _ _ _ _=>rfl,fun y q=>.inl (rX y q),fun g q=>.inl (Kw g q),fun _ _ q=>.inl q,fun y q=>.inl (q.imp (rX y) fun ⟨g,q1,q2⟩=>⟨g,Kw g q1,q2⟩),mj fun _ _=>rfl,oL hb (by simp)⟩
 ·rcases fI c _ hc with ⟨_,e⟩ | e
  ·simp at e
  ·exact h.row c ow bm e
 ·rcases fI c _ hc with ⟨_,e⟩ | e
  ·simp at e
  ·exact h.aO c top sz e
 ·exact h.gD.put (.inl fun t s=>by simp)
 ·rw [ae.ss]
  rcases fI c _ hc with ⟨e,_⟩ | e
  ·rw [e]; exact h.live b _ hb
  ·exact h.live c o e
 ·refine ⟨fun c v hc=>h.ar.arr c v (hA c v hc),fun c v hc=>?_,fun y q=>h.ar.z y (rX y q),fun c d v u y L M L' M' h1 h2 h3 h4=>h.ar.inj c d v u y L M L' M' (hA c v h1) (hA d u h2) h3 h4,fun c d v u y w L M L' M' ow e own g k bM e' rb k' h1 h2 h3 h4=>h.ar.wW c d v u y w L M L' M' ow e own g k bM e' rb k' (hA c v h1) (hA d u h2) h3 h4,h.ar.ZA,h.ar.jM,h.ar.eS,fun c v y L M ow e own g k h1 h2 h3=>?_,fun c v hc=>h.ar.nk c v (hA c v hc)⟩
  ·rcases fI c _ hc with ⟨e,e2⟩ | e
   ·simp at e2; rw [e2,e]; exact cM
   ·exact h.ar.iC c v e
  ·obtain ⟨q1,q2,q3⟩:=h.ar.vo c v y L M ow e own g k (hA c v h1) h2 h3
   exact ⟨q1,q2,fun z hz hzy=>⟨(q3 z hz hzy).1,fun q=>(q3 z hz hzy).2.1 (rX z q),(q3 z hz hzy).2.2⟩⟩
theorem VW {T:TypeId} {m:Mk} {b o n N:Nat} {es:List KV} {acc:Nat->KV} {u:Value} {A:ae} {B:St} (h:dr P E A B) (hv:VK P E (.al T b o n) u) (ha:A.get b=some (.iC (.ts T m N es acc))) :
  VK P E (.ts T .any n ((es.drop o).take n) (fun i=>acc (o+i))) u:=by
 obtain ⟨T2,N2,o9,aw,e,ht,dP,xU⟩:=h.ar.iC b _ ha;simp only [KV.ts.injEq] at e;obtain ⟨rfl,rfl,rfl,rfl,rfl⟩:=e;simp only [VK];rcases hv.yh with ⟨rfl,rfl,rfl⟩ | ⟨x,L,N0,c,h1,rfl,h3,h4,h5⟩
 ·exact ⟨⟨by simp,fun i hi=>by omega,rfl⟩,[],by simpa using aV.nil,none,0,rfl,aB _,.inl ⟨rfl,rfl⟩,trivial⟩
 ·rcases xU with ⟨_,e⟩ | ⟨x2,r,bh,e,h6,h6',h7,h8⟩
  ·rw [h1] at e; simp at e
  rw [h1] at e;simp only [bN,du] at e;obtain ⟨rfl,rfl,rfl⟩:=e;have ahh:((es.drop o).take n).length=n:=by rw [kU,List.length_drop,<- ht.len]; omega
  refine ⟨⟨ahh.symm,fun i hi=>?_,oM fun i x hi=>?_⟩,(bh.drop o).take n,(h7.drop o).take n,_,c,rfl,h3,.inr ⟨x,o * aU P T,r,rfl,h6,h6',?_⟩,trivial⟩
  ·rw [ht.acc (o+i) (by omega),fD,fD,mc,aE hi,oV]
  ·rw [mc] at hi
   split at hi
   ·rw [oV] at hi; exact gE ht.typed hi
   ·simp at hi
  ·have:=(h8.drop o).take n
   rw [ba] at this;exact this
theorem Xk {A:ae} {B:St} {v:KV} {u:Value} (h:dr P E A B) (hv:VK P E v u):∃ E',cO P E A B E' (Zv A v).2 B/\VK P E' (Zv A v).1 u:=by
 unfold Zv;split
 ·rename_i T b o n
  split
  ·rename_i T' m N es acc hb
   cases ht:Nat.beq T T' with
   | false=>exact ⟨E,.refl h,.vm⟩
   | true=>
    have:=aK ht;subst this;rw [aj];have cM:=h.ar.arr b _ hb;obtain ⟨T2,N2,o9,aw,e,OW,dP,xU⟩:=cM;simp only [KV.ts.injEq] at e;obtain ⟨rfl,rfl,rfl,rfl,rfl⟩:=e;rcases xU with ⟨h1,h2⟩ | ⟨x,cs,bL,bh,h2,h3,h4,h5⟩
    ·have gZ:=cO.aog h hb ⟨_,_,_,_,rfl,OW,dP,.inl ⟨h1,h2⟩⟩ h2
     exact ⟨E,gZ,VW gZ.fT hv ((ae.bB _ _ _ _).trans (aE rfl))⟩
    ·have gZ:=cO.iC h hb h2 h3 OW rfl dP h4 h5
     exact ⟨_,gZ,VW gZ.fT (hv.mono gZ.le) ((ae.bB _ _ _ _).trans (aE rfl))⟩
  ·rename_i T' m N es acc hb
   cases ht:Nat.beq T T' with
   | false=>exact ⟨E,.refl h,.vm⟩
   | true=>
    have:=aK ht;subst this;rw [aj];exact ⟨E,.refl h,VW h hv hb⟩
  ·exact ⟨E,.refl h,.vm⟩
 ·exact ⟨E,.refl h,hv⟩
theorem aH.map {α β:Type} {r:KR α} {f:α->β} {v:β} (h:aH (r.map f) v):∃ u,aH r u/\f u=v:=by
 cases r with
 | no=>exact h.elim
 | ok u=>exact ⟨u,rfl,h⟩
 | jN c u=>exact ⟨u,⟨h.1,rfl⟩,h.2⟩
 | br c x y=>
  rcases h with ⟨h1,h2⟩ | ⟨h1,h2⟩
  ·obtain ⟨u,h3,h4⟩:=aH.map (r:=x) h2; exact ⟨u,.inl ⟨h1,h3⟩,h4⟩
  ·obtain ⟨u,h3,h4⟩:=aH.map (r:=y) h2; exact ⟨u,.inr ⟨h1,h3⟩,h4⟩
theorem TL {B:St} : ∀ {vs:List KV} {us:List Value} {E:Env} {A:ae},dr P E A B->aV P E vs us->∃ E',cO P E A B E' (VB A vs).2 B/\aV P E' (VB A vs).1 us
 | [],us,E,A,h,hv=>⟨E,.refl h,hv⟩
 | v::vs,us,E,A,h,hv=>by
  obtain ⟨u,us',rfl,h1,h2⟩:=hv.cons_inv;obtain ⟨E1,h3,h4⟩:=Xk h h1;obtain ⟨E2,h5,h6⟩:=TL h3.fT (h2.mono h3.le);exact ⟨E2,h3.aiP h5,.cons (h4.mono h5.le) h6⟩
theorem afc {A:ae} {B:St} {v:KV} {u:Value} (h:dr P E A B) (hv:VK P E v u):∃ E',cO P E A B E' (acf A v).2 B/\VK P E' (acf A v).1 u:=by
 unfold acf;split
 ·rename_i cs
  obtain ⟨l,rfl,h1⟩:=hv.kK;obtain ⟨E1,h2,h3⟩:=TL h h1;exact ⟨E1,h2,.rC h3⟩
 ·exact Xk h hv
theorem MN:∀ (A:ae) (vs:List KV),(zZ A vs).1.length=vs.length
 | _,[]=>rfl
 | A,v::vs=>by simp [zZ,MN]
theorem JF {B:St} : ∀ {vs:List KV} {us:List Value} {E:Env} {A:ae},dr P E A B->aV P E vs us->∃ E',cO P E A B E' (zZ A vs).2 B/\aV P E' (zZ A vs).1 us
 | [],us,E,A,h,hv=>⟨E,.refl h,hv⟩
 | v::vs,us,E,A,h,hv=>by
  obtain ⟨u,us',rfl,h1,h2⟩:=hv.cons_inv;obtain ⟨E1,h3,h4⟩:=afc h h1;obtain ⟨E2,h5,h6⟩:=JF h3.fT (h2.mono h3.le);exact ⟨E2,h3.aiP h5,.cons (h4.mono h5.le) h6⟩
end Go.K
end
section
namespace Go.K
open Go Go.aI
variable {P:Program}
theorem db {o:Oper} : HY P o .bad:=trivial
theorem aj0 (P:Program) (cfg:dD) (o:Oper):HY P o (bw P cfg o.op):=by
 cases ho:o.op with
 | move x=>exact lift_pure (by rw [ho]; rfl) aeV
 | assign x=>exact lift_pure (by rw [ho]; rfl) ajQ
 | pick c a b=>exact lift_pure (by rw [ho]; rfl) ak6
 | alloc t=>
  show HY P o (rq P t);unfold rq;split
  ·rename_i z hz
   cases hc:(flat z&&z.cells.toList.all scalar&&gC (fy z).cells) with
   | false=>exact db
   | true=>
    simp only [ao] at hc;exact Eb (by rw [ho]; rfl) (ajV hz hc.1.1 hc.1.2 hc.2)
  ·exact db
 | box t x=>exact Eb (by rw [ho]; rfl) amK
 | build t parts=>
  show HY P o (wq P t (parts.toList.map (·.1)) (parts.toList.map (·.2)));have aL:compile P o.op=K0 P t (parts.toList.map (·.1)) (parts.toList.map (·.2)):=by rw [ho]; rfl
  unfold wq;unfold K0 at aL;split
  ·rename_i z fields hz hu
   rw [hz,hu] at aL;simp only at aL;split
   ·rename_i l hl
    rw [hl] at aL;cases hc:(flat z&&gC (fy z).cells) with
    | false=>exact db
    | true=>
     simp only [ao] at hc;exact lift_pure aL (aci hc.1 hc.2)
   ·exact db
  ·rename_i z len e hz hu
   rw [hz,hu] at aL;simp only at aL;split
   ·rename_i n hn
    rw [hn] at aL;cases hc:(flat z&&gC (fy z).cells) with
    | false=>exact db
    | true=>
     simp only [ao] at hc;exact lift_pure aL (aci hc.1 hc.2)
   ·exact db
  ·exact db
 | buildSlice t len parts=>
  show HY P o (kX P cfg.x.mt t len (parts.toList.map (·.1)) (parts.toList.map (·.2)));have aL:compile P o.op=yw P t len (parts.toList.map (·.1)) (parts.toList.map (·.2)):=by rw [ho]; rfl
  unfold kX;unfold yw at aL;split
  ·rename_i e hu
   rw [hu] at aL;simp only at aL;split
   ·rename_i i z hi hz
    have dP:size? P e=some i.size:=by simp [size?,hi]
    rw [dP,hz] at aL;simp only at aL;cases hc:(Nat.ble (len * i.size) 16777216&&Nat.beq z.cells.size i.size&&Nat.ble 1 i.size&&flat z&&Nat.beq (aQ P e).ks.length i.size&&D6 len (parts.toList.map (·.1))) with
    | false=>exact db
    | true=>
     simp only [ao] at hc;obtain ⟨⟨⟨⟨⟨h1,h2⟩,h3⟩,h4⟩,h5⟩,h6⟩:=hc;rw [h1,h2,h3,h4] at aL;cases Mt (aQ P e).ks with
     | true=>
      cases cfg.x.mt (e+3000000) with
      | true=>exact Eb aL (adI (aK h5) (dT h3) (aK h2) h6)
      | false=>exact ack aL (abM (aK h5) (dT h3) (aK h2) h6)
     | false=>
      cases h7:gC (fy z).cells with
      | true=>exact Eb aL (adC h7)
      | false=>exact db
   ·exact db
  ·exact db
 | load t a=>exact MD (by rw [ho]; rfl) ae0
 | store t a x=>exact VN (by rw [ho]; rfl) ajY
 | nilCheck x=>exact lift_pure (by rw [ho]; rfl) amI
 | binOp op t x y yt=>exact lift_pure (by rw [ho]; rfl) amJ
 | unOp op t x=>exact lift_pure (by rw [ho]; rfl) an9
 | convert src dst x=>
  show HY P o (qL P src dst x);have aL:compile P o.op=E9 P src dst x:=by rw [ho]; rfl
  unfold qL;unfold E9 at aL;split
  ·rename_i k k' hs hd
   rw [hs,hd] at aL;exact lift_pure aL (ajU hd hs)
  ·rename_i hs hd
   rw [hs,hd] at aL;exact lift_pure aL ajT
  ·rename_i e hs hd
   rw [hs,hd] at aL;simp only at aL;cases hb:isByte P e with
   | false=>exact db
   | true=>rw [hb] at aL; exact MD aL adF
  ·rename_i e hs hd
   rw [hs,hd] at aL;simp only at aL;cases hb:isByte P e with
   | false=>exact db
   | true=>rw [hb] at aL; exact aha aL (adG hb)
  ·exact db
 | makeFunc fn first cap=>
  show HY P o (cond (AI fn) .bad (.pure (Mv fn first.size) (first.toList++cap.toList)));cases hy:AI fn with
  | true=>exact db
  | false=>
   have hn:Hq fn=true:=by cases fn <;> first | rfl | simp [AI] at hy
   exact lift_pure (by rw [ho]; show cond (Hq fn) _ _=_; rw [hn]; rfl) ady
 | fieldAddr s x f=>
  show HY P o (mh P s x f);have aL:compile P o.op=AB P s x f:=by rw [ho]; rfl
  unfold mh;unfold AB at aL;split
  ·rename_i fd hf
   rw [hf] at aL;simp only at aL;split
   ·rename_i m hm
    rw [hm] at aL;exact lift_pure aL (abJ rfl)
   ·exact db
  ·exact db
 | field t x f=>
  show HY P o (wu P t x f);have aL:compile P o.op=K7 P t x f:=by rw [ho]; rfl
  unfold wu;unfold K7 at aL;split
  ·rename_i fd hf
   rw [hf] at aL;exact lift_pure aL ajR
  ·exact db
 | indexAddr t x ix=>
  show HY P o (mi P t x ix);have aL:compile P o.op=AD P t x ix:=by rw [ho]; rfl
  unfold mi;unfold AD at aL;split
  ·rename_i len e hu
   rw [hu] at aL;simp only at aL;split
   ·rename_i n hn
    rw [hn] at aL;exact lift_pure aL adv
   ·exact db
  ·rename_i e hu
   rw [hu] at aL;simp only at aL;split
   ·rename_i n hn
    rw [hn] at aL;exact lift_pure aL (aeX rfl)
   ·exact db
  ·exact db
 | index t x ix=>
  show HY P o (wx P t x ix);have aL:compile P o.op=K8 P t x ix:=by rw [ho]; rfl
  unfold wx;unfold K8 at aL;split
  ·rename_i len e hu
   rw [hu] at aL;simp only at aL;split
   ·rename_i n hn
    rw [hn] at aL;exact lift_pure aL adw
   ·exact db
  ·rename_i hu
   rw [hu] at aL;exact lift_pure aL adx
  ·exact db
 | extract t i=>exact lift_pure (by rw [ho]; rfl) aeY
 | slice t x lo hi mx=>
  show HY P o (wy P cfg.x.mt t x lo hi mx);have aL:compile P o.op=K5 P t x lo hi mx:=by rw [ho]; rfl
  unfold wy;unfold K5 at aL;split
  ·rename_i e hu
   rw [hu] at aL;simp only at aL;split
   ·rename_i n hn
    rw [hn] at aL;simp only at aL;cases hc:(Nat.ble 1 n&&mx.isNone) with
    | false=>exact db
    | true=>
     simp only [ao] at hc;rw [hc.1] at aL;have hmx:mx=none:=Option.isNone_iff_eq_none.1 hc.2;subst hmx;simp only [aj,eW,yd,Option.isSome_none] at aL;show HY P o (cond (cfg.x.mt (e+4000000)) _ _);cases cfg.x.mt (e+4000000) with
     | true=>exact ahl aL (ae8 (dT hc.1))
     | false=>exact MD aL (ae3 (dT hc.1))
   ·exact db
  ·rename_i len e hu
   rw [hu] at aL;simp only at aL;split
   ·rename_i n hn
    rw [hn] at aL;simp only at aL;cases hc:(Nat.ble 1 n&&mx.isNone) with
    | false=>exact db
    | true=>
     simp only [ao] at hc;rw [hc.1] at aL;have hmx:mx=none:=Option.isNone_iff_eq_none.1 hc.2;subst hmx;simp only [aj,eW,yd,Option.isSome_none] at aL;exact MD aL adD
   ·exact db
  ·rename_i hu
   rw [hu] at aL;simp only at aL;cases hc:mx.isNone with
   | false=>exact db
   | true=>rw [hc] at aL; exact lift_pure aL adE
  ·exact db
 | makeSlice t l c=>
  show HY P o (yz P cfg.x.mt t l c);have aL:compile P o.op=AA P t l c:=by rw [ho]; rfl
  unfold yz;unfold AA at aL;split
  ·rename_i e hu
   rw [hu] at aL;simp only at aL;split
   ·rename_i i hi
    rw [hi] at aL;simp only at aL;split
    ·rename_i z hz
     rw [hz] at aL;simp only at aL;cases hmz:cfg.x.mt (e+1000000) with
     | true=>
      rw [aj];cases hc:(Nat.ble 1 i.size&&Nat.ble 1 i.bytes&&Nat.beq z.cells.size i.size&&flat z&&z.cells.toList.all scalar&&Nat.beq (aQ P e).ks.length i.size&&cw (aQ P e) (dJ (aQ P e) (fy z))) with
      | false=>exact db
      | true=>
       simp only [ao] at hc;obtain ⟨⟨⟨⟨⟨⟨h1,h2⟩,h3⟩,h4⟩,h5⟩,h6⟩,h7⟩:=hc;rw [h1,h2,h3,h4,h5] at aL;exact ack aL (ajZ (aK h6) (dT h1) (aK h3) h7)
     | false=>
     rw [aG];cases hmt:cfg.x.mt e with
     | true=>
      rw [aj];cases hc:(Nat.ble 1 i.size&&Nat.ble 1 i.bytes&&Nat.beq z.cells.size i.size&&flat z&&z.cells.toList.all scalar&&Nat.beq (aQ P e).ks.length i.size&&cw (aQ P e) (dJ (aQ P e) (fy z))) with
      | false=>exact db
      | true=>
       simp only [ao] at hc;obtain ⟨⟨⟨⟨⟨⟨h1,h2⟩,h3⟩,h4⟩,h5⟩,h6⟩,h7⟩:=hc;rw [h1,h2,h3,h4,h5] at aL;exact Eb aL (ae7 (aK h6) (dT h1) (aK h3) h7)
     | false=>
     rw [aG];cases hc:(Nat.ble 1 i.size&&Nat.ble 1 i.bytes&&Nat.beq z.cells.size i.size&&flat z&&z.cells.toList.all scalar&&gC (fy z).cells) with
     | false=>exact db
     | true=>
      simp only [ao] at hc;obtain ⟨⟨⟨⟨⟨h1,h2⟩,h3⟩,h4⟩,h5⟩,h6⟩:=hc;rw [h1,h2,h3,h4,h5] at aL;exact Eb aL (abK h6)
    ·exact db
   ·exact db
  ·exact db
 | call c=>
  show HY P o (lI P cfg c);unfold lI;split
  ·split
   ·cases cfg.aeN _ <;> trivial
   ·trivial
  ·trivial
  ·rename_i b hb
   obtain ⟨callee,args,argTypes⟩:=c;simp only at hb;subst hb;have aL:compile P o.op=Jv P b argTypes.toList args.toList:=by rw [ho]; rfl
   unfold CQ;unfold Jv at aL;split
   ·
    simp only at aL;unfold Zu;unfold Ys at aL;split
    ·rename_i t ht
     rw [ht] at aL;simp only at aL;split
     ·rename_i e hu
      rw [hu] at aL;exact lift_pure aL ajS
     ·rename_i hu
      rw [hu] at aL;exact lift_pure aL ag8
     ·exact db
    ·exact db
   ·simp only at aL
    exact lift_pure (f:=Lj false) aL ZJ
   ·simp only at aL
    exact lift_pure (f:=Lj true) aL ZJ
   ·
    simp only at aL;unfold JA;unfold Mj at aL;split
    ·rename_i t u ht
     rw [ht] at aL;simp only at aL;split
     ·rename_i e eu hu huu
      rw [hu] at aL;simp only at aL;split
      ·rename_i i hi
       rw [hi] at aL;simp only at aL;split
       ·rename_i z hz
        rw [hz] at aL;simp only at aL;cases hc:(Nat.ble 1 i.size&&Nat.beq z.cells.size i.size&&Nat.beq (aQ P e).ks.length i.size) with
        | false=>exact db
        | true=>
         simp only [ao] at hc;have ao3:Mi P u=true:=by unfold Mi; rw [huu]
         rw [hc.1.1,hc.1.2,ao3] at aL;exact VN aL (afb (aK hc.2) (dT hc.1.1))
       ·exact db
      ·exact db
     ·exact db
    ·exact db
   ·
    simp only at aL;show HY P o (P9 P argTypes.toList args.toList);unfold P9;unfold Tf at aL;split
    ·rename_i t u ht
     rw [ht] at aL;simp only at aL;split
     ·rename_i e eu hu huu
      rw [hu] at aL;simp only at aL;split
      ·rename_i n hn
       rw [hn] at aL;simp only at aL;cases hc:(Nat.ble 1 n&&Nat.beq (aQ P e).ks.length n) with
       | false=>exact db
       | true=>
        simp only [ao] at hc;rw [hc.1] at aL;exact VN aL (alh (aK hc.2) (dT hc.1))
      ·exact db
     ·exact db
    ·exact db
   ·trivial
  ·trivial
 | _=>trivial
end Go.K
end
section
namespace Go.K
open Go Go.aI
variable {P:Program} {E:Env}
theorem vt (t:bd):∀ xs,jY t xs=xs.map (gq t)
 | []=>rfl
 | x::xs=>by rw [jY,vt t xs]; rfl
structure iW (P:Program) (E:Env) (ρ:Ren) (t:bd) (N:Nat) (a:Act):Prop where
 size:a.tmps.size=N
 val:∀ i,VC P E ρ ((t.get i).getD .bf) (a.tmps.getD i undef)
 none:∀ i,N<=i->t.get i=Option.none
theorem iW.ev {ρ:Ren} {t:bd} {N:Nat} {a:Act} (h:iW P E ρ t N a) (x:Operand):VC P E ρ (gq t x) (a.eval x):=by
 cases x with
 | tmp i=>exact h.val i
 | const v=>
  simp only [gq,Act.eval];cases hf:flat v with
  | true=>exact ⟨v,.fy v,VR.of_flat hf⟩
  | false=>exact .bf
 | global g=>exact .bf
 | func f=>exact ⟨.func (.func f) ⟨[]⟩ ⟨[]⟩,.aeU .nil .nil,VR.Yu (l:=[]) (m:=[]) (.func f) rfl .nil .nil⟩
theorem iW.mono {E' : Env} {ρ aF:Ren} {t:bd} {N:Nat} {a:Act} (h:iW P E ρ t N a) (k:E.le E') (m:ρ.le aF):iW P E' aF t N a:=⟨h.size,fun i=>(h.val i).mono k m,h.none⟩
theorem iW.put {ρ:Ren} {t:bd} {N:Nat} {a:Act} {dst:Option Tmp} {v:KV} {v' : Value} (h:iW P E ρ t N a) (hd:∀ d,dst=some d->d < N) (hv:VC P E ρ v v'):iW P E ρ (qA t dst v) N (a.put dst v'):=by
 cases dst with
 | none=>exact h
 | some d=>
  have hd:=hd d rfl;refine ⟨by simp [Act.put,h.size],fun i=>?_,fun i hi=>?_⟩
  ·simp only [qA,Trie.oE,Act.put]
   by_cases e:i=d
   ·subst e
    have:i < a.tmps.size:=by rw [h.size]; exact hd
    simp [kT,this,hv]
   ·have:=h.val i
    simp only [aa e];simpa [kT,Array.getElem?_setIfInBounds_ne (Ne.symm e)] using this
  ·simp only [qA,Trie.oE]
   have cI:i≠d:=fun e=>absurd hi (by rw [e]; exact Nat.not_le_of_lt hd);rw [aa cI];exact h.none i hi
theorem iW.same {ρ:Ren} {t t' : bd} {N:Nat} {a:Act} (h:iW P E ρ t N a) (hs:∀ i,t'.get i=t.get i):iW P E ρ t' N a:=
 ⟨h.size,fun i=>by rw [hs]; exact h.val i,fun i hi=>by rw [hs]; exact h.none i hi⟩
theorem Fj {v:KV} {b:Bool} (h:xT v = .bool b):v = .bool b:=by cases v <;> simp [xT] at h; rw [h]
theorem Z2 {v:KV} (h:xT v = .l8):∃ l,v = .l8 l:=by cases v <;> simp [xT] at h; exact ⟨_,rfl⟩
theorem MO {t:bd} {d:Tmp} {b:Bool} (h:xT ((t.get d).getD .bf) = .bool b):∀ i,(Trie.set (.bool b) t d).get i=t.get i:=by
 intro i;have:=Fj h;rw [Trie.oE];split
 ·rename_i e
  subst e;cases ht:t.get i with
  | none=>rw [ht] at this; simp at this
  | some v=>rw [ht] at this; simp at this; rw [this]
 ·rfl
theorem VC.eG {ρ:Ren} {b:Bool} {v:Value} (h:VC P E ρ (.bool b) v):v = .bool b:=by
 obtain ⟨u,h1,h2⟩:=h;have:=h1.eG; subst this;exact h2.eG
theorem adJ {R:Type} {ρ:Ren} {t:bd} {N:Nat} {a:Act} {all:List Oper} {o:Oper} {j:Nat} {want:Bool} {yes no:bd->Option R} {r:R} (hg:o.guard=some (j,want)) (ht:iW P E ρ t N a)
  (h:aeO t ((all[j]?).bind (·.dst)) want yes no=some r) :
  ∃ t',(∀ i,t'.get i=t.get i)/\((Region.wanted o (yielded ⟨all⟩ a.tmps)=true/\yes t' = some r)\/(Region.wanted o (yielded ⟨all⟩ a.tmps)=false/\no t' = some r)):=by
 unfold aeO at h;cases hd:(all[j]?).bind (·.dst) with
 | none=>rw [hd] at h; exact absurd h (by simp)
 | some d=>
  rw [hd] at h;have hw:∀ u,a.tmps[d]? = some u->Region.wanted o (yielded ⟨all⟩ a.tmps)=(match u with
    | .bool b=>b==want
    | _=>false):=by
   intro u hu;unfold Region.wanted;rw [hg];simp only;unfold yielded;have e:(⟨all⟩:Array Oper)[j]? = all[j]?:=by simp
   rw [e,hd];simp only [dK,hu];cases u <;> rfl
  have AP:=ht.val d;have h:BK.rec (motive:=fun _=>Option R)
   (fun b=>Bool.rec (motive:=fun _=>Option R)
    (Bool.rec (motive:=fun _=>Option R) (yes (t.set (.bool false) d)) (no (t.set (.bool false) d)) want)
    (Bool.rec (motive:=fun _=>Option R) (no (t.set (.bool true) d)) (yes (t.set (.bool true) d)) want) b)
   (no t) none (xT ((t.get d).getD .bf))=some r:=h
  cases hb:xT ((t.get d).getD .bf) with
  | no=>rw [hb] at h; exact absurd h (by simp)
  | l8=>
   rw [hb] at h;obtain ⟨l,hl⟩:=Z2 hb;rw [hl] at AP;obtain ⟨u,h1,h2⟩:=AP;obtain ⟨m,rfl,_⟩:=h1.OH;obtain ⟨m',h3,_⟩:=h2.RU;refine ⟨t,fun _=>rfl,.inr ⟨?_,h⟩⟩;cases hc:a.tmps[d]? with
   | none=>
    unfold Region.wanted;rw [hg];simp only;unfold yielded;have e:(⟨all⟩:Array Oper)[j]? = all[j]?:=by simp
    rw [e,hd];simp [hc]
   | some u=>
    have:u = .tuple m':=by rw [<- h3]; simp [kT,hc]
    rw [hw u hc,this]
  | bool b=>
   rw [hb] at h;have hbv:=Fj hb;rw [hbv] at AP;have hcv:=AP.eG;have hc:a.tmps[d]? = some (.bool b):=by
    cases hc:a.tmps[d]? with
    | none=>simp [kT,hc,undef] at hcv
    | some u=>have:u = .bool b:=by rw [<- hcv]; simp [kT,hc]
              rw [this]
   have hwd:=hw _ hc;refine ⟨t.set (.bool b) d,MO hb,?_⟩;cases b <;> cases want
   ·exact .inl ⟨hwd,h⟩
   ·exact .inr ⟨hwd,h⟩
   ·exact .inr ⟨hwd,h⟩
   ·exact .inl ⟨hwd,h⟩
def rE (P:Program) (E:Env) (ρ:Ren) (l:List KV) (l' : List Value):Prop:=∃ m,aV P E l m/\dA ρ m l'
def xC (P : Program) (g : FuncId) : Prop := Nat.blt g yB = true ∧ ∃ fn, P.funcs[g]? = some fn ∧ fn.body.isSome = true ∧ (fn.name == "runtime.NumGoroutine") = false
def H4 {R:Type} (P:Program) (aR:kq R):Prop:=
 ∀ f args A k r,aR f args A k=some r->xC P f/\∀ (E:Env) (B:St) (ρ:Ren) (base:Nat) (w:World) (dV:List Value),rE P E ρ args dV->KJ P E A B ρ base w->
  Calls P f dV.toArray w fun e w'=>∃ v v' E' A' B' aF,e = .returned v'/\VC P E' aF v v'/\Ev P base E A B ρ w E' A' B' aF w'/\k v A' = some r
def bZ (P:Program) (g:FuncId) (F:List KV->KR KV):Prop:=
 ∀ args v,aH (F (normArgs P (bS P g) args)) v->args.length=(bS P g).length->xC P g/\∀ (E:Env) (A:ae) (B:St) (ρ:Ren) (base:Nat) (w:World) (dV:List Value),rE P E ρ args dV->KJ P E A B ρ base w->
  Calls P g dV.toArray w fun e w'=>∃ v' E' B' aF,e = .returned v'/\VC P E' aF v v'/\Ev P base E A B ρ w E' A B' aF w'
def rf (P:Program) (pc:FuncId->Option (List KV->KR KV)):Prop:=∀ g F,pc g=some F->bZ P g F
theorem adK {o:Oper} {f:Operand} {args:List Operand} (aL:compile P o.op = .call f args) {ρ:Ren} {t:bd} {N:Nat} {a:Act} (ht:iW P E ρ t N a) {g:FuncId} {vs:List KV} (hc:yA (jY t args) (gq t f)=some (g,vs)) (hg:xC P g) :
  ∃ b6,rE P E ρ vs b6/\∀ w,(execOp a.eval o).run P w = .ok (.enter g b6.toArray) w:=by
 have cM:=ra P o;rw [aL] at cM;obtain ⟨em,h1,h2⟩:=mid (xs:=f::args) (ev:=gq t) (cF:=a.eval) fun x _=>ht.ev x;obtain ⟨y,ys,e,h3,h4⟩:=h1.cons_inv;simp only [List.map_cons,List.cons.injEq] at e;obtain ⟨rfl,rfl⟩:=e;have hv:∃ us,BG (args.map em) (em f)=some (g,us)/\aV P E vs us:=by
  unfold yA at hc;split at hc
  ·rename_i g' first cap e
   simp only [bN,du] at hc;obtain ⟨rfl,rfl⟩:=hc;rw [e] at h3;obtain ⟨l,m,e2,h5,h6⟩:=h3.JD;rw [e2];refine ⟨l++args.map em++m,by simp only [BG]; rw [hg.1]; rfl,?_⟩;rw [vt];exact (h5.append h4).append h6
  ·simp at hc
 obtain ⟨us,h5,h6⟩:=hv;obtain ⟨b6,h7,h8⟩:=cM.2 ρ em a.eval g us h2 hg.1 h5 hg.2;exact ⟨b6,⟨us,h6,h7⟩,h8⟩
def dc:rY->Bool
 | .call _ _=>false
 | .D4 _ _ _=>false
 | .HS _ _ _=>false
 | _=>true
theorem dh {c:Bool} {x:rY} (h:dc x=true):dc (cond c x .bad)=true:=by
 cases c with
 | false=>rfl
 | true=>exact h
theorem H5 {c:Bool} {x y:rY} (h:dc x=true) (k:dc y=true):dc (cond c x y)=true:=by
 cases c with
 | false=>exact k
 | true=>exact h
theorem Ec (mt:TypeId->Bool) (b:Builtin) (ts:List TypeId) (args:List Operand):dc (CQ P mt b ts args)=true:=by
 unfold CQ Zu JA P9
 repeat' split
 all_goals first | rfl | exact dh rfl
theorem BN (mt:TypeId->Bool) (t:TypeId) (l c:Operand):dc (yz P mt t l c)=true:=by
 unfold yz;split
 ·rename_i e he
  split
  ·split
   ·cases mt (e+1000000)
    ·cases mt e <;> exact dh rfl
    ·exact dh rfl
   ·rfl
  ·rfl
 ·rfl
theorem Xl {cfg:dD} {op:Op} {f:Operand} {args:List Operand} (h:bw P cfg op = .call f args):compile P op = .call f args:=by
 have key:dc (bw P cfg op)=true->compile P op = .call f args:=fun hn=>by rw [h] at hn; simp [dc] at hn
 cases op with
 | call c=>
  have h:lI P cfg c = .call f args:=h;show CF P c=_;unfold lI at h;unfold CF;split at h
  ·rename_i g hc
   split at h
   ·cases hz:cfg.aeN g <;> rw [hz] at h <;> simp at h
   ·simp at h; obtain ⟨rfl,rfl⟩:=h; rw [hc]
  ·rename_i f' cI hc; simp at h; obtain ⟨rfl,rfl⟩:=h; rw [hc]
  ·rename_i b hc
   have:=Ec (P:=P) cfg.x.mt b c.argTypes.toList c.args.toList;rw [h] at this;simp [dc] at this
  ·simp at h
 | alloc t=>exact key (by show dc (rq P t)=true; unfold rq; split <;> first | rfl | exact dh rfl)
 | build t ps=>exact key (by show dc (wq P t _ _)=true; unfold wq; (repeat' split); all_goals first | rfl | exact dh rfl)
 | buildSlice t n ps=>exact key (by show dc (kX P cfg.x.mt t n _ _)=true; unfold kX; (repeat' split); all_goals first | rfl | exact dh (by cases Mt _ <;> first | exact dh rfl | (cases cfg.x.mt _ <;> rfl) | rfl))
 | convert s d x=>exact key (by show dc (qL P s d x)=true; unfold qL; (repeat' split); all_goals first | rfl | exact dh rfl)
 | makeFunc fn a b=>exact key (by show dc (cond (AI fn) .bad _)=true; cases AI fn <;> rfl)
 | fieldAddr s x i=>exact key (by show dc (mh P s x i)=true; unfold mh; (repeat' split); all_goals rfl)
 | field s x i=>exact key (by show dc (wu P s x i)=true; unfold wu; (repeat' split); all_goals rfl)
 | indexAddr s x i=>exact key (by show dc (mi P s x i)=true; unfold mi; (repeat' split); all_goals rfl)
 | index s x i=>exact key (by show dc (wx P s x i)=true; unfold wx; (repeat' split); all_goals rfl)
 | slice t x lo hi mx=>exact key (by show dc (wy P cfg.x.mt t x lo hi mx)=true; unfold wy; (repeat' split); all_goals first | rfl | exact dh rfl | exact dh (H5 rfl rfl))
 | makeSlice t l c=>exact key (BN _ t l c)
 | _=>exact key rfl
theorem adL {cfg:dD} {op:Op} {g:FuncId} {F:List KV->KR KV} {args:List Operand} (h:bw P cfg op = .D4 g F args):compile P op = .call (.func g) args/\∃ F0,cfg.pc g=some F0/\F=fun vs=>cond (Nat.beq vs.length (bS P g).length) (F0 (normArgs P (bS P g) vs)) .no:=by
 have key:dc (bw P cfg op)=true->compile P op = .call (.func g) args/\∃ F0,cfg.pc g=some F0/\F=fun vs=>cond (Nat.beq vs.length (bS P g).length) (F0 (normArgs P (bS P g) vs)) .no:=fun hn=>by rw [h] at hn; simp [dc] at hn
 cases op with
 | call c=>
  have h:lI P cfg c = .D4 g F args:=h;show CF P c=_/\_;unfold lI at h;unfold CF;split at h
  ·rename_i g' hc
   split at h
   ·rename_i F0 hF
    cases hz:cfg.aeN g' with
    | true=>rw [hz] at h; simp at h
    | false=>
     rw [hz] at h;simp at h; obtain ⟨rfl,rfl,rfl⟩:=h; rw [hc];exact ⟨rfl,F0,hF,rfl⟩
   ·simp at h
  ·simp at h
  ·rename_i b hc
   have:=Ec (P:=P) cfg.x.mt b c.argTypes.toList c.args.toList;rw [h] at this;simp [dc] at this
  ·simp at h
 | alloc t=>exact key (by show dc (rq P t)=true; unfold rq; split <;> first | rfl | exact dh rfl)
 | build t ps=>exact key (by show dc (wq P t _ _)=true; unfold wq; (repeat' split); all_goals first | rfl | exact dh rfl)
 | buildSlice t n ps=>exact key (by show dc (kX P cfg.x.mt t n _ _)=true; unfold kX; (repeat' split); all_goals first | rfl | exact dh (by cases Mt _ <;> first | exact dh rfl | (cases cfg.x.mt _ <;> rfl) | rfl))
 | convert s d x=>exact key (by show dc (qL P s d x)=true; unfold qL; (repeat' split); all_goals first | rfl | exact dh rfl)
 | makeFunc fn a b=>exact key (by show dc (cond (AI fn) .bad _)=true; cases AI fn <;> rfl)
 | fieldAddr s x i=>exact key (by show dc (mh P s x i)=true; unfold mh; (repeat' split); all_goals rfl)
 | field s x i=>exact key (by show dc (wu P s x i)=true; unfold wu; (repeat' split); all_goals rfl)
 | indexAddr s x i=>exact key (by show dc (mi P s x i)=true; unfold mi; (repeat' split); all_goals rfl)
 | index s x i=>exact key (by show dc (wx P s x i)=true; unfold wx; (repeat' split); all_goals rfl)
 | slice t x lo hi mx=>exact key (by show dc (wy P cfg.x.mt t x lo hi mx)=true; unfold wy; (repeat' split); all_goals first | rfl | exact dh rfl | exact dh (H5 rfl rfl))
 | makeSlice t l c=>exact key (BN _ t l c)
 | _=>exact key rfl
theorem adM {cfg:dD} {op:Op} {g:FuncId} {F:List KV->KR KV} {args:List Operand} (h:bw P cfg op = .HS g F args):compile P op = .call (.func g) args/\∃ F0,cfg.pc g=some F0/\F=fun vs=>cond (Nat.beq vs.length (bS P g).length) (F0 (normArgs P (bS P g) vs)) .no:=by
 have key:dc (bw P cfg op)=true->compile P op = .call (.func g) args/\∃ F0,cfg.pc g=some F0/\F=fun vs=>cond (Nat.beq vs.length (bS P g).length) (F0 (normArgs P (bS P g) vs)) .no:=fun hn=>by rw [h] at hn; simp [dc] at hn
 cases op with
 | call c=>
  have h:lI P cfg c = .HS g F args:=h;show CF P c=_/\_;unfold lI at h;unfold CF;split at h
  ·rename_i g' hc
   split at h
   ·rename_i F0 hF
    cases hz:cfg.aeN g' with
    | false=>rw [hz] at h; simp at h
    | true=>
     rw [hz] at h;simp at h; obtain ⟨rfl,rfl,rfl⟩:=h; rw [hc];exact ⟨rfl,F0,hF,rfl⟩
   ·simp at h
  ·simp at h
  ·rename_i b hc
   have:=Ec (P:=P) cfg.x.mt b c.argTypes.toList c.args.toList;rw [h] at this;simp [dc] at this
  ·simp at h
 | alloc t=>exact key (by show dc (rq P t)=true; unfold rq; split <;> first | rfl | exact dh rfl)
 | build t ps=>exact key (by show dc (wq P t _ _)=true; unfold wq; (repeat' split); all_goals first | rfl | exact dh rfl)
 | buildSlice t n ps=>exact key (by show dc (kX P cfg.x.mt t n _ _)=true; unfold kX; (repeat' split); all_goals first | rfl | exact dh (by cases Mt _ <;> first | exact dh rfl | (cases cfg.x.mt _ <;> rfl) | rfl))
 | convert s d x=>exact key (by show dc (qL P s d x)=true; unfold qL; (repeat' split); all_goals first | rfl | exact dh rfl)
 | makeFunc fn a b=>exact key (by show dc (cond (AI fn) .bad _)=true; cases AI fn <;> rfl)
 | fieldAddr s x i=>exact key (by show dc (mh P s x i)=true; unfold mh; (repeat' split); all_goals rfl)
 | field s x i=>exact key (by show dc (wu P s x i)=true; unfold wu; (repeat' split); all_goals rfl)
 | indexAddr s x i=>exact key (by show dc (mi P s x i)=true; unfold mi; (repeat' split); all_goals rfl)
 | index s x i=>exact key (by show dc (wx P s x i)=true; unfold wx; (repeat' split); all_goals rfl)
 | slice t x lo hi mx=>exact key (by show dc (wy P cfg.x.mt t x lo hi mx)=true; unfold wy; (repeat' split); all_goals first | rfl | exact dh rfl | exact dh (H5 rfl rfl))
 | makeSlice t l c=>exact key (BN _ t l c)
 | _=>exact key rfl
noncomputable def w5 (ins:rY) (t:bd) (A:ae):KR (KV×ae):=
 match ins with
 | .pure f xs=>(f (jY t xs)).map fun v=>(v,A)
 | .read f xs=>(f A (jY t xs)).map fun v=>(v,A)
 | .act f xs=>f A (jY t xs)
 | .look f xs=>(f (jY t xs)).map fun v=>(v,A)
 | .D4 _ f xs=>(f (jY t xs)).map fun v=>(v,A)
 | .HS _ f xs=>(f (zZ A (jY t xs)).1).map fun v=>(v,(zZ A (jY t xs)).2)
 | .call _ _=>.no
 | .bad=>.no
theorem aH.Bk {α β:Type} {r:KR α} {f:α->β} {u:α} (h:aH r u):aH (r.map f) (f u):=by
 cases r with
 | no=>exact h.elim
 | ok x=>have h:x=u:=h; subst h; exact rfl
 | jN c x=>obtain ⟨h1,rfl⟩:=h; exact ⟨h1,rfl⟩
 | br c x y=>exact h.imp (fun h=>⟨h.1,aH.Bk (r:=x) h.2⟩) (fun h=>⟨h.1,aH.Bk (r:=y) h.2⟩)
theorem JG {R:Type} {aR:kq R} {t:bd} {A:ae} {k:KV->ae->Option R} {ins:rY} {r:R} (hn:∀ f args,ins≠.call f args) (h:JB aR t A k ins=some r):∃ v A',aH (w5 ins t A) (v,A')/\k v A' = some r:=by
 cases ins with
 | pure f xs=>obtain ⟨v,h1,h2⟩:=KR.Cg h; exact ⟨v,A,h1.Bk,h2⟩
 | read f xs=>obtain ⟨v,h1,h2⟩:=KR.Cg h; exact ⟨v,A,h1.Bk,h2⟩
 | act f xs=>obtain ⟨v,h1,h2⟩:=KR.Cg h; exact ⟨v.1,v.2,h1,h2⟩
 | look f xs=>obtain ⟨v,h1,h2⟩:=KR.Cg h; exact ⟨v,A,h1.Bk,h2⟩
 | D4 g f xs=>obtain ⟨v,h1,h2⟩:=KR.Cg h; exact ⟨v,A,h1.Bk,h2⟩
 | HS g f xs=>obtain ⟨v,h1,h2⟩:=KR.Cg h; exact ⟨v,(zZ A (jY t xs)).2,h1.Bk (f:=fun v=>(v,(zZ A (jY t xs)).2)),h2⟩
 | call f args=>exact absurd rfl (hn f args)
 | bad=>exact absurd h (by simp [JB])
theorem Xm {cfg:dD} (eT:rf P cfg.pc) {o:Oper} {g:FuncId} {xs:List Operand} (aL:compile P o.op = .call (.func g) xs) {F0:List KV->KR KV} (hF0:cfg.pc g=some F0) {t:bd} {vs0:List KV} {v:KV}
  (hf:aH (F0 (normArgs P (bS P g) vs0)) v) (hlen:vs0.length=(bS P g).length) {E:Env} {ρ:Ren} {a:Act} (hv:∀ x∈xs,VC P E ρ (gq t x) (a.eval x)) {A A1:ae} {B:St} {base:Nat} {w:World}
  (alj:∀ us,aV P E (xs.map (gq t)) us->∃ E1,Ev P base E A B ρ w E1 A1 B ρ w/\aV P E1 vs0 us) {next:Act->World->Prop} {Q:Exit->Act->World->Prop}
  (hk:∀ E' B' aF v' w',VC P E' aF v v'->Ev P base E A B ρ w E' A1 B' aF w'->next (a.put o.dst v') w'):o.upon P a next Q ((execOp a.eval o).run P w):=by
 obtain ⟨hg,lC⟩:=eT g F0 hF0 _ _ hf hlen;have acn:=ra P o;rw [aL] at acn;obtain ⟨em,h3,h4⟩:=mid (xs:=xs) hv
 let em2:Operand->Value:=fun x=>match x with
  | .func f=>.func (.func f) #[] #[]
  | x=>em x
 have e3:∀ x∈xs,VK P E (gq t x) (em2 x)/\VR ρ (em2 x) (a.eval x):=by
  intro x hx;have key:∀ (l:List Operand),aV P E (l.map (gq t)) (l.map em)->x∈l->VK P E (gq t x) (em x):=by
   intro l
   induction l with
   | nil=>intro _ h; simp at h
   | cons y l ih=>
    intro h hm;obtain ⟨z,zs,e,q1,q2⟩:=h.cons_inv;simp only [List.map_cons,List.cons.injEq] at e;obtain ⟨rfl,rfl⟩:=e;rcases de.1 hm with rfl | hm
    ·exact q1
    ·exact ih q2 hm
  cases x with
  | func f=>exact ⟨.aeU .nil .nil,VR.Yu (l:=[]) (m:=[]) (.func f) rfl .nil .nil⟩
  | tmp i=>exact ⟨key xs h3 hx,h4 _ hx⟩
  | const c=>exact ⟨key xs h3 hx,h4 _ hx⟩
  | global q=>exact ⟨key xs h3 hx,h4 _ hx⟩
 have e4:aV P E (xs.map (gq t)) (xs.map em2):=by
  have:∀ (l:List Operand),(∀ x∈l,VK P E (gq t x) (em2 x))->aV P E (l.map (gq t)) (l.map em2):=by
   intro l
   induction l with
   | nil=>intro _; exact .nil
   | cons y l ih=>intro h; exact .cons (h y (by simp)) (ih fun z hz=>h z (by simp [hz]))
  exact this xs fun x hx=>(e3 x hx).1
 obtain ⟨b6,h5,h6⟩:=acn.2 ρ em2 a.eval g (xs.map em2) (fun x hx=>by
   rcases de.1 hx with rfl | hx
   ·exact VR.Yu (l:=[]) (m:=[]) (.func g) rfl .nil .nil
   ·exact (e3 x hx).2) hg.1 (by simp only [em2,BG]; rw [hg.1]; simp) hg.2
 rw [h6 w];obtain ⟨E1,q1,q2⟩:=alj _ e4;refine (lC E1 A1 B ρ base w b6 ⟨xs.map em2,q2,h5⟩ q1.kj).mono ?_;rintro e w' ⟨v',E',B',aF,rfl,h7,h8⟩;exact hk E' B' aF v' w' h7 (q1.trans h8)
theorem MP {cfg:dD} (eT:rf P cfg.pc) {o:Oper} {t:bd} {A A' : ae} {v:KV} {base:Nat} {B:St} {ρ:Ren} {a:Act} {w:World} {next:Act->World->Prop} {Q:Exit->Act->World->Prop}
  (h:aH (w5 (bw P cfg o.op) t A) (v,A')) (hv:∀ x∈Tz (bw P cfg o.op),VC P E ρ (gq t x) (a.eval x)) (hj:KJ P E A B ρ base w)
  (hk:∀ E' B' aF v' w',VC P E' aF v v'->Ev P base E A B ρ w E' A' B' aF w'->next (a.put o.dst v') w'):o.wp P a w next Q:=by
 have cM:=aj0 P cfg o;have aiR:=@adL P cfg o.op;have aiS:=@adM P cfg o.op;generalize bw P cfg o.op=ins at h cM hv aiR aiS;unfold Oper.wp;cases ins with
 | pure f xs=>
  obtain ⟨u,h1,h2⟩:=aH.map h;simp only [du] at h2;obtain ⟨rfl,rfl⟩:=h2;rw [vt] at h1;obtain ⟨v',h3,h4⟩:=cM E ρ (gq t) a.eval u hv h1;rw [h4 w];exact hk E B ρ v' w h3 (.refl hj.k hj.s)
 | read f xs=>
  obtain ⟨u,h1,h2⟩:=aH.map h;simp only [du] at h2;obtain ⟨rfl,rfl⟩:=h2;rw [vt] at h1;obtain ⟨v',h3,h4⟩:=cM E A B ρ base w (gq t) a.eval u hj hv h1;rw [h4];exact hk E B ρ v' w h3 (.refl hj.k hj.s)
 | act f xs=>
  have h:aH (f A (jY t xs)) (v,A'):=h;rw [vt] at h;obtain ⟨E',B',aF,v',nx,w',h1,h2,h3,h4⟩:=cM E A A' B ρ base w (gq t) a.eval v hj hv h;rw [h1];have hd:=hk E' B' aF v' w' h3 h4;cases nx with
  | value u=>have:u=v':=h2; subst this; exact hd
  | skip=>have:v' = undef:=h2; subst this; exact hd
  | _=>exact h2.elim
 | look f xs=>
  obtain ⟨u,h1,h2⟩:=aH.map h;simp only [du] at h2;obtain ⟨rfl,rfl⟩:=h2;rw [vt] at h1;obtain ⟨E',B',aF,v',nx,w',h3,h4,h5,h6⟩:=cM E A B ρ base w (gq t) a.eval u hj hv h1;rw [h3];have hd:=hk E' B' aF v' w' h5 h6;cases nx with
  | value u=>have:u=v':=h4; subst this; exact hd
  | skip=>have:v' = undef:=h4; subst this; exact hd
  | _=>exact h4.elim
 | D4 g f xs=>
  obtain ⟨u,h1,h2⟩:=aH.map h;simp only [du] at h2;obtain ⟨rfl,rfl⟩:=h2;obtain ⟨aL,F0,hF0,rfl⟩:=aiR rfl;obtain ⟨hlen,hf⟩:=aH.cond h1;exact Xm eT aL hF0 hf (aK hlen) hv (fun us q=>⟨E,.refl hj.k hj.s,by rw [vt]; exact q⟩) hk
 | HS g f xs=>
  obtain ⟨u,h1,h2⟩:=aH.map h;simp only [du] at h2;obtain ⟨rfl,rfl⟩:=h2;obtain ⟨aL,F0,hF0,rfl⟩:=aiS rfl;obtain ⟨hlen,hf⟩:=aH.cond h1;refine Xm eT aL hF0 hf (aK hlen) hv (fun us q=>?_) hk;obtain ⟨E1,p1,p2⟩:=JF hj.k q;rw [vt];exact ⟨E1,p1.ev (.refl hj.s),p2⟩
 | call f args=>exact h.elim
 | bad=>exact h.elim
end Go.K
end
