/- Part of the proof of ImageWhole: the machine, shown to be the model's, and plain models. No conditions. -/
import Derived.Test.YtchbpckkmgcgkaaGreatCp
set_option linter.unusedSimpArgs false
set_option linter.unusedVariables false
section
namespace Go.K
open Go Go.aF
variable {P:Program} {E:Env}
def mkE (agg:Bool) (m:List Value):Value:=cond agg (.agg ⟨m⟩) (m.headD .nilIface)
theorem ag7 {agg:Bool} {m:List Value} (hs:∀ v∈m,scalar v=true) (h:agg=true\/m.length=1):(mkE agg m).cells.toList=m:=by
 cases agg with
 | true=>rfl
 | false=>
  rcases h with h | h
  ·simp at h
  ·match m,h with
   | [v],_=>
    have:=hs v (by simp);show v.cells.toList = [v];cases v <;> first | rfl | simp [scalar] at this
theorem acr {l:Bb} {ks:List KV} (h:aO l.ks ks=true) (ha:l.agg=true\/l.ks.length=1):cI l (TE l.agg ks)=true:=by
 obtain ⟨agg,cs⟩:=l;cases agg with
 | true=>simpa [TE,cI] using h
 | false=>
  simp at ha
  match cs,ha,ks,h with
  | [c],_,[v],h=>
   have hk:kindOk c v=true:=by simpa [aO] using h
   show cI ⟨false,[c]⟩ v=true;cases v with
   | agg cs=>cases c <;> simp [kindOk] at hk
   | lP cs=>cases c <;> simp [kindOk] at hk
   | _=>simpa [cI] using h
  | [c],_,[],h=>simp [aO] at h
  | [c],_,_::_::_,h=>simp [aO] at h
theorem ag8 {E:Env} {ks:List KV} {m:List Value} {agg:Bool} (h:bo P E ks m) (ha:agg=true\/m.length=1):VK P E (TE agg ks) (mkE agg m):=by
 cases agg with
 | true=>exact .tD h
 | false=>
  rcases ha with ha | ha
  ·simp at ha
  ·match m,ha,ks,h with
   | [v],_,ks,h=>
    have hl:=h.length
    match ks,hl,h with
    | [k],_,h=>
     obtain ⟨y,ys,e,h1,_⟩:=h.cons_inv;simp at e;rw [e.1];exact h1
theorem Rt {α:Type} : ∀ {n:Nat} {l vs r:List α},od n l vs=some r->
  r.length=l.length/\(vs≠[]->n+vs.length<=l.length)/\∀ (i:Nat),r[i]? = if n<=i/\i < n+vs.length then vs[i - n]? else l[i]?
 | 0,l,[],r,h=>by simp [od] at h; subst h; simp
 | 0,[],_::_,r,h=>by simp [od] at h
 | 0,x::l,v::vs,r,h=>by
  simp only [od,de] at h;obtain ⟨q,hq,rfl⟩:=h;obtain ⟨h1,h2,h3⟩:=Rt hq;refine ⟨by simp [h1],?_,fun i=>?_⟩
  ·intro _
   cases vs with
   | nil=>simp
   | cons u us=>have:=h2 (by simp); simp at this ⊢; omega
  ·cases i with
   | zero=>simp
   | succ i=>simp [h3 i]
 | n+1,[],[],r,h=>by simp [od] at h; subst h; simp
 | n+1,[],_::_,r,h=>by simp [od] at h
 | n+1,x::l,vs,r,h=>by
  simp only [od,de] at h;obtain ⟨q,hq,rfl⟩:=h;obtain ⟨h1,h2,h3⟩:=Rt hq;refine ⟨by simp [h1],?_,fun i=>?_⟩
  ·intro eY
   have:=h2 eY;simp at this ⊢;omega
  ·cases i with
   | zero=>simp
   | succ i=>
    simp only [Wb,h3 i];by_cases hc:n<=i/\i < n+vs.length
    ·rw [aV hc,aV (by omega),show i+1 - (n+1)=i - n by omega]
    ·rw [ay hc,ay (by omega)]
theorem YO (v:KV):∀ (es:List KV) (i j:Nat),(setAt es i v).getD j .bG=if j=i/\i < es.length then v else es.getD j .bG
 | [],0,j=>by simp [setAt]
 | [],_+1,j=>by simp [setAt]
 | e::es,0,0=>by simp [setAt]
 | e::es,0,j+1=>by simp [setAt]
 | e::es,i+1,0=>by simp [setAt]
 | e::es,i+1,j+1=>by
  have:=YO v es i j;simp only [setAt,List.getD_cons_succ,Kg];rw [this];by_cases h:j=i/\i < es.length
  ·rw [aV h,aV ⟨by omega,by omega⟩]
  ·rw [ay h,ay (by omega)]
theorem Fb:∀ (n:Nat) (l vs:List Value),n+vs.length<=l.length->∃ r,jw n l vs=some r
 | 0,l,[],_=>⟨l,rfl⟩
 | 0,[],_::_,h=>by simp at h
 | 0,x::l,v::vs,h=>by
  obtain ⟨r,hr⟩:=Fb 0 l vs (by simp at h ⊢; omega);exact ⟨v::r,by rw [zL,hr]; rfl⟩
 | n+1,[],[],_=>⟨[],rfl⟩
 | n+1,[],_::_,h=>by simp at h
 | n+1,x::l,vs,h=>by
  obtain ⟨r,hr⟩:=Fb n l vs (by simp at h ⊢; omega);exact ⟨x::r,by rw [vx,hr]; rfl⟩
theorem ad5:∀ {ks:List CK} {cs:List KV},cs.length=ks.length->(∀ (i:Nat) c v,ks[i]? = some c->cs[i]? = some v->kindOk c v=true)->aO ks cs=true
 | [],[],_,_=>rfl
 | [],_::_,h,_=>by simp at h
 | _::_,[],h,_=>by simp at h
 | c::ks,v::cs,h,k=>by
  simp only [aO,aD];exact ⟨k 0 c v rfl rfl,ad5 (by simpa using h) fun i d u e1 e2=>k (i+1) d u (by simpa using e1) (by simpa using e2)⟩
theorem aoP {l:Bb} {e:KV} (h:cI l e=true):l.agg=true\/e.cells.length=1:=by
 by_cases ha:∃ cs,e = .agg cs
 ·obtain ⟨cs,rfl⟩:=ha
  simp only [cI,aD] at h;exact .inl h.1
 ·have hc:e.cells = [e]:=by cases e <;> first | rfl | exact absurd ⟨_,rfl⟩ ha
  rw [hc];exact .inr rfl
theorem aq4 {T t:TypeId} {k:Nat} {e vn e2:KV} {u w:Value} (hw:af2 P T t k) (Iv:cI (bu P T) e=true) (hu:VK P E e u) (hvn:cI (bu P t) vn=true) (hvw:VK P E vn w) (h:acd P T k e vn.cells=some e2) :
  ∃ u2,VK P E e2 u2/\cI (bu P T) e2=true/\u2.cells.size=bp P T/\e2.cells.length=e.cells.length/\(∀ m,u2.cells.toList[m]? = if k<=m/\m < k+w.cells.toList.length then w.cells.toList[m - k]? else u.cells.toList[m]?)/\(w.cells.toList≠[]->k+w.cells.toList.length<=bp P T):=by
 unfold acd at h;obtain ⟨l1,l2,_⟩:=Rs Iv;rw [l1] at h;obtain ⟨oD,h1,rfl⟩:=de.1 h;obtain ⟨Pf,hk2⟩:=jQ Iv;obtain ⟨ZS,N7⟩:=jQ hvn;have hcu:=hu.cells hk2;have hcw:=hvw.cells N7;obtain ⟨r,h2,h3⟩:=bo.od h1 hcu hcw;obtain ⟨s1,s2,s3⟩:=kk h2;obtain ⟨q1,q2,q3⟩:=Rt h1;have Rb:e.cells.length=bp P T:=u3 Pf;have DA:=aoP Iv;have hlr:r.length=e.cells.length:=by rw [s1,hcu.length]
 have wx:aO (bu P T).ks oD=true:=by
  refine ad5 (by rw [q1]; exact Rb) fun i c v e1 e3=>?_;rw [q3 i] at e3;split at e3
  ·rename_i hc
   obtain ⟨x,Kq,hx2⟩:∃ d,(bu P t).ks[i - k]? = some d/\d=c:=by
    have bt:i - k < (bu P t).ks.length:=by rw [<- u3 ZS]; omega
    refine ⟨_,dF bt,?_⟩;have:=hw.is (i - k) _ (dF bt);rw [show k+(i - k)=i by omega,e1] at this;simpa using this.symm
   subst hx2;obtain ⟨v',h4,h5⟩:=Fa ZS Kq;rw [e3] at h4;simp at h4; subst h4;exact h5
  ·obtain ⟨v',h4,h5⟩:=Fa Pf e1
   rw [e3] at h4;simp at h4; subst h4;exact h5
 have au0:cI (bu P T) (TE (bu P T).agg oD)=true:=acr wx (by
  rcases DA with h | h
  ·exact .inl h
  ·exact .inr (by rw [<- u3 Pf]; exact h))
 have hsc:∀ v∈r,scalar v=true:=h3.scalar (Ko wx);have Ba:(mkE (bu P T).agg r).cells.toList=r:=ag7 hsc (DA.imp id fun h=>by rw [hlr]; exact h);refine ⟨mkE (bu P T).agg r,ag8 h3 (DA.imp id fun h=>by rw [hlr]; exact h),au0,?_,?_,fun m=>?_,fun eY=>?_⟩
 ·rw [<- Array.length_toList,Ba,hlr]; exact Rb
 ·exact (u3 (jQ au0).1).trans Rb.symm
 ·rw [Ba]; exact s3 m
 ·have:=s2 eY
  rw [hcu.length] at this;omega
theorem aq5 {sz i k:Nat} {cs:List Value} {bC:List Value} {u u2:Value} {wl:List Value} (hl:ss sz 0 cs bC) (hi:bC[i]? = some u) (hsu:u.cells.size=sz) (sW:wl≠[]->k+wl.length<=sz) (hg:∀ m,u2.cells.toList[m]? = if k<=m/\m < k+wl.length then wl[m - k]? else u.cells.toList[m]?) (mN:u2.cells.size=sz) :
  ∃ oD,jw (i * sz+k) cs wl=some oD/\ss sz 0 oD (bC.set i u2)/\oD.length=cs.length:=by
 have hex:∃ oD,jw (i * sz+k) cs wl=some oD:=by
  cases hwl:wl with
  | nil=>exact ⟨cs,T9 _ _⟩
  | cons a l=>
   have hf:=sW (by rw [hwl]; simp);rw [hwl] at hf;obtain ⟨_,hc⟩:=hl i u hi;have bt:k+l.length < u.cells.size:=by rw [hsu]; simp at hf; omega
   have:=hc (k+l.length) u.cells[k+l.length] (by simp [bt]);have hb:=(dD.1 this).1;exact Fb _ _ _ (by simp; omega)
 obtain ⟨oD,h1⟩:=hex;obtain ⟨s1,s2,s3⟩:=kk h1;refine ⟨oD,h1,fun j x hx=>?_,s1⟩;rw [List.getElem?_set] at hx;split at hx
 ·rename_i e
  subst e;split at hx
  ·simp at hx; subst hx
   refine ⟨mN,fun m y hy=>?_⟩;have hy' : u2.cells.toList[m]? = some y:=by simpa using hy
   have hm:m < sz:=by rw [<- mN]; exact (EN.1 hy).1
   rw [hg m] at hy';rw [bh,s3];split at hy'
   ·rw [aV (by omega),show i * sz+m - (i * sz+k)=m - k by omega]; exact hy'
   ·rw [ay (by omega)]
    have:=(hl i u hi).2 m y (by simpa using hy');rwa [bh] at this
  ·simp at hx
 ·rename_i eY
  obtain ⟨h2,h3⟩:=hl j x hx;refine ⟨h2,fun m y hy=>?_⟩;have hm:m < sz:=by rw [<- h2]; exact (EN.1 hy).1
  rw [s3,ay]
  ·exact h3 m y hy
  ·rintro ⟨ha,hb⟩
   cases hwl:wl with
   | nil=>rw [hwl] at hb; simp at hb; omega
   | cons a l=>
    have hf:=sW (by rw [hwl]; simp);rcases Nat.lt_or_gt_of_ne eY with h | h
    ·have:(i+1) * sz<=j * sz:=Nat.mul_le_mul_right _ h
     rw [Nat.succ_mul] at this;omega
    ·have:(j+1) * sz<=i * sz:=Nat.mul_le_mul_right _ h
     rw [Nat.succ_mul] at this;omega
theorem aoQ {T:TypeId} {N i:Nat} {es:List KV} {acc:Nat->KV} {e:KV} (ht:ko P T N es acc) (hi:i < N) (he:cI (bu P T) e=true):ko P T N (setAt es i e) (xN acc i e) where
 len:=by rw [HV]; exact ht.len
 acc j hj:=by
  rw [YO];unfold xN;cases hb:Nat.beq j i with
  | true=>have:=bm hb; rw [aV ⟨this,by rw [<- ht.len]; exact hi⟩]; rfl
  | false=>rw [ay (fun h=>by rw [h.1,mK] at hb; simp at hb)]; exact ht.acc j hj
 typed:=sY fun j x hx=>by
  have hx' : x=(setAt es i e).getD j .bG:=by rw [iQ,hx]; rfl
  rw [YO] at hx';split at hx'
  ·rw [hx']; exact he
  ·rename_i eY
   have bt:j < es.length:=by rw [<- HV es i e]; exact (dD.1 hx).1
   exact lE ht.typed (i:=j) (by rw [hx',iQ,dF bt]; rfl)
theorem Kr {B:St} {x y lo hi:Nat} {bV:Option (Nat×Nat)} : (B.fI x bV lo hi).get y=B.get y\/∃ g k,bV=some (g,k)/\y∈B.members g/\y≠x/\(B.fI x bV lo hi).get y=some .dead/\∃ cs e own f j,B.get y=some (.row cs e own (some (f,j))):=by
 cases bV with
 | none=>exact .inl rfl
 | some p=>
  obtain ⟨g,k⟩:=p;simp only [St.fI,GC];by_cases hc:y∈B.members g/\y≠x/\vw (B.get y) (k+lo) (k+hi)=true
  ·refine .inr ⟨g,k,rfl,hc.1,hc.2.1,by rw [aV hc],?_⟩
   have hs:=hc.2.2;unfold vw at hs;split at hs
   ·rename_i cs e own f j hy; exact ⟨cs,e,own,f,j,hy⟩
   ·simp at hs
  ·exact .inl (by rw [ay hc])
theorem Py {B:St} {x lo hi:Nat} {bV:Option (Nat×Nat)} : (B.fI x bV lo hi).members=B.members:=by
 cases bV with
 | none=>rfl
 | some p=>simp [St.fI]
theorem XK {B:St} {x lo hi:Nat} {bV:Option (Nat×Nat)} : (B.fI x bV lo hi).next=B.next:=by
 cases bV with
 | none=>rfl
 | some p=>simp [St.fI]
theorem eX.ap7 {A:aB} {B:St} {b x N lo hi:Nat} {T:TypeId} {es:List KV} {acc:Nat->KV} {bC cs pE:List Value} {bV:Option (Nat×Nat)} (h:gU P E A B) (hb:∃ v,A.get b=some (.arr v)) (hx:E.α b=some (x,pE.length,N))
  (lD:B.get x=some (.row pE (bp P T) true bV)) (hlen:cs.length=pE.length) (gI:1<=bp P T) (ht:ko P T N es acc) (Uw:bo P E es bC) (hl:ss (bp P T) 0 cs bC) :
  eX P E A B E (A.put b (.arr (.ts T .any N es acc))) ((B.put x (.row cs (bp P T) true bV)).fI x bV lo hi):=by
 obtain ⟨v0,hb⟩:=hb;have vB:AR A E x:=⟨b,v0,_,_,hb,hx⟩
 have lB:((B.put x (.row cs (bp P T) true bV)).fI x bV lo hi).get x=some (.row cs (bp P T) true bV):=by
  rcases Kr (B:=B.put x (.row cs (bp P T) true bV)) (x:=x) (y:=x) (lo:=lo) (hi:=hi) (bV:=bV) with e | ⟨g,k,_,_,h3,_⟩
  ·rw [e]; simp
  ·exact absurd rfl h3
 have hgy:∀ y,y≠x->((B.put x (.row cs (bp P T) true bV)).fI x bV lo hi).get y=B.get y\/(((B.put x (.row cs (bp P T) true bV)).fI x bV lo hi).get y=some .dead/\∃ g k,bV=some (g,k)/\y∈B.members g):=by
  intro y hy;rcases Kr (B:=B.put x (.row cs (bp P T) true bV)) (x:=x) (y:=y) (lo:=lo) (hi:=hi) (bV:=bV) with e | ⟨g,k,h1,h2,_,h4,_⟩
  ·exact .inl (by rw [e,St.cr,ay hy])
  ·exact .inr ⟨h4,g,k,h1,by simpa using h2⟩
 have oK:((B.put x (.row cs (bp P T) true bV)).fI x bV lo hi).members=B.members:=by rw [Py]; simp
 have kl:((B.put x (.row cs (bp P T) true bV)).fI x bV lo hi).next=B.next:=by rw [XK]; simp
 generalize (B.put x (.row cs (bp P T) true bV)).fI x bV lo hi=B' at lB hgy oK kl;have Ux:∀ y,y≠x->(E.z y≠none\/AR A E y\/∃ c,E.κ c=some y)->B'.get y=B.get y:=by
  intro y hy hs;rcases hgy y hy with e | ⟨_,g,k,rfl,h2⟩
  ·exact e
  ·obtain ⟨_,_,h3⟩:=h.ar.xB b v0 x _ _ _ _ _ g k hb hx lD
   obtain ⟨h4,h5,h6⟩:=h3 y h2 hy;rcases hs with hs | hs | ⟨c,hs⟩
   ·exact absurd h4 hs
   ·exact absurd hs h5
   ·exact absurd hs (h6 c)
 have hA:∀ (c:Nat) (v:KV),(A.put b (.arr (.ts T .any N es acc))).get c=some (.arr v)->∃ u,A.get c=some (.arr u):=fun c v hc=>by
  rw [aB.cr] at hc;split at hc
  ·rename_i e; exact ⟨v0,by rw [e]; exact hb⟩
  ·exact ⟨v,hc⟩
 have Uy:∀ y,AR (A.put b (.arr (.ts T .any N es acc))) E y->AR A E y:=fun y q=>by
  obtain ⟨c,v,L,M,h1,h2⟩:=q;obtain ⟨u,h1⟩:=hA c v h1;exact ⟨c,u,L,M,h1,h2⟩
 have ag9:∀ y,AR A E y->∀ sH e own aaf,B'.get y=some (.row sH e own aaf)->∃ oD,B.get y=some (.row oD e own aaf)/\oD.length=sH.length:=fun y q sH e own aaf hy=>by
  by_cases Iw:y=x
  ·subst Iw
   rw [lB] at hy;simp at hy;obtain ⟨rfl,rfl,rfl,rfl⟩:=hy;exact ⟨pE,lD,hlen.symm⟩
  ·rw [Ux y Iw (.inr (.inl q))] at hy
   exact ⟨sH,hy,rfl⟩
 have amT:∀ g,AF (A.put b (.arr (.ts T .any N es acc))) E B' g->AF A E B g:=fun g q=>by
  obtain ⟨c,v,y,L,M,sH,e,own,k,h1,h2,h3⟩:=q;obtain ⟨u,h1⟩:=hA c v h1;obtain ⟨oD,h3,_⟩:=ag9 y ⟨c,u,L,M,h1,h2⟩ _ _ _ _ h3;exact ⟨c,u,y,L,M,oD,e,own,k,h1,h2,h3⟩
 refine ⟨⟨?_,?_,?_,h.apart,h.inj,h.lT.put (.inl fun _ _=>by simp),h.oC,h.qJ,?_,fun b x e=>by rw [kl]; exact h.jd b x e,fun b r e=>by rw [kl]; exact h.rb b r e,fun b g e=>by rw [kl]; exact h.mM b g e,fun g hg=>by rw [kl] at hg; rw [oK]; exact h.fresh g hg,fun g y hy=>by rw [oK] at hy; rw [kl]; exact h.mem g y hy,?_⟩,Env.le_refl _,aW _,?_,fun _ _ e=>.inl e,fun _ _ e=>.inl e,fun _ _ e=>.inl e,fun _ _ _ _=>by rw [oK],fun y q=>.inl (Uy y q),fun g q=>.inl (amT g q),fun g y q=>.inl (by rw [oK] at q; exact q),fun y q=>.inl ?_,?_⟩
 ·intro c sH cc hc
  rw [aB.cr] at hc;split at hc
  ·simp at hc
  ·obtain ⟨y,c1,h1,h2,h3⟩:=h.row c sH cc hc
   have hy:y≠x:=fun e=>(h.ar.z x vB).2 c (by rw [<- e]; exact h1);exact ⟨y,c1,h1,by rw [Ux y hy (.inr (.inr ⟨c,h1⟩))]; exact h2,h3⟩
 ·intro c top Lo hc
  rw [aB.cr] at hc;split at hc
  ·simp at hc
  ·rcases h.aZ c top Lo hc with h1 | ⟨g,h1,h2,h3⟩
   ·exact .inl h1
   ·refine .inr ⟨g,h1,h2,fun y hy sH e own f k hr=>?_⟩
    rw [oK] at hy;by_cases Iw:y=x
    ·subst Iw
     rw [lB] at hr;simp at hr;obtain ⟨rfl,_,_,rfl⟩:=hr;obtain ⟨h4,h5⟩:=h3 y hy pE _ _ f k lD;exact ⟨h4,by rw [hlen]; exact h5⟩
    ·rcases hgy y Iw with e1 | ⟨e1,_⟩
     ·rw [e1] at hr; exact h3 y hy sH e own f k hr
     ·rw [e1] at hr; simp at hr
 ·intro y r hy
  have Iw:y≠x:=fun e=>by have:=(h.ar.z x vB).1; rw [<- e,hy] at this; simp at this
  rw [Ux y Iw (.inl (by rw [hy]; simp))];exact h.z y r hy
 ·intro c o hc
  rw [aB.cr] at hc;split at hc
  ·rename_i e; rw [e]; exact h.live b _ hb
  ·exact h.live c o hc
 ·refine ⟨?_,?_,fun y q=>h.ar.z y (Uy y q),?_,?_,h.ar.dis,h.ar.oC,fun b x L N e=>by rw [kl]; exact h.ar.jd b x L N e,?_,fun c v hc=>?_⟩
  ·intro c v hc
   rw [aB.cr] at hc;split at hc
   ·rename_i e
    simp at hc;subst hc e;exact ⟨T,N,es,acc,rfl,ht,gI,.inr ⟨x,cs,bV,bC,by rw [hlen]; exact hx,lB,Uw,hl⟩⟩
   ·rename_i eY
    refine (h.ar.arr c v hc).mono (Env.le_refl _) rfl fun y L M e=>?_;have Iw:y≠x:=fun e2=>eY (h.ar.inj c b v v0 x _ _ _ _ hc hb (by rw [<- e2]; exact e) hx);exact Ux y Iw (.inr (.inl ⟨c,v,L,M,hc,e⟩))
  ·intro c v hc
   rw [aB.cr] at hc;split at hc
   ·simp at hc
   ·exact h.ar.lR c v hc
  ·intro c d v u y L M L' M' h1 h2 h3 h4
   obtain ⟨v',h1⟩:=hA c v h1;obtain ⟨u',h2⟩:=hA d u h2;exact h.ar.inj c d v' u' y L M L' M' h1 h2 h3 h4
  ·intro c d v u y w L M L' M' sH e own g k oD e' tJ k' h1 h2 h3 h4 h5 h6
   obtain ⟨v',h1⟩:=hA c v h1;obtain ⟨u',h2⟩:=hA d u h2;obtain ⟨_,h5,_⟩:=ag9 y ⟨c,v',L,M,h1,h3⟩ _ _ _ _ h5;obtain ⟨_,h6,_⟩:=ag9 w ⟨d,u',L',M',h2,h4⟩ _ _ _ _ h6;exact h.ar.zi c d v' u' y w L M L' M' _ e own g k _ e' tJ k' h1 h2 h3 h4 h5 h6
  ·intro c v y L M sH e own g k h1 h2 h3
   obtain ⟨v',h1⟩:=hA c v h1;obtain ⟨_,h3,_⟩:=ag9 y ⟨c,v',L,M,h1,h2⟩ _ _ _ _ h3;obtain ⟨h4,h5,h6⟩:=h.ar.xB c v' y L M _ e own g k h1 h2 h3;refine ⟨by rw [kl]; exact h4,h5,fun z hz eY=>?_⟩;rw [oK] at hz;obtain ⟨h7,h8,h9⟩:=h6 z hz eY;exact ⟨h7,fun q=>h8 (Uy z q),h9⟩
  ·rw [aB.cr] at hc
   rw [aB.wq];split at hc
   ·rename_i e; rw [e]; exact h.ar.nk b _ hb
   ·exact h.ar.nk c v hc
 ·intro y hy hn ha
  by_cases Iw:y=x
  ·subst Iw; exact absurd (.inl vB) ha
  ·rcases hgy y Iw with e | ⟨_,g,k,rfl,h2⟩
   ·exact e
   ·exact absurd (.inr ⟨g,⟨b,v0,x,_,_,pE,_,_,k,hb,hx,lD⟩,h2⟩) ha
 ·rcases q with q | ⟨g,h1,h2⟩
  ·exact .inl (Uy y q)
  ·exact .inr ⟨g,amT g h1,by rw [oK] at h2; exact h2⟩
 ·intro y hy sH e own aaf hr
  by_cases Iw:y=x
  ·exact ag9 y (by rw [Iw]; exact vB) sH e own aaf hr
  ·rcases hgy y Iw with e1 | ⟨e1,_⟩
   ·exact ⟨sH,by rw [<- e1]; exact hr,rfl⟩
   ·rw [e1] at hr; simp at hr
theorem aq6 {t:TypeId} : ap3 P (Z3 P t) (MW P t):=by
 intro E A A' B vs us v h hv hg;unfold Z3 at hg;split at hg
 ·rename_i b off x
  obtain ⟨y,z,rfl,h1,h2⟩:=hv.nT;obtain ⟨c,hx,rfl⟩:=h1.kc;obtain ⟨hc,hg⟩:=hg.cond;simp only [aD,lA] at hc;obtain ⟨gI,ho⟩:=hc;split at hg
  ·rename_i cs cc lD
   split at hg
   ·rename_i cm hw
    have hg:(vY,A.put b (.row cm cc))=(v,A'):=hg;simp only [gF] at hg;obtain ⟨rfl,rfl⟩:=hg;obtain ⟨c',d,e1,e2,e3⟩:=h.row b cs cc lD;rw [hx] at e1;simp at e1;subst e1;have Q9:=h2.cells (CV ho);obtain ⟨r,e4,e5⟩:=bo.od hw e3 Q9;have qD:z.cells.toList.all scalar=true:=iu.2 (Q9.scalar ho);have asw:some z.cells.size=size? P t:=by rw [<- gI,Un h2 (CV ho)]
    refine ⟨undef,B.put c (.row r cc true none),E,?_,.undef,eX.aul h ⟨_,_,lD⟩ hx ⟨d,e2,(kk e4).1.symm⟩ e5⟩;simp [MW,storeAt,asw,St.De,dC,qD,e2,e4,St.fI]
   ·exact hg.elim
  ·exact hg.elim
 ·rename_i T Tc b i k x
  obtain ⟨y,z,rfl,h1,h2⟩:=hv.nT;split at hg
  ·rename_i T' mk N es acc hA
   obtain ⟨hc,hg2⟩:=hg.cond;clear hg;simp only [aD,lA] at hc;obtain ⟨⟨⟨hT,hTc⟩,Iv⟩,gI⟩:=hc;have:=bm hT;subst this;have:=bm hTc;subst this;split at hg2
   ·rename_i e2 he2
    have hg:(vY,A.put b (.arr (apR T N i es acc e2)))=(v,A'):=hg2;simp only [gF] at hg;obtain ⟨rfl,rfl⟩:=hg;obtain ⟨c,L,N',h3,hw,hi,rfl⟩:=h1.Na;obtain ⟨T2,N2,tH,hO,ZV,ht,h1s,Cc⟩:=h.ar.arr b _ hA;simp only [KV.ts.injEq] at ZV;obtain ⟨rfl,rfl,rfl,rfl,rfl⟩:=ZV;rcases Cc with ⟨_,h4⟩ | ⟨c',cs,bV,bC,h4,h5,h6,h7⟩
    ·rw [h3] at h4; simp at h4
    rw [h3] at h4;simp only [dG,gF] at h4;obtain ⟨rfl,rfl,rfl⟩:=h4;have bt:i < es.length:=by rw [<- ht.len]; exact hi
    have hei:es[i]? = some (acc i):=by rw [ht.acc i hi]; simp [List.getD,bt]
    obtain ⟨u,h8,h9⟩:=h6.get hei;obtain ⟨hsu,sE⟩:=h7 i u h8;rw [bh] at sE;have hvn:=h2.ig (l:=bu P Tc);obtain ⟨u2,p1,p2,p3,p4,p5,p6⟩:=aq4 (T:=T) (t:=Tc) hw (lE ht.typed hei) h9 Iv hvn he2;obtain ⟨oD,w1,w2,w3⟩:=aq5 h7 h8 hsu p6 p5 p3;have jN:=eX.ap7 (lo:=i * bp P T+k) (hi:=i * bp P T+k+z.cells.toList.length) h ⟨_,hA⟩ h3 h5 (kk w1).1 h1s (aoQ ht hi p2) (bC:=bC.set i u2) (YN p1 i h6) w2;obtain ⟨Pf,hk2⟩:=jQ Iv;have qD:z.cells.toList.all scalar=true:=iu.2 ((hvn.cells hk2).scalar (Ko Pf));have hzs:some z.cells.size=size? P Tc:=by
     rw [gI,<- u3 Pf];exact congrArg some (Un hvn hk2)
    refine ⟨undef,_,E,?_,.undef,jN⟩;simp [MW,storeAt,hzs,St.De,dC,qD,h5,w1]
   ·exact hg2.elim
  ·exact hg.elim
 ·exact hg.elim
end Go.K
end
section
namespace Go.K
open Go Go.aF
variable {P:Program} {E:Env}
def Env.JU (E:Env) (b:Nat) (p:Nat×Nat×Nat):Env:={ E with α:=fun c=>if c=b then some p else E.α c }
theorem Env.asx {A:aB} {B:St} {p:Nat×Nat×Nat} (h:gU P E A B):E.le (E.JU A.next p):=⟨fun b q e=>by
 have:=h.ar.oC b q e;simp only [Env.JU]; rw [ay (by omega)]; exact e,fun _ _ e=>e,fun _ _ e=>e,fun _ _ e=>e⟩
theorem Env.GN {b:Nat} {p:Nat×Nat×Nat} : (E.JU b p).α b=some p:=by simp [Env.JU]
theorem Env.Pz {b c:Nat} {p:Nat×Nat×Nat} (h:c≠b):(E.JU b p).α c=E.α c:=by simp [Env.JU,h]
theorem eX.aag {A A1:aB} {B B' : St} {X G:Nat->Prop} {y2 N2:Nat} {T:TypeId} {tH:List KV} {hO:Nat->KV} {JR oD:List Value} {wu:Option (Nat×Nat)} (h:gU P E A B)
  (xV:A1.next=A.next) (Ru:∀ c o,A1.get c=some o->A.get c=some o\/(o = .dead/\c < A.next))
  (f1:∀ c v,A1.get c=some (.arr v)->∀ y L N,E.α c=some (y,L,N)->¬ X y/\∀ cs e own g k,B.get y=some (.row cs e own (some (g,k)))->¬ G g)
  (f2:∀ y,X y->AR A E y) (f3:∀ g,G g->AF A E B g/\g < B.next/\(∀ f,E.φ f≠some g)/\∀ y∈B.members g,¬ X y->E.z y=none/\¬ AR A E y/\∀ c,E.κ c≠some y)
  (n1:X y2\/B.next<=y2) (n1' : y2 < B'.next) (amU:B'.get y2=some (.row oD (bp P T) true wu)) (n2:∀ g k,wu=some (g,k)->G g\/(B.next<=g/\g < B'.next))
  (b1:∀ y,y < B.next->¬ X y->B'.get y=B.get y\/(B'.get y=some .dead/\∃ g,G g/\y∈B.members g))
  (b2:∀ y,X y->∀ cs e own bV,B'.get y=some (.row cs e own bV)->∃ c,B.get y=some (.row c e own bV)/\c.length=cs.length)
  (b3:∀ q y,y∈B'.members q->y∈B.members q\/(y=y2/\B.next<=y2/\∃ k,wu=some (q,k))) (b3' : ∀ q,(∀ k,wu≠some (q,k))->B'.members q=B.members q)
  (b4:B.next<=B'.next) (b4' : ∀ g,B'.next<=g->B'.members g = []) (awp:∀ g y,y∈B'.members g->y < B'.next)
  (gI:1<=bp P T) (ht:ko P T N2 tH hO) (Uw:bo P E tH JR) (hl:ss (bp P T) 0 oD JR) :
  eX P E A B (E.JU A.next (y2,oD.length,N2)) (A1.new (.arr (.ts T .any N2 tH hO))) B':=by
 have hle:=Env.asx (p:=(y2,oD.length,N2)) h;have asy:E.α A.next=none:=by
  cases hq:E.α A.next with
  | none=>rfl
  | some p=>have:=h.ar.oC _ p hq; omega
 have hXlt:∀ y,X y->y < B.next:=fun y hy=>h.Nb (f2 y hy);have Ux:∀ y,y < B.next->¬ X y->(E.z y≠none\/AR A E y\/∃ c,E.κ c=some y)->B'.get y=B.get y:=by
  intro y bt hy hs;rcases b1 y bt hy with e | ⟨_,g,hg,h2⟩
  ·exact e
  ·obtain ⟨_,_,_,h3⟩:=f3 g hg
   obtain ⟨h4,h5,h6⟩:=h3 y h2 hy;rcases hs with hs | hs | ⟨c,hs⟩
   ·exact absurd h4 hs
   ·exact absurd hs h5
   ·exact absurd hs (h6 c)
 have hXz:∀ y,X y->E.z y=none/\∀ c,E.κ c≠some y:=fun y hy=>h.ar.z y (f2 y hy);have mi:∀ c o,(A1.new (.arr (.ts T .any N2 tH hO))).get c=some o->(c=A.next/\o = .arr (.ts T .any N2 tH hO))\/(c≠A.next/\A1.get c=some o):=fun c o hc=>by
  rw [aB.dQ,xV] at hc;split at hc
  ·rename_i e; simp at hc; exact .inl ⟨e,hc.symm⟩
  ·rename_i e; exact .inr ⟨e,hc⟩
 have hold:∀ c o,A1.get c=some o->o≠.dead->A.get c=some o:=fun c o hc hd=>by
  rcases Ru c o hc with e | ⟨e,_⟩
  ·exact e
  ·exact absurd e hd
 have z0:∀ c v,(A1.new (.arr (.ts T .any N2 tH hO))).get c=some (.arr v)->(c=A.next/\v = .ts T .any N2 tH hO/\(E.JU A.next (y2,oD.length,N2)).α c=some (y2,oD.length,N2))\/(c≠A.next/\A1.get c=some (.arr v)/\A.get c=some (.arr v)/\(E.JU A.next (y2,oD.length,N2)).α c=E.α c):=fun c v hc=>by
  rcases mi c _ hc with ⟨e,e2⟩ | ⟨e,e2⟩
  ·simp at e2
   exact .inl ⟨e,e2,by rw [e]; exact Env.GN⟩
  ·exact .inr ⟨e,e2,hold c _ e2 (by simp),Env.Pz e⟩
 have Ks:∀ c v y L N,A1.get c=some (.arr v)->E.α c=some (y,L,N)->AR A E y/\¬ X y/\y < B.next/\B'.get y=B.get y:=fun c v y L N h1 h2=>by
  have h3:AR A E y:=⟨c,v,L,N,hold c _ h1 (by simp),h2⟩
  obtain ⟨h4,_⟩:=f1 c v h1 y L N h2;have h5:=h.Nb h3;exact ⟨h3,h4,h5,Ux y h5 h4 (.inr (.inl h3))⟩
 have Uy:∀ y,AR (A1.new (.arr (.ts T .any N2 tH hO))) (E.JU A.next (y2,oD.length,N2)) y->y=y2\/(AR A E y/\¬ X y):=fun y q=>by
  obtain ⟨c,v,L,M,h1,h2⟩:=q;rcases z0 c v h1 with ⟨_,_,e⟩ | ⟨_,e1,e2,e⟩
  ·rw [e] at h2; simp at h2; exact .inl h2.1.symm
  ·rw [e] at h2
   obtain ⟨h3,h4,_⟩:=Ks c v y L M e1 h2;exact .inr ⟨h3,h4⟩
 have asz:∀ y,y=y2->AR A E y\/B.next<=y:=fun y e=>by
  subst e;exact n1.imp (f2 y) id
 have amT:∀ g,AF (A1.new (.arr (.ts T .any N2 tH hO))) (E.JU A.next (y2,oD.length,N2)) B' g->(∃ k,wu=some (g,k))\/(AF A E B g/\¬ G g/\g < B.next):=fun g q=>by
  obtain ⟨c,v,y,L,M,sH,e,own,k,h1,h2,h3⟩:=q;rcases z0 c v h1 with ⟨_,_,e⟩ | ⟨_,e1,e2,e⟩
  ·rw [e] at h2
   simp at h2;rw [<- h2.1,amU] at h3;simp at h3;exact .inl ⟨k,h3.2.2.2⟩
  ·rw [e] at h2
   obtain ⟨_,_,_,h4⟩:=Ks c v y L M e1 h2;rw [h4] at h3;refine .inr ⟨⟨c,v,y,L,M,sH,_,own,k,e2,h2,h3⟩,(f1 c v e1 y L M h2).2 _ _ _ _ _ h3,(h.ar.xB c v y L M _ _ _ g k e2 h2 h3).1⟩
 have au1:∀ g,(∃ k,wu=some (g,k))->AF A E B g\/B.next<=g:=fun g ⟨k,e⟩=>by
  rcases n2 g k e with hg | ⟨hg,_⟩
  ·exact .inl (f3 g hg).1
  ·exact .inr hg
 refine ⟨⟨?_,?_,?_,h.apart,h.inj,?_,fun b x e=>by rw [aB.cD,xV]; have:=h.oC b x e; omega,fun b g e=>by rw [aB.cD,xV]; have:=h.qJ b g e; omega,?_,fun b x e=>by have:=h.jd b x e; omega,fun b r e=>by have:=h.rb b r e; omega,fun b g e=>by have:=h.mM b g e; omega,b4',awp,?_⟩,hle,by rw [aB.cD,xV]; omega,?_,fun _ _ e=>.inl e,fun _ _ e=>.inl e,fun _ _ e=>.inl e,?_,fun y q=>?_,fun g q=>?_,fun g y q=>?_,fun y q=>?_,?_⟩
 ·intro c sH cc hc
  rcases mi c _ hc with ⟨_,e⟩ | ⟨_,e⟩
  ·simp at e
  ·obtain ⟨y,c1,h1,h2,h3⟩:=h.row c sH cc (hold c _ e (by simp))
   have hy : ¬ X y:=fun e=>(hXz y e).2 c h1;exact ⟨y,c1,h1,by rw [Ux y (h.jd c y h1) hy (.inr (.inr ⟨c,h1⟩))]; exact h2,h3.mono hle⟩
 ·intro c top Lo hc
  rcases mi c _ hc with ⟨_,e⟩ | ⟨_,e⟩
  ·simp at e
  ·rcases h.aZ c top Lo (hold c _ e (by simp)) with h1 | ⟨g,h1,h2,h3⟩
   ·exact .inl h1
   ·refine .inr ⟨g,h1,h2,fun y hy sH e own f k hr=>?_⟩
    have hgG:∀ k,wu≠some (g,k):=fun k e=>by
     rcases n2 g k e with hg | ⟨hg,_⟩
     ·exact (f3 g hg).2.2.1 c h1
     ·have:=h.mM c g h1; omega
    rw [b3' g hgG] at hy;have bt:=h.mem g y hy;by_cases Iw:X y
    ·obtain ⟨c0,h4,h5⟩:=b2 y Iw _ _ _ _ hr
     obtain ⟨h6,h7⟩:=h3 y hy c0 _ _ f k h4;exact ⟨h6,by rw [<- h5]; exact h7⟩
    ·rcases b1 y bt Iw with e1 | ⟨e1,_⟩
     ·rw [e1] at hr; exact h3 y hy sH _ own f k hr
     ·rw [e1] at hr; simp at hr
 ·intro y r hy
  have hy:E.z y=some r:=hy;have Iw : ¬ X y:=fun e=>by have:=(hXz y e).1; rw [hy] at this; simp at this
  rw [Ux y (h.rb y r hy) Iw (.inl (by rw [hy]; simp))];exact h.z y r hy
 ·intro b c g tb sb tc sc hb hc e1 e2
  rcases mi b _ hb with ⟨_,e⟩ | ⟨_,hb⟩
  ·simp at e
  rcases mi c _ hc with ⟨_,e⟩ | ⟨_,hc⟩
  ·simp at e
  exact h.lT b c g _ _ _ _ (hold b _ hb (by simp)) (hold c _ hc (by simp)) e1 e2
 ·intro c o hc
  rw [aB.cD,xV];rcases mi c _ hc with ⟨e,_⟩ | ⟨_,e⟩
  ·omega
  ·rcases Ru c o e with e | ⟨_,e⟩
   ·have:=h.live c o e; omega
   ·omega
 ·refine ⟨?_,?_,?_,?_,?_,?_,?_,?_,?_,?_⟩
  ·intro c v hc
   rcases z0 c v hc with ⟨_,rfl,e⟩ | ⟨_,e1,e2,e⟩
   ·exact ⟨T,N2,tH,hO,rfl,ht,gI,.inr ⟨y2,oD,wu,JR,e,amU,Uw.mono hle,hl⟩⟩
   ·exact (h.ar.arr c v e2).mono hle e fun y L M hy=>(Ks c v y L M e1 hy).2.2.2
  ·intro c v hc
   rcases mi c _ hc with ⟨_,e⟩ | ⟨eY,e⟩
   ·simp at e
   ·exact (h.ar.lR c v (hold c _ e (by simp))).mono hle (Env.Pz eY)
  ·intro y q
   rcases Uy y q with e | ⟨e,_⟩
   ·subst e
    rcases n1 with hx | hx
    ·exact hXz y hx
    ·refine ⟨?_,fun c e=>by have:=h.jd c y e; omega⟩
     cases hz:E.z y with
     | none=>exact hz
     | some r=>have:=h.rb y r hz; omega
   ·exact h.ar.z y e
  ·intro c d v u y L M L' M' h1 h2 h3 h4
   rcases z0 c v h1 with ⟨e1,_,e⟩ | ⟨_,p1,p2,e⟩ <;> rcases z0 d u h2 with ⟨e2,_,e'⟩ | ⟨_,q1,q2,e'⟩
   ·omega
   ·rw [e] at h3; rw [e'] at h4
    simp at h3;obtain ⟨_,h5,h6,_⟩:=Ks d u y L' M' q1 h4;rw [<- h3.1] at h5 h6;rcases n1 with hx | hx
    ·exact absurd hx h5
    ·omega
   ·rw [e] at h3; rw [e'] at h4
    simp at h4;obtain ⟨_,h5,h6,_⟩:=Ks c v y L M p1 h3;rw [<- h4.1] at h5 h6;rcases n1 with hx | hx
    ·exact absurd hx h5
    ·omega
   ·rw [e] at h3; rw [e'] at h4
    exact h.ar.inj c d v u y L M L' M' p2 q2 h3 h4
  ·intro c d v u y w L M L' M' sH e own g k cs3 e' tJ k' h1 h2 h3 h4 h5 h6
   have Lr:∀ {c v y L M sH e own k k2},A1.get c=some (.arr v)->E.α c=some (y,L,M)->B'.get y=some (.row sH e own (some (g,k)))->wu=some (g,k2)->False:=by
    intro c v y L M sH e own k k2 q1 q2 q3 q4;obtain ⟨r1,r2,r3,r4⟩:=Ks c v y L M q1 q2;rw [r4] at q3;rcases n2 g k2 q4 with hg | ⟨hg,_⟩
    ·exact (f1 c v q1 y L M q2).2 _ _ _ _ _ q3 hg
    ·have:=(h.ar.xB c v y L M _ _ _ g k (hold c _ q1 (by simp)) q2 q3).1; omega
   rcases z0 c v h1 with ⟨e1,_,ea⟩ | ⟨_,p1,p2,ea⟩ <;> rcases z0 d u h2 with ⟨e2,_,eb⟩ | ⟨_,q1,q2,eb⟩
   ·omega
   ·rw [ea] at h3; rw [eb] at h4
    simp at h3;rw [<- h3.1,amU] at h5;simp at h5;exact (Lr q1 h4 h6 h5.2.2.2).elim
   ·rw [ea] at h3; rw [eb] at h4
    simp at h4;rw [<- h4.1,amU] at h6;simp at h6;exact (Lr p1 h3 h5 h6.2.2.2).elim
   ·rw [ea] at h3; rw [eb] at h4
    rw [(Ks c v y L M p1 h3).2.2.2] at h5;rw [(Ks d u w L' M' q1 h4).2.2.2] at h6;exact h.ar.zi c d v u y w L M L' M' _ _ _ g k _ _ _ k' p2 q2 h3 h4 h5 h6
  ·intro b x e
   have hb:=h.oC b x e;rw [Env.Pz (by omega)];exact h.ar.dis b x e
  ·intro b p e
   rw [aB.cD,xV];by_cases hb:b=A.next
   ·omega
   ·rw [Env.Pz hb] at e; have:=h.ar.oC b p e; omega
  ·intro b x L N e
   by_cases hb:b=A.next
   ·subst hb; rw [Env.GN] at e; simp at e; omega
   ·rw [Env.Pz hb] at e; have:=h.ar.jd b x L N e; omega
  ·intro c v y L M sH e own g k h1 h2 h3
   rcases z0 c v h1 with ⟨_,_,ea⟩ | ⟨_,p1,p2,ea⟩
   ·rw [ea] at h2
    simp at h2;obtain ⟨rfl,_⟩:=h2;rw [amU] at h3;simp at h3;have hk:=h3.2.2.2;refine ⟨?_,fun f e=>?_,fun z hz eY=>?_⟩
    ·rcases n2 g k hk with hg | ⟨_,hg⟩
     ·have:=(f3 g hg).2.1; omega
     ·exact hg
    ·rcases n2 g k hk with hg | ⟨hg,_⟩
     ·exact (f3 g hg).2.2.1 f e
     ·have:=h.mM f g e; omega
    ·rcases b3 g z hz with hz | ⟨e,_⟩
     ·rcases n2 g k hk with hg | ⟨hg,_⟩
      ·by_cases ap8:X z
       ·exact ⟨(hXz z ap8).1,fun q=>by
         rcases Uy z q with e | ⟨_,e⟩
         ·exact eY e
         ·exact e ap8,(hXz z ap8).2⟩
       ·obtain ⟨h7,h8,h9⟩:=(f3 g hg).2.2.2 z hz ap8
        refine ⟨h7,fun q=>?_,h9⟩;rcases Uy z q with e | ⟨e,_⟩
        ·exact eY e
        ·exact h8 e
      ·rw [h.fresh g hg] at hz; simp at hz
     ·exact absurd e eY
   ·rw [ea] at h2
    obtain ⟨r1,r2,r3,r4⟩:=Ks c v y L M p1 h2;rw [r4] at h3;obtain ⟨h4,h5,h6⟩:=h.ar.xB c v y L M _ _ _ g k p2 h2 h3;refine ⟨by omega,h5,fun z hz eY=>?_⟩;have hnG:=(f1 c v p1 y L M h2).2 _ _ _ _ _ h3;rw [b3' g (fun k e=>by
     rcases n2 g k e with hg | ⟨hg,_⟩
     ·exact hnG hg
     ·omega)] at hz
    obtain ⟨h7,h8,h9⟩:=h6 z hz eY;refine ⟨h7,fun q=>?_,h9⟩;rcases Uy z q with e | ⟨e,_⟩
    ·subst e
     rcases n1 with hx | hx
     ·exact h8 (f2 z hx)
     ·have:=h.mem g z hz; omega
    ·exact h8 e
  ·intro c v hc
   rw [aB.cD,xV];rcases z0 c v hc with ⟨e1,_,_⟩ | ⟨_,_,e2,_⟩
   ·subst e1
    refine ⟨Nat.lt_succ_self _,?_⟩;show E.κ A.next=none;cases hk:E.κ A.next with
    | none=>rfl
    | some x=>have:=h.oC _ x hk; omega
   ·obtain ⟨q1,q2⟩:=h.ar.nk c v e2
    exact ⟨by omega,q2⟩
 ·intro y hy hn ha
  by_cases Iw:X y
  ·exact absurd (.inl (f2 y Iw)) ha
  ·rcases b1 y hy Iw with e | ⟨_,g,hg,h2⟩
   ·exact e
   ·exact absurd (.inr ⟨g,(f3 g hg).1,h2⟩) ha
 ·intro g hg hn ha
  refine b3' g fun k e=>?_;rcases n2 g k e with hg' | ⟨hg',_⟩
  ·exact ha (f3 g hg').1
  ·omega
 ·rcases Uy y q with e | ⟨e,_⟩
  ·exact asz y e
  ·exact .inl e
 ·rcases amT g q with e | ⟨e,_⟩
  ·exact au1 g e
  ·exact .inl e
 ·rcases b3 g y q with e | ⟨e,e2,_⟩
  ·exact .inl e
  ·exact .inr (by omega)
 ·rcases q with q | ⟨g,h1,h2⟩
  ·rcases Uy y q with e | ⟨e,_⟩
   ·rcases asz y e with e | e
    ·exact .inl (.inl e)
    ·exact .inr e
   ·exact .inl (.inl e)
  ·rcases b3 g y h2 with e | ⟨e,e2,_⟩
   ·rcases amT g h1 with e1 | ⟨e1,_⟩
    ·rcases au1 g e1 with e2 | e2
     ·exact .inl (.inr ⟨g,e2,e⟩)
     ·rw [h.fresh g e2] at e; simp at e
    ·exact .inl (.inr ⟨g,e1,e⟩)
   ·exact .inr (by omega)
 ·intro y hy sH e own aaf hr
  by_cases Iw:X y
  ·exact b2 y Iw sH e own aaf hr
  ·rcases b1 y hy Iw with e1 | ⟨e1,_⟩
   ·exact ⟨sH,by rw [<- e1]; exact hr,rfl⟩
   ·rw [e1] at hr; simp at hr
end Go.K
end
section
namespace Go.K
open Go Go.aF
variable {P:Program} {E:Env}
theorem eX.avB {A:aB} {B:St} {c:List Value} {n:Nat} (h:gU P E A B):eX P E A B (E.iw B.next ⟨c,n,true,some (B.next,0)⟩) A (B.grow B.next 0 c n):=by
 have qB:∀ x,(B.grow B.next 0 c n).get x=if x=B.next then some (.row c n true (some (B.next,0))) else B.get x:=fun x=>by simp [St.grow]
 have oK:∀ q,(B.grow B.next 0 c n).members q=if q=B.next then B.next::B.members B.next else B.members q:=fun q=>by simp [St.grow,St.HQ]
 have kl:(B.grow B.next 0 c n).next=B.next+1:=rfl;have hle:E.le (E.iw B.next ⟨c,n,true,some (B.next,0)⟩):=⟨fun _ _ e=>e,fun _ _ e=>e,fun b r e=>by
  have:=h.rb b r e;simp only [Env.iw]; rw [ay (by omega)]; exact e,fun _ _ e=>e⟩
 generalize B.grow B.next 0 c n=B' at qB oK kl;have DD:∀ x,x < B.next->B'.get x=B.get x:=fun x hx=>by rw [qB,ay (by omega)]
 have MS:∀ b r,(E.iw B.next ⟨c,n,true,some (B.next,0)⟩).z b=some r->E.z b=some r\/B.next<=b:=fun b r e=>by
  simp only [Env.iw] at e;split at e
  ·exact .inr (by omega)
  ·exact .inl e
 have hmk:∀ q,AF A E B q->B'.members q=B.members q:=fun q hq=>by
  rw [oK,ay];intro e2;obtain ⟨b,v,x,L,N,cs,e,own,k,h1,h2,h3⟩:=hq;obtain ⟨h4,h5,_⟩:=h.ar.xB b v x L N cs e own q k h1 h2 h3;omega
 have aoO:∀ q y,y∈B'.members q->y∈B.members q\/B.next<=y:=fun q y hy=>by
  rw [oK] at hy;split at hy
  ·rename_i e2
   subst e2;rcases fp.1 hy with hy | hy
   ·exact .inr (by omega)
   ·exact .inl hy
  ·exact .inl hy
 refine ⟨⟨?_,?_,?_,?_,h.inj,h.lT,h.oC,h.qJ,h.live,?_,?_,?_,?_,?_,h.ar.pF hle (fun _=>rfl) (fun _ _ e=>e) (fun _ _ e=>e) (aW _) (by omega) (fun x q=>DD x (h.Nb q)) MS (fun _ _ e=>.inl e) (fun b q e=>.inl ⟨b,e⟩) hmk h.mem⟩,hle,aW _,?_,fun b x e=>.inl e,fun b r e=>(MS b r e).imp id .inr,fun b q e=>.inl e,fun q hq hn _=>by rw [oK,ay (by omega)],fun _ q=>.inl q,fun _ q=>.inl (q.of (fun _=>rfl) (fun _ _ e=>e) fun x q=>DD x (h.Nb q)),aoO,fun _ q=>.inl (q.of (fun _=>rfl) (fun _ _ e=>e) (fun x q=>DD x (h.Nb q)) hmk),qL DD⟩
 ·intro b pE Ut hb
  obtain ⟨x,d,h1,h2,h3⟩:=h.row b pE Ut hb;have:=h.jd b x h1;exact ⟨x,d,h1,by rw [qB,ay (by omega)]; exact h2,h3.mono hle⟩
 ·intro b top Lo hb
  rcases h.aZ b top Lo hb with h1 | ⟨g,h1,hp0,h2⟩
  ·exact .inl h1
  ·have hg:=h.mM b g h1
   refine .inr ⟨g,h1,hp0,fun x hx d e own f k hr=>?_⟩;rw [oK,ay (by omega)] at hx;have:=h.mem g x hx;rw [qB,ay (by omega)] at hr;exact h2 x hx d e own f k hr
 ·intro b r hb
  simp only [Env.iw] at hb;rw [qB];split at hb
  ·rename_i e; simp at hb; subst hb; rw [aV e]
  ·rename_i e; rw [ay e]; exact h.z b r hb
 ·intro b x hb
  have:=h.jd b x hb;simp only [Env.iw];rw [ay (by omega)];exact h.apart b x hb
 ·intro b x hb; have:=h.jd b x hb; omega
 ·intro b r hb
  simp only [Env.iw] at hb;rw [kl];split at hb
  ·omega
  ·have:=h.rb b r hb; omega
 ·intro b g hb; have:=h.mM b g hb; omega
 ·intro g hg
  rw [kl] at hg;rw [oK,ay (by omega)];exact h.fresh g (by omega)
 ·intro g x hx
  rw [kl];rw [oK] at hx;split at hx
  ·rcases fp.1 hx with hx | hx
   ·omega
   ·have:=h.mem _ x hx; omega
  ·have:=h.mem g x hx; omega
 ·intro x hx _ _; rw [qB,ay (by omega)]
theorem eX.after {A A1 A2:aB} {B B2:St} {E2:Env} (h:eX P E A B E A1 B) (k:eX P E A1 B E2 A2 B2):eX P E A B E2 A2 B2 where
 kV:=k.kV
 le:=k.le
 next:=uO h.next k.next
 pF x hx hn ha:=k.pF x hx hn fun q=>(h.r6 x q).elim ha fun e=>by omega
 new:=k.new
 yp b r e:=by
  rcases k.yp b r e with e | e | e
  ·exact .inl e
  ·exact .inr (h.qt b e)
  ·exact .inr (.inr e)
 yq:=k.yq
 uz g hg hn ha:=k.uz g hg hn fun q=>(h.qK g q).elim ha fun e=>by omega
 qt x q:=(k.qt x q).elim (h.qt x) .inr
 qK g q:=(k.qK g q).elim (h.qK g) .inr
 zX:=k.zX
 r6 y q:=(k.r6 y q).elim (h.r6 y) .inr
 rows:=k.rows
theorem eX.ap9 {A:aB} {B:St} {f t:Nat} (sz:Nat) (h:gU P E A B) {Lo:Nat} (hA:A.get f=some (.aZ t Lo)) (Oe:E.φ f=none):eX P E A B E (A.put f (.aZ 0 sz)) B:=by
 have hAk:∀ (b:Nat) (v:KV),(A.put f (.aZ 0 sz)).get b=some (.arr v)->A.get b=some (.arr v):=fun b v hb=>by
  rw [aB.cr] at hb;split at hb
  ·simp at hb
  ·exact hb
 have hfz:∀ (b:Nat) (v:KV),(A.put f (.aZ 0 sz)).get b=some (.lR v)->A.get b=some (.lR v):=fun b v hb=>by
  rw [aB.cr] at hb;split at hb
  ·simp at hb
  ·exact hb
 refine ⟨⟨fun b cs cc hb=>?_,fun b top Lo hb=>?_,h.z,h.apart,h.inj,h.lT.put (.inr Oe),h.oC,h.qJ,fun b o hb=>?_,h.jd,h.rb,h.mM,h.fresh,h.mem,h.ar.pF (Env.le_refl _) (fun _=>rfl) hAk hfz (aW _) (aW _) (fun _ _=>rfl) (fun _ _ e=>.inl e) (fun _ _ e=>.inl e) (fun b g e=>.inl ⟨b,e⟩) (fun _ _=>rfl) h.mem⟩,Env.le_refl _,aW _,fun _ _ _ _=>rfl,fun _ _ e=>.inl e,fun _ _ e=>.inl e,fun _ _ e=>.inl e,fun _ _ _ _=>rfl,fun _ q=>.inl (q.of (fun _=>rfl) hAk),fun _ q=>.inl (q.of (fun _=>rfl) hAk fun _ _=>rfl),fun _ _ q=>.inl q,fun _ q=>.inl (q.of (fun _=>rfl) hAk (fun _ _=>rfl) fun _ _=>rfl),qL fun _ _=>rfl⟩
 ·rw [aB.cr] at hb
  split at hb
  ·simp at hb
  ·exact h.row b cs cc hb
 ·rw [aB.cr] at hb
  split at hb
  ·rename_i e2; simp at hb; exact .inl ⟨hb.1.symm,by rw [e2]; exact Oe⟩
  ·exact h.aZ b top Lo hb
 ·rw [aB.cr] at hb
  split at hb
  ·rename_i e2; rw [e2]; exact h.live f _ hA
  ·exact h.live b o hb
theorem asA {t:TypeId} (hu:P.underlying t=some (.int .u8)):bu P t=⟨false,[.int .u8]⟩:=by
 unfold bu;rw [lay,hu];rfl
theorem alh {e:TypeId} (he:isByte P e=true):auW P (YE e) Q3:=by
 intro E A B vs us v h hv hg;unfold YE at hg;split at hg
 ·rename_i s
  obtain ⟨u,rfl,h1⟩:=hv.gu;have:=h1.wC; subst this;have hg:KV.ts e .any s.size _ _=v:=hg;subst hg;have hu:P.underlying e=some (.int .u8):=by
   unfold isByte at he;split at he
   ·assumption
   ·simp at he
  have au2:bu P e=⟨false,[.int .u8]⟩:=asA hu;refine ⟨_,_,_,rfl,?_,eX.avB h⟩;simp only [VK];have gI:bp P e=1:=by unfold bp; rw [au2]; rfl
  refine ⟨⟨by simp,fun i hi=>?_,?_⟩,nL s.data.toList,?_,some ⟨B.next,0,none⟩,s.size,rfl,aW _,.inr ⟨B.next,0,⟨nL s.data.toList,1,true,some (B.next,0)⟩,rfl,by simp [Env.iw],gI.symm,?_⟩,trivial⟩
  ·have Yq:i < s.data.toList.length:=by simpa using hi
   simp only [List.getD,AZ,dF Yq,Option.map_some,bq]
  ·rw [au2]
   induction s.data.toList with
   | nil=>rfl
   | cons b l ih=>simp [gY,cI,aO,kindOk,ih]
  ·generalize E.iw B.next _=E'
   induction s.data.toList with
   | nil=>exact .nil
   | cons b l ih=>exact .cons .mkInt ih
  ·rw [gI]
   intro i x hx;obtain ⟨b,_,rfl⟩:∃ b,s.data.toList[i]? = some b/\x = .int .u8 b.toNat:=by
    simp only [nL,AZ,de] at hx;obtain ⟨b,h1,h2⟩:=hx;exact ⟨b,h1,h2.symm⟩
   refine ⟨rfl,fun k y hy=>?_⟩;have hk:k=0:=by
    have:=(EN.1 hy).1;simp [Value.cells] at this;exact this
   subst hk;simp [Value.cells] at hy;subst hy;simpa using hx
 ·exact hg.elim
theorem Rv {B:St} {b off n sz:Nat} {r:amE} {bC:List Value} (hr:B.get b=some (.row r.cs r.cc r.own r.bV)) (hl:ss sz off r.cs bC) (hn:bC.length=n) (gI:1<=sz) :
  B.B8 ⟨b,off,none⟩ (n * sz)=some (bO bC):=by
 have hs:∀ v∈bC,v.cells.size=sz:=fun v hv=>by
  obtain ⟨i,hi⟩:=List.getElem?_of_mem hv;exact (hl i v hi).1
 have hlen:=kW hs;have Pc:=qi hs;have sE:∀ j,j < n * sz->r.cs[off+j]? = (bO bC)[j]?:=by
  intro j hj;have hi:j / sz < bC.length:=by rw [hn]; exact Nat.div_lt_of_lt_mul (by rw [Nat.mul_comm]; exact hj)
  have hv:bC[j / sz]? = some bC[j / sz]:=dF hi;have hk:j % sz < bC[j / sz].cells.size:=by rw [hs _ (Wc hi)]; exact Nat.mod_lt _ gI
  have hy:bC[j / sz].cells[j % sz]? = some (bC[j / sz].cells[j % sz]):=by simp [hk]
  have h1:=(hl _ _ hv).2 _ _ hy;have h2:=(Pc _ _ hv).2 _ _ hy;have Rw:j / sz * sz+j % sz=j:=by rw [Nat.mul_comm]; exact Nat.div_add_mod j sz
  rw [HL,Rw] at h1;rw [bh,Rw] at h2;rw [h1,h2]
 simp only [St.B8,dC,Option.isNone_none,ai,Eb,hr,gE];rw [hn] at hlen;have hle:n * sz<=(r.cs.drop off).length:=by
  cases hm:n * sz with
  | zero=>omega
  | succ q=>
   have:=sE q (by omega);rw [dF (show q < (bO bC).length by omega)] at this;have h7:=(dD.1 this).1;rw [List.length_drop];omega
 rw [wo,Pv hle];congr 1;apply List.ext_getElem?;intro i;rw [rj];split
 ·rename_i hi
  rw [rJ];exact sE i hi
 ·exact (afN.2 (by omega)).symm
theorem aha {T:TypeId} {m:Mk} {n:Nat} {es:List KV} {acc:Nat->KV} {u:Value} {A:aB} {B:St} (h:gU P E A B) (hv:VK P E (.ts T m n es acc) u) (gI:1<=bp P T) :
  ∃ bC,bo P E es bC/\adR u=some n/\A6 B (bp P T) n u=some (bO bC)/\(∀ v∈bC,v.cells.size=bp P T)/\bC.length=n/\es.length=n/\gY (bu P T) es=true:=by
 obtain ⟨ht,bC,h1,a,cap,rfl,h2,h3,_⟩:=hv.pL;have hlen:=ht.len;have tG:bC.length=n:=by rw [h1.length]; exact hlen.symm
 have hs:=sJ ht.typed h1;refine ⟨bC,h1,rfl,?_,fun v hv=>(hs v hv).1,tG,hlen.symm,ht.typed⟩;rcases h3 with ⟨rfl,h0⟩ | ⟨b,off,r,rfl,h4,h5,h6⟩
 ·have:bC = []:=qv.1 (by omega)
  subst this;simp [A6,h0,bO]
 ·exact Rv (h.z b r h4) h6 tG gI
theorem ko.join {T:TypeId} {n m:Nat} {es fs:List KV} {f g:Nat->KV} (h:ko P T n es f) (k:ko P T m fs g):ko P T (n+m) (es++fs) (dS n f g) where
 len:=by rw [n7,<- h.len,<- k.len]
 acc i hi:=by
  unfold dS;by_cases hn:i < n
  ·have:Nat.blt i n=true:=by rw [bZ]; exact hn
   rw [this,ai,h.acc i hn,iQ,iQ,ue (by rw [<- h.len]; exact hn)]
  ·have:Nat.blt i n=false:=by
    cases hb:Nat.blt i n with
    | false=>rfl
    | true=>rw [bZ] at hb; omega
   rw [this,aw,k.acc (i - n) (by omega),iQ,iQ,vU (by rw [<- h.len]; omega),<- h.len]
 typed:=SR h.typed k.typed
theorem ko.none {T:TypeId} {g:Nat->KV} : ko P T 0 [] g:=⟨rfl,fun i h=>by omega,rfl⟩
structure Src (P:Program) (E:Env) (B:St) (T:TypeId) (n:Nat) (es:List KV) (acc:Nat->KV) (u:Value) (bC:List Value):Prop where
 tree:ko P T n es acc
 rel:bo P E es bC
 len:adR u=some n
 size:∀ v∈bC,v.cells.size=bp P T
 length:bC.length=n
 first:∀ k,k<=n->A6 B (bp P T) k u=some (bO (bC.take k))
theorem Src.all {B:St} {T:TypeId} {n:Nat} {es:List KV} {acc:Nat->KV} {u:Value} {bC:List Value} (h:Src P E B T n es acc u bC):A6 B (bp P T) n u=some (bO bC):=by
 rw [h.first n (aW _),EO (Nat.le_of_eq h.length)]
theorem ss.take {sz off:Nat} {cs es:List Value} (h:ss sz off cs es) (k:Nat):ss sz off cs (es.take k):=fun i x hi=>h i x (by
 rw [rj] at hi;split at hi
 ·exact hi
 ·simp at hi)
theorem ss.drop {sz off:Nat} {cs es:List Value} (h:ss sz off cs es) (o:Nat):ss sz (off+o * sz) cs (es.drop o):=fun i x hi=>by
 rw [rJ] at hi;obtain ⟨h1,h2⟩:=h (o+i) x hi;refine ⟨h1,fun k y hy=>?_⟩;rw [<- h2 k y hy,Nat.add_mul];congr 1;omega
theorem auq {T:TypeId} {m:Mk} {n:Nat} {es:List KV} {acc:Nat->KV} {u:Value} {A:aB} {B:St} (h:gU P E A B) (hv:VK P E (.ts T m n es acc) u) (gI:1<=bp P T):∃ bC,Src P E B T n es acc u bC:=by
 obtain ⟨ht,bC,h1,a,cap,rfl,h2,h3,_⟩:=hv.pL;have tG:bC.length=n:=by rw [h1.length]; exact ht.len.symm
 have hs:=sJ ht.typed h1;refine ⟨bC,ht,h1,rfl,fun v hv=>(hs v hv).1,tG,fun k hk=>?_⟩;rcases h3 with ⟨rfl,h0⟩ | ⟨b,off,r,rfl,h4,h5,h6⟩
 ·have:bC = []:=qv.1 (by omega)
  subst this;have:k=0:=by omega
  subst this;simp [A6,bO]
 ·exact Rv (h.z b r h4) (h6.take k) (by rw [pz]; omega) gI
theorem aur {T:TypeId} {m:Mk} {b o n N:Nat} {es:List KV} {acc:Nat->KV} {u:Value} {A:aB} {B:St} (h:gU P E A B) (hv:VK P E (.al T b o n) u) (ha:Ob A b=some (.ts T m N es acc)) (gI:1<=bp P T) :
  ∃ bC,Src P E B T n ((es.drop o).take n) (fun i=>acc (o+i)) u bC:=by
 have row:∀ {x:Nat} {r:amE} {bC:List Value} {c:Nat},u = .slice (some ⟨x,o * bp P T,none⟩) n c->o+n<=N->ko P T N es acc->B.get x=some (.row r.cs r.cc r.own r.bV)->bo P E es bC->ss (bp P T) 0 r.cs bC->∃ bC,Src P E B T n ((es.drop o).take n) (fun i=>acc (o+i)) u bC:=by
  intro x r bC c hu hon ht hr Uw hl;subst hu;have aoR:bC.length=N:=by rw [Uw.length]; exact ht.len.symm
  have aoS:((es.drop o).take n).length=n:=by rw [pz,List.length_drop,<- ht.len]; omega
  have asB:((bC.drop o).take n).length=n:=by rw [pz,List.length_drop,aoR]; omega
  have hs:=sJ ht.typed Uw;refine ⟨(bC.drop o).take n,⟨aoS.symm,fun i hi=>?_,sY fun i x hi=>?_⟩,(Uw.drop o).take n,rfl,fun v hv=>(hs v (List.mem_of_mem_drop (List.mem_of_mem_take hv))).1,asB,fun k hk=>?_⟩
  ·rw [ht.acc (o+i) (by omega),iQ,iQ,rj,aV hi,rJ]
  ·rw [rj] at hi
   split at hi
   ·rw [rJ] at hi; exact lE ht.typed hi
   ·simp at hi
  ·have qf:=((hl.drop o).take n).take k
   rw [bh] at qf;exact Rv hr qf (by rw [pz,asB]; omega) gI
 rcases hv.Bh with ⟨rfl,rfl,rfl⟩ | ⟨x,L,N0,c,h1,h2,h3,h4,h5⟩
 ·refine ⟨[],⟨by simp,fun i hi=>by omega,rfl⟩,by simpa using bo.nil,rfl,by simp,rfl,fun k hk=>?_⟩
  have:k=0:=by omega
  subst this;simp [A6,bO]
 ·unfold Ob at ha
  split at ha
  ·rename_i v hb
   simp only [dG] at ha;subst ha;obtain ⟨T2,N2,tH,hO,e,ht,_,Cc⟩:=h.ar.arr b _ hb;simp only [KV.ts.injEq] at e;obtain ⟨rfl,rfl,rfl,rfl,rfl⟩:=e;rcases Cc with ⟨_,e⟩ | ⟨x2,cs,bV,bC,e,h6,h7,h8⟩
   ·rw [h1] at e; simp at e
   ·rw [h1] at e
    simp only [dG,gF] at e;obtain ⟨rfl,rfl,rfl⟩:=e;exact row (r:=⟨cs,bp P T,true,bV⟩) h2 h4 ht h6 h7 h8
  ·rename_i v hb
   simp only [dG] at ha;subst ha;obtain ⟨T2,N2,tH,hO,e,ht,_,Cc⟩:=h.ar.lR b _ hb;simp only [KV.ts.injEq] at e;obtain ⟨rfl,rfl,rfl,rfl,rfl⟩:=e;rcases Cc with ⟨_,e⟩ | ⟨x2,r,bC,e,h6,h6',h7,h8⟩
   ·rw [h1] at e; simp at e
   ·rw [h1] at e
    simp only [dG,gF] at e;obtain ⟨rfl,rfl,rfl⟩:=e;exact row h2 h4 ht (h.z _ _ h6) h7 h8
  ·simp at ha
theorem aqa {A:aB} {B:St} {y:KV} {u:Value} {T:TypeId} {m:Mk} {n:Nat} {es:List KV} {acc:Nat->KV} (h:gU P E A B) (hv:VK P E y u) (hs:Ui A y=some (.ts T m n es acc)) (gI:1<=bp P T):∃ bC,Src P E B T n es acc u bC:=by
 unfold Ui at hs;split at hs
 ·rename_i T' b o k
  unfold ak4 at hs;split at hs
  ·rename_i T2 _ _ tH hO ha
   cases hb:Nat.beq T' T2 with
   | false=>rw [hb] at hs; simp at hs
   | true=>
    have:=bm hb;subst this;rw [hb,ai] at hs;simp only [dG,KV.ts.injEq] at hs;obtain ⟨rfl,rfl,rfl,rfl,rfl⟩:=hs;exact aur h hv ha gI
  ·simp at hs
 ·simp only [dG,KV.ts.injEq] at hs
  obtain ⟨rfl,rfl,rfl,rfl,rfl⟩:=hs;exact auq h hv gI
 ·simp at hs
theorem aoT {e n b:Nat} (hn:bp P e=n) (h1n:1<=n) {E:Env} {A A' : aB} {B:St} {x v:KV} {u w:Value} {e' : TypeId} {mk:Mk} {k:Nat} {new:List KV} {acc:Nat->KV} (h:gU P E A B) (h1:VK P E x u)
  (hsr:Nat.beq e e' = true->∃ bC,Src P E B e' k new acc w bC) (hg:ba (Uh e n b A [x,.ts e' mk k new acc]) (v,A')):∃ r B' E',pB n b B [u,w] = some (r,B')/\VK P E' v r/\eX P E A B E' A' B':=by
 have zj:1<=bp P e:=by omega
 have put:∀ (E1:Env) (A1:aB) (m f k:Nat) (base new:List KV) (ab an:Nat->KV) (more:Bool) (A2:aB) (v:KV),ba (Z5 e n b m base ab A1 f k new an more) (v,A2)->
   (more=true/\Nat.ble ((m+k+512) * b) 17592186044416=true/\Nat.ble (m+k) 17592186044416=true/\(m=0\/0 < k))/\v = .ts e (.aZ f) (m+k) (base++new) (dS m ab an)/\A2=A1.put f (.aZ (m+k) n):=by
  intro E1 A1 m f k base new ab an more A2 v hp;obtain ⟨hc,hp⟩:=ba.nI hp;simp only [ij,aD] at hc;simp only [gF] at hp;refine ⟨⟨hc.1,hc.2.1.1,hc.2.1.2,?_⟩,hp.1.symm,hp.2.symm⟩;have:=hc.2.2;simp only [uR,bZ] at this;exact this.symm.imp (fun h=>bm h) id
 unfold Uh at hg;split at hg
 ·
  rename_i e9 mk9 k9 aqb aqc heq;simp only [List.cons.injEq,KV.ts.injEq,and_true] at heq;obtain ⟨rfl,rfl,rfl,rfl,rfl,rfl⟩:=heq;have:=h1.r5; subst this;obtain ⟨he,GM⟩:=hg.cond;clear hg;obtain ⟨cO,mN⟩:=hsr he;have:=bm he;subst this;obtain ⟨⟨_,EE,vy,asC⟩,rfl,rfl⟩:=put E _ _ _ _ _ _ _ _ _ _ _ GM;have PA:=mN.tree;have h3:=mN.rel;have h4:=mN.len;have h5:=mN.all;have h6:=mN.size;have h7:=mN.length;have h8:=PA.len.symm;rw [hn] at h5 h6;have EW:=eX.ap6 n h;have hAf:(A.new (.aZ 0 n)).get A.next=some (.aZ 0 n):=by simp
  have Oe:E.φ A.next=none:=by
   cases hq:E.φ A.next with
   | none=>rfl
   | some g=>have:=h.qJ _ g hq; omega
  cases k with
  | zero=>
   have qC:new = []:=qv.1 h8;have ahb:cO = []:=qv.1 h7;subst qC ahb;refine ⟨.slice none 0 0,B,E,?_,?_,?_⟩
   ·simp only [pB,h4,gE]
    rw [h5];rfl
   ·simp only [VK]
    exact ⟨⟨rfl,fun i hi=>by omega,rfl⟩,[],.nil,none,0,rfl,aW _,.inl ⟨rfl,rfl⟩,rfl,.inl ⟨rfl,rfl⟩⟩
   ·exact EW.after (eX.ap9 n EW.kV hAf Oe)
  | succ k=>
   have hgr:=eX.grow (c:=bO cO) (top:=0) (XJ:=k+1) (sz:=n) (g:=B.next) (f:=A.next) EW.kV hAf (.inl ⟨Oe,rfl⟩) (by rw [kW h6,h7]) (by omega) (by omega);refine ⟨.slice (some ⟨B.next,0,none⟩) (k+1) (k+1),B.grow B.next 0 (bO cO) n,_,?_,?_,EW.after (by simpa using hgr)⟩
   ·simp only [bh] at EE vy
    simp only [pB,h4,gE,bh];rw [show Nat.ble (k+1) 0=false from rfl,aw,EE,vy,h5];rfl
   ·simp only [VK,bh,List.nil_append]
    have ahb:=h3.mono (Env.le_trans EW.le hgr.le);have hl:=qi h6;refine ⟨by have:=ko.none (P:=P) (T:=e) (g:=pI) |>.join PA; simpa using this,cO,ahb,_,_,rfl,aW _,.inr ⟨B.next,0,⟨bO cO,n,true,some (B.next,0)⟩,rfl,by simp [Env.wF,Env.iw],hn.symm,by rw [hn]; exact hl⟩,rfl,.inr ⟨B.next,⟨bO cO,n,true,some (B.next,0)⟩,B.next,rfl,by simp [Env.wF,Env.iw],rfl,by simp [Env.wF],rfl,?_⟩⟩;rw [hn];simp only;rw [kW h6,h7]
 ·
  rename_i e1 m es au3 e9 mk9 k9 aqb aqc heq;simp only [List.cons.injEq,KV.ts.injEq,and_true] at heq;obtain ⟨rfl,rfl,rfl,rfl,rfl,rfl⟩:=heq;obtain ⟨he,GM⟩:=hg.cond;clear hg;simp only [aD] at he;obtain ⟨cO,mN⟩:=hsr he.1;have:=bm he.1;subst this;have:=bm he.2;subst this;obtain ⟨⟨hk,EE,vy,asC⟩,rfl,rfl⟩:=put E _ _ _ _ _ _ _ _ _ _ _ GM;have hk:0 < k:=by rwa [bZ] at hk
  have Cd:=h1.pL.1;have PA:=mN.tree;have h3:=mN.rel;have h4:=mN.len;have h5:=mN.all;have h6:=mN.size;have h7:=mN.length;have h8:=PA.len.symm;obtain ⟨vN,h3b,h4b,h5b,h6b,h7b,h8b,h9b⟩:=aha h h1 zj;rw [hn] at h5 h6 h5b h6b;obtain ⟨_,apQ,zR,a,cap,rfl,asc,ahc,aoU⟩:=h1.pL;obtain ⟨rfl,hmk⟩:=aoU;have EW:=eX.ap6 n h;have hAf:(A.new (.aZ 0 n)).get A.next=some (.aZ 0 n):=by simp
  have Oe:E.φ A.next=none:=by
   cases hq:E.φ A.next with
   | none=>rfl
   | some g=>have:=h.qJ _ g hq; omega
  have hs:∀ v∈vN++cO,v.cells.size=n:=fun v hv=>by
   rcases mI.1 hv with hv | hv
   ·exact h6b v hv
   ·exact h6 v hv
  have hlen:(bO (vN++cO)).length=(cap+k) * n:=by rw [kW hs,n7,h7b,h7]
  have hgr:=eX.grow (c:=bO (vN++cO)) (top:=0) (XJ:=cap+k) (sz:=n) (g:=B.next) (f:=A.next) EW.kV hAf (.inl ⟨Oe,rfl⟩) hlen (by omega) (by omega);refine ⟨.slice (some ⟨B.next,0,none⟩) (cap+k) (cap+k),B.grow B.next 0 (bO (vN++cO)) n,_,?_,?_,EW.after hgr⟩
  ·simp only [pB,h4,gE]
   have hnb:Nat.ble (cap+k) cap=false:=by
    cases hq:Nat.ble (cap+k) cap with
    | false=>rfl
    | true=>have:=gD hq; omega
   rw [hnb,aw,EE,vy];rcases ahc with ⟨rfl,h0⟩ | ⟨b',off,r,rfl,hz,he2,qf⟩
   ·subst h0
    have:vN = []:=qv.1 h7b;subst this;simp only [yI,MU,bD];rw [show Nat.beq 0 0=true from rfl,ai,h5];simp [K9]
   ·obtain ⟨r2,I6,ho,aqd,au4⟩:=hmk b' off rfl
    rw [hz] at I6;simp at I6;subst I6;have lD:=h.z b' r hz;have hex:yI B n cap (some ⟨b',off,none⟩)=true:=by
     simp only [yI,lD,aqd];rw [hn] at au4;simp [au4]
    rw [hex];simp only [bD,ai,h5,gE];simp only [A6] at h5b;have ZW:Nat.beq r.cc n=true:=by rw [he2,hn]; simp
    simp only [K9,dC,Option.isNone_none,ai,h5b,gE,lD,ZW,aqd,ho];rw [<- CW]
  ·simp only [VK]
   have Gr:=(h3b.append h3).mono (Env.le_trans EW.le hgr.le);have hl:=qi hs;refine ⟨Cd.join PA,vN++cO,Gr,_,_,rfl,aW _,.inr ⟨B.next,0,⟨bO (vN++cO),n,true,some (B.next,0)⟩,rfl,by simp [Env.wF,Env.iw],hn.symm,by rw [hn]; exact hl⟩,rfl,.inr ⟨B.next,⟨bO (vN++cO),n,true,some (B.next,0)⟩,B.next,rfl,by simp [Env.wF,Env.iw],rfl,by simp [Env.wF],rfl,?_⟩⟩;rw [hn];exact hlen
 ·
  rename_i e1 f m es au3 e9 mk9 k9 aqb aqc heq;simp only [List.cons.injEq,KV.ts.injEq,and_true] at heq;obtain ⟨rfl,rfl,rfl,rfl,rfl,rfl⟩:=heq;split at hg
  ·rename_i top sz' ahd
   obtain ⟨he,GM⟩:=hg.cond;clear hg;simp only [aD] at he;obtain ⟨cO,mN⟩:=hsr he.1.1;have:=bm he.1.1;subst this;have:=bm he.1.2;subst this;have asw:=bm he.2;rw [asw] at ahd;obtain ⟨⟨WU,EE,vy,asC⟩,rfl,rfl⟩:=put E _ _ _ _ _ _ _ _ _ _ _ GM;have:=bm WU;subst this;have Cd:=h1.pL.1;have PA:=mN.tree;have h3:=mN.rel;have h4:=mN.len;have h5:=mN.all;have h6:=mN.size;have h7:=mN.length;have h8:=PA.len.symm;obtain ⟨vN,h3b,h4b,h5b,h6b,h7b,h8b,h9b⟩:=aha h h1 zj;rw [hn] at h5 h6 h5b h6b;obtain ⟨_,apQ,zR,a,cap,rfl,asc,ahc,aoU⟩:=h1.pL;obtain ⟨rfl,hmk⟩:=aoU;have hs:∀ v∈vN++cO,v.cells.size=n:=fun v hv=>by
    rcases mI.1 hv with hv | hv
    ·exact h6b v hv
    ·exact h6 v hv
   have hlen:(bO (vN++cO)).length=(cap+k) * n:=by rw [kW hs,n7,h7b,h7]
   have avC:=h3b.append h3;have hl:=qi hs;have fin:∀ (E2:Env) (x g:Nat),E.le E2->E2.z x=some ⟨bO (vN++cO),n,true,some (g,0)⟩->E2.φ f=some g->VK P E2 (.ts e (.aZ f) (cap+k) (es++new) (dS cap au3 acc)) (.slice (some ⟨x,0,none⟩) (cap+k) (cap+k)):=by
    intro E2 x g hle hzx awq;simp only [VK];refine ⟨Cd.join PA,vN++cO,avC.mono hle,_,_,rfl,aW _,.inr ⟨x,0,_,rfl,hzx,hn.symm,by rw [hn]; exact hl⟩,rfl,.inr ⟨x,_,g,rfl,hzx,rfl,awq,rfl,?_⟩⟩;rw [hn];exact hlen
   rcases hmk with ⟨rfl,rfl⟩ | ⟨b',r,g,rfl,hz,ho,Oe,aqd,hcl⟩
   ·
    have hold:es = []:=qv.1 h8b;have ali:vN = []:=qv.1 h7b;subst hold ali;have Oe:E.φ f=none:=by
     rcases h.aZ f 0 n ahd with ⟨_,Ld⟩ | ⟨g2,_,Ld,_⟩
     ·exact Ld
     ·omega
    cases k with
    | zero=>
     have qC:new = []:=qv.1 h8;have ahb:cO = []:=qv.1 h7;subst qC ahb;refine ⟨.slice none 0 0,B,E,?_,?_,eX.ap9 n h ahd Oe⟩
     ·simp only [pB,h4,gE]
      rw [h5];rfl
     ·simp only [VK]
      exact ⟨⟨rfl,fun i hi=>by omega,rfl⟩,[],.nil,none,0,rfl,aW _,.inl ⟨rfl,rfl⟩,rfl,.inl ⟨rfl,rfl⟩⟩
    | succ k=>
     have hgr:=eX.grow (c:=bO ([]++cO)) (top:=0) (XJ:=0+(k+1)) (sz:=n) (g:=B.next) (f:=f) h ahd (.inl ⟨Oe,rfl⟩) hlen (by omega) (by omega);refine ⟨.slice (some ⟨B.next,0,none⟩) (0+(k+1)) (0+(k+1)),B.grow B.next 0 (bO ([]++cO)) n,_,?_,fin _ B.next B.next hgr.le (by simp [Env.wF,Env.iw]) (by simp [Env.wF]),hgr⟩;simp only [bh] at EE vy;simp only [pB,h4,gE,bh,List.nil_append];rw [show Nat.ble (k+1) 0=false from rfl,aw,EE,vy,h5];rfl
   ·
    have avD:0 < cap+k/\0 < k:=by
     rcases asC with h0 | h0
     ·subst h0
      rcases h.aZ f 0 n ahd with ⟨_,Ld⟩ | ⟨g2,_,Ld,_⟩
      ·rw [Oe] at Ld; simp at Ld
      ·omega
     ·exact ⟨by omega,h0⟩
    have lD:=h.z b' r hz;rw [ho,aqd] at lD;have ZW:r.cc=n:=by
     rcases ahc with ⟨h0,_⟩ | ⟨b2,asD,r2,e2,I6,he2,_⟩
     ·simp at h0
     ·simp at e2
      obtain ⟨rfl,rfl⟩:=e2;rw [hz] at I6;simp at I6;subst I6;rw [he2,hn]
    have avE:B.kill B.next (0+(0+cap * n)) (0+(0+cap * n)+(bO cO).length) (B.members g)=B:=by
     refine ag6 fun y hy=>?_;rcases h.aZ f cap n ahd with ⟨_,Ld⟩ | ⟨g2,Ld,_,h3'⟩
     ·rw [Oe] at Ld; simp at Ld
     ·rw [Oe] at Ld
      simp at Ld;subst Ld;cases hy2:B.get y with
      | none=>rfl
      | some o=>cases o with
       | row oD e2 M0 wu=>
        cases wu with
        | none=>rfl
        | some p=>
         obtain ⟨f2,k2⟩:=p;obtain ⟨rfl,hle2⟩:=h3' y hy oD e2 M0 f2 k2 hy2;simp only [vw,meets,bh];have:Nat.blt (cap * n) oD.length=false:=by
          cases hq:Nat.blt (cap * n) oD.length with
          | false=>rfl
          | true=>rw [bZ] at hq; omega
         rw [this,vW]
       | _=>rfl
    have hgr:=eX.grow (c:=bO (vN++cO)) (top:=cap) (XJ:=cap+k) (sz:=n) (g:=g) (f:=f) h ahd (.inr Oe) hlen (by omega) avD.1;refine ⟨.slice (some ⟨B.next,0,none⟩) (cap+k) (cap+k),B.grow g 0 (bO (vN++cO)) n,_,?_,fin _ B.next g hgr.le (by simp [Env.wF,Env.iw]) (by simp [Env.wF]),hgr⟩;have hnb:Nat.ble (cap+k) cap=false:=by
     cases hq:Nat.ble (cap+k) cap with
     | false=>rfl
     | true=>have:=gD hq; omega
    have hex:yI B n cap (some ⟨b',0,none⟩)=true:=by simp only [yI,lD]
    simp only [pB,h4,gE,hnb,aw,EE,vy,hex,bD,ai,h5];simp only [A6] at h5b;have awr:Nat.beq r.cc n=true:=by rw [ZW]; simp
    simp only [K9,dC,Option.isNone_none,ai,h5b,gE,lD,awr,avE,<- CW]
  ·exact hg.elim
 ·exact hg.elim
end Go.K
end
section
namespace Go.K
open Go Go.aF
variable {P:Program} {E:Env}
theorem eX.aus {A A1:aB} {B:St} {T:TypeId} {acc:Nat->KV} (h:gU P E A B) (xV:A1.next=A.next) (Ru:∀ c o,A1.get c=some o->A.get c=some o\/(o = .dead/\c < A.next)) (gI:1<=bp P T) :
  eX P E A B E (A1.new (.arr (.ts T .any 0 [] acc))) B:=by
 have asy:E.α A.next=none:=by
  cases hq:E.α A.next with
  | none=>rfl
  | some p=>have:=h.ar.oC _ p hq; omega
 have mi:∀ c o,(A1.new (.arr (.ts T .any 0 [] acc))).get c=some o->(c=A.next/\o = .arr (.ts T .any 0 [] acc))\/(o = .dead/\c < A.next)\/A.get c=some o:=fun c o hc=>by
  rw [aB.dQ,xV] at hc;split at hc
  ·rename_i e; simp at hc; exact .inl ⟨e,hc.symm⟩
  ·rcases Ru c o hc with e | e
   ·exact .inr (.inr e)
   ·exact .inr (.inl e)
 have z0:∀ c v,(A1.new (.arr (.ts T .any 0 [] acc))).get c=some (.arr v)->E.α c=none\/A.get c=some (.arr v):=fun c v hc=>by
  rcases mi c _ hc with ⟨e,_⟩ | ⟨e,_⟩ | e
  ·exact .inl (by rw [e]; exact asy)
  ·simp at e
  ·exact .inr e
 have hA:∀ c v y L N,(A1.new (.arr (.ts T .any 0 [] acc))).get c=some (.arr v)->E.α c=some (y,L,N)->A.get c=some (.arr v):=fun c v y L N hc hy=>by
  rcases z0 c v hc with e | e
  ·rw [e] at hy; simp at hy
  ·exact e
 have vB:∀ y,AR (A1.new (.arr (.ts T .any 0 [] acc))) E y->AR A E y:=fun y ⟨c,v,L,N,h1,h2⟩=>⟨c,v,L,N,hA c v _ _ _ h1 h2,h2⟩
 have Oh:∀ g,AF (A1.new (.arr (.ts T .any 0 [] acc))) E B g->AF A E B g:=fun g ⟨c,v,x,L,N,cs,e,own,k,h1,h2,h3⟩=>⟨c,v,x,L,N,cs,e,own,k,hA c v _ _ _ h1 h2,h2,h3⟩
 refine ⟨⟨fun c cs cc hc=>?_,fun c top sz hc=>?_,h.z,h.apart,h.inj,?_,fun b x e=>by rw [aB.cD,xV]; have:=h.oC b x e; omega,fun b g e=>by rw [aB.cD,xV]; have:=h.qJ b g e; omega,fun c o hc=>?_,h.jd,h.rb,h.mM,h.fresh,h.mem,?_⟩,Env.le_refl _,by rw [aB.cD,xV]; omega,fun _ _ _ _=>rfl,fun _ _ e=>.inl e,fun _ _ e=>.inl e,fun _ _ e=>.inl e,fun _ _ _ _=>rfl,fun x q=>.inl (vB x q),fun g q=>.inl (Oh g q),fun _ _ q=>.inl q,fun y q=>.inl (q.imp (vB y) fun ⟨g,q1,q2⟩=>⟨g,Oh g q1,q2⟩),qL fun _ _=>rfl⟩
 ·rcases mi c _ hc with ⟨_,e⟩ | ⟨e,_⟩ | e
  ·simp at e
  ·simp at e
  ·exact h.row c cs cc e
 ·rcases mi c _ hc with ⟨_,e⟩ | ⟨e,_⟩ | e
  ·simp at e
  ·simp at e
  ·exact h.aZ c top sz e
 ·intro b c g tb sb tc sc hb hc e1 e2
  rcases mi b _ hb with ⟨_,e⟩ | ⟨e,_⟩ | hb
  ·simp at e
  ·simp at e
  rcases mi c _ hc with ⟨_,e⟩ | ⟨e,_⟩ | hc
  ·simp at e
  ·simp at e
  exact h.lT b c g _ _ _ _ hb hc e1 e2
 ·rw [aB.cD,xV]
  rcases mi c _ hc with ⟨e,_⟩ | ⟨_,e⟩ | e
  ·omega
  ·omega
  ·have:=h.live c o e; omega
 ·refine ⟨fun c v hc=>?_,fun c v hc=>?_,fun x q=>h.ar.z x (vB x q),fun b c v u x L N L' N' h1 h2 h3 h4=>h.ar.inj b c v u x L N L' N' (hA b v _ _ _ h1 h3) (hA c u _ _ _ h2 h4) h3 h4,fun b c v u x y L N L' N' cs e own g k cm e' tJ k' h1 h2 h3 h4=>h.ar.zi b c v u x y L N L' N' cs e own g k cm e' tJ k' (hA b v _ _ _ h1 h3) (hA c u _ _ _ h2 h4) h3 h4,h.ar.dis,fun b p e=>by rw [aB.cD,xV]; have:=h.ar.oC b p e; omega,h.ar.jd,fun b v x L N cs e own g k h1 h2 h3=>?_,fun c v hc=>?_⟩
  ·rcases mi c _ hc with ⟨e,e2⟩ | ⟨e,_⟩ | e
   ·simp at e2
    subst e2;exact ⟨T,0,[],acc,rfl,⟨rfl,fun i hi=>by omega,rfl⟩,gI,.inl ⟨rfl,by rw [e]; exact asy⟩⟩
   ·simp at e
   ·exact h.ar.arr c v e
  ·rcases mi c _ hc with ⟨_,e⟩ | ⟨e,_⟩ | e
   ·simp at e
   ·simp at e
   ·exact h.ar.lR c v e
  ·obtain ⟨q1,q2,q3⟩:=h.ar.xB b v x L N cs e own g k (hA b v _ _ _ h1 h2) h2 h3
   exact ⟨q1,q2,fun y hy eY=>⟨(q3 y hy eY).1,fun q=>(q3 y hy eY).2.1 (vB y q),(q3 y hy eY).2.2⟩⟩
  ·rw [aB.cD,xV]
   rcases mi c _ hc with ⟨e,_⟩ | ⟨e,_⟩ | e
   ·rw [e]
    refine ⟨Nat.lt_succ_self _,?_⟩;cases hk:E.κ A.next with
    | none=>rfl
    | some x=>have:=h.oC _ x hk; omega
   ·simp at e
   ·obtain ⟨q1,q2⟩:=h.ar.nk c v e
    exact ⟨by omega,q2⟩
theorem amV {E:Env} {T:TypeId} {b x L N n c:Nat} (uZ:E.α b=some (x,L,N)) (h1:n<=c) (h2:n<=N) (h3:c * bp P T=L):VK P E (.al T b 0 n) (.slice (some ⟨x,0,none⟩) n c):=
 .XD (.inr ⟨x,L,N,c,uZ,by simp,h1,by omega,by rw [bh]; exact h3⟩)
theorem amW {T b n:Nat} {z:Value} (hn:bp P T=n) (h1n:1<=n) (hz:z.cells.size=n) (he:cI (bu P T) (K.ig (bu P T) (iR z))=true):aj5 P (aci T b (K.ig (bu P T) (iR z))) (Il n b z):=by
 intro E A A' B vs us v h hv hg;unfold aci at hg;split at hg
 ·rename_i k l k' c
  obtain ⟨x,y,rfl,h1,h2⟩:=hv.nT;have:=h1.dR; subst this;have:=h2.dR; subst this;obtain ⟨hc,hg⟩:=ba.nI hg;simp only [gF] at hg;obtain ⟨rfl,rfl⟩:=hg;simp only [aD,lA] at hc;obtain ⟨⟨h3,h4⟩,h5⟩:=hc;obtain ⟨l',rfl⟩:=Int.eq_ofNat_of_zero_le h3;obtain ⟨c',rfl⟩:=Int.eq_ofNat_of_zero_le (Int.le_trans h3 h4);have h6:Nat.ble l' c' = true:=Nat.ble_eq_true_of_le (by omega);have hs:∀ v∈List.replicate c' z,v.cells.size=n:=fun v hv=>by rw [List.eq_of_mem_replicate hv]; exact hz
  have hlen:(bO (List.replicate c' z)).length=c' * n:=by rw [kW hs,List.length_replicate]
  have Rx:∀ m,eR [K.ig (bu P T) (iR z)] m=List.replicate m (K.ig (bu P T) (iR z)):=fun m=>by
   induction m with
   | zero=>rfl
   | succ m ih=>simp [eR,ih,List.replicate_succ]
  have jN:=eX.aag (P:=P) (X:=fun _=>False) (G:=fun _=>False) (y2:=B.next) (N2:=c') (T:=T) (tH:=eR [K.ig (bu P T) (iR z)] c') (hO:=fun _=>K.ig (bu P T) (iR z)) (JR:=List.replicate c' z) (oD:=bO (List.replicate c' z)) (wu:=none) (A1:=A) (B':=B.new (.row (bO (List.replicate c' z)) n true none)) h rfl (fun _ _ e=>.inl e) (fun _ _ _ _ _ _ _=>⟨id,fun _ _ _ _ _ _=>id⟩) (fun _ e=>e.elim) (fun _ e=>e.elim) (.inr (aW _)) (by simp) (by simp [hn]) (fun _ _ e=>by simp at e)
   (fun y hy _=>.inl (by rw [St.dQ,ay (by omega)])) (fun _ e=>e.elim) (fun q y hy=>.inl (by simpa using hy)) (fun q _=>by simp) (by simp) (fun g hg=>by rw [St.oa]; exact h.fresh g (by rw [St.cD] at hg; omega)) (fun g y hy=>by rw [St.oa] at hy; rw [St.cD]; have:=h.mem g y hy; omega)
   (by omega) ⟨by rw [Rx]; simp,fun i hi=>by rw [Rx,iQ,List.getElem?_replicate,aV hi]; rfl,by
    rw [Rx];exact sY fun i x hx=>by rw [List.getElem?_replicate] at hx; split at hx <;> simp at hx; subst hx; exact he⟩ (by
    rw [Rx];generalize c' = m
    induction m with
    | zero=>exact .nil
    | succ m ih=>exact .cons (VK.iR z).ig ih) (by rw [hn]; exact qi hs)
  refine ⟨.row (ie z.cells.toList c') n true none,fun k=>.slice (some ⟨k,0,none⟩) l' c',E.JU A.next (B.next,(bO (List.replicate c' z)).length,c'),?_,?_,?_⟩
  ·have h5:Nat.ble (b * c') 281474976710656=true:=h5
   show cond (Nat.ble l' c'&&Nat.ble (b * c') 281474976710656) _ _=_;rw [h6,h5];rfl
  ·exact amV Env.GN (by omega) (by show l'<=c'; omega) (by rw [hn,hlen])
  ·rw [Kp]; exact jN
 ·exact hg.elim
theorem aq7 {T b n:Nat} {z:Value} (hn:bp P T=n) (_:1<=n) (hz:z.cells.size=n) (he:cI (bu P T) (K.ig (bu P T) (iR z))=true):asu P (ak5 T b (K.ig (bu P T) (iR z))) (Il n b z):=by
 intro E A B vs us v h hv hg;unfold ak5 at hg;split at hg
 ·rename_i k l k' c
  obtain ⟨x,y,rfl,h1,h2⟩:=hv.nT;have:=h1.dR; subst this;have:=h2.dR; subst this;obtain ⟨hc,hg⟩:=ba.nI hg;subst hg;simp only [aD,lA] at hc;obtain ⟨⟨h3,h4⟩,h5⟩:=hc;obtain ⟨l',rfl⟩:=Int.eq_ofNat_of_zero_le h3;obtain ⟨c',rfl⟩:=Int.eq_ofNat_of_zero_le (Int.le_trans h3 h4);have MP:l'<=c':=by omega
  have h6:Nat.ble l' c' = true:=Nat.ble_eq_true_of_le MP;have hs:∀ v∈List.replicate c' z,v.cells.size=n:=fun v hv=>by rw [List.eq_of_mem_replicate hv]; exact hz
  have Rx:∀ m,eR [K.ig (bu P T) (iR z)] m=List.replicate m (K.ig (bu P T) (iR z)):=fun m=>by
   induction m with
   | zero=>rfl
   | succ m ih=>simp [eR,ih,List.replicate_succ]
  have Gr:∀ m,bo P E (List.replicate m (K.ig (bu P T) (iR z))) (List.replicate m z):=fun m=>by
   induction m with
   | zero=>exact .nil
   | succ m ih=>exact .cons (VK.iR z).ig ih
  refine ⟨.row (ie z.cells.toList c') n true none,fun k=>.slice (some ⟨k,0,none⟩) l' c',E.iw B.next ⟨bO (List.replicate c' z),n,true,none⟩,?_,?_,?_⟩
  ·have h5:Nat.ble (b * c') 281474976710656=true:=h5
   show cond (Nat.ble l' c'&&Nat.ble (b * c') 281474976710656) _ _=_;rw [h6,h5];rfl
  ·have aoN:=(Gr l').mono (eX.ap4 (cm:=bO (List.replicate c' z)) (cc:=n) h).le
   simp only [VK];refine ⟨⟨by rw [Rx]; simp,fun i hi=>by rw [Rx,iQ,List.getElem?_replicate,aV hi]; rfl,by
    rw [Rx];exact sY fun i x hx=>by rw [List.getElem?_replicate] at hx; split at hx <;> simp at hx; subst hx; exact he⟩,List.replicate l' z,by rw [Rx]; exact aoN,some ⟨B.next,0,none⟩,c',rfl,MP,.inr ⟨B.next,0,⟨bO (List.replicate c' z),n,true,none⟩,rfl,by simp [Env.iw],hn.symm,?_⟩,trivial⟩
   rw [hn];intro i x hx;rw [List.getElem?_replicate] at hx;split at hx
   ·rename_i hi
    refine qi hs i x ?_;rw [List.getElem?_replicate,aV (by have hi:i < l':=hi; omega)];exact hx
   ·simp at hx
  ·rw [Kp]; exact eX.ap4 h
 ·exact hg.elim
theorem acs {sz:Nat} {cs:List Value} {xs ys:List Value} (h:ss sz 0 cs xs) (k:ss sz (xs.length * sz) cs ys):ss sz 0 cs (xs++ys):=fun i x hi=>by
 by_cases bt:i < xs.length
 ·rw [ue bt] at hi; exact h i x hi
 ·rw [vU (by omega)] at hi
  obtain ⟨h1,h2⟩:=k _ x hi;refine ⟨h1,fun j y hy=>?_⟩;rw [<- h2 j y hy];congr 1;have:i * sz=xs.length * sz+(i - xs.length) * sz:=by rw [<- Nat.add_mul]; congr 1; omega
  omega
theorem ad6 {sz o:Nat} {cs r news:List Value} (hs:∀ v∈news,v.cells.size=sz) (hw:jw (o * sz) cs (bO news)=some r):ss sz (o * sz) r news:=fun i x hi=>by
 have Pc:=qi hs i x hi;have hlen:=kW hs;obtain ⟨_,_,h3⟩:=kk hw;refine ⟨Pc.1,fun k y hy=>?_⟩;have h4:=Pc.2 k y hy;rw [bh] at h4;rw [h3,aV ⟨by omega,by have:=(dD.1 h4).1; omega⟩,<- h4];congr 1;omega
theorem ahe {sz o:Nat} {cs r vs es:List Value} (hl:ss sz 0 cs es) (ho:es.length<=o) (hw:jw (o * sz) cs vs=some r) (_:1<=sz):ss sz 0 r es:=fun i x hi=>by
 obtain ⟨h1,h2⟩:=hl i x hi;obtain ⟨_,_,h3⟩:=kk hw;refine ⟨h1,fun k y hy=>?_⟩;have hk:k < sz:=by have:=(EN.1 hy).1; omega
 have Yq:=(dD.1 hi).1;have bt:0+i * sz+k < o * sz:=by
  have:(i+1) * sz<=o * sz:=Nat.mul_le_mul_right _ (by omega);rw [Nat.add_mul] at this;omega
 rw [h3,ay (by omega)];exact h2 k y hy
theorem aoV {A:aB} {B:St} {f:Nat} {o0:lg} (h:gU P E A B) (hA:A.get f=some o0):∀ c o,(A.put f .dead).get c=some o->A.get c=some o\/(o = .dead/\c < A.next):=fun c o hc=>by
 rw [aB.cr] at hc;split at hc
 ·rename_i e; simp at hc; subst hc e; exact .inr ⟨rfl,h.live _ _ hA⟩
 ·exact .inl hc
theorem aah {B:St} {g k:Nat} {c:List Value} {n:Nat} (_:g<=B.next):(∀ x,(B.grow g k c n).get x=if x=B.next then some (.row c n true (some (g,k))) else B.get x)/\(∀ q,(B.grow g k c n).members q=if q=g then B.next::B.members g else B.members q)/\(B.grow g k c n).next=B.next+1:=
 ⟨fun x=>by simp [St.grow],fun q=>by simp [St.grow,St.HQ],rfl⟩
theorem ahf {e b:Nat} {E:Env} {A A' : aB} {B:St} {x v:KV} {u w:Value} {e' : TypeId} {mk:Mk} {k:Nat} {new:List KV} {acc:Nat->KV} (zj:1<=bp P e) (h:gU P E A B) (h1:VK P E x u)
  (hsr:Nat.beq e e' = true->∃ bC,Src P E B e' k new acc w bC) (hg:ba (KW e b A [x,.ts e' mk k new acc]) (v,A')):∃ r B' E',pB (bp P e) b B [u,w] = some (r,B')/\VK P E' v r/\eX P E A B E' A' B':=by
 have put:∀ (A1:aB) (m:Nat) (base:List KV) (ab:Nat->KV) (more:Bool) (A2:aB) (v:KV),ba (afZ e b m base ab A1 k new acc more) (v,A2)->
   (more=true/\Nat.ble ((m+k+512) * b) 17592186044416=true/\Nat.ble (m+k) 17592186044416=true)/\v = .al e A1.next 0 (m+k)/\A2=A1.new (.arr (.ts e .any (m+k) (base++new) (dS m ab acc))):=by
  intro A1 m base ab more A2 v hp;obtain ⟨hc,hp⟩:=ba.nI hp;simp only [apY,aD] at hc;simp only [gF] at hp;exact ⟨⟨hc.1,hc.2.1,hc.2.2⟩,hp.1.symm,hp.2.symm⟩
 have nil:∀ (A1:aB) (base:List KV) (ab:Nat->KV),base = []->A1.next=A.next->(∀ c o,A1.get c=some o->A.get c=some o\/(o = .dead/\c < A.next))->(∃ bC,Src P E B e k new acc w bC)->Nat.ble ((0+k+512) * b) 17592186044416=true->Nat.ble (0+k) 17592186044416=true->
   ∃ r B' E',pB (bp P e) b B [.slice none 0 0,w] = some (r,B')/\VK P E' (.al e A.next 0 (0+k)) r/\eX P E A B E' (A1.new (.arr (.ts e .any (0+k) (base++new) (dS 0 ab acc)))) B':=by
  intro A1 base ab ahc hn1 hr1 ⟨cO,mN⟩ EE vy;subst ahc;have hj:ko P e (0+k) ([]++new) (dS 0 ab acc):=(ko.none (P:=P) (T:=e) (g:=ab)).join mN.tree;cases k with
  | zero=>
   have qC:new = []:=qv.1 mN.tree.len.symm;subst qC;refine ⟨.slice none 0 0,B,E,?_,.XD (.inl ⟨rfl,rfl,rfl⟩),eX.aus h hn1 hr1 zj⟩;simp only [pB,mN.len,gE,mN.all];rfl
  | succ k=>
   obtain ⟨g1,g2,g3⟩:=aah (B:=B) (g:=B.next) (k:=0) (c:=bO cO) (n:=bp P e) (aW _);have hlen:(bO cO).length=(k+1) * bp P e:=by rw [kW mN.size,mN.length]
   refine ⟨.slice (some ⟨B.next,0,none⟩) (k+1) (k+1),B.grow B.next 0 (bO cO) (bp P e),E.JU A.next (B.next,(bO cO).length,0+(k+1)),?_,?_,?_⟩
   ·simp only [bh] at EE vy
    simp only [pB,mN.len,gE,bh];rw [show Nat.ble (k+1) 0=false from rfl,aw,EE,vy,mN.all];rfl
   ·rw [bh]; exact amV Env.GN (aW _) (by omega) (by rw [hlen])
   ·generalize B.grow B.next 0 (bO cO) (bp P e)=B' at g1 g2 g3
    exact eX.aag (X:=fun _=>False) (G:=fun _=>False) (y2:=B.next) (wu:=some (B.next,0)) h hn1 hr1 (fun _ _ _ _ _ _ _=>⟨id,fun _ _ _ _ _ _=>id⟩) (fun _ e=>e.elim) (fun _ e=>e.elim) (.inr (aW _)) (by omega) (by rw [g1,aV rfl]) (fun g k e=>by simp at e; exact .inr (by omega))
     (fun y hy _=>.inl (by rw [g1,ay (by omega)])) (fun _ e=>e.elim) (fun q y hy=>by
      rw [g2] at hy;split at hy
      ·rename_i e
       subst e;rcases fp.1 hy with hy | hy
       ·exact .inr ⟨hy,aW _,0,rfl⟩
       ·exact .inl hy
      ·exact .inl hy) (fun q hq=>by rw [g2,ay (fun e=>hq 0 (by rw [e]))]) (by omega) (fun g hg=>by rw [g2,ay (by omega)]; exact h.fresh g (by omega)) (fun g y hy=>by
      rw [g2] at hy;split at hy
      ·rcases fp.1 hy with hy | hy
       ·omega
       ·have:=h.mem _ y hy; omega
      ·have:=h.mem g y hy; omega) zj hj (by simpa using mN.rel) (qi mN.size)
 unfold KW at hg;split at hg
 ·rename_i e9 mk9 k9 aqb aqc heq
  simp only [List.cons.injEq,KV.ts.injEq,and_true] at heq;obtain ⟨rfl,rfl,rfl,rfl,rfl,rfl⟩:=heq;have:=h1.r5; subst this;obtain ⟨he,GM⟩:=hg.cond;have mN:=hsr he;have:=bm he;subst this;obtain ⟨⟨_,EE,vy⟩,rfl,rfl⟩:=put _ _ _ _ _ _ _ GM;exact nil A [] pI rfl rfl (fun _ _ e=>.inl e) mN EE vy
 ·rename_i e1 f o n e9 mk9 k9 aqb aqc heq
  simp only [List.cons.injEq,KV.ts.injEq,and_true] at heq;obtain ⟨rfl,rfl,rfl,rfl,rfl,rfl⟩:=heq;split at hg
  ·rename_i e2 mk2 N es ac hf
   obtain ⟨he,GM⟩:=hg.cond;simp only [aD] at he;obtain ⟨cO,mN⟩:=hsr he.1.1;have:=bm he.1.1;subst this;have:=bm he.1.2;subst this;have:=bm he.2;subst this;obtain ⟨⟨ho,EE,vy⟩,rfl,rfl⟩:=put _ _ _ _ _ _ _ GM;have:=bm ho;subst this;have Ru:=aoV h hf;rcases h1.Bh with ⟨rfl,_,rfl⟩ | ⟨x,L,N0,c,h2,rfl,h3,h4,h5⟩
   ·exact nil (A.put f .dead) (es.take 0) ac (by simp) rfl Ru ⟨cO,mN⟩ EE vy
   ·obtain ⟨T2,N2,tH,hO,e2,ht,_,Cc⟩:=h.ar.arr f _ hf
    simp only [KV.ts.injEq] at e2;obtain ⟨rfl,rfl,rfl,rfl,rfl⟩:=e2;rcases Cc with ⟨_,e2⟩ | ⟨x2,cs,bV,bC,e2,h6,h7,h8⟩
    ·rw [h2] at e2; simp at e2
    rw [h2] at e2;simp only [dG,gF] at e2;obtain ⟨rfl,rfl,rfl⟩:=e2;have vB:AR A E x:=⟨f,_,_,_,hf,h2⟩
    have hxlt:x < B.next:=h.Nb vB;have aoR:bC.length=N0:=by rw [h7.length]; exact ht.len.symm
    have hs:=sJ ht.typed h7;have htk:ko P e n (es.take n) ac:=⟨by rw [pz,<- ht.len]; omega,fun i hi=>by rw [ht.acc i (by omega),iQ,iQ,rj,aV hi],sY fun i x hi=>by
     rw [rj] at hi;split at hi
     ·exact lE ht.typed hi
     ·simp at hi⟩
    have hj:=htk.join mN.tree;have Ue:(bC.take n).length=n:=by rw [pz]; omega
    have aws:∀ v∈bC.take n,v.cells.size=bp P e:=fun v hv=>(hs v (List.mem_of_mem_take hv)).1;have Gr:=(h7.take n).append mN.rel;have h5:c * bp P e=cs.length:=by simpa using h5
    have uf:∀ c v,(A.put f .dead).get c=some (.arr v)->c≠f/\A.get c=some (.arr v):=fun c v hc=>by
     rw [aB.cr] at hc;split at hc
     ·simp at hc
     ·rename_i e; exact ⟨e,hc⟩
    have hf1:∀ c v,(A.put f .dead).get c=some (.arr v)->∀ y L N,E.α c=some (y,L,N)->¬ (y=x)/\∀ sH e1 own g k1,B.get y=some (.row sH e1 own (some (g,k1)))->¬ (∃ k,bV=some (g,k)):=fun c v hc y L N hy=>by
     obtain ⟨eY,hc⟩:=uf c v hc;refine ⟨fun e=>eY (h.ar.inj c f v _ x L N _ _ hc hf (by rw [<- e]; exact hy) h2),fun sH e1 own g k1 hr ⟨k2,hk⟩=>?_⟩;rw [hk] at h6;exact eY (h.ar.zi c f v _ y x L N _ _ _ _ _ g k1 _ _ _ k2 hc hf hy h2 hr h6)
    have hf3:∀ g,(∃ k,bV=some (g,k))->AF A E B g/\g < B.next/\(∀ f,E.φ f≠some g)/\∀ y∈B.members g,¬ (y=x)->E.z y=none/\¬ AR A E y/\∀ c,E.κ c≠some y:=fun g ⟨k2,hk⟩=>by
     rw [hk] at h6;obtain ⟨q1,q2,q3⟩:=h.ar.xB f _ x _ _ _ _ _ g k2 hf h2 h6;exact ⟨⟨f,_,x,_,_,_,_,_,k2,hf,h2,h6⟩,q1,q2,fun y hy eY=>q3 y hy eY⟩
    have aut:dC (⟨x,0 * bp P e,none⟩:Addr)=true:=rfl;by_cases sW:n+k<=c
    ·
     have hle:n * bp P e+(bO cO).length<=cs.length:=by
      rw [kW mN.size,mN.length,<- h5,<- Nat.add_mul];exact Nat.mul_le_mul_right _ sW
     obtain ⟨oD,hw⟩:=Fb (n * bp P e) cs (bO cO) hle;have hcl:oD.length=cs.length:=(kk hw).1;have hsc:(bO cO).all scalar=true:=iu.2 (HU fun v hv=>(sJ mN.tree.typed mN.rel v hv).2);have hb:Nat.ble (n+k) c=true:=Nat.ble_eq_true_of_le sW;refine ⟨.slice (some ⟨x,0 * bp P e,none⟩) (n+k) c,(B.put x (.row oD (bp P e) true bV)).fI x bV (n * bp P e) (n * bp P e+(bO cO).length),E.JU A.next (x,oD.length,n+k),?_,?_,?_⟩
     ·simp only [pB,mN.len,gE,hb,ai,mN.all,aut]
      simp only [St.De,dC,Option.isNone_none,MU,hsc,ai,Nat.zero_mul,bh,h6,hw,Option.map_some]
     ·rw [Nat.zero_mul]; exact amV Env.GN sW (aW _) (by rw [hcl]; exact h5)
     ·have lB:((B.put x (.row oD (bp P e) true bV)).fI x bV (n * bp P e) (n * bp P e+(bO cO).length)).get x=some (.row oD (bp P e) true bV):=by
       rcases Kr (B:=B.put x (.row oD (bp P e) true bV)) (x:=x) (y:=x) (lo:=n * bp P e) (hi:=n * bp P e+(bO cO).length) (bV:=bV) with e | ⟨g,k,_,_,h3,_⟩
       ·rw [e]; simp
       ·exact absurd rfl h3
      have hgy:∀ y,y≠x->((B.put x (.row oD (bp P e) true bV)).fI x bV (n * bp P e) (n * bp P e+(bO cO).length)).get y=B.get y\/(((B.put x (.row oD (bp P e) true bV)).fI x bV (n * bp P e) (n * bp P e+(bO cO).length)).get y=some .dead/\∃ g,(∃ k,bV=some (g,k))/\y∈B.members g):=by
       intro y hy;rcases Kr (B:=B.put x (.row oD (bp P e) true bV)) (x:=x) (y:=y) (lo:=n * bp P e) (hi:=n * bp P e+(bO cO).length) (bV:=bV) with e | ⟨g,k,h1,h2,_,h4,_⟩
       ·exact .inl (by rw [e,St.cr,ay hy])
       ·exact .inr ⟨h4,g,⟨k,h1⟩,by simpa using h2⟩
      have oK:((B.put x (.row oD (bp P e) true bV)).fI x bV (n * bp P e) (n * bp P e+(bO cO).length)).members=B.members:=by rw [Py]; simp
      have kl:((B.put x (.row oD (bp P e) true bV)).fI x bV (n * bp P e) (n * bp P e+(bO cO).length)).next=B.next:=by rw [XK]; simp
      generalize (B.put x (.row oD (bp P e) true bV)).fI x bV (n * bp P e) (n * bp P e+(bO cO).length)=B' at lB hgy oK kl;have hli:ss (bp P e) 0 oD (bC.take n++cO):=acs (ahe (h8.take n) (by omega) hw zj) (by rw [Ue]; exact ad6 mN.size hw);exact eX.aag (A1:=A.put f .dead) (X:=fun y=>y=x) (G:=fun g=>∃ k,bV=some (g,k)) (y2:=x) (wu:=bV) h rfl Ru hf1 (fun y hy=>by rw [hy]; exact vB) hf3 (.inl rfl) (by omega) lB (fun g k hk=>.inl ⟨k,hk⟩)
       (fun y _ eY=>hgy y eY) (fun y hy sH e1 own aaf hr=>by
        rw [hy,lB] at hr;simp at hr;obtain ⟨rfl,rfl,rfl,rfl⟩:=hr;rw [hy];exact ⟨cs,h6,hcl.symm⟩) (fun q y hy=>.inl (by rw [oK] at hy; exact hy)) (fun q _=>by rw [oK]) (by omega) (fun g hg=>by rw [oK]; exact h.fresh g (by omega)) (fun g y hy=>by rw [oK] at hy; rw [kl]; exact h.mem g y hy) zj hj Gr hli
    ·
     have hb:Nat.ble (n+k) c=false:=by
      cases hq:Nat.ble (n+k) c with
      | false=>rfl
      | true=>exact absurd (gD hq) sW
     have hex:yI B (bp P e) c (some ⟨x,0 * bp P e,none⟩)=true:=by
      simp only [yI,h6];cases bV with
      | none=>simp [h5]
      | some p=>rfl
     have hold:B.B8 ⟨x,0 * bp P e,none⟩ (n * bp P e)=some (bO (bC.take n)):=by
      have:=Rv (B:=B) (b:=x) (off:=0) (n:=n) (sz:=bp P e) (r:=⟨cs,bp P e,true,bV⟩) (bC:=bC.take n) h6 (h8.take n) Ue zj;simpa using this
     have aoW:∀ v∈bC.take n++cO,v.cells.size=bp P e:=fun v hv=>by
      rcases mI.1 hv with hv | hv
      ·exact aws v hv
      ·exact mN.size v hv
     have hlen:(bO (bC.take n++cO)).length=(n+k) * bp P e:=by rw [kW aoW,n7,Ue,mN.length]
     cases bV with
     | none=>
      obtain ⟨g1,g2,g3⟩:=aah (B:=B) (g:=B.next) (k:=0) (c:=bO (bC.take n++cO)) (n:=bp P e) (aW _);refine ⟨.slice (some ⟨B.next,0,none⟩) (n+k) (n+k),B.grow B.next 0 (bO (bC.take n++cO)) (bp P e),E.JU A.next (B.next,(bO (bC.take n++cO)).length,n+k),?_,?_,?_⟩
      ·simp only [pB,mN.len,gE,hb,aw,EE,vy,hex,bD,ai,mN.all]
       simp only [K9,dC,Option.isNone_none,ai,hold,gE,h6,mK,<- CW]
      ·exact amV Env.GN (aW _) (aW _) (by rw [hlen])
      ·generalize B.grow B.next 0 (bO (bC.take n++cO)) (bp P e)=B' at g1 g2 g3
       exact eX.aag (A1:=A.put f .dead) (X:=fun _=>False) (G:=fun _=>False) (y2:=B.next) (wu:=some (B.next,0)) h rfl Ru (fun _ _ _ _ _ _ _=>⟨id,fun _ _ _ _ _ _=>id⟩) (fun _ e=>e.elim) (fun _ e=>e.elim) (.inr (aW _)) (by omega) (by rw [g1,aV rfl]) (fun g k e=>by simp at e; exact .inr (by omega))
        (fun y hy _=>.inl (by rw [g1,ay (by omega)])) (fun _ e=>e.elim) (fun q y hy=>by
         rw [g2] at hy;split at hy
         ·rename_i e
          subst e;rcases fp.1 hy with hy | hy
          ·exact .inr ⟨hy,aW _,0,rfl⟩
          ·exact .inl hy
         ·exact .inl hy) (fun q hq=>by rw [g2,ay (fun e=>hq 0 (by rw [e]))]) (by omega) (fun g hg=>by rw [g2,ay (by omega)]; exact h.fresh g (by omega)) (fun g y hy=>by
         rw [g2] at hy;split at hy
         ·rcases fp.1 hy with hy | hy
          ·omega
          ·have:=h.mem _ y hy; omega
         ·have:=h.mem g y hy; omega) zj hj Gr (qi aoW)
     | some p=>
      obtain ⟨g,k0⟩:=p;have hgB:g < B.next:=(hf3 g ⟨k0,rfl⟩).2.1;have kg:∀ y,(B.kill B.next (k0+(0+n * bp P e)) (k0+(0+n * bp P e)+(bO cO).length) (B.members g)).get y=B.get y\/((B.kill B.next (k0+(0+n * bp P e)) (k0+(0+n * bp P e)+(bO cO).length) (B.members g)).get y=some .dead/\y∈B.members g):=fun y=>by
       rw [GC];by_cases hc:y∈B.members g/\y≠B.next/\vw (B.get y) (k0+(0+n * bp P e)) (k0+(0+n * bp P e)+(bO cO).length)=true
       ·exact .inr ⟨by rw [aV hc],hc.1⟩
       ·exact .inl (by rw [ay hc])
      have km:(B.kill B.next (k0+(0+n * bp P e)) (k0+(0+n * bp P e)+(bO cO).length) (B.members g)).members=B.members:=by simp
      have kn:(B.kill B.next (k0+(0+n * bp P e)) (k0+(0+n * bp P e)+(bO cO).length) (B.members g)).next=B.next:=by simp
      obtain ⟨g1,g2,g3⟩:=aah (B:=B.kill B.next (k0+(0+n * bp P e)) (k0+(0+n * bp P e)+(bO cO).length) (B.members g)) (g:=g) (k:=k0+0) (c:=bO (bC.take n++cO)) (n:=bp P e) (by omega);rw [kn] at g3;have g1:∀ y,y≠B.next->_:=fun y hy=>(g1 y).trans (ay (by rw [kn]; exact hy));have g1':=(aah (B:=B.kill B.next (k0+(0+n * bp P e)) (k0+(0+n * bp P e)+(bO cO).length) (B.members g)) (g:=g) (k:=k0+0) (c:=bO (bC.take n++cO)) (n:=bp P e) (by omega)).1 B.next;rw [kn,aV rfl] at g1';simp only [km,kn] at g2;refine ⟨.slice (some ⟨B.next,0,none⟩) (n+k) (n+k),(B.kill B.next (k0+(0+n * bp P e)) (k0+(0+n * bp P e)+(bO cO).length) (B.members g)).grow g (k0+0) (bO (bC.take n++cO)) (bp P e),E.JU A.next (B.next,(bO (bC.take n++cO)).length,n+k),?_,?_,?_⟩
      ·simp only [pB,mN.len,gE,hb,aw,EE,vy,hex,bD,ai,mN.all]
       have ali:=hold;rw [Nat.zero_mul] at ali;simp only [K9,dC,Option.isNone_none,ai,Nat.zero_mul,ali,gE,h6,mK,<- CW]
      ·exact amV Env.GN (aW _) (aW _) (by rw [hlen])
      ·generalize (B.kill B.next (k0+(0+n * bp P e)) (k0+(0+n * bp P e)+(bO cO).length) (B.members g)).grow g (k0+0) (bO (bC.take n++cO)) (bp P e)=B' at g1 g1' g2 g3
       have gy:∀ y,y≠B.next->B'.get y=B.get y\/(B'.get y=some .dead/\y∈B.members g):=fun y hy=>by
        rw [g1 y hy]; exact kg y
       exact eX.aag (A1:=A.put f .dead) (X:=fun y=>y=x) (G:=fun q=>∃ k,some (g,k0)=some (q,k)) (y2:=B.next) (wu:=some (g,k0+0)) h rfl Ru hf1 (fun y hy=>by rw [hy]; exact vB) hf3 (.inr (aW _)) (by omega) g1' (fun q k e=>by simp at e; exact .inl ⟨k0,by rw [e.1]⟩)
        (fun y hy _=>(gy y (by omega)).imp id fun ⟨q1,q2⟩=>⟨q1,g,⟨k0,rfl⟩,q2⟩) (fun y hy sH e1 own aaf hr=>by
         have hy:y=x:=hy;rcases gy y (by omega) with q | ⟨q,_⟩
         ·rw [q] at hr; exact ⟨sH,hr,rfl⟩
         ·rw [q] at hr; simp at hr) (fun q y hy=>by
         rw [g2] at hy;split at hy
         ·rename_i e
          subst e;rcases fp.1 hy with hy | hy
          ·exact .inr ⟨hy,aW _,k0+0,rfl⟩
          ·exact .inl hy
         ·exact .inl hy) (fun q hq=>by rw [g2,ay (fun e=>hq (k0+0) (by rw [e]))]) (by omega) (fun q hq=>by rw [g2,ay (by omega)]; exact h.fresh q (by omega)) (fun q y hy=>by
         rw [g2] at hy;split at hy
         ·rcases fp.1 hy with hy | hy
          ·omega
          ·have:=h.mem _ y hy; omega
         ·have:=h.mem q y hy; omega) zj hj Gr (qi aoW)
  ·exact hg.elim
 ·exact hg.elim
theorem eX.avF {A:aB} {B:St} {b:Nat} {v2:KV} (h:gU P E A B) (hb:∃ v,A.get b=some (.arr v)) (cq:agR P E B b v2):eX P E A B E (A.put b (.arr v2)) B:=by
 obtain ⟨v0,hb⟩:=hb;have mi:∀ c o,(A.put b (.arr v2)).get c=some o->(c=b/\o = .arr v2)\/A.get c=some o:=fun c o hc=>by
  rw [aB.cr] at hc;split at hc
  ·rename_i e; simp at hc; exact .inl ⟨e,hc.symm⟩
  ·exact .inr hc
 have hA:∀ c v,(A.put b (.arr v2)).get c=some (.arr v)->∃ u,A.get c=some (.arr u):=fun c v hc=>by
  rcases mi c _ hc with ⟨e,_⟩ | e
  ·exact ⟨v0,by rw [e]; exact hb⟩
  ·exact ⟨v,e⟩
 have vB:∀ y,AR (A.put b (.arr v2)) E y->AR A E y:=fun y ⟨c,v,L,N,h1,h2⟩=>by
  obtain ⟨u,hu⟩:=hA c v h1;exact ⟨c,u,L,N,hu,h2⟩
 have Oh:∀ g,AF (A.put b (.arr v2)) E B g->AF A E B g:=fun g ⟨c,v,x,L,N,cs,e,own,k,h1,h2,h3⟩=>by
  obtain ⟨u,hu⟩:=hA c v h1;exact ⟨c,u,x,L,N,cs,e,own,k,hu,h2,h3⟩
 refine ⟨⟨fun c cs cc hc=>?_,fun c top sz hc=>?_,h.z,h.apart,h.inj,?_,h.oC,h.qJ,fun c o hc=>?_,h.jd,h.rb,h.mM,h.fresh,h.mem,?_⟩,Env.le_refl _,aW _,fun _ _ _ _=>rfl,fun _ _ e=>.inl e,fun _ _ e=>.inl e,fun _ _ e=>.inl e,fun _ _ _ _=>rfl,fun x q=>.inl (vB x q),fun g q=>.inl (Oh g q),fun _ _ q=>.inl q,fun y q=>.inl (q.imp (vB y) fun ⟨g,q1,q2⟩=>⟨g,Oh g q1,q2⟩),qL fun _ _=>rfl⟩
 ·rcases mi c _ hc with ⟨_,e⟩ | e
  ·simp at e
  ·exact h.row c cs cc e
 ·rcases mi c _ hc with ⟨_,e⟩ | e
  ·simp at e
  ·exact h.aZ c top sz e
 ·exact h.lT.put (.inl fun t s=>by simp)
 ·rw [aB.wq]
  rcases mi c _ hc with ⟨e,_⟩ | e
  ·rw [e]; exact h.live b _ hb
  ·exact h.live c o e
 ·refine ⟨fun c v hc=>?_,fun c v hc=>?_,fun x q=>h.ar.z x (vB x q),fun c d v u x L N L' N' h1 h2 h3 h4=>?_,fun c d v u x y L N L' N' cs e own g k cm e' tJ k' h1 h2 h3 h4=>?_,h.ar.dis,h.ar.oC,h.ar.jd,fun c v x L N cs e own g k h1 h2 h3=>?_,fun c v hc=>?_⟩
  ·rcases mi c _ hc with ⟨e,e2⟩ | e
   ·simp at e2; rw [e2,e]; exact cq
   ·exact h.ar.arr c v e
  ·rcases mi c _ hc with ⟨_,e⟩ | e
   ·simp at e
   ·exact h.ar.lR c v e
  ·obtain ⟨v',h1⟩:=hA c v h1
   obtain ⟨u',h2⟩:=hA d u h2;exact h.ar.inj c d v' u' x L N L' N' h1 h2 h3 h4
  ·obtain ⟨v',h1⟩:=hA c v h1
   obtain ⟨u',h2⟩:=hA d u h2;exact h.ar.zi c d v' u' x y L N L' N' cs e own g k cm e' tJ k' h1 h2 h3 h4
  ·obtain ⟨v',h1⟩:=hA c v h1
   obtain ⟨q1,q2,q3⟩:=h.ar.xB c v' x L N cs e own g k h1 h2 h3;exact ⟨q1,q2,fun y hy eY=>⟨(q3 y hy eY).1,fun q=>(q3 y hy eY).2.1 (vB y q),(q3 y hy eY).2.2⟩⟩
  ·obtain ⟨v',h1⟩:=hA c v hc
   rw [aB.wq];exact h.ar.nk c v' h1
theorem ahg {es new:List KV} {o:Nat} (h:o+new.length<=es.length):(E7 es o new).length=es.length:=by
 simp only [E7,n7,pz,List.length_drop];omega
theorem amX {es new:List KV} {o i:Nat} (h:o+new.length<=es.length):(E7 es o new)[i]? = if i < o then es[i]? else if i < o+new.length then new[i - o]? else es[i]?:=by
 unfold E7;by_cases h1:i < o
 ·rw [aV h1,HJ,ue (by rw [pz]; omega),rj,aV h1]
 ·rw [ay h1]
  by_cases h2:i < o+new.length
  ·rw [aV h2,ue (by rw [n7,pz]; omega),vU (by rw [pz]; omega),pz]
   congr 1;omega
  ·rw [ay h2,vU (by rw [n7,pz]; omega),rJ,n7,pz]
   congr 1;omega
theorem aj8 {T:TypeId} {N m o k:Nat} {es new:List KV} {acc an:Nat->KV} (ht:ko P T N es acc) (hn:ko P T m new an) (hk:k<=m) (ho:o+k<=N):ko P T N (E7 es o (new.take k)) (nM o k acc an):=by
 have hl:(new.take k).length=k:=by rw [pz,<- hn.len]; omega
 have sW:o+(new.take k).length<=es.length:=by rw [hl,<- ht.len]; exact ho
 have qB:=fun i=>amX (i:=i) sW;rw [hl] at qB;refine ⟨by rw [ahg sW]; exact ht.len,fun i hi=>?_,sY fun i x hx=>?_⟩
 ·rw [iQ,qB]
  unfold nM;by_cases h1:i < o
  ·rw [aV h1,show Nat.blt i o=true from bZ ▸ h1,ai,ht.acc i hi,iQ]
  ·have e1:Nat.blt i o=false:=by
    cases hb:Nat.blt i o with
    | false=>rfl
    | true=>exact absurd (bZ ▸ hb) h1
   rw [ay h1,e1,aw];by_cases h2:i < o+k
   ·rw [aV h2,show Nat.blt i (o+k)=true from bZ ▸ h2,ai,rj,aV (by omega),hn.acc (i - o) (by omega),iQ]
   ·have e2:Nat.blt i (o+k)=false:=by
     cases hb:Nat.blt i (o+k) with
     | false=>rfl
     | true=>exact absurd (bZ ▸ hb) h2
    rw [ay h2,e2,aw,ht.acc i hi,iQ]
 ·rw [qB] at hx
  split at hx
  ·exact lE ht.typed hx
  ·split at hx
   ·rw [rj] at hx
    split at hx
    ·exact lE hn.typed hx
    ·simp at hx
   ·exact lE ht.typed hx
theorem amY {sz o:Nat} {cs r vs es:List Value} (hl:ss sz (o * sz+vs.length) cs es) (hw:jw (o * sz) cs vs=some r):ss sz (o * sz+vs.length) r es:=fun i x hi=>by
 obtain ⟨h1,h2⟩:=hl i x hi;obtain ⟨_,_,h3⟩:=kk hw;exact ⟨h1,fun k y hy=>by rw [h3,ay (by omega)]; exact h2 k y hy⟩
theorem asE {e n:Nat} (hn:bp P e=n) (h1n:1<=n):ap3 P (aoF e) (agk n):=by
 intro E A A' B vs us v h hv hg;unfold aoF at hg;split at hg
 ·rename_i e1 b o q y
  obtain ⟨u,w,rfl,h1,h2⟩:=hv.nT;split at hg
  ·rename_i e' mk m new an e2 mk2 N es acc hy hb
   obtain ⟨he,hg2⟩:=hg.cond;clear hg;simp only [aD] at he;have:=bm he.1.1;subst this;have:=bm he.1.2;subst this;have:=bm he.2;subst this;have zj:1<=bp P e:=by omega
   obtain ⟨cO,mN⟩:=aqa h h2 hy zj;have hg2:(KV.int .i64 (Nat.min m q:Nat),A.put b (.arr (.ts e .any N (E7 es o (new.take (Nat.min m q))) (nM o (Nat.min m q) acc an))))=(v,A'):=hg2;simp only [gF] at hg2;obtain ⟨rfl,rfl⟩:=hg2;obtain ⟨T2,N2,tH,hO,e2,ht,_,Cc⟩:=h.ar.arr b _ hb;simp only [KV.ts.injEq] at e2;obtain ⟨rfl,rfl,rfl,rfl,rfl⟩:=e2;have ZF:Nat.min m q<=m:=Nat.min_le_left _ _;have hkq:Nat.min m q<=q:=Nat.min_le_right _ _;have hf:=mN.first _ ZF
   rw [hn] at hf;rcases h1.Bh with ⟨rfl,rfl,rfl⟩ | ⟨x,L,N0,c,p2,rfl,p3,p4,p5⟩
   ·
    have MO:Nat.min m 0=0:=Nat.min_zero m;refine ⟨.int .i64 (Int.ofNat (Nat.min m 0)),B,E,?_,.mkInt,eX.avF h ⟨_,hb⟩ ?_⟩
    ·simp only [agk,mN.len,gE,hf]
    ·have hp:=aj8 (o:=0) ht mN.tree ZF (by rw [MO]; omega)
     refine ⟨_,_,_,_,rfl,hp,zj,?_⟩;have Uw:E7 es 0 (new.take (Nat.min m 0))=es:=by rw [MO]; simp [E7]
     rw [Uw];exact Cc
   ·rcases Cc with ⟨_,e2⟩ | ⟨x2,cs,bV,bC,e2,h6,h7,h8⟩
    ·rw [p2] at e2; simp at e2
    rw [p2] at e2;simp only [dG,gF] at e2;obtain ⟨rfl,rfl,rfl⟩:=e2;have aoR:bC.length=N0:=by rw [h7.length]; exact ht.len.symm
    have jN:∀ v∈cO.take (Nat.min m q),v.cells.size=bp P e:=fun v hv=>mN.size v (List.mem_of_mem_take hv);have au5:(cO.take (Nat.min m q)).length=Nat.min m q:=by rw [pz,mN.length]; exact Nat.min_eq_left ZF
    have Pc:(bO (cO.take (Nat.min m q))).length=Nat.min m q * bp P e:=by rw [kW jN,au5]
    have hle:o * bp P e+(bO (cO.take (Nat.min m q))).length<=cs.length:=by
     rw [Pc,<- p5,<- Nat.add_mul];exact Nat.mul_le_mul_right _ (by omega)
    obtain ⟨oD,hw⟩:=Fb (o * bp P e) cs (bO (cO.take (Nat.min m q))) hle;have hcl:oD.length=cs.length:=(kk hw).1;have hsc:(bO (cO.take (Nat.min m q))).all scalar=true:=iu.2 (HU fun v hv=>(sJ mN.tree.typed mN.rel v (List.mem_of_mem_take hv)).2);have hp:=aj8 (o:=o) ht mN.tree ZF (by omega);have hon:(bC.take o).length=o:=by rw [pz]; omega
    have Gr:bo P E (E7 es o (new.take (Nat.min m q))) (bC.take o++cO.take (Nat.min m q)++bC.drop (o+Nat.min m q)):=by
     unfold E7;have hlk:(new.take (Nat.min m q)).length=Nat.min m q:=by rw [pz,<- mN.tree.len]; exact Nat.min_eq_left ZF
     rw [hlk];exact ((h7.take o).append (mN.rel.take _)).append (h7.drop _)
    have hli:ss (bp P e) 0 oD (bC.take o++cO.take (Nat.min m q)++bC.drop (o+Nat.min m q)):=by
     refine acs (acs (ahe (h8.take o) (by omega) hw zj) (by rw [hon]; exact ad6 jN hw)) ?_;have e3:(bC.take o++cO.take (Nat.min m q)).length * bp P e=o * bp P e+(bO (cO.take (Nat.min m q))).length:=by rw [n7,hon,au5,Pc,Nat.add_mul]
     rw [e3];refine amY ?_ hw;have:=h8.drop (o+Nat.min m q);rw [bh,Nat.add_mul] at this;rw [Pc];exact this
    have jN:=eX.ap7 (lo:=o * bp P e) (hi:=o * bp P e+(bO (cO.take (Nat.min m q))).length) h ⟨_,hb⟩ p2 h6 hcl zj hp Gr hli;refine ⟨.int .i64 (Int.ofNat (Nat.min m q)),_,E,?_,.mkInt,jN⟩;subst hn;simp only [agk,mN.len,gE,hf,St.De,dC,Option.isNone_none,MU,hsc,ai,h6,hw,Option.map_some]
  ·exact hg.elim
 ·exact hg.elim
theorem amZ {e n b:Nat} {mt:Bool} (hn:bp P e=n) (h1n:1<=n):ap3 P (Pm e n b mt) (pB n b):=by
 intro E A A' B vs us v h hv hg;unfold Pm at hg;split at hg
 ·rename_i x y
  obtain ⟨u,w,rfl,h1,h2⟩:=hv.nT;split at hg
  ·rename_i y' hy
   have zj:1<=bp P e:=by omega
   have hts:∃ T m k es acc,y' = .ts T m k es acc:=by
    unfold Ui at hy;split at hy
    ·unfold ak4 at hy
     split at hy
     ·rename_i T' b' o' n' _ T2 _ _ tH hO _
      cases hb:Nat.beq T' T2 with
      | false=>rw [hb] at hy; simp at hy
      | true=>rw [hb,ai] at hy; simp only [dG] at hy; exact ⟨_,_,_,_,_,hy.symm⟩
     ·simp at hy
    ·simp only [dG] at hy; exact ⟨_,_,_,_,_,hy.symm⟩
    ·simp at hy
   obtain ⟨T,m,k,es,acc,rfl⟩:=hts;have hsr:Nat.beq e T=true->∃ bC,Src P E B T k es acc w bC:=fun he=>by
    have:=bm he;subst this;exact aqa h h2 hy zj
   subst hn;cases hx:asq x with
   | true=>rw [hx,ai] at hg; exact ahf zj h h1 hsr hg
   | false=>
    rw [hx,aw] at hg;cases mt with
    | true=>rw [ai] at hg; exact ahf zj h h1 hsr hg
    | false=>rw [aw] at hg; exact aoT rfl zj h h1 hsr hg
  ·exact hg.elim
 ·exact hg.elim
end Go.K
end
section
namespace Go.K
open Go Go.aF
variable {P:Program} {E:Env}
theorem eX.aqe {E1 E2:Env} {A A1 A2:aB} {B:St} (h:eX P E A B E1 A1 B) (k:eX P E1 A1 B E2 A2 B):eX P E A B E2 A2 B where
 kV:=k.kV
 le:=Env.le_trans h.le k.le
 next:=uO h.next k.next
 pF _ _ _ _:=rfl
 new b x e:=(k.new b x e).elim (h.new b x) .inr
 yp b r e:=by
  rcases k.yp b r e with e | e | e
  ·exact h.yp b r e
  ·exact .inr (h.qt b e)
  ·exact .inr (.inr e)
 yq b g e:=(k.yq b g e).elim (h.yq b g) .inr
 uz _ _ _ _:=rfl
 qt x q:=(k.qt x q).elim (h.qt x) .inr
 qK g q:=(k.qK g q).elim (h.qK g) .inr
 zX _ _ q:=.inl q
 r6 y q:=(k.r6 y q).elim (h.r6 y) .inr
 rows:=qL fun _ _=>rfl
theorem eX.refl {A:aB} {B:St} (h:gU P E A B):eX P E A B E A B:=
 ⟨h,Env.le_refl _,aW _,fun _ _ _ _=>rfl,fun _ _ e=>.inl e,fun _ _ e=>.inl e,fun _ _ e=>.inl e,fun _ _ _ _=>rfl,fun _ q=>.inl q,fun _ q=>.inl q,fun _ _ q=>.inl q,fun _ q=>.inl q,qL fun _ _=>rfl⟩
theorem Env.asF {A:aB} {B:St} {x:Nat} {r:amE} (h:gU P E A B) (hx:AR A E x):E.le (E.iw x r):=⟨fun _ _ e=>e,fun _ _ e=>e,fun b q e=>by
 simp only [Env.iw];rw [ay]
 ·exact e
 ·intro e2; subst e2
  have:=(h.ar.z b hx).1;rw [e] at this; simp at this,fun _ _ e=>e⟩
theorem eX.lR {A:aB} {B:St} {b x N:Nat} {T:TypeId} {m:Mk} {es:List KV} {acc:Nat->KV} {cs:List Value} {bV:Option (Nat×Nat)} {bC:List Value} (h:gU P E A B) (hb:A.get b=some (.arr (.ts T m N es acc))) (hx:E.α b=some (x,cs.length,N))
  (lD:B.get x=some (.row cs (bp P T) true bV)) (ht:ko P T N es acc) (hm:m = .any) (gI:1<=bp P T) (Uw:bo P E es bC) (hl:ss (bp P T) 0 cs bC) :
  eX P E A B (E.iw x ⟨cs,bp P T,true,bV⟩) (A.put b (.lR (.ts T m N es acc))) B:=by
 subst hm;have vB:AR A E x:=⟨b,_,_,_,hb,hx⟩
 have hle:=Env.asF (r:=⟨cs,bp P T,true,bV⟩) h vB;have hzx:(E.iw x ⟨cs,bp P T,true,bV⟩).z x=some ⟨cs,bp P T,true,bV⟩:=by simp [Env.iw]
 have MS:∀ c r,(E.iw x ⟨cs,bp P T,true,bV⟩).z c=some r->E.z c=some r\/(c=x/\r=⟨cs,bp P T,true,bV⟩):=fun c r e=>by
  simp only [Env.iw] at e;split at e
  ·rename_i e2; simp at e; exact .inr ⟨e2,e.symm⟩
  ·exact .inl e
 have mi:∀ c o,(A.put b (.lR (.ts T .any N es acc))).get c=some o->(c=b/\o = .lR (.ts T .any N es acc))\/(c≠b/\A.get c=some o):=fun c o hc=>by
  rw [aB.cr] at hc;split at hc
  ·rename_i e; simp at hc; exact .inl ⟨e,hc.symm⟩
  ·rename_i e; exact .inr ⟨e,hc⟩
 have hA:∀ c v,(A.put b (.lR (.ts T .any N es acc))).get c=some (.arr v)->c≠b/\A.get c=some (.arr v):=fun c v hc=>by
  rcases mi c _ hc with ⟨_,e⟩ | e
  ·simp at e
  ·exact e
 have aqf:∀ y,AR (A.put b (.lR (.ts T .any N es acc))) E y->AR A E y/\y≠x:=fun y ⟨c,v,L,M,h1,h2⟩=>by
  obtain ⟨h3,h4⟩:=hA c v h1;refine ⟨⟨c,v,L,M,h4,h2⟩,fun e=>h3 ?_⟩;subst e;exact h.ar.inj c b v _ y L M _ _ h4 hb h2 hx
 have Oh:∀ g,AF (A.put b (.lR (.ts T .any N es acc))) E B g->AF A E B g:=fun g ⟨c,v,y,L,M,cs,e,own,k,h1,h2,h3⟩=>⟨c,v,y,L,M,cs,e,own,k,(hA c v h1).2,h2,h3⟩
 refine ⟨⟨fun c sH cc hc=>?_,fun c top sz hc=>?_,fun y r hy=>?_,fun c y hc=>?_,h.inj,?_,h.oC,h.qJ,fun c o hc=>?_,h.jd,fun y r hy=>?_,h.mM,h.fresh,h.mem,?_⟩,hle,aW _,fun _ _ _ _=>rfl,fun _ _ e=>.inl e,fun y r e=>?_,fun _ _ e=>.inl e,fun _ _ _ _=>rfl,fun y q=>.inl (aqf y q).1,fun g q=>.inl (Oh g q),fun _ _ q=>.inl q,fun y q=>.inl (q.imp (fun q=>(aqf y q).1) fun ⟨g,q1,q2⟩=>⟨g,Oh g q1,q2⟩),qL fun _ _=>rfl⟩
 ·rcases mi c _ hc with ⟨_,e⟩ | ⟨_,e⟩
  ·simp at e
  ·obtain ⟨y,d,h1,h2,h3⟩:=h.row c sH cc e
   exact ⟨y,d,h1,h2,h3.mono hle⟩
 ·rcases mi c _ hc with ⟨_,e⟩ | ⟨_,e⟩
  ·simp at e
  ·exact h.aZ c top sz e
 ·rcases MS y r hy with e | ⟨rfl,rfl⟩
  ·exact h.z y r e
  ·exact lD
 ·have hc:E.κ c=some y:=hc
  cases hz:(E.iw x ⟨cs,bp P T,true,bV⟩).z y with
  | none=>rfl
  | some r=>
   rcases MS y r hz with e | ⟨rfl,_⟩
   ·rw [h.apart c y hc] at e; simp at e
   ·exact absurd hc ((h.ar.z y vB).2 c)
 ·exact h.lT.put (.inl fun t s=>by simp)
 ·rw [aB.wq]
  rcases mi c _ hc with ⟨e,_⟩ | ⟨_,e⟩
  ·rw [e]; exact h.live b _ hb
  ·exact h.live c o e
 ·rcases MS y r hy with e | ⟨rfl,_⟩
  ·exact h.rb y r e
  ·exact h.Nb vB
 ·refine ⟨fun c v hc=>?_,fun c v hc=>?_,fun y q=>?_,fun c d v u y L M L' M' h1 h2 h3 h4=>h.ar.inj c d v u y L M L' M' (hA c v h1).2 (hA d u h2).2 h3 h4,fun c d v u y w L M L' M' sH e own g k cm e' tJ k' h1 h2 h3 h4=>h.ar.zi c d v u y w L M L' M' sH e own g k cm e' tJ k' (hA c v h1).2 (hA d u h2).2 h3 h4,h.ar.dis,h.ar.oC,h.ar.jd,fun c v y L M sH e own g k h1 h2 h3=>?_,fun c v hc=>h.ar.nk c v (hA c v hc).2⟩
  ·exact (h.ar.arr c v (hA c v hc).2).mono hle rfl fun _ _ _ _=>rfl
  ·rcases mi c _ hc with ⟨e,e2⟩ | ⟨_,e⟩
   ·simp at e2
    subst e2;exact ⟨T,N,es,acc,rfl,ht,gI,.inr ⟨x,⟨cs,bp P T,true,bV⟩,bC,by rw [e]; exact hx,hzx,rfl,Uw.mono hle,hl⟩⟩
   ·exact (h.ar.lR c v e).mono hle rfl
  ·obtain ⟨q1,q2⟩:=aqf y q
   refine ⟨?_,(h.ar.z y q1).2⟩;simp only [Env.iw];rw [ay q2];exact (h.ar.z y q1).1
  ·obtain ⟨eY,h1⟩:=hA c v h1
   obtain ⟨q1,q2,q3⟩:=h.ar.xB c v y L M sH e own g k h1 h2 h3;refine ⟨q1,q2,fun z hz hzy=>?_⟩;obtain ⟨q4,q5,q6⟩:=q3 z hz hzy;refine ⟨?_,fun q=>q5 (aqf z q).1,q6⟩;simp only [Env.iw];rw [ay]
   ·exact q4
   ·intro e2
    subst e2;exact q5 vB
 ·rcases MS y r e with e | ⟨rfl,_⟩
  ·exact .inl e
  ·exact .inr (.inl vB)
theorem eX.avG {A:aB} {B:St} {b:Nat} {T:TypeId} {m:Mk} {N:Nat} {es:List KV} {acc:Nat->KV} (h:gU P E A B) (hb:A.get b=some (.arr (.ts T m N es acc))) (cq:Z9 P E b (.ts T m N es acc)) (uZ:E.α b=none):eX P E A B E (A.put b (.lR (.ts T m N es acc))) B:=by
 have mi:∀ c o,(A.put b (.lR (.ts T m N es acc))).get c=some o->(c=b/\o = .lR (.ts T m N es acc))\/A.get c=some o:=fun c o hc=>by
  rw [aB.cr] at hc;split at hc
  ·rename_i e; simp at hc; exact .inl ⟨e,hc.symm⟩
  ·exact .inr hc
 have hA:∀ c v,(A.put b (.lR (.ts T m N es acc))).get c=some (.arr v)->A.get c=some (.arr v):=fun c v hc=>by
  rcases mi c _ hc with ⟨_,e⟩ | e
  ·simp at e
  ·exact e
 have vB:∀ y,AR (A.put b (.lR (.ts T m N es acc))) E y->AR A E y:=fun y ⟨c,v,L,M,h1,h2⟩=>⟨c,v,L,M,hA c v h1,h2⟩
 have Oh:∀ g,AF (A.put b (.lR (.ts T m N es acc))) E B g->AF A E B g:=fun g ⟨c,v,y,L,M,cs,e,own,k,h1,h2,h3⟩=>⟨c,v,y,L,M,cs,e,own,k,hA c v h1,h2,h3⟩
 have _:=uZ;refine ⟨⟨fun c sH cc hc=>?_,fun c top sz hc=>?_,h.z,h.apart,h.inj,?_,h.oC,h.qJ,fun c o hc=>?_,h.jd,h.rb,h.mM,h.fresh,h.mem,?_⟩,Env.le_refl _,aW _,fun _ _ _ _=>rfl,fun _ _ e=>.inl e,fun y r e=>.inl e,fun _ _ e=>.inl e,fun _ _ _ _=>rfl,fun y q=>.inl (vB y q),fun g q=>.inl (Oh g q),fun _ _ q=>.inl q,fun y q=>.inl (q.imp (vB y) fun ⟨g,q1,q2⟩=>⟨g,Oh g q1,q2⟩),qL fun _ _=>rfl⟩
 ·rcases mi c _ hc with ⟨_,e⟩ | e
  ·simp at e
  ·exact h.row c sH cc e
 ·rcases mi c _ hc with ⟨_,e⟩ | e
  ·simp at e
  ·exact h.aZ c top sz e
 ·exact h.lT.put (.inl fun t s=>by simp)
 ·rw [aB.wq]
  rcases mi c _ hc with ⟨e,_⟩ | e
  ·rw [e]; exact h.live b _ hb
  ·exact h.live c o e
 ·refine ⟨fun c v hc=>h.ar.arr c v (hA c v hc),fun c v hc=>?_,fun y q=>h.ar.z y (vB y q),fun c d v u y L M L' M' h1 h2 h3 h4=>h.ar.inj c d v u y L M L' M' (hA c v h1) (hA d u h2) h3 h4,fun c d v u y w L M L' M' sH e own g k cm e' tJ k' h1 h2 h3 h4=>h.ar.zi c d v u y w L M L' M' sH e own g k cm e' tJ k' (hA c v h1) (hA d u h2) h3 h4,h.ar.dis,h.ar.oC,h.ar.jd,fun c v y L M sH e own g k h1 h2 h3=>?_,fun c v hc=>h.ar.nk c v (hA c v hc)⟩
  ·rcases mi c _ hc with ⟨e,e2⟩ | e
   ·simp at e2; rw [e2,e]; exact cq
   ·exact h.ar.lR c v e
  ·obtain ⟨q1,q2,q3⟩:=h.ar.xB c v y L M sH e own g k (hA c v h1) h2 h3
   exact ⟨q1,q2,fun z hz hzy=>⟨(q3 z hz hzy).1,fun q=>(q3 z hz hzy).2.1 (vB z q),(q3 z hz hzy).2.2⟩⟩
theorem acu {T:TypeId} {m:Mk} {b o n N:Nat} {es:List KV} {acc:Nat->KV} {u:Value} {A:aB} {B:St} (h:gU P E A B) (hv:VK P E (.al T b o n) u) (ha:A.get b=some (.lR (.ts T m N es acc))) :
  VK P E (.ts T .any n ((es.drop o).take n) (fun i=>acc (o+i))) u:=by
 obtain ⟨T2,N2,tH,hO,e,ht,gI,Cc⟩:=h.ar.lR b _ ha;simp only [KV.ts.injEq] at e;obtain ⟨rfl,rfl,rfl,rfl,rfl⟩:=e;simp only [VK];rcases hv.Bh with ⟨rfl,rfl,rfl⟩ | ⟨x,L,N0,c,h1,rfl,h3,h4,h5⟩
 ·exact ⟨⟨by simp,fun i hi=>by omega,rfl⟩,[],by simpa using bo.nil,none,0,rfl,aW _,.inl ⟨rfl,rfl⟩,trivial⟩
 ·rcases Cc with ⟨_,e⟩ | ⟨x2,r,bC,e,h6,h6',h7,h8⟩
  ·rw [h1] at e; simp at e
  rw [h1] at e;simp only [dG,gF] at e;obtain ⟨rfl,rfl,rfl⟩:=e;have aoS:((es.drop o).take n).length=n:=by rw [pz,List.length_drop,<- ht.len]; omega
  refine ⟨⟨aoS.symm,fun i hi=>?_,sY fun i x hi=>?_⟩,(bC.drop o).take n,(h7.drop o).take n,_,c,rfl,h3,.inr ⟨x,o * bp P T,r,rfl,h6,h6',?_⟩,trivial⟩
  ·rw [ht.acc (o+i) (by omega),iQ,iQ,rj,aV hi,rJ]
  ·rw [rj] at hi
   split at hi
   ·rw [rJ] at hi; exact lE ht.typed hi
   ·simp at hi
  ·have:=(h8.drop o).take n
   rw [bh] at this;exact this
theorem ad7 {A:aB} {B:St} {v:KV} {u:Value} (h:gU P E A B) (hv:VK P E v u):∃ E',eX P E A B E' (agM A v).2 B/\VK P E' (agM A v).1 u:=by
 unfold agM;split
 ·rename_i T b o n
  split
  ·rename_i T' m N es acc hb
   cases ht:Nat.beq T T' with
   | false=>exact ⟨E,.refl h,.wD⟩
   | true=>
    have:=bm ht;subst this;rw [ai];have cq:=h.ar.arr b _ hb;obtain ⟨T2,N2,tH,hO,e,PA,gI,Cc⟩:=cq;simp only [KV.ts.injEq] at e;obtain ⟨rfl,rfl,rfl,rfl,rfl⟩:=e;rcases Cc with ⟨h1,h2⟩ | ⟨x,cs,bV,bC,h2,h3,h4,h5⟩
    ·have jN:=eX.avG h hb ⟨_,_,_,_,rfl,PA,gI,.inl ⟨h1,h2⟩⟩ h2
     exact ⟨E,jN,acu jN.kV hv ((aB.cr _ _ _ _).trans (aV rfl))⟩
    ·have jN:=eX.lR h hb h2 h3 PA rfl gI h4 h5
     exact ⟨_,jN,acu jN.kV (hv.mono jN.le) ((aB.cr _ _ _ _).trans (aV rfl))⟩
  ·rename_i T' m N es acc hb
   cases ht:Nat.beq T T' with
   | false=>exact ⟨E,.refl h,.wD⟩
   | true=>
    have:=bm ht;subst this;rw [ai];exact ⟨E,.refl h,acu h hv hb⟩
  ·exact ⟨E,.refl h,.wD⟩
 ·exact ⟨E,.refl h,hv⟩
theorem ba.map {α β:Type} {r:KR α} {f:α->β} {v:β} (h:ba (r.map f) v):∃ u,ba r u/\f u=v:=by
 cases r with
 | no=>exact h.elim
 | ok u=>exact ⟨u,rfl,h⟩
 | nI c u=>exact ⟨u,⟨h.1,rfl⟩,h.2⟩
 | br c x y=>
  rcases h with ⟨h1,h2⟩ | ⟨h1,h2⟩
  ·obtain ⟨u,h3,h4⟩:=ba.map (r:=x) h2; exact ⟨u,.inl ⟨h1,h3⟩,h4⟩
  ·obtain ⟨u,h3,h4⟩:=ba.map (r:=y) h2; exact ⟨u,.inr ⟨h1,h3⟩,h4⟩
theorem aai {B:St} : ∀ {vs:List KV} {us:List Value} {E:Env} {A:aB},gU P E A B->bo P E vs us->∃ E',eX P E A B E' (ach A vs).2 B/\bo P E' (ach A vs).1 us
 | [],us,E,A,h,hv=>⟨E,.refl h,hv⟩
 | v::vs,us,E,A,h,hv=>by
  obtain ⟨u,us',rfl,h1,h2⟩:=hv.cons_inv;obtain ⟨E1,h3,h4⟩:=ad7 h h1;obtain ⟨E2,h5,h6⟩:=aai h3.kV (h2.mono h3.le);exact ⟨E2,h3.aqe h5,.cons (h4.mono h5.le) h6⟩
theorem am0 {A:aB} {B:St} {v:KV} {u:Value} (h:gU P E A B) (hv:VK P E v u):∃ E',eX P E A B E' (aj0 A v).2 B/\VK P E' (aj0 A v).1 u:=by
 unfold aj0;split
 ·rename_i cs
  obtain ⟨l,rfl,h1⟩:=hv.pG;obtain ⟨E1,h2,h3⟩:=aai h h1;exact ⟨E1,h2,.tD h3⟩
 ·exact ad7 h hv
theorem Ry:∀ (A:aB) (vs:List KV),(B5 A vs).1.length=vs.length
 | _,[]=>rfl
 | A,v::vs=>by simp [B5,Ry]
theorem Nc {B:St} : ∀ {vs:List KV} {us:List Value} {E:Env} {A:aB},gU P E A B->bo P E vs us->∃ E',eX P E A B E' (B5 A vs).2 B/\bo P E' (B5 A vs).1 us
 | [],us,E,A,h,hv=>⟨E,.refl h,hv⟩
 | v::vs,us,E,A,h,hv=>by
  obtain ⟨u,us',rfl,h1,h2⟩:=hv.cons_inv;obtain ⟨E1,h3,h4⟩:=am0 h h1;obtain ⟨E2,h5,h6⟩:=Nc h3.kV (h2.mono h3.le);exact ⟨E2,h3.aqe h5,.cons (h4.mono h5.le) h6⟩
end Go.K
end
section
namespace Go.K
open Go Go.aF
variable {P:Program}
theorem dT {o:Oper} : Og P o .bad:=trivial
theorem aq8 (P:Program) (cfg:ga) (o:Oper):Og P o (cf P cfg o.op):=by
 cases ho:o.op with
 | move x=>exact lift_pure (by rw [ho]; rfl) amI
 | assign x=>exact lift_pure (by rw [ho]; rfl) aqY
 | pick c a b=>exact lift_pure (by rw [ho]; rfl) ast
 | alloc t=>
  show Og P o (tj P t);unfold tj;split
  ·rename_i z hz
   cases hc:(flat z&&z.cells.toList.all scalar&&jy (iR z).cells) with
   | false=>exact dT
   | true=>
    simp only [aD] at hc;exact Ln (by rw [ho]; rfl) (aq3 hz hc.1.1 hc.1.2 hc.2)
  ·exact dT
 | box t x=>exact Ln (by rw [ho]; rfl) aum
 | build t parts=>
  show Og P o (xM P t (parts.toList.map (·.1)) (parts.toList.map (·.2)));have bb:compile P o.op=O1 P t (parts.toList.map (·.1)) (parts.toList.map (·.2)):=by rw [ho]; rfl
  unfold xM;unfold O1 at bb;split
  ·rename_i z fields hz hu
   rw [hz,hu] at bb;simp only at bb;split
   ·rename_i l hl
    rw [hl] at bb;cases hc:(flat z&&jy (iR z).cells) with
    | false=>exact dT
    | true=>
     simp only [aD] at hc;exact lift_pure bb (aj3 hc.1 hc.2)
   ·exact dT
  ·rename_i z len e hz hu
   rw [hz,hu] at bb;simp only at bb;split
   ·rename_i n hn
    rw [hn] at bb;cases hc:(flat z&&jy (iR z).cells) with
    | false=>exact dT
    | true=>
     simp only [aD] at hc;exact lift_pure bb (aj3 hc.1 hc.2)
   ·exact dT
  ·exact dT
 | buildSlice t len parts=>
  show Og P o (oe P t len (parts.toList.map (·.1)) (parts.toList.map (·.2)));have bb:compile P o.op=zN P t len (parts.toList.map (·.1)) (parts.toList.map (·.2)):=by rw [ho]; rfl
  unfold oe;unfold zN at bb;split
  ·rename_i e hu
   rw [hu] at bb;simp only at bb;split
   ·rename_i i z hi hz
    have gI:size? P e=some i.size:=by simp [size?,hi]
    rw [gI,hz] at bb;simp only at bb;cases hc:(Nat.ble (len * i.size) 16777216&&Nat.beq z.cells.size i.size&&Nat.ble 1 i.size&&flat z&&Nat.beq (bu P e).ks.length i.size&&KU len (parts.toList.map (·.1))) with
    | false=>exact dT
    | true=>
     simp only [aD] at hc;obtain ⟨⟨⟨⟨⟨h1,h2⟩,h3⟩,h4⟩,h5⟩,h6⟩:=hc;rw [h1,h2,h3,h4] at bb;cases Rf (bu P e).ks with
     | true=>exact aj6 bb (ajd (bm h5) (gD h3) (bm h2) h6)
     | false=>
      cases h7:jy (iR z).cells with
      | true=>exact Ln bb (ald h7)
      | false=>exact dT
   ·exact dT
  ·exact dT
 | load t a=>exact Rr (by rw [ho]; rfl) amP
 | store t a x=>exact aco (by rw [ho]; rfl) aq6
 | nilCheck x=>exact lift_pure (by rw [ho]; rfl) auj
 | binOp op t x y yt=>exact lift_pure (by rw [ho]; rfl) auk
 | unOp op t x=>exact lift_pure (by rw [ho]; rfl) avz
 | convert src dst x=>
  show Og P o (sG P src dst x);have bb:compile P o.op=Im P src dst x:=by rw [ho]; rfl
  unfold sG;unfold Im at bb;split
  ·rename_i k k' hs hd
   rw [hs,hd] at bb;exact lift_pure bb (aq2 hd hs)
  ·rename_i hs hd
   rw [hs,hd] at bb;exact lift_pure bb aq1
  ·rename_i e hs hd
   rw [hs,hd] at bb;simp only at bb;cases hb:isByte P e with
   | false=>exact dT
   | true=>rw [hb] at bb; exact Rr bb alg
  ·rename_i e hs hd
   rw [hs,hd] at bb;simp only at bb;cases hb:isByte P e with
   | false=>exact dT
   | true=>rw [hb] at bb; exact aoK bb (alh hb)
  ·exact dT
 | makeFunc fn first cap=>
  show Og P o (cond (CU fn) .bad (.pure (Ri fn first.size) (first.toList++cap.toList)));cases hy:CU fn with
  | true=>exact dT
  | false=>
   have hn:KQ fn=true:=by cases fn <;> first | rfl | simp [CU] at hy
   exact lift_pure (by rw [ho]; show cond (KQ fn) _ _=_; rw [hn]; rfl) alb
 | fieldAddr s x f=>
  show Og P o (pJ P s x f);have bb:compile P o.op=CO P s x f:=by rw [ho]; rfl
  unfold pJ;unfold CO at bb;split
  ·rename_i fd hf
   rw [hf] at bb;simp only at bb;split
   ·rename_i m hm
    rw [hm] at bb;exact lift_pure bb (aja rfl)
   ·exact dT
  ·exact dT
 | field t x f=>
  show Og P o (xO P t x f);have bb:compile P o.op=O6 P t x f:=by rw [ho]; rfl
  unfold xO;unfold O6 at bb;split
  ·rename_i fd hf
   rw [hf] at bb;exact lift_pure bb aqZ
  ·exact dT
 | indexAddr t x ix=>
  show Og P o (pK P t x ix);have bb:compile P o.op=CP P t x ix:=by rw [ho]; rfl
  unfold pK;unfold CP at bb;split
  ·rename_i len e hu
   rw [hu] at bb;simp only at bb;split
   ·rename_i n hn
    rw [hn] at bb;exact lift_pure bb ak8
   ·exact dT
  ·rename_i e hu
   rw [hu] at bb;simp only at bb;split
   ·rename_i n hn
    rw [hn] at bb;exact lift_pure bb (amK rfl)
   ·exact dT
  ·exact dT
 | index t x ix=>
  show Og P o (xP P t x ix);have bb:compile P o.op=O7 P t x ix:=by rw [ho]; rfl
  unfold xP;unfold O7 at bb;split
  ·rename_i len e hu
   rw [hu] at bb;simp only at bb;split
   ·rename_i n hn
    rw [hn] at bb;exact lift_pure bb ak9
   ·exact dT
  ·rename_i hu
   rw [hu] at bb;exact lift_pure bb ala
  ·exact dT
 | extract t i=>exact lift_pure (by rw [ho]; rfl) amL
 | slice t x lo hi mx=>
  show Og P o (xQ P t x lo hi mx);have bb:compile P o.op=O4 P t x lo hi mx:=by rw [ho]; rfl
  unfold xQ;unfold O4 at bb;split
  ·rename_i e hu
   rw [hu] at bb;simp only at bb;split
   ·rename_i n hn
    rw [hn] at bb;simp only at bb;cases hc:(Nat.ble 1 n&&mx.isNone) with
    | false=>exact dT
    | true=>
     simp only [aD] at hc;rw [hc.1] at bb;have hmx:mx=none:=Option.isNone_iff_eq_none.1 hc.2;subst hmx;simp only [ai,hM,py,Option.isSome_none] at bb;exact Rr bb (amS (gD hc.1))
   ·exact dT
  ·rename_i len e hu
   rw [hu] at bb;simp only at bb;split
   ·rename_i n hn
    rw [hn] at bb;simp only at bb;cases hc:(Nat.ble 1 n&&mx.isNone) with
    | false=>exact dT
    | true=>
     simp only [aD] at hc;rw [hc.1] at bb;have hmx:mx=none:=Option.isNone_iff_eq_none.1 hc.2;subst hmx;simp only [ai,hM,py,Option.isSome_none] at bb;exact Rr bb ale
   ·exact dT
  ·rename_i hu
   rw [hu] at bb;simp only at bb;cases hc:mx.isNone with
   | false=>exact dT
   | true=>rw [hc] at bb; exact lift_pure bb alf
  ·exact dT
 | makeSlice t l c=>
  show Og P o (zU P cfg.x.mt t l c);have bb:compile P o.op=CN P t l c:=by rw [ho]; rfl
  unfold zU;unfold CN at bb;split
  ·rename_i e hu
   rw [hu] at bb;simp only at bb;split
   ·rename_i i hi
    rw [hi] at bb;simp only at bb;split
    ·rename_i z hz
     rw [hz] at bb;simp only at bb;cases hmz:cfg.x.mt (e+1000000) with
     | true=>
      rw [ai];cases hc:(Nat.ble 1 i.size&&Nat.ble 1 i.bytes&&Nat.beq z.cells.size i.size&&flat z&&z.cells.toList.all scalar&&Nat.beq (bu P e).ks.length i.size&&cI (bu P e) (ig (bu P e) (iR z))) with
      | false=>exact dT
      | true=>
       simp only [aD] at hc;obtain ⟨⟨⟨⟨⟨⟨h1,h2⟩,h3⟩,h4⟩,h5⟩,h6⟩,h7⟩:=hc;rw [h1,h2,h3,h4,h5] at bb;exact aj6 bb (aq7 (bm h6) (gD h1) (bm h3) h7)
     | false=>
     rw [aw];cases hmt:cfg.x.mt e with
     | true=>
      rw [ai];cases hc:(Nat.ble 1 i.size&&Nat.ble 1 i.bytes&&Nat.beq z.cells.size i.size&&flat z&&z.cells.toList.all scalar&&Nat.beq (bu P e).ks.length i.size&&cI (bu P e) (ig (bu P e) (iR z))) with
      | false=>exact dT
      | true=>
       simp only [aD] at hc;obtain ⟨⟨⟨⟨⟨⟨h1,h2⟩,h3⟩,h4⟩,h5⟩,h6⟩,h7⟩:=hc;rw [h1,h2,h3,h4,h5] at bb;exact Ln bb (amW (bm h6) (gD h1) (bm h3) h7)
     | false=>
     rw [aw];cases hc:(Nat.ble 1 i.size&&Nat.ble 1 i.bytes&&Nat.beq z.cells.size i.size&&flat z&&z.cells.toList.all scalar&&jy (iR z).cells) with
     | false=>exact dT
     | true=>
      simp only [aD] at hc;obtain ⟨⟨⟨⟨⟨h1,h2⟩,h3⟩,h4⟩,h5⟩,h6⟩:=hc;rw [h1,h2,h3,h4,h5] at bb;exact Ln bb (ajb h6)
    ·exact dT
   ·exact dT
  ·exact dT
 | call c=>
  show Og P o (oM P cfg c);unfold oM;split
  ·split
   ·cases cfg.amA _ <;> trivial
   ·trivial
  ·trivial
  ·rename_i b hb
   obtain ⟨callee,args,argTypes⟩:=c;simp only at hb;subst hb;have bb:compile P o.op=MZ P b argTypes.toList args.toList:=by rw [ho]; rfl
   unfold E8;unfold MZ at bb;split
   ·
    simp only at bb;unfold agL;unfold afS at bb;split
    ·rename_i t ht
     rw [ht] at bb;simp only at bb;split
     ·rename_i e hu
      rw [hu] at bb;exact lift_pure bb aq0
     ·rename_i hu
      rw [hu] at bb;exact lift_pure bb aoI
     ·exact dT
    ·exact dT
   ·simp only at bb
    exact lift_pure (f:=Pl false) bb ag0
   ·simp only at bb
    exact lift_pure (f:=Pl true) bb ag0
   ·
    simp only at bb;unfold M6;unfold QZ at bb;split
    ·rename_i t u ht
     rw [ht] at bb;simp only at bb;split
     ·rename_i e eu hu huu
      rw [hu] at bb;simp only at bb;split
      ·rename_i i hi
       rw [hi] at bb;simp only at bb;split
       ·rename_i z hz
        rw [hz] at bb;simp only at bb;cases hc:(Nat.ble 1 i.size&&Nat.beq z.cells.size i.size&&Nat.beq (bu P e).ks.length i.size) with
        | false=>exact dT
        | true=>
         simp only [aD] at hc;have awt:QY P u=true:=by unfold QY; rw [huu]
         rw [hc.1.1,hc.1.2,awt] at bb;exact aco bb (amZ (bm hc.2) (gD hc.1.1))
       ·exact dT
      ·exact dT
     ·exact dT
    ·exact dT
   ·
    simp only at bb;show Og P o (Wk P argTypes.toList args.toList);unfold Wk;unfold ZL at bb;split
    ·rename_i t u ht
     rw [ht] at bb;simp only at bb;split
     ·rename_i e eu hu huu
      rw [hu] at bb;simp only at bb;split
      ·rename_i n hn
       rw [hn] at bb;simp only at bb;cases hc:(Nat.ble 1 n&&Nat.beq (bu P e).ks.length n) with
       | false=>exact dT
       | true=>
        simp only [aD] at hc;rw [hc.1] at bb;exact aco bb (asE (bm hc.2) (gD hc.1))
      ·exact dT
     ·exact dT
    ·exact dT
   ·trivial
  ·trivial
 | _=>trivial
end Go.K
end
section
namespace Go.K
open Go Go.aF
variable {P:Program} {E:Env}
theorem wG (t:bL):∀ xs,ox t xs=xs.map (nJ t)
 | []=>rfl
 | x::xs=>by rw [ox,wG t xs]; rfl
structure nU (P:Program) (E:Env) (ρ:a7) (t:bL) (N:Nat) (a:Act):Prop where
 size:a.tmps.size=N
 val:∀ i,VC P E ρ ((t.get i).getD .bG) (a.tmps.getD i undef)
 none:∀ i,N<=i->t.get i=Option.none
theorem nU.ev {ρ:a7} {t:bL} {N:Nat} {a:Act} (h:nU P E ρ t N a) (x:Operand):VC P E ρ (nJ t x) (a.eval x):=by
 cases x with
 | tmp i=>exact h.val i
 | const v=>
  simp only [nJ,Act.eval];cases hf:flat v with
  | true=>exact ⟨v,.iR v,VR.of_flat hf⟩
  | false=>exact .bG
 | global g=>exact .bG
 | func f=>exact ⟨.func (.func f) ⟨[]⟩ ⟨[]⟩,.amH .nil .nil,VR.afU (l:=[]) (m:=[]) (.func f) rfl .nil .nil⟩
theorem nU.mono {E' : Env} {ρ a8:a7} {t:bL} {N:Nat} {a:Act} (h:nU P E ρ t N a) (k:E.le E') (m:ρ.le a8):nU P E' a8 t N a:=⟨h.size,fun i=>(h.val i).mono k m,h.none⟩
theorem nU.put {ρ:a7} {t:bL} {N:Nat} {a:Act} {dst:Option Tmp} {v:KV} {v' : Value} (h:nU P E ρ t N a) (hd:∀ d,dst=some d->d < N) (hv:VC P E ρ v v'):nU P E ρ (tI t dst v) N (a.put dst v'):=by
 cases dst with
 | none=>exact h
 | some d=>
  have hd:=hd d rfl;refine ⟨by simp [Act.put,h.size],fun i=>?_,fun i hi=>?_⟩
  ·simp only [tI,Trie.sm,Act.put]
   by_cases e:i=d
   ·subst e
    have:i < a.tmps.size:=by rw [h.size]; exact hd
    simp [ji,this,hv]
   ·have:=h.val i
    simp only [ay e];simpa [ji,Array.getElem?_setIfInBounds_ne (Ne.symm e)] using this
  ·simp only [tI,Trie.sm]
   have eY:i≠d:=fun e=>absurd hi (by rw [e]; exact Nat.not_le_of_lt hd);rw [ay eY];exact h.none i hi
theorem nU.same {ρ:a7} {t t' : bL} {N:Nat} {a:Act} (h:nU P E ρ t N a) (hs:∀ i,t'.get i=t.get i):nU P E ρ t' N a:=
 ⟨h.size,fun i=>by rw [hs]; exact h.val i,fun i hi=>by rw [hs]; exact h.none i hi⟩
theorem Ix {v:KV} {b:Bool} (h:yZ v = .bool b):v = .bool b:=by cases v <;> simp [yZ] at h; rw [h]
theorem ahh {v:KV} (h:yZ v = .lP):∃ l,v = .lP l:=by cases v <;> simp [yZ] at h; exact ⟨_,rfl⟩
theorem Rz {t:bL} {d:Tmp} {b:Bool} (h:yZ ((t.get d).getD .bG) = .bool b):∀ i,(Trie.set (.bool b) t d).get i=t.get i:=by
 intro i;have:=Ix h;rw [Trie.sm];split
 ·rename_i e
  subst e;cases ht:t.get i with
  | none=>rw [ht] at this; simp at this
  | some v=>rw [ht] at this; simp at this; rw [this]
 ·rfl
theorem VC.hX {ρ:a7} {b:Bool} {v:Value} (h:VC P E ρ (.bool b) v):v = .bool b:=by
 obtain ⟨u,h1,h2⟩:=h;have:=h1.hX; subst this;exact h2.hX
theorem alj {R:Type} {ρ:a7} {t:bL} {N:Nat} {a:Act} {all:List Oper} {o:Oper} {j:Nat} {want:Bool} {yes no:bL->Option R} {r:R} (hg:o.guard=some (j,want)) (ht:nU P E ρ t N a)
  (h:amB t ((all[j]?).bind (·.dst)) want yes no=some r) :
  ∃ t',(∀ i,t'.get i=t.get i)/\((Region.wanted o (yielded ⟨all⟩ a.tmps)=true/\yes t' = some r)\/(Region.wanted o (yielded ⟨all⟩ a.tmps)=false/\no t' = some r)):=by
 unfold amB at h;cases hd:(all[j]?).bind (·.dst) with
 | none=>rw [hd] at h; exact absurd h (by simp)
 | some d=>
  rw [hd] at h;have hw:∀ u,a.tmps[d]? = some u->Region.wanted o (yielded ⟨all⟩ a.tmps)=(match u with
    | .bool b=>b==want
    | _=>false):=by
   intro u hu;unfold Region.wanted;rw [hg];simp only;unfold yielded;have e:(⟨all⟩:Array Oper)[j]? = all[j]?:=by simp
   rw [e,hd];simp only [gE,hu];cases u <;> rfl
  have CX:=ht.val d;have h:BK.rec (motive:=fun _=>Option R)
   (fun b=>Bool.rec (motive:=fun _=>Option R)
    (Bool.rec (motive:=fun _=>Option R) (yes (t.set (.bool false) d)) (no (t.set (.bool false) d)) want)
    (Bool.rec (motive:=fun _=>Option R) (no (t.set (.bool true) d)) (yes (t.set (.bool true) d)) want) b)
   (no t) none (yZ ((t.get d).getD .bG))=some r:=h
  cases hb:yZ ((t.get d).getD .bG) with
  | no=>rw [hb] at h; exact absurd h (by simp)
  | lP=>
   rw [hb] at h;obtain ⟨l,hl⟩:=ahh hb;rw [hl] at CX;obtain ⟨u,h1,h2⟩:=CX;obtain ⟨m,rfl,_⟩:=h1.Um;obtain ⟨m',h3,_⟩:=h2.YB;refine ⟨t,fun _=>rfl,.inr ⟨?_,h⟩⟩;cases hc:a.tmps[d]? with
   | none=>
    unfold Region.wanted;rw [hg];simp only;unfold yielded;have e:(⟨all⟩:Array Oper)[j]? = all[j]?:=by simp
    rw [e,hd];simp [hc]
   | some u=>
    have:u = .tuple m':=by rw [<- h3]; simp [ji,hc]
    rw [hw u hc,this]
  | bool b=>
   rw [hb] at h;have hbv:=Ix hb;rw [hbv] at CX;have hcv:=CX.hX;have hc:a.tmps[d]? = some (.bool b):=by
    cases hc:a.tmps[d]? with
    | none=>simp [ji,hc,undef] at hcv
    | some u=>have:u = .bool b:=by rw [<- hcv]; simp [ji,hc]
              rw [this]
   have hwd:=hw _ hc;refine ⟨t.set (.bool b) d,Rz hb,?_⟩;cases b <;> cases want
   ·exact .inl ⟨hwd,h⟩
   ·exact .inr ⟨hwd,h⟩
   ·exact .inr ⟨hwd,h⟩
   ·exact .inl ⟨hwd,h⟩
def Jb (P:Program) (E:Env) (ρ:a7) (l:List KV) (l' : List Value):Prop:=∃ m,bo P E l m/\eN ρ m l'
def PB (P : Program) (g : FuncId) : Prop := Nat.blt g yB = true ∧ ∃ fn, P.funcs[g]? = some fn ∧ fn.body.isSome = true ∧ (fn.name == "runtime.NumGoroutine") = false
def PC {R:Type} (P:Program) (bJ:qI R):Prop:=
 ∀ f args A k r,bJ f args A k=some r->PB P f/\∀ (E:Env) (B:St) (ρ:a7) (base:Nat) (w:World) (mO:List Value),Jb P E ρ args mO->KJ P E A B ρ base w->
  Calls P f mO.toArray w fun e w'=>∃ v v' E' A' B' a8,e = .returned v'/\VC P E' a8 v v'/\Ev P base E A B ρ w E' A' B' a8 w'/\k v A' = some r
def a9 (P:Program) (g:FuncId) (F:List KV->KR KV):Prop:=
 ∀ args v,ba (F (normArgs P (gw P g) args)) v->args.length=(gw P g).length->PB P g/\∀ (E:Env) (A:aB) (B:St) (ρ:a7) (base:Nat) (w:World) (mO:List Value),Jb P E ρ args mO->KJ P E A B ρ base w->
  Calls P g mO.toArray w fun e w'=>∃ v' E' B' a8,e = .returned v'/\VC P E' a8 v v'/\Ev P base E A B ρ w E' A B' a8 w'
def vO (P:Program) (pc:FuncId->Option (List KV->KR KV)):Prop:=∀ g F,pc g=some F->a9 P g F
theorem alk {o:Oper} {f:Operand} {args:List Operand} (bb:compile P o.op = .call f args) {ρ:a7} {t:bL} {N:Nat} {a:Act} (ht:nU P E ρ t N a) {g:FuncId} {vs:List KV} (hc:Lj (ox t args) (nJ t f)=some (g,vs)) (hg:PB P g) :
  ∃ cU,Jb P E ρ vs cU/\∀ w,(execOp a.eval o).run P w = .ok (.enter g cU.toArray) w:=by
 have cq:=uW P o;rw [bb] at cq;obtain ⟨em,h1,h2⟩:=cM (xs:=f::args) (ev:=nJ t) (df:=a.eval) fun x _=>ht.ev x;obtain ⟨y,ys,e,h3,h4⟩:=h1.cons_inv;simp only [List.map_cons,List.cons.injEq] at e;obtain ⟨rfl,rfl⟩:=e;have hv:∃ us,zO (args.map em) (em f)=some (g,us)/\bo P E vs us:=by
  unfold Lj at hc;split at hc
  ·rename_i g' first cap e
   simp only [dG,gF] at hc;obtain ⟨rfl,rfl⟩:=hc;rw [e] at h3;obtain ⟨l,m,e2,h5,h6⟩:=h3.M9;rw [e2];refine ⟨l++args.map em++m,by simp only [zO]; rw [hg.1]; rfl,?_⟩;rw [wG];exact (h5.append h4).append h6
  ·simp at hc
 obtain ⟨us,h5,h6⟩:=hv;obtain ⟨cU,h7,h8⟩:=cq.2 ρ em a.eval g us h2 hg.1 h5 hg.2;exact ⟨cU,⟨us,h6,h7⟩,h8⟩
def eE:uY->Bool
 | .call _ _=>false
 | .GG _ _ _=>false
 | .Li _ _ _=>false
 | _=>true
theorem fo {c:Bool} {x:uY} (h:eE x=true):eE (cond c x .bad)=true:=by
 cases c with
 | false=>rfl
 | true=>exact h
theorem GP (mt:TypeId->Bool) (b:Builtin) (ts:List TypeId) (args:List Operand):eE (E8 P mt b ts args)=true:=by
 unfold E8 agL M6 Wk
 repeat' split
 all_goals first | rfl | exact fo rfl
theorem DF (mt:TypeId->Bool) (t:TypeId) (l c:Operand):eE (zU P mt t l c)=true:=by
 unfold zU;split
 ·rename_i e he
  split
  ·split
   ·cases mt (e+1000000)
    ·cases mt e <;> exact fo rfl
    ·exact fo rfl
   ·rfl
  ·rfl
 ·rfl
theorem ad8 {cfg:ga} {op:Op} {f:Operand} {args:List Operand} (h:cf P cfg op = .call f args):compile P op = .call f args:=by
 have key:eE (cf P cfg op)=true->compile P op = .call f args:=fun hn=>by rw [h] at hn; simp [eE] at hn
 cases op with
 | call c=>
  have h:oM P cfg c = .call f args:=h;show ER P c=_;unfold oM at h;unfold ER;split at h
  ·rename_i g hc
   split at h
   ·cases hz:cfg.amA g <;> rw [hz] at h <;> simp at h
   ·simp at h; obtain ⟨rfl,rfl⟩:=h; rw [hc]
  ·rename_i f' eY hc; simp at h; obtain ⟨rfl,rfl⟩:=h; rw [hc]
  ·rename_i b hc
   have:=GP (P:=P) cfg.x.mt b c.argTypes.toList c.args.toList;rw [h] at this;simp [eE] at this
  ·simp at h
 | alloc t=>exact key (by show eE (tj P t)=true; unfold tj; split <;> first | rfl | exact fo rfl)
 | build t ps=>exact key (by show eE (xM P t _ _)=true; unfold xM; (repeat' split); all_goals first | rfl | exact fo rfl)
 | buildSlice t n ps=>exact key (by show eE (oe P t n _ _)=true; unfold oe; (repeat' split); all_goals first | rfl | exact fo (by cases Rf _ <;> first | rfl | exact fo rfl))
 | convert s d x=>exact key (by show eE (sG P s d x)=true; unfold sG; (repeat' split); all_goals first | rfl | exact fo rfl)
 | makeFunc fn a b=>exact key (by show eE (cond (CU fn) .bad _)=true; cases CU fn <;> rfl)
 | fieldAddr s x i=>exact key (by show eE (pJ P s x i)=true; unfold pJ; (repeat' split); all_goals rfl)
 | field s x i=>exact key (by show eE (xO P s x i)=true; unfold xO; (repeat' split); all_goals rfl)
 | indexAddr s x i=>exact key (by show eE (pK P s x i)=true; unfold pK; (repeat' split); all_goals rfl)
 | index s x i=>exact key (by show eE (xP P s x i)=true; unfold xP; (repeat' split); all_goals rfl)
 | slice t x lo hi mx=>exact key (by show eE (xQ P t x lo hi mx)=true; unfold xQ; (repeat' split); all_goals first | rfl | exact fo rfl)
 | makeSlice t l c=>exact key (DF _ t l c)
 | _=>exact key rfl
theorem alm {cfg:ga} {op:Op} {g:FuncId} {F:List KV->KR KV} {args:List Operand} (h:cf P cfg op = .GG g F args):compile P op = .call (.func g) args/\∃ F0,cfg.pc g=some F0/\F=fun vs=>cond (Nat.beq vs.length (gw P g).length) (F0 (normArgs P (gw P g) vs)) .no:=by
 have key:eE (cf P cfg op)=true->compile P op = .call (.func g) args/\∃ F0,cfg.pc g=some F0/\F=fun vs=>cond (Nat.beq vs.length (gw P g).length) (F0 (normArgs P (gw P g) vs)) .no:=fun hn=>by rw [h] at hn; simp [eE] at hn
 cases op with
 | call c=>
  have h:oM P cfg c = .GG g F args:=h;show ER P c=_/\_;unfold oM at h;unfold ER;split at h
  ·rename_i g' hc
   split at h
   ·rename_i F0 hF
    cases hz:cfg.amA g' with
    | true=>rw [hz] at h; simp at h
    | false=>
     rw [hz] at h;simp at h; obtain ⟨rfl,rfl,rfl⟩:=h; rw [hc];exact ⟨rfl,F0,hF,rfl⟩
   ·simp at h
  ·simp at h
  ·rename_i b hc
   have:=GP (P:=P) cfg.x.mt b c.argTypes.toList c.args.toList;rw [h] at this;simp [eE] at this
  ·simp at h
 | alloc t=>exact key (by show eE (tj P t)=true; unfold tj; split <;> first | rfl | exact fo rfl)
 | build t ps=>exact key (by show eE (xM P t _ _)=true; unfold xM; (repeat' split); all_goals first | rfl | exact fo rfl)
 | buildSlice t n ps=>exact key (by show eE (oe P t n _ _)=true; unfold oe; (repeat' split); all_goals first | rfl | exact fo (by cases Rf _ <;> first | rfl | exact fo rfl))
 | convert s d x=>exact key (by show eE (sG P s d x)=true; unfold sG; (repeat' split); all_goals first | rfl | exact fo rfl)
 | makeFunc fn a b=>exact key (by show eE (cond (CU fn) .bad _)=true; cases CU fn <;> rfl)
 | fieldAddr s x i=>exact key (by show eE (pJ P s x i)=true; unfold pJ; (repeat' split); all_goals rfl)
 | field s x i=>exact key (by show eE (xO P s x i)=true; unfold xO; (repeat' split); all_goals rfl)
 | indexAddr s x i=>exact key (by show eE (pK P s x i)=true; unfold pK; (repeat' split); all_goals rfl)
 | index s x i=>exact key (by show eE (xP P s x i)=true; unfold xP; (repeat' split); all_goals rfl)
 | slice t x lo hi mx=>exact key (by show eE (xQ P t x lo hi mx)=true; unfold xQ; (repeat' split); all_goals first | rfl | exact fo rfl)
 | makeSlice t l c=>exact key (DF _ t l c)
 | _=>exact key rfl
theorem aln {cfg:ga} {op:Op} {g:FuncId} {F:List KV->KR KV} {args:List Operand} (h:cf P cfg op = .Li g F args):compile P op = .call (.func g) args/\∃ F0,cfg.pc g=some F0/\F=fun vs=>cond (Nat.beq vs.length (gw P g).length) (F0 (normArgs P (gw P g) vs)) .no:=by
 have key:eE (cf P cfg op)=true->compile P op = .call (.func g) args/\∃ F0,cfg.pc g=some F0/\F=fun vs=>cond (Nat.beq vs.length (gw P g).length) (F0 (normArgs P (gw P g) vs)) .no:=fun hn=>by rw [h] at hn; simp [eE] at hn
 cases op with
 | call c=>
  have h:oM P cfg c = .Li g F args:=h;show ER P c=_/\_;unfold oM at h;unfold ER;split at h
  ·rename_i g' hc
   split at h
   ·rename_i F0 hF
    cases hz:cfg.amA g' with
    | false=>rw [hz] at h; simp at h
    | true=>
     rw [hz] at h;simp at h; obtain ⟨rfl,rfl,rfl⟩:=h; rw [hc];exact ⟨rfl,F0,hF,rfl⟩
   ·simp at h
  ·simp at h
  ·rename_i b hc
   have:=GP (P:=P) cfg.x.mt b c.argTypes.toList c.args.toList;rw [h] at this;simp [eE] at this
  ·simp at h
 | alloc t=>exact key (by show eE (tj P t)=true; unfold tj; split <;> first | rfl | exact fo rfl)
 | build t ps=>exact key (by show eE (xM P t _ _)=true; unfold xM; (repeat' split); all_goals first | rfl | exact fo rfl)
 | buildSlice t n ps=>exact key (by show eE (oe P t n _ _)=true; unfold oe; (repeat' split); all_goals first | rfl | exact fo (by cases Rf _ <;> first | rfl | exact fo rfl))
 | convert s d x=>exact key (by show eE (sG P s d x)=true; unfold sG; (repeat' split); all_goals first | rfl | exact fo rfl)
 | makeFunc fn a b=>exact key (by show eE (cond (CU fn) .bad _)=true; cases CU fn <;> rfl)
 | fieldAddr s x i=>exact key (by show eE (pJ P s x i)=true; unfold pJ; (repeat' split); all_goals rfl)
 | field s x i=>exact key (by show eE (xO P s x i)=true; unfold xO; (repeat' split); all_goals rfl)
 | indexAddr s x i=>exact key (by show eE (pK P s x i)=true; unfold pK; (repeat' split); all_goals rfl)
 | index s x i=>exact key (by show eE (xP P s x i)=true; unfold xP; (repeat' split); all_goals rfl)
 | slice t x lo hi mx=>exact key (by show eE (xQ P t x lo hi mx)=true; unfold xQ; (repeat' split); all_goals first | rfl | exact fo rfl)
 | makeSlice t l c=>exact key (DF _ t l c)
 | _=>exact key rfl
noncomputable def zk (ins:uY) (t:bL) (A:aB):KR (KV×aB):=
 match ins with
 | .pure f xs=>(f (ox t xs)).map fun v=>(v,A)
 | .read f xs=>(f A (ox t xs)).map fun v=>(v,A)
 | .act f xs=>f A (ox t xs)
 | .look f xs=>(f (ox t xs)).map fun v=>(v,A)
 | .GG _ f xs=>(f (ox t xs)).map fun v=>(v,A)
 | .Li _ f xs=>(f (B5 A (ox t xs)).1).map fun v=>(v,(B5 A (ox t xs)).2)
 | .call _ _=>.no
 | .bad=>.no
theorem ba.Fe {α β:Type} {r:KR α} {f:α->β} {u:α} (h:ba r u):ba (r.map f) (f u):=by
 cases r with
 | no=>exact h.elim
 | ok x=>have h:x=u:=h; subst h; exact rfl
 | nI c x=>obtain ⟨h1,rfl⟩:=h; exact ⟨h1,rfl⟩
 | br c x y=>exact h.imp (fun h=>⟨h.1,ba.Fe (r:=x) h.2⟩) (fun h=>⟨h.1,ba.Fe (r:=y) h.2⟩)
theorem Nd {R:Type} {bJ:qI R} {t:bL} {A:aB} {k:KV->aB->Option R} {ins:uY} {r:R} (hn:∀ f args,ins≠.call f args) (h:Uk bJ t A k ins=some r):∃ v A',ba (zk ins t A) (v,A')/\k v A' = some r:=by
 cases ins with
 | pure f xs=>obtain ⟨v,h1,h2⟩:=KR.Ef h; exact ⟨v,A,h1.Fe,h2⟩
 | read f xs=>obtain ⟨v,h1,h2⟩:=KR.Ef h; exact ⟨v,A,h1.Fe,h2⟩
 | act f xs=>obtain ⟨v,h1,h2⟩:=KR.Ef h; exact ⟨v.1,v.2,h1,h2⟩
 | look f xs=>obtain ⟨v,h1,h2⟩:=KR.Ef h; exact ⟨v,A,h1.Fe,h2⟩
 | GG g f xs=>obtain ⟨v,h1,h2⟩:=KR.Ef h; exact ⟨v,A,h1.Fe,h2⟩
 | Li g f xs=>obtain ⟨v,h1,h2⟩:=KR.Ef h; exact ⟨v,(B5 A (ox t xs)).2,h1.Fe (f:=fun v=>(v,(B5 A (ox t xs)).2)),h2⟩
 | call f args=>exact absurd rfl (hn f args)
 | bad=>exact absurd h (by simp [Uk])
theorem ad9 {cfg:ga} (je:vO P cfg.pc) {o:Oper} {g:FuncId} {xs:List Operand} (bb:compile P o.op = .call (.func g) xs) {F0:List KV->KR KV} (hF0:cfg.pc g=some F0) {t:bL} {vs0:List KV} {v:KV}
  (hf:ba (F0 (normArgs P (gw P g) vs0)) v) (hlen:vs0.length=(gw P g).length) {E:Env} {ρ:a7} {a:Act} (hv:∀ x∈xs,VC P E ρ (nJ t x) (a.eval x)) {A A1:aB} {B:St} {base:Nat} {w:World}
  (awu:∀ us,bo P E (xs.map (nJ t)) us->∃ E1,Ev P base E A B ρ w E1 A1 B ρ w/\bo P E1 vs0 us) {next:Act->World->Prop} {Q:Exit->Act->World->Prop}
  (hk:∀ E' B' a8 v' w',VC P E' a8 v v'->Ev P base E A B ρ w E' A1 B' a8 w'->next (a.put o.dst v') w'):o.upon P a next Q ((execOp a.eval o).run P w):=by
 obtain ⟨hg,qh⟩:=je g F0 hF0 _ _ hf hlen;have aea:=uW P o;rw [bb] at aea;obtain ⟨em,h3,h4⟩:=cM (xs:=xs) hv
 let em2:Operand->Value:=fun x=>match x with
  | .func f=>.func (.func f) #[] #[]
  | x=>em x
 have e3:∀ x∈xs,VK P E (nJ t x) (em2 x)/\VR ρ (em2 x) (a.eval x):=by
  intro x hx;have key:∀ (l:List Operand),bo P E (l.map (nJ t)) (l.map em)->x∈l->VK P E (nJ t x) (em x):=by
   intro l
   induction l with
   | nil=>intro _ h; simp at h
   | cons y l ih=>
    intro h hm;obtain ⟨z,zs,e,q1,q2⟩:=h.cons_inv;simp only [List.map_cons,List.cons.injEq] at e;obtain ⟨rfl,rfl⟩:=e;rcases fp.1 hm with rfl | hm
    ·exact q1
    ·exact ih q2 hm
  cases x with
  | func f=>exact ⟨.amH .nil .nil,VR.afU (l:=[]) (m:=[]) (.func f) rfl .nil .nil⟩
  | tmp i=>exact ⟨key xs h3 hx,h4 _ hx⟩
  | const c=>exact ⟨key xs h3 hx,h4 _ hx⟩
  | global q=>exact ⟨key xs h3 hx,h4 _ hx⟩
 have e4:bo P E (xs.map (nJ t)) (xs.map em2):=by
  have:∀ (l:List Operand),(∀ x∈l,VK P E (nJ t x) (em2 x))->bo P E (l.map (nJ t)) (l.map em2):=by
   intro l
   induction l with
   | nil=>intro _; exact .nil
   | cons y l ih=>intro h; exact .cons (h y (by simp)) (ih fun z hz=>h z (by simp [hz]))
  exact this xs fun x hx=>(e3 x hx).1
 obtain ⟨cU,h5,h6⟩:=aea.2 ρ em2 a.eval g (xs.map em2) (fun x hx=>by
   rcases fp.1 hx with rfl | hx
   ·exact VR.afU (l:=[]) (m:=[]) (.func g) rfl .nil .nil
   ·exact (e3 x hx).2) hg.1 (by simp only [em2,zO]; rw [hg.1]; simp) hg.2
 rw [h6 w];obtain ⟨E1,q1,q2⟩:=awu _ e4;refine (qh E1 A1 B ρ base w cU ⟨xs.map em2,q2,h5⟩ q1.kj).mono ?_;rintro e w' ⟨v',E',B',a8,rfl,h7,h8⟩;exact hk E' B' a8 v' w' h7 (q1.trans h8)
theorem RA {cfg:ga} (je:vO P cfg.pc) {o:Oper} {t:bL} {A A' : aB} {v:KV} {base:Nat} {B:St} {ρ:a7} {a:Act} {w:World} {next:Act->World->Prop} {Q:Exit->Act->World->Prop}
  (h:ba (zk (cf P cfg o.op) t A) (v,A')) (hv:∀ x∈af0 (cf P cfg o.op),VC P E ρ (nJ t x) (a.eval x)) (hj:KJ P E A B ρ base w)
  (hk:∀ E' B' a8 v' w',VC P E' a8 v v'->Ev P base E A B ρ w E' A' B' a8 w'->next (a.put o.dst v') w'):o.wp P a w next Q:=by
 have cq:=aq8 P cfg o;have aqg:=@alm P cfg o.op;have aqh:=@aln P cfg o.op;generalize cf P cfg o.op=ins at h cq hv aqg aqh;unfold Oper.wp;cases ins with
 | pure f xs=>
  obtain ⟨u,h1,h2⟩:=ba.map h;simp only [gF] at h2;obtain ⟨rfl,rfl⟩:=h2;rw [wG] at h1;obtain ⟨v',h3,h4⟩:=cq E ρ (nJ t) a.eval u hv h1;rw [h4 w];exact hk E B ρ v' w h3 (.refl hj.k hj.s)
 | read f xs=>
  obtain ⟨u,h1,h2⟩:=ba.map h;simp only [gF] at h2;obtain ⟨rfl,rfl⟩:=h2;rw [wG] at h1;obtain ⟨v',h3,h4⟩:=cq E A B ρ base w (nJ t) a.eval u hj hv h1;rw [h4];exact hk E B ρ v' w h3 (.refl hj.k hj.s)
 | act f xs=>
  have h:ba (f A (ox t xs)) (v,A'):=h;rw [wG] at h;obtain ⟨E',B',a8,v',nx,w',h1,h2,h3,h4⟩:=cq E A A' B ρ base w (nJ t) a.eval v hj hv h;rw [h1];have hd:=hk E' B' a8 v' w' h3 h4;cases nx with
  | value u=>have:u=v':=h2; subst this; exact hd
  | skip=>have:v' = undef:=h2; subst this; exact hd
  | _=>exact h2.elim
 | look f xs=>
  obtain ⟨u,h1,h2⟩:=ba.map h;simp only [gF] at h2;obtain ⟨rfl,rfl⟩:=h2;rw [wG] at h1;obtain ⟨E',B',a8,v',nx,w',h3,h4,h5,h6⟩:=cq E A B ρ base w (nJ t) a.eval u hj hv h1;rw [h3];have hd:=hk E' B' a8 v' w' h5 h6;cases nx with
  | value u=>have:u=v':=h4; subst this; exact hd
  | skip=>have:v' = undef:=h4; subst this; exact hd
  | _=>exact h4.elim
 | GG g f xs=>
  obtain ⟨u,h1,h2⟩:=ba.map h;simp only [gF] at h2;obtain ⟨rfl,rfl⟩:=h2;obtain ⟨bb,F0,hF0,rfl⟩:=aqg rfl;obtain ⟨hlen,hf⟩:=ba.cond h1;exact ad9 je bb hF0 hf (bm hlen) hv (fun us q=>⟨E,.refl hj.k hj.s,by rw [wG]; exact q⟩) hk
 | Li g f xs=>
  obtain ⟨u,h1,h2⟩:=ba.map h;simp only [gF] at h2;obtain ⟨rfl,rfl⟩:=h2;obtain ⟨bb,F0,hF0,rfl⟩:=aqh rfl;obtain ⟨hlen,hf⟩:=ba.cond h1;refine ad9 je bb hF0 hf (bm hlen) hv (fun us q=>?_) hk;obtain ⟨E1,p1,p2⟩:=Nc hj.k q;rw [wG];exact ⟨E1,p1.ev (.refl hj.s),p2⟩
 | call f args=>exact h.elim
 | bad=>exact h.elim
end Go.K
end
section
namespace Go.K
open Go Go.aF
variable {P:Program} {E:Env}
theorem aeb {R:Type} {cfg:ga} {bJ:qI R} (je:vO P cfg.pc) (zH:PC P bJ) {o:Oper} {t:bL} {A:aB} {k:KV->aB->Option R} {r:R} {N base:Nat} {B:St} {ρ:a7} {a:Act} {w:World} {next:Act->World->Prop} {Q:Exit->Act->World->Prop}
  (h:Uk bJ t A k (cf P cfg o.op)=some r) (ht:nU P E ρ t N a) (hj:KJ P E A B ρ base w)
  (hk:∀ E' A' B' a8 v v' w',k v A' = some r->VC P E' a8 v v'->Ev P base E A B ρ w E' A' B' a8 w'->next (a.put o.dst v') w'):o.wp P a w next Q:=by
 by_cases hc:∃ f args,cf P cfg o.op = .call f args
 ·obtain ⟨f,args,hc⟩:=hc
  rw [hc] at h;have h:Option.rec (motive:=fun _=>Option R) none (fun p=>bJ p.1 p.2 A k) (Lj (ox t args) (nJ t f))=some r:=h;cases ams:Lj (ox t args) (nJ t f) with
  | none=>rw [ams] at h; exact absurd h (by simp)
  | some p=>
   obtain ⟨g,vs⟩:=p;rw [ams] at h;have h:bJ g vs A k=some r:=h;obtain ⟨hg,qh⟩:=zH g vs A k r h;obtain ⟨cU,h1,h2⟩:=alk (ad8 hc) ht ams hg;unfold Oper.wp;rw [h2 w];refine (qh E B ρ base w cU h1 hj).mono ?_;rintro e w' ⟨v,v',E',A',B',a8,rfl,h3,h4,h5⟩;exact hk E' A' B' a8 v v' w' h5 h3 h4
 ·obtain ⟨v,A',h1,h2⟩:=Nd (fun f args e=>hc ⟨f,args,e⟩) h
  exact RA je h1 (fun x _=>ht.ev x) hj fun E' B' a8 v' w' h3 h4=>hk E' A' B' a8 v v' w' h2 h3 h4
theorem am1 {R:Type} {cfg:ga} {bJ:qI R} {all:List Oper} {o:Oper} {k:bL->aB->Option R} {t:bL} {A:aB} {r:R} {N:Nat} {ρ:a7} {a:Act} (ht:nU P E ρ t N a) (h:DC P cfg bJ all o k t A=some r) :
  ∃ t1,(∀ i,t1.get i=t.get i)/\((Region.wanted o (yielded ⟨all⟩ a.tmps)=true/\Uk bJ t1 A (fun v A=>k (tI t1 o.dst v) A) (cf P cfg o.op)=some r)\/
   (Region.wanted o (yielded ⟨all⟩ a.tmps)=false/\k (tI t1 o.dst vY) A=some r)):=by
 unfold DC at h;cases hg:o.guard with
 | none=>
  rw [hg] at h;refine ⟨t,fun _=>rfl,.inl ⟨?_,h⟩⟩;unfold Region.wanted;rw [hg]
 | some p=>
  obtain ⟨j,want⟩:=p;rw [hg] at h;exact alj hg ht h
theorem Uz {R:Type} {cfg:ga} {bJ:qI R} (je:vO P cfg.pc) (zH:PC P bJ) {N base:Nat} {Q:Exit->Act->World->Prop} {all:List Oper} (hd:all.all (N5 N)=true) {k:bL->aB->Option R} {r:R} :
  ∀ (os:List Oper) (j:Nat) (t:bL) (E:Env) (A:aB) (B:St) (ρ:a7) (a:Act) (w:World),all.drop j=os->xA P cfg bJ all k os t A=some r->nU P E ρ t N a->KJ P E A B ρ base w->
   (∀ t' E' A' B' a8 a' w',k t' A' = some r->nU P E' a8 t' N a'->a'.defers=a.defers->Ev P base E A B ρ w E' A' B' a8 w'->Q .normal a' w')->wpOps P ⟨all⟩ Q (List.range' j os.length) a w
 | [],j,t,E,A,B,ρ,a,w,_,h,ht,hj,hq=>hq t E A B ρ a w h ht rfl (.refl hj.k hj.s)
 | o::os,j,t,E,A,B,ρ,a,w,hk,h,ht,hj,hq=>by
  have ho:(⟨all⟩:Array Oper)[j]? = some o:=by
   have:(all.drop j)[0]? = some o:=by rw [hk]; rfl
   rw [rJ] at this;simpa using this
  have Ca:all.drop (j+1)=os:=by rw [<- List.drop_drop,hk]; rfl
  have Ls:∀ d,o.dst=some d->d < N:=by
   intro d e;have hm:o∈all:=jj (by simpa using ho);have:=iu.1 hd o hm;unfold N5 at this;rw [e] at this;simp only at this;rw [bZ] at this;exact this
  rw [Kg,List.range'_succ];simp only [wpOps,ho];have h:DC P cfg bJ all o (xA P cfg bJ all k os) t A=some r:=h;obtain ⟨t1,B9,h⟩:=am1 ht h;have Cd:=ht.same B9;rcases h with ⟨hw,h⟩ | ⟨hw,h⟩
  ·rw [hw]
   refine .inl (aeb je zH h Cd hj fun E' A' B' a8 v v' w' h1 h2 h3=>?_);refine Uz je zH hd os (j+1) _ E' A' B' a8 _ w' Ca h1 ((Cd.mono h3.le (h3.gX.le hj.s)).put Ls h2) h3.kj fun t' PD A'' RB zQ a'' Pa h4 h5 h6 h7=>?_;exact hq t' PD A'' RB zQ a'' Pa h4 h5 (by rw [h6,put_defers]) (h3.trans h7)
  ·rw [hw]
   refine Uz je zH hd os (j+1) _ E A B ρ _ w Ca h (Cd.put Ls .undef) hj fun t' PD A'' RB zQ a'' Pa h4 h5 h6 h7=>?_;exact hq t' PD A'' RB zQ a'' Pa h4 h5 (by rw [h6,put_defers]) h7
abbrev Out:=Bool×KV×aB
inductive Run (P:Program) (cfg:ga) (all:List Oper):List Oper->bL->aB->List Out->bL->aB->Prop where
 | nil {t:bL} {A:aB} : Run P cfg all [] t A [] t A
 | cons {o:Oper} {os:List Oper} {t t1 t' : bL} {A A1 A' : aB} {wd:Bool} {v:KV} {L:List Out}
   (same:∀ i,t1.get i=t.get i)
   (want:(o.guard=none/\wd=true)\/∃ j want d,o.guard=some (j,want)/\(all[j]?).bind (·.dst)=some d/\((∃ b,t.get d=some (.bool b)/\wd=(b==want))\/(∃ l,t.get d=some (.lP l)/\wd=false)))
   (yes:wd=true->ba (zk (cf P cfg o.op) t1 A) (v,A1)) (no:wd=false->v=vY/\A1=A)
   (rest:Run P cfg all os (tI t1 o.dst v) A1 L t' A'):Run P cfg all (o::os) t A ((wd,v,A1)::L) t' A'
theorem RC {R:Type} {t:bL} {d:Option Tmp} {want:Bool} {yes no:bL->Option R} {r:R} (h:amB t d want yes no=some r) :
  ∃ d',d=some d'/\((∃ b t',t.get d' = some (.bool b)/\(∀ i,t'.get i=t.get i)/\((b==want)=true/\yes t' = some r\/(b==want)=false/\no t' = some r))\/∃ l,t.get d' = some (.lP l)/\no t=some r):=by
 unfold amB at h;cases d with
 | none=>exact absurd h (by simp)
 | some d=>
  refine ⟨d,rfl,?_⟩;have h:BK.rec (motive:=fun _=>Option R)
   (fun b=>Bool.rec (motive:=fun _=>Option R)
    (Bool.rec (motive:=fun _=>Option R) (yes (t.set (.bool false) d)) (no (t.set (.bool false) d)) want)
    (Bool.rec (motive:=fun _=>Option R) (no (t.set (.bool true) d)) (yes (t.set (.bool true) d)) want) b)
   (no t) none (yZ ((t.get d).getD .bG))=some r:=h
  have qB:∀ v,(t.get d).getD .bG=v->v≠.bG->t.get d=some v:=by
   intro v e eY;cases hg:t.get d with
   | none=>rw [hg] at e; exact absurd e.symm eY
   | some u=>rw [hg] at e; simp at e; rw [e]
  cases hb:yZ ((t.get d).getD .bG) with
  | no=>rw [hb] at h; exact absurd h (by simp)
  | lP=>
   rw [hb] at h;obtain ⟨l,hl⟩:=ahh hb;exact .inr ⟨l,qB _ hl (by simp),h⟩
  | bool b=>
   rw [hb] at h;refine .inl ⟨b,t.set (.bool b) d,qB _ (Ix hb) (by simp),Rz hb,?_⟩;cases b <;> cases want
   ·exact .inl ⟨rfl,h⟩
   ·exact .inr ⟨rfl,h⟩
   ·exact .inr ⟨rfl,h⟩
   ·exact .inl ⟨rfl,h⟩
theorem aaj {R:Type} {cfg:ga} {bJ:qI R} {all:List Oper} {k:bL->aB->Option R} {r:R} : ∀ {os:List Oper} {t:bL} {A:aB},(∀ o∈os,∀ f args,cf P cfg o.op≠.call f args)->xA P cfg bJ all k os t A=some r->
  ∃ L t' A',Run P cfg all os t A L t' A'/\k t' A' = some r
 | [],t,A,_,h=>⟨[],t,A,.nil,h⟩
 | o::os,t,A,hn,h=>by
  have h:DC P cfg bJ all o (xA P cfg bJ all k os) t A=some r:=h;have Rc:=fun q hq=>hn q (vV o hq);unfold DC at h;cases hg:o.guard with
  | none=>
   rw [hg] at h;obtain ⟨v,A1,h1,h2⟩:=Nd (hn o (by simp)) h;obtain ⟨L,t',A',h3,h4⟩:=aaj Rc h2;exact ⟨_,t',A',.cons (fun _=>rfl) (.inl ⟨hg,rfl⟩) (fun _=>h1) (fun e=>by simp at e) h3,h4⟩
  | some p=>
   obtain ⟨j,want⟩:=p;rw [hg] at h;obtain ⟨d,hd,h⟩:=RC h;rcases h with ⟨b,t1,h1,h2,h3⟩ | ⟨l,h1,h2⟩
   ·rcases h3 with ⟨h3,h4⟩ | ⟨h3,h4⟩
    ·obtain ⟨v,A1,h5,h6⟩:=Nd (hn o (by simp)) h4
     obtain ⟨L,t',A',h7,h8⟩:=aaj Rc h6;exact ⟨_,t',A',.cons h2 (.inr ⟨j,want,d,hg,hd,.inl ⟨b,h1,h3.symm⟩⟩) (fun _=>h5) (fun e=>by simp at e) h7,h8⟩
    ·obtain ⟨L,t',A',h7,h8⟩:=aaj Rc h4
     exact ⟨_,t',A',.cons h2 (.inr ⟨j,want,d,hg,hd,.inl ⟨b,h1,h3.symm⟩⟩) (fun e=>by simp at e) (fun _=>⟨rfl,rfl⟩) h7,h8⟩
   ·obtain ⟨L,t',A',h7,h8⟩:=aaj Rc h2
    exact ⟨_,t',A',.cons (fun _=>rfl) (.inr ⟨j,want,d,hg,hd,.inr ⟨l,h1,rfl⟩⟩) (fun e=>by simp at e) (fun _=>⟨rfl,rfl⟩) h7,h8⟩
noncomputable def turns (P:Program) (cfg:ga) (o:Oper) (x:Out):Bool:=x.1&&Nat.ble 3 (ej (cf P cfg o.op))
noncomputable def kd (S:Nat->Bool):List Oper->List Out->Nat->bL->bL
 | o::os,x::L,i,t=>kd S os L (i+1) (cond (S i) (tI t o.dst x.2.1) t)
 | _,_,_,t=>t
noncomputable def qE (P:Program) (cfg:ga) (S:Nat->Bool):List Oper->List Out->Nat->aB->aB
 | o::os,x::L,i,A=>qE P cfg S os L (i+1) (cond (S i&&turns P cfg o x) x.2.2 A)
 | _,_,_,A=>A
theorem wH (t:bL) (dst:Option Tmp) (v:KV) (x:Tmp):(tI t dst v).get x=if dst=some x then some v else t.get x:=by
 cases dst with
 | none=>rfl
 | some d=>
  simp only [tI,Trie.sm,dG];by_cases h:x=d
  ·rw [aV h,aV h.symm]
  ·rw [ay h,ay (Ne.symm h)]
theorem GQ (S:Nat->Bool):∀ (os:List Oper) (L:List Out) (k:Nat) (t:bL),kd S os L (k+1) t=kd (fun i=>S (i+1)) os L k t
 | [],L,k,t=>by cases L <;> rfl
 | o::os,[],k,t=>rfl
 | o::os,x::L,k,t=>by simp only [kd]; exact GQ S os L (k+1) _
theorem YP {cfg:ga} (S:Nat->Bool):∀ (os:List Oper) (L:List Out) (k:Nat) (A:aB),qE P cfg S os L (k+1) A=qE P cfg (fun i=>S (i+1)) os L k A
 | [],L,k,t=>by cases L <;> rfl
 | o::os,[],k,t=>rfl
 | o::os,x::L,k,t=>by simp only [qE]; exact YP S os L (k+1) _
theorem oP {S S' : Nat->Bool} {y:Tmp} : ∀ {os:List Oper} {L:List Out} {k:Nat} {t t' : bL},t.get y=t'.get y->(∀ i o,os[i]? = some o->o.dst=some y->S (k+i)=S' (k+i))->(kd S os L k t).get y=(kd S' os L k t').get y
 | [],L,k,t,t',h,_=>by cases L <;> exact h
 | o::os,[],k,t,t',h,_=>h
 | o::os,x::L,k,t,t',h,hs=>by
  simp only [kd];refine oP ?_ fun i o' ho hd=>by have:=hs (i+1) o' (by simpa using ho) hd; rwa [show k+(i+1)=k+1+i by omega] at this
  by_cases hd:o.dst=some y
  ·have:=hs 0 o rfl hd
   rw [zh] at this;rw [this];cases S' k with
   | true=>simp only [ai,wH,aV hd]
   | false=>exact h
  ·have e:∀ (b:Bool) (u:bL),(cond b (tI u o.dst x.2.1) u).get y=u.get y:=by
    intro b u;cases b with
    | true=>rw [ai,wH,ay hd]
    | false=>rfl
   rw [e,e]; exact h
theorem ahi {S:Nat->Bool} {y:Tmp} : ∀ {os:List Oper} {L:List Out} {k i:Nat} {t:bL} {o:Oper} {x:Out},os[i]? = some o->L[i]? = some x->o.dst=some y->(∀ j q,os[j]? = some q->q.dst=some y->i < j->S (k+j)=false)->
  (kd (da S (k+i)) os L k t).get y=some x.2.1
 | [],L,k,i,t,o,x,ho,_,_,_=>by simp at ho
 | q::os,[],k,i,t,o,x,_,hx,_,_=>by simp at hx
 | q::os,u::L,k,0,t,o,x,ho,hx,hd,hs=>by
  simp at ho hx;subst ho hx;simp only [kd,zh];have hk:da S k k=true:=by simp [da]
  rw [hk,ai];have:=oP (S:=da S k) (S':=fun _=>false) (y:=y) (os:=os) (L:=L) (k:=k+1) (t:=tI t q.dst u.2.1) (t':=tI t q.dst u.2.1) rfl (fun j q' hq hqd=>by
   have h1:=hs (j+1) q' (by simpa using hq) hqd (by omega);rw [show k+(j+1)=k+1+j by omega] at h1;simp only [da,h1,Bool.false_or];cases hb:Nat.beq (k+1+j) k with
   | false=>rfl
   | true=>have:=bm hb; omega)
  rw [this];have Jc:∀ (os:List Oper) (L:List Out) (k:Nat) (t:bL),kd (fun _=>false) os L k t=t:=by
   intro os
   induction os with
   | nil=>intro L k t; cases L <;> rfl
   | cons o os ih=>intro L k t; cases L with
    | nil=>rfl
    | cons x L=>simp only [kd,aw]; exact ih L _ t
  rw [Jc,wH,aV hd]
 | q::os,u::L,k,i+1,t,o,x,ho,hx,hd,hs=>by
  simp only [kd];rw [show k+(i+1)=k+1+i by omega];exact ahi (by simpa using ho) (by simpa using hx) hd fun j q' hq hqd bt=>by
   have:=hs (j+1) q' (by simpa using hq) hqd (by omega);rwa [show k+(j+1)=k+1+j by omega] at this
theorem Nf {cfg:ga} {S S' : Nat->Bool} : ∀ {os:List Oper} {L:List Out} {k:Nat} {A:aB},(∀ i o x,os[i]? = some o->L[i]? = some x->turns P cfg o x=true->S (k+i)=S' (k+i))->qE P cfg S os L k A=qE P cfg S' os L k A
 | [],L,k,A,_=>by cases L <;> rfl
 | o::os,[],k,A,_=>rfl
 | o::os,x::L,k,A,h=>by
  simp only [qE];have h0:(S k&&turns P cfg o x)=(S' k&&turns P cfg o x):=by
   cases ht:turns P cfg o x with
   | false=>simp
   | true=>have:=h 0 o x rfl rfl ht; rw [zh] at this; rw [this]
  rw [h0];exact Nf fun i o' x' ho hx ht=>by have:=h (i+1) o' x' (by simpa using ho) (by simpa using hx) ht; rwa [show k+(i+1)=k+1+i by omega] at this
def RD (all:List Oper) (o:Oper) (t:bL) (wd:Bool):Prop:=(o.guard=none/\wd=true)\/∃ j want d,o.guard=some (j,want)/\(all[j]?).bind (·.dst)=some d/\((∃ b,t.get d=some (.bool b)/\wd=(b==want))\/(∃ l,t.get d=some (.lP l)/\wd=false))
theorem GS {cfg:ga} {o:Oper} {t:bL} {A A1:aB} {v:KV} (h:ba (zk (cf P cfg o.op) t A) (v,A1)) (hk:Nat.ble 3 (ej (cf P cfg o.op))=false):A1=A:=by
 generalize cf P cfg o.op=ins at h hk;cases ins with
 | pure f xs=>obtain ⟨u,_,h2⟩:=ba.map h; simp at h2; exact h2.2.symm
 | read f xs=>obtain ⟨u,_,h2⟩:=ba.map h; simp at h2; exact h2.2.symm
 | act f xs=>exact absurd hk (by simp [ej])
 | look f xs=>obtain ⟨u,_,h2⟩:=ba.map h; simp at h2; exact h2.2.symm
 | GG g f xs=>obtain ⟨u,_,h2⟩:=ba.map h; simp at h2; exact h2.2.symm
 | Li g f xs=>exact absurd hk (by simp [ej])
 | call f xs=>exact h.elim
 | bad=>exact h.elim
theorem Run.at {cfg:ga} {all:List Oper} : ∀ {os:List Oper} {t t' : bL} {A A' : aB} {L:List Out},Run P cfg all os t A L t' A'->
  L.length=os.length/\(∀ y,t'.get y=(kd (fun _=>true) os L 0 t).get y)/\A' = qE P cfg (fun _=>true) os L 0 A/\
  ∀ i o x,os[i]? = some o->L[i]? = some x->∃ t1,(∀ y,t1.get y=(kd (fun j=>Nat.blt j i) os L 0 t).get y)/\RD all o t1 x.1/\(x.1=true->ba (zk (cf P cfg o.op) t1 (qE P cfg (fun j=>Nat.blt j i) os L 0 A)) (x.2.1,x.2.2))/\(x.1=false->x.2.1=vY)
 | _,_,_,_,_,_,.nil=>⟨rfl,fun _=>rfl,rfl,fun i o x ho=>by simp at ho⟩
 | o::os,t,t',A,A',(wd,v,A1)::L,.cons (t1:=t1) same want yes no rest=>by
  obtain ⟨h1,h2,h3,h4⟩:=rest.at;have hA1:cond (turns P cfg o (wd,v,A1)) A1 A=A1:=by
   cases ht:turns P cfg o (wd,v,A1) with
   | true=>rfl
   | false=>
    rw [aw];cases wd with
    | false=>exact (no rfl).2.symm
    | true=>exact (GS (yes rfl) (by simpa [turns] using ht)).symm
  have aec:∀ y,(tI t1 o.dst v).get y=(tI t o.dst v).get y:=fun y=>by rw [wH,wH,same]
  refine ⟨by simp [h1],fun y=>?_,?_,fun i q x hq hx=>?_⟩
  ·rw [h2 y]
   simp only [kd,ai];rw [GQ];exact oP (aec y) fun _ _ _ _=>rfl
  ·rw [h3]
   simp only [qE,MU];rw [YP,hA1]
  ·cases i with
   | zero=>
    simp at hq hx;subst hq hx;have e0:∀ (os:List Oper) (L:List Out) (k:Nat) (t:bL),kd (fun j=>Nat.blt j 0) os L k t=t:=by
     intro os
     induction os with
     | nil=>intro L k t; cases L <;> rfl
     | cons o os ih=>intro L k t; cases L with
      | nil=>rfl
      | cons x L=>simp only [kd]; exact ih L _ t
    have e1:∀ (os:List Oper) (L:List Out) (k:Nat) (A:aB),qE P cfg (fun j=>Nat.blt j 0) os L k A=A:=by
     intro os
     induction os with
     | nil=>intro L k t; cases L <;> rfl
     | cons o os ih=>intro L k t; cases L with
      | nil=>rfl
      | cons x L=>simp only [qE]; exact ih L _ t
    refine ⟨t1,fun y=>by rw [e0]; exact same y,?_,fun e=>by rw [e1]; exact yes e,fun e=>(no e).1⟩;rcases want with h | ⟨j,wt,d,e2,e3,e4⟩
    ·exact .inl h
    ·exact .inr ⟨j,wt,d,e2,e3,by rw [same]; exact e4⟩
   | succ i=>
    obtain ⟨t2,h5,h6,h7,h8⟩:=h4 i q x (by simpa using hq) (by simpa using hx);have hsh:(fun j=>Nat.blt (j+1) (i+1))=fun j=>Nat.blt j i:=by
     funext j;cases hb:Nat.blt j i with
     | true=>rw [bZ] at hb ⊢; omega
     | false=>
      cases hc:Nat.blt (j+1) (i+1) with
      | false=>rfl
      | true=>rw [bZ] at hc; rw [show Nat.blt j i=true from by rw [bZ]; omega] at hb; simp at hb
    have h01:Nat.blt 0 (i+1)=true:=by rw [bZ]; omega
    have jN:qE P cfg (fun j=>Nat.blt j (i+1)) (o::os) ((wd,v,A1)::L) 0 A=qE P cfg (fun j=>Nat.blt j i) os L 0 A1:=by
     simp only [qE,h01,MU];rw [YP,hA1,hsh]
    refine ⟨t2,fun y=>?_,h6,fun e=>by rw [jN]; exact h7 e,h8⟩;rw [h5 y];simp only [kd,h01,ai];rw [GQ,hsh];exact oP (aec y) fun _ _ _ _=>rfl
end Go.K
end
