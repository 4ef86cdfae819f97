/- Part of the proof of BinsTell: the machine, shown to be the model's, and plain models. No conditions. -/
import Derived.Test.YtchbpckkmgcgkaaGreatCp
set_option linter.unusedSimpArgs false
set_option linter.unusedVariables false
section
namespace Go.K
open Go Go.aB
variable {P:Program} {E:Env}
def mkE (agg:Bool) (m:List Value):Value:=cond agg (.agg ⟨m⟩) (m.headD .nilIface)
theorem aeY {agg:Bool} {m:List Value} (hs:∀ v∈m,scalar v=true) (h:agg=true\/m.length=1):(mkE agg m).cells.toList=m:=by
 cases agg with
 | true=>rfl
 | false=>
  rcases h with h | h
  ·simp at h
  ·match m,h with
   | [v],_=>
    have:=hs v (by simp);show v.cells.toList = [v];cases v <;> first | rfl | simp [scalar] at this
theorem aav {l:yR} {ks:List KV} (h:aI l.ks ks=true) (ha:l.agg=true\/l.ks.length=1):cC l (Q0 l.agg ks)=true:=by
 obtain ⟨agg,cs⟩:=l;cases agg with
 | true=>simpa [Q0,cC] using h
 | false=>
  simp at ha
  match cs,ha,ks,h with
  | [c],_,[v],h=>
   have hk:kindOk c v=true:=by simpa [aI] using h
   show cC ⟨false,[c]⟩ v=true;cases v with
   | agg cs=>cases c <;> simp [kindOk] at hk
   | iv cs=>cases c <;> simp [kindOk] at hk
   | _=>simpa [cC] using h
  | [c],_,[],h=>simp [aI] at h
  | [c],_,_::_::_,h=>simp [aI] at h
theorem aeZ {E:Env} {ks:List KV} {m:List Value} {agg:Bool} (h:bm P E ks m) (ha:agg=true\/m.length=1):VK P E (Q0 agg ks) (mkE agg m):=by
 cases agg with
 | true=>exact .rQ h
 | false=>
  rcases ha with ha | ha
  ·simp at ha
  ·match m,ha,ks,h with
   | [v],_,ks,h=>
    have hl:=h.length
    match ks,hl,h with
    | [k],_,h=>
     obtain ⟨y,ys,e,h1,_⟩:=h.cons_inv;simp at e;rw [e.1];exact h1
theorem O8 {α:Type} : ∀ {n:Nat} {l vs r:List α},mD n l vs=some r->
  r.length=l.length/\(vs≠[]->n+vs.length<=l.length)/\∀ (i:Nat),r[i]? = if n<=i/\i < n+vs.length then vs[i - n]? else l[i]?
 | 0,l,[],r,h=>by simp [mD] at h; subst h; simp
 | 0,[],_::_,r,h=>by simp [mD] at h
 | 0,x::l,v::vs,r,h=>by
  simp only [mD,cR] at h;obtain ⟨q,hq,rfl⟩:=h;obtain ⟨h1,h2,h3⟩:=O8 hq;refine ⟨by simp [h1],?_,fun i=>?_⟩
  ·intro _
   cases vs with
   | nil=>simp
   | cons u us=>have:=h2 (by simp); simp at this ⊢; omega
  ·cases i with
   | zero=>simp
   | succ i=>simp [h3 i]
 | n+1,[],[],r,h=>by simp [mD] at h; subst h; simp
 | n+1,[],_::_,r,h=>by simp [mD] at h
 | n+1,x::l,vs,r,h=>by
  simp only [mD,cR] at h;obtain ⟨q,hq,rfl⟩:=h;obtain ⟨h1,h2,h3⟩:=O8 hq;refine ⟨by simp [h1],?_,fun i=>?_⟩
  ·intro eF
   have:=h2 eF;simp at this ⊢;omega
  ·cases i with
   | zero=>simp
   | succ i=>
    simp only [TA,h3 i];by_cases hc:n<=i/\i < n+vs.length
    ·rw [aR hc,aR (by omega),show i+1 - (n+1)=i - n by omega]
    ·rw [ay hc,ay (by omega)]
theorem Wk (v:KV):∀ (es:List KV) (i j:Nat),(setAt es i v).getD j .bD=if j=i/\i < es.length then v else es.getD j .bD
 | [],0,j=>by simp [setAt]
 | [],_+1,j=>by simp [setAt]
 | e::es,0,0=>by simp [setAt]
 | e::es,0,j+1=>by simp [setAt]
 | e::es,i+1,0=>by simp [setAt]
 | e::es,i+1,j+1=>by
  have:=Wk v es i j;simp only [setAt,List.getD_cons_succ,HP];rw [this];by_cases h:j=i/\i < es.length
  ·rw [aR h,aR ⟨by omega,by omega⟩]
  ·rw [ay h,ay (by omega)]
theorem C7:∀ (n:Nat) (l vs:List Value),n+vs.length<=l.length->∃ r,ig n l vs=some r
 | 0,l,[],_=>⟨l,rfl⟩
 | 0,[],_::_,h=>by simp at h
 | 0,x::l,v::vs,h=>by
  obtain ⟨r,hr⟩:=C7 0 l vs (by simp at h ⊢; omega);exact ⟨v::r,by rw [xO,hr]; rfl⟩
 | n+1,[],[],_=>⟨[],rfl⟩
 | n+1,[],_::_,h=>by simp at h
 | n+1,x::l,vs,h=>by
  obtain ⟨r,hr⟩:=C7 n l vs (by simp at h ⊢; omega);exact ⟨x::r,by rw [tL,hr]; rfl⟩
theorem ab0:∀ {ks:List CK} {cs:List KV},cs.length=ks.length->(∀ (i:Nat) c v,ks[i]? = some c->cs[i]? = some v->kindOk c v=true)->aI ks cs=true
 | [],[],_,_=>rfl
 | [],_::_,h,_=>by simp at h
 | _::_,[],h,_=>by simp at h
 | c::ks,v::cs,h,k=>by
  simp only [aI,aD];exact ⟨k 0 c v rfl rfl,ab0 (by simpa using h) fun i d u e1 e2=>k (i+1) d u (by simpa using e1) (by simpa using e2)⟩
theorem amq {l:yR} {e:KV} (h:cC l e=true):l.agg=true\/e.cells.length=1:=by
 by_cases ha:∃ cs,e = .agg cs
 ·obtain ⟨cs,rfl⟩:=ha
  simp only [cC,aD] at h;exact .inl h.1
 ·have hc:e.cells = [e]:=by cases e <;> first | rfl | exact absurd ⟨_,rfl⟩ ha
  rw [hc];exact .inr rfl
theorem aov {T t:TypeId} {k:Nat} {e vn e2:KV} {u w:Value} (hw:adS P T t k) (DY:cC (bu P T) e=true) (hu:VK P E e u) (hvn:cC (bu P t) vn=true) (hvw:VK P E vn w) (h:aai P T k e vn.cells=some e2) :
  ∃ u2,VK P E e2 u2/\cC (bu P T) e2=true/\u2.cells.size=bz P T/\e2.cells.length=e.cells.length/\(∀ m,u2.cells.toList[m]? = if k<=m/\m < k+w.cells.toList.length then w.cells.toList[m - k]? else u.cells.toList[m]?)/\(w.cells.toList≠[]->k+w.cells.toList.length<=bz P T):=by
 unfold aai at h;obtain ⟨l1,l2,_⟩:=O7 DY;rw [l1] at h;obtain ⟨om,h1,rfl⟩:=cR.1 h;obtain ⟨MX,hk2⟩:=iI DY;obtain ⟨Rl,HR⟩:=iI hvn;have hcu:=hu.cells hk2;have hcw:=hvw.cells HR;obtain ⟨r,h2,h3⟩:=bm.mD h1 hcu hcw;obtain ⟨s1,s2,s3⟩:=ij h2;obtain ⟨q1,q2,q3⟩:=O8 h1;have OQ:e.cells.length=bz P T:=tl MX;have Bu:=amq DY;have hlr:r.length=e.cells.length:=by rw [s1,hcu.length]
 have uw:aI (bu P T).ks om=true:=by
  refine ab0 (by rw [q1]; exact OQ) fun i c v e1 e3=>?_;rw [q3 i] at e3;split at e3
  ·rename_i hc
   obtain ⟨x,H0,hx2⟩:∃ d,(bu P t).ks[i - k]? = some d/\d=c:=by
    have a8:i - k < (bu P t).ks.length:=by rw [<- tl Rl]; omega
    refine ⟨_,dz a8,?_⟩;have:=hw.is (i - k) _ (dz a8);rw [show k+(i - k)=i by omega,e1] at this;simpa using this.symm
   subst hx2;obtain ⟨v',h4,h5⟩:=C6 Rl H0;rw [e3] at h4;simp at h4; subst h4;exact h5
  ·obtain ⟨v',h4,h5⟩:=C6 MX e1
   rw [e3] at h4;simp at h4; subst h4;exact h5
 have arZ:cC (bu P T) (Q0 (bu P T).agg om)=true:=aav uw (by
  rcases Bu with h | h
  ·exact .inl h
  ·exact .inr (by rw [<- tl MX]; exact h))
 have hsc:∀ v∈r,scalar v=true:=h3.scalar (HY uw);have yQ:(mkE (bu P T).agg r).cells.toList=r:=aeY hsc (Bu.imp id fun h=>by rw [hlr]; exact h);refine ⟨mkE (bu P T).agg r,aeZ h3 (Bu.imp id fun h=>by rw [hlr]; exact h),arZ,?_,?_,fun m=>?_,fun eF=>?_⟩
 ·rw [<- Array.length_toList,yQ,hlr]; exact OQ
 ·exact (tl (iI arZ).1).trans OQ.symm
 ·rw [yQ]; exact s3 m
 ·have:=s2 eF
  rw [hcu.length] at this;omega
theorem aow {sz i k:Nat} {cs:List Value} {bx:List Value} {u u2:Value} {wl:List Value} (hl:qK sz 0 cs bx) (hi:bx[i]? = some u) (hsu:u.cells.size=sz) (pU:wl≠[]->k+wl.length<=sz) (hg:∀ m,u2.cells.toList[m]? = if k<=m/\m < k+wl.length then wl[m - k]? else u.cells.toList[m]?) (lz:u2.cells.size=sz) :
  ∃ om,ig (i * sz+k) cs wl=some om/\qK sz 0 om (bx.set i u2)/\om.length=cs.length:=by
 have hex:∃ om,ig (i * sz+k) cs wl=some om:=by
  cases hwl:wl with
  | nil=>exact ⟨cs,Rm _ _⟩
  | cons a l=>
   have hf:=pU (by rw [hwl]; simp);rw [hwl] at hf;obtain ⟨_,hc⟩:=hl i u hi;have a8:k+l.length < u.cells.size:=by rw [hsu]; simp at hf; omega
   have:=hc (k+l.length) u.cells[k+l.length] (by simp [a8]);have hb:=(c8.1 this).1;exact C7 _ _ _ (by simp; omega)
 obtain ⟨om,h1⟩:=hex;obtain ⟨s1,s2,s3⟩:=ij h1;refine ⟨om,h1,fun j x hx=>?_,s1⟩;rw [List.getElem?_set] at hx;split at hx
 ·rename_i e
  subst e;split at hx
  ·simp at hx; subst hx
   refine ⟨lz,fun m y hy=>?_⟩;have hy' : u2.cells.toList[m]? = some y:=by simpa using hy
   have hm:m < sz:=by rw [<- lz]; exact (CP.1 hy).1
   rw [hg m] at hy';rw [bd,s3];split at hy'
   ·rw [aR (by omega),show i * sz+m - (i * sz+k)=m - k by omega]; exact hy'
   ·rw [ay (by omega)]
    have:=(hl i u hi).2 m y (by simpa using hy');rwa [bd] at this
  ·simp at hx
 ·rename_i eF
  obtain ⟨h2,h3⟩:=hl j x hx;refine ⟨h2,fun m y hy=>?_⟩;have hm:m < sz:=by rw [<- h2]; exact (CP.1 hy).1
  rw [s3,ay]
  ·exact h3 m y hy
  ·rintro ⟨ha,hb⟩
   cases hwl:wl with
   | nil=>rw [hwl] at hb; simp at hb; omega
   | cons a l=>
    have hf:=pU (by rw [hwl]; simp);rcases Nat.lt_or_gt_of_ne eF with h | h
    ·have:(i+1) * sz<=j * sz:=Nat.mul_le_mul_right _ h
     rw [Nat.succ_mul] at this;omega
    ·have:(j+1) * sz<=i * sz:=Nat.mul_le_mul_right _ h
     rw [Nat.succ_mul] at this;omega
theorem amr {T:TypeId} {N i:Nat} {es:List KV} {acc:Nat->KV} {e:KV} (ht:ji P T N es acc) (hi:i < N) (he:cC (bu P T) e=true):ji P T N (setAt es i e) (vD acc i e) where
 len:=by rw [FL]; exact ht.len
 acc j hj:=by
  rw [Wk];unfold vD;cases hb:Nat.beq j i with
  | true=>have:=bh hb; rw [aR ⟨this,by rw [<- ht.len]; exact hi⟩]; rfl
  | false=>rw [ay (fun h=>by rw [h.1,kp] at hb; simp at hb)]; exact ht.acc j hj
 typed:=rj fun j x hx=>by
  have Ym:x=(setAt es i e).getD j .bD:=by rw [gK,hx]; rfl
  rw [Wk] at Ym;split at Ym
  ·rw [Ym]; exact he
  ·rename_i eF
   have a8:j < es.length:=by rw [<- FL es i e]; exact (c8.1 hx).1
   exact j7 ht.typed (i:=j) (by rw [Ym,gK,dz a8]; rfl)
theorem H2 {B:St} {x y lo hi:Nat} {cc:Option (Nat×Nat)} : (B.gf x cc lo hi).get y=B.get y\/∃ g k,cc=some (g,k)/\y∈B.members g/\y≠x/\(B.gf x cc lo hi).get y=some .dead/\∃ cs e own f j,B.get y=some (.row cs e own (some (f,j))):=by
 cases cc with
 | none=>exact .inl rfl
 | some p=>
  obtain ⟨g,k⟩:=p;simp only [St.gf,El];by_cases hc:y∈B.members g/\y≠x/\tK (B.get y) (k+lo) (k+hi)=true
  ·refine .inr ⟨g,k,rfl,hc.1,hc.2.1,by rw [aR hc],?_⟩
   have hs:=hc.2.2;unfold tK at hs;split at hs
   ·rename_i cs e own f j hy; exact ⟨cs,e,own,f,j,hy⟩
   ·simp at hs
  ·exact .inl (by rw [ay hc])
theorem Ni {B:St} {x lo hi:Nat} {cc:Option (Nat×Nat)} : (B.gf x cc lo hi).members=B.members:=by
 cases cc with
 | none=>rfl
 | some p=>simp [St.gf]
theorem Vc {B:St} {x lo hi:Nat} {cc:Option (Nat×Nat)} : (B.gf x cc lo hi).next=B.next:=by
 cases cc with
 | none=>rfl
 | some p=>simp [St.gf]
theorem ei.anx {A:aC} {B:St} {b x N lo hi:Nat} {T:TypeId} {es:List KV} {acc:Nat->KV} {bx cs nK:List Value} {cc:Option (Nat×Nat)} (h:fK P E A B) (hb:∃ v,A.get b=some (.arr v)) (hx:E.α b=some (x,nK.length,N))
  (jZ:B.get x=some (.row nK (bz P T) true cc)) (hlen:cs.length=nK.length) (fC:1<=bz P T) (ht:ji P T N es acc) (RH:bm P E es bx) (hl:qK (bz P T) 0 cs bx) :
  ei P E A B E (A.put b (.arr (.ts T .any N es acc))) ((B.put x (.row cs (bz P T) true cc)).gf x cc lo hi):=by
 obtain ⟨v0,hb⟩:=hb;have tP:AR A E x:=⟨b,v0,_,_,hb,hx⟩
 have ki:((B.put x (.row cs (bz P T) true cc)).gf x cc lo hi).get x=some (.row cs (bz P T) true cc):=by
  rcases H2 (B:=B.put x (.row cs (bz P T) true cc)) (x:=x) (y:=x) (lo:=lo) (hi:=hi) (cc:=cc) with e | ⟨g,k,_,_,h3,_⟩
  ·rw [e]; simp
  ·exact absurd rfl h3
 have hgy:∀ y,y≠x->((B.put x (.row cs (bz P T) true cc)).gf x cc lo hi).get y=B.get y\/(((B.put x (.row cs (bz P T) true cc)).gf x cc lo hi).get y=some .dead/\∃ g k,cc=some (g,k)/\y∈B.members g):=by
  intro y hy;rcases H2 (B:=B.put x (.row cs (bz P T) true cc)) (x:=x) (y:=y) (lo:=lo) (hi:=hi) (cc:=cc) with e | ⟨g,k,h1,h2,_,h4,_⟩
  ·exact .inl (by rw [e,St.cg,ay hy])
  ·exact .inr ⟨h4,g,k,h1,by simpa using h2⟩
 have ot:((B.put x (.row cs (bz P T) true cc)).gf x cc lo hi).members=B.members:=by rw [Ni]; simp
 have jz:((B.put x (.row cs (bz P T) true cc)).gf x cc lo hi).next=B.next:=by rw [Vc]; simp
 generalize (B.put x (.row cs (bz P T) true cc)).gf x cc lo hi=B' at ki hgy ot jz;have RI:∀ y,y≠x->(E.z y≠none\/AR A E y\/∃ c,E.κ c=some y)->B'.get y=B.get y:=by
  intro y hy hs;rcases hgy y hy with e | ⟨_,g,k,rfl,h2⟩
  ·exact e
  ·obtain ⟨_,_,h3⟩:=h.ar.vr b v0 x _ _ _ _ _ g k hb hx jZ
   obtain ⟨h4,h5,h6⟩:=h3 y h2 hy;rcases hs with hs | hs | ⟨c,hs⟩
   ·exact absurd h4 hs
   ·exact absurd hs h5
   ·exact absurd hs (h6 c)
 have hA:∀ (c:Nat) (v:KV),(A.put b (.arr (.ts T .any N es acc))).get c=some (.arr v)->∃ u,A.get c=some (.arr u):=fun c v hc=>by
  rw [aC.cg] at hc;split at hc
  ·rename_i e; exact ⟨v0,by rw [e]; exact hb⟩
  ·exact ⟨v,hc⟩
 have RJ:∀ y,AR (A.put b (.arr (.ts T .any N es acc))) E y->AR A E y:=fun y q=>by
  obtain ⟨c,v,L,M,h1,h2⟩:=q;obtain ⟨u,h1⟩:=hA c v h1;exact ⟨c,u,L,M,h1,h2⟩
 have ae0:∀ y,AR A E y->∀ qS e own Yq,B'.get y=some (.row qS e own Yq)->∃ om,B.get y=some (.row om e own Yq)/\om.length=qS.length:=fun y q qS e own Yq hy=>by
  by_cases F4:y=x
  ·subst F4
   rw [ki] at hy;simp at hy;obtain ⟨rfl,rfl,rfl,rfl⟩:=hy;exact ⟨nK,jZ,hlen.symm⟩
  ·rw [RI y F4 (.inr (.inl q))] at hy
   exact ⟨qS,hy,rfl⟩
 have akj:∀ g,AF (A.put b (.arr (.ts T .any N es acc))) E B' g->AF A E B g:=fun g q=>by
  obtain ⟨c,v,y,L,M,qS,e,own,k,h1,h2,h3⟩:=q;obtain ⟨u,h1⟩:=hA c v h1;obtain ⟨om,h3,_⟩:=ae0 y ⟨c,u,L,M,h1,h2⟩ _ _ _ _ h3;exact ⟨c,u,y,L,M,om,e,own,k,h1,h2,h3⟩
 refine ⟨⟨?_,?_,?_,h.apart,h.inj,h.j6.put (.inl fun _ _=>by simp),h.mA,h.oI,?_,fun b x e=>by rw [jz]; exact h.gX b x e,fun b r e=>by rw [jz]; exact h.oS b r e,fun b g e=>by rw [jz]; exact h.kG b g e,fun g hg=>by rw [jz] at hg; rw [ot]; exact h.fresh g hg,fun g y hy=>by rw [ot] at hy; rw [jz]; exact h.mem g y hy,?_⟩,Env.le_refl _,aQ _,?_,fun _ _ e=>.inl e,fun _ _ e=>.inl e,fun _ _ e=>.inl e,fun _ _ _ _=>by rw [ot],fun y q=>.inl (RJ y q),fun g q=>.inl (akj g q),fun g y q=>.inl (by rw [ot] at q; exact q),fun y q=>.inl ?_,?_⟩
 ·intro c qS bV hc
  rw [aC.cg] at hc;split at hc
  ·simp at hc
  ·obtain ⟨y,c1,h1,h2,h3⟩:=h.row c qS bV hc
   have hy:y≠x:=fun e=>(h.ar.z x tP).2 c (by rw [<- e]; exact h1);exact ⟨y,c1,h1,by rw [RI y hy (.inr (.inr ⟨c,h1⟩))]; exact h2,h3⟩
 ·intro c top GF hc
  rw [aC.cg] at hc;split at hc
  ·simp at hc
  ·rcases h.bc c top GF hc with h1 | ⟨g,h1,h2,h3⟩
   ·exact .inl h1
   ·refine .inr ⟨g,h1,h2,fun y hy qS e own f k hr=>?_⟩
    rw [ot] at hy;by_cases F4:y=x
    ·subst F4
     rw [ki] at hr;simp at hr;obtain ⟨rfl,_,_,rfl⟩:=hr;obtain ⟨h4,h5⟩:=h3 y hy nK _ _ f k jZ;exact ⟨h4,by rw [hlen]; exact h5⟩
    ·rcases hgy y F4 with e1 | ⟨e1,_⟩
     ·rw [e1] at hr; exact h3 y hy qS e own f k hr
     ·rw [e1] at hr; simp at hr
 ·intro y r hy
  have F4:y≠x:=fun e=>by have:=(h.ar.z x tP).1; rw [<- e,hy] at this; simp at this
  rw [RI y F4 (.inl (by rw [hy]; simp))];exact h.z y r hy
 ·intro c o hc
  rw [aC.cg] at hc;split at hc
  ·rename_i e; rw [e]; exact h.live b _ hb
  ·exact h.live c o hc
 ·refine ⟨?_,?_,fun y q=>h.ar.z y (RJ y q),?_,?_,h.ar.dis,h.ar.mA,fun b x L N e=>by rw [jz]; exact h.ar.gX b x L N e,?_,fun c v hc=>?_⟩
  ·intro c v hc
   rw [aC.cg] at hc;split at hc
   ·rename_i e
    simp at hc;subst hc e;exact ⟨T,N,es,acc,rfl,ht,fC,.inr ⟨x,cs,cc,bx,by rw [hlen]; exact hx,ki,RH,hl⟩⟩
   ·rename_i eF
    refine (h.ar.arr c v hc).mono (Env.le_refl _) rfl fun y L M e=>?_;have F4:y≠x:=fun e2=>eF (h.ar.inj c b v v0 x _ _ _ _ hc hb (by rw [<- e2]; exact e) hx);exact RI y F4 (.inr (.inl ⟨c,v,L,M,hc,e⟩))
  ·intro c v hc
   rw [aC.cg] at hc;split at hc
   ·simp at hc
   ·exact h.ar.jQ c v hc
  ·intro c d v u y L M L' M' h1 h2 h3 h4
   obtain ⟨v',h1⟩:=hA c v h1;obtain ⟨u',h2⟩:=hA d u h2;exact h.ar.inj c d v' u' y L M L' M' h1 h2 h3 h4
  ·intro c d v u y w L M L' M' qS e own g k om e' rU k' h1 h2 h3 h4 h5 h6
   obtain ⟨v',h1⟩:=hA c v h1;obtain ⟨u',h2⟩:=hA d u h2;obtain ⟨_,h5,_⟩:=ae0 y ⟨c,v',L,M,h1,h3⟩ _ _ _ _ h5;obtain ⟨_,h6,_⟩:=ae0 w ⟨d,u',L',M',h2,h4⟩ _ _ _ _ h6;exact h.ar.xi c d v' u' y w L M L' M' _ e own g k _ e' rU k' h1 h2 h3 h4 h5 h6
  ·intro c v y L M qS e own g k h1 h2 h3
   obtain ⟨v',h1⟩:=hA c v h1;obtain ⟨_,h3,_⟩:=ae0 y ⟨c,v',L,M,h1,h2⟩ _ _ _ _ h3;obtain ⟨h4,h5,h6⟩:=h.ar.vr c v' y L M _ e own g k h1 h2 h3;refine ⟨by rw [jz]; exact h4,h5,fun z hz eF=>?_⟩;rw [ot] at hz;obtain ⟨h7,h8,h9⟩:=h6 z hz eF;exact ⟨h7,fun q=>h8 (RJ z q),h9⟩
  ·rw [aC.cg] at hc
   rw [aC.uq];split at hc
   ·rename_i e; rw [e]; exact h.ar.nk b _ hb
   ·exact h.ar.nk c v hc
 ·intro y hy hn ha
  by_cases F4:y=x
  ·subst F4; exact absurd (.inl tP) ha
  ·rcases hgy y F4 with e | ⟨_,g,k,rfl,h2⟩
   ·exact e
   ·exact absurd (.inr ⟨g,⟨b,v0,x,_,_,nK,_,_,k,hb,hx,jZ⟩,h2⟩) ha
 ·rcases q with q | ⟨g,h1,h2⟩
  ·exact .inl (RJ y q)
  ·exact .inr ⟨g,akj g h1,by rw [ot] at h2; exact h2⟩
 ·intro y hy qS e own Yq hr
  by_cases F4:y=x
  ·exact ae0 y (by rw [F4]; exact tP) qS e own Yq hr
  ·rcases hgy y F4 with e1 | ⟨e1,_⟩
   ·exact ⟨qS,by rw [<- e1]; exact hr,rfl⟩
   ·rw [e1] at hr; simp at hr
theorem aox {t:TypeId} : ant P (Yc P t) (Kj P t):=by
 intro E A A' B vs us v h hv hg;unfold Yc at hg;split at hg
 ·rename_i b off x
  obtain ⟨y,z,rfl,h1,h2⟩:=hv.mo;obtain ⟨c,hx,rfl⟩:=h1.jb;obtain ⟨hc,hg⟩:=hg.cond;simp only [aD,kV] at hc;obtain ⟨fC,ho⟩:=hc;split at hg
  ·rename_i cs bV jZ
   split at hg
   ·rename_i cd hw
    have hg:(uh,A.put b (.row cd bV))=(v,A'):=hg;simp only [fI] at hg;obtain ⟨rfl,rfl⟩:=hg;obtain ⟨c',d,e1,e2,e3⟩:=h.row b cs bV jZ;rw [hx] at e1;simp at e1;subst e1;have LH:=h2.cells (Al ho);obtain ⟨r,e4,e5⟩:=bm.mD hw e3 LH;have nE:z.cells.toList.all scalar=true:=gx.2 (LH.scalar ho);have apB:some z.cells.size=size? P t:=by rw [<- fC,RA h2 (Al ho)]
    refine ⟨undef,B.put c (.row r bV true none),E,?_,.undef,ei.arj h ⟨_,_,jZ⟩ hx ⟨d,e2,(ij e4).1.symm⟩ e5⟩;simp [Kj,storeAt,apB,St.AO,dj,nE,e2,e4,St.gf]
   ·exact hg.elim
  ·exact hg.elim
 ·rename_i T Tc b i k x
  obtain ⟨y,z,rfl,h1,h2⟩:=hv.mo;split at hg
  ·rename_i T' mk N es acc hA
   obtain ⟨hc,hg2⟩:=hg.cond;clear hg;simp only [aD,kV] at hc;obtain ⟨⟨⟨hT,hTc⟩,DY⟩,fC⟩:=hc;have:=bh hT;subst this;have:=bh hTc;subst this;split at hg2
   ·rename_i e2 he2
    have hg:(uh,A.put b (.arr (anh T N i es acc e2)))=(v,A'):=hg2;simp only [fI] at hg;obtain ⟨rfl,rfl⟩:=hg;obtain ⟨c,L,N',h3,hw,hi,rfl⟩:=h1.Kv;obtain ⟨T2,N2,rS,gb,XU,ht,h1s,zO⟩:=h.ar.arr b _ hA;simp only [KV.ts.injEq] at XU;obtain ⟨rfl,rfl,rfl,rfl,rfl⟩:=XU;rcases zO with ⟨_,h4⟩ | ⟨c',cs,cc,bx,h4,h5,h6,h7⟩
    ·rw [h3] at h4; simp at h4
    rw [h3] at h4;simp only [db,fI] at h4;obtain ⟨rfl,rfl,rfl⟩:=h4;have a8:i < es.length:=by rw [<- ht.len]; exact hi
    have hei:es[i]? = some (acc i):=by rw [ht.acc i hi]; simp [List.getD,a8]
    obtain ⟨u,h8,h9⟩:=h6.get hei;obtain ⟨hsu,qP⟩:=h7 i u h8;rw [bd] at qP;have hvn:=h2.gq (l:=bu P Tc);obtain ⟨u2,p1,p2,p3,p4,p5,p6⟩:=aov (T:=T) (t:=Tc) hw (j7 ht.typed hei) h9 DY hvn he2;obtain ⟨om,w1,w2,w3⟩:=aow h7 h8 hsu p6 p5 p3;have iE:=ei.anx (lo:=i * bz P T+k) (hi:=i * bz P T+k+z.cells.toList.length) h ⟨_,hA⟩ h3 h5 (ij w1).1 h1s (amr ht hi p2) (bx:=bx.set i u2) (Wj p1 i h6) w2;obtain ⟨MX,hk2⟩:=iI DY;have nE:z.cells.toList.all scalar=true:=gx.2 ((hvn.cells hk2).scalar (HY MX));have hzs:some z.cells.size=size? P Tc:=by
     rw [fC,<- tl MX];exact congrArg some (RA hvn hk2)
    refine ⟨undef,_,E,?_,.undef,iE⟩;simp [Kj,storeAt,hzs,St.AO,dj,nE,h5,w1]
   ·exact hg2.elim
  ·exact hg.elim
 ·exact hg.elim
end Go.K
end
section
namespace Go.K
open Go Go.aB
variable {P:Program} {E:Env}
def Env.Hy (E:Env) (b:Nat) (p:Nat×Nat×Nat):Env:={ E with α:=fun c=>if c=b then some p else E.α c }
theorem Env.apC {A:aC} {B:St} {p:Nat×Nat×Nat} (h:fK P E A B):E.le (E.Hy A.next p):=⟨fun b q e=>by
 have:=h.ar.mA b q e;simp only [Env.Hy]; rw [ay (by omega)]; exact e,fun _ _ e=>e,fun _ _ e=>e,fun _ _ e=>e⟩
theorem Env.Ex {b:Nat} {p:Nat×Nat×Nat} : (E.Hy b p).α b=some p:=by simp [Env.Hy]
theorem Env.Nj {b c:Nat} {p:Nat×Nat×Nat} (h:c≠b):(E.Hy b p).α c=E.α c:=by simp [Env.Hy,h]
theorem ei.Yr {A A1:aC} {B B' : St} {X G:Nat->Prop} {y2 N2:Nat} {T:TypeId} {rS:List KV} {gb:Nat->KV} {Hv om:List Value} {ur:Option (Nat×Nat)} (h:fK P E A B)
  (vL:A1.next=A.next) (O9:∀ c o,A1.get c=some o->A.get c=some o\/(o = .dead/\c < A.next))
  (f1:∀ c v,A1.get c=some (.arr v)->∀ y L N,E.α c=some (y,L,N)->¬ X y/\∀ cs e own g k,B.get y=some (.row cs e own (some (g,k)))->¬ G g)
  (f2:∀ y,X y->AR A E y) (f3:∀ g,G g->AF A E B g/\g < B.next/\(∀ f,E.φ f≠some g)/\∀ y∈B.members g,¬ X y->E.z y=none/\¬ AR A E y/\∀ c,E.κ c≠some y)
  (n1:X y2\/B.next<=y2) (n1' : y2 < B'.next) (akk:B'.get y2=some (.row om (bz P T) true ur)) (n2:∀ g k,ur=some (g,k)->G g\/(B.next<=g/\g < B'.next))
  (b1:∀ y,y < B.next->¬ X y->B'.get y=B.get y\/(B'.get y=some .dead/\∃ g,G g/\y∈B.members g))
  (b2:∀ y,X y->∀ cs e own cc,B'.get y=some (.row cs e own cc)->∃ c,B.get y=some (.row c e own cc)/\c.length=cs.length)
  (b3:∀ q y,y∈B'.members q->y∈B.members q\/(y=y2/\B.next<=y2/\∃ k,ur=some (q,k))) (b3' : ∀ q,(∀ k,ur≠some (q,k))->B'.members q=B.members q)
  (b4:B.next<=B'.next) (b4' : ∀ g,B'.next<=g->B'.members g = []) (atm:∀ g y,y∈B'.members g->y < B'.next)
  (fC:1<=bz P T) (ht:ji P T N2 rS gb) (RH:bm P E rS Hv) (hl:qK (bz P T) 0 om Hv) :
  ei P E A B (E.Hy A.next (y2,om.length,N2)) (A1.new (.arr (.ts T .any N2 rS gb))) B':=by
 have hle:=Env.apC (p:=(y2,om.length,N2)) h;have apD:E.α A.next=none:=by
  cases hq:E.α A.next with
  | none=>rfl
  | some p=>have:=h.ar.mA _ p hq; omega
 have hXlt:∀ y,X y->y < B.next:=fun y hy=>h.Kw (f2 y hy);have RI:∀ y,y < B.next->¬ X y->(E.z y≠none\/AR A E y\/∃ c,E.κ c=some y)->B'.get y=B.get y:=by
  intro y a8 hy hs;rcases b1 y a8 hy with e | ⟨_,g,hg,h2⟩
  ·exact e
  ·obtain ⟨_,_,_,h3⟩:=f3 g hg
   obtain ⟨h4,h5,h6⟩:=h3 y h2 hy;rcases hs with hs | hs | ⟨c,hs⟩
   ·exact absurd h4 hs
   ·exact absurd hs h5
   ·exact absurd hs (h6 c)
 have hXz:∀ y,X y->E.z y=none/\∀ c,E.κ c≠some y:=fun y hy=>h.ar.z y (f2 y hy);have kF:∀ c o,(A1.new (.arr (.ts T .any N2 rS gb))).get c=some o->(c=A.next/\o = .arr (.ts T .any N2 rS gb))\/(c≠A.next/\A1.get c=some o):=fun c o hc=>by
  rw [aC.dw,vL] at hc;split at hc
  ·rename_i e; simp at hc; exact .inl ⟨e,hc.symm⟩
  ·rename_i e; exact .inr ⟨e,hc⟩
 have hold:∀ c o,A1.get c=some o->o≠.dead->A.get c=some o:=fun c o hc hd=>by
  rcases O9 c o hc with e | ⟨e,_⟩
  ·exact e
  ·exact absurd e hd
 have x5:∀ c v,(A1.new (.arr (.ts T .any N2 rS gb))).get c=some (.arr v)->(c=A.next/\v = .ts T .any N2 rS gb/\(E.Hy A.next (y2,om.length,N2)).α c=some (y2,om.length,N2))\/(c≠A.next/\A1.get c=some (.arr v)/\A.get c=some (.arr v)/\(E.Hy A.next (y2,om.length,N2)).α c=E.α c):=fun c v hc=>by
  rcases kF c _ hc with ⟨e,e2⟩ | ⟨e,e2⟩
  ·simp at e2
   exact .inl ⟨e,e2,by rw [e]; exact Env.Ex⟩
  ·exact .inr ⟨e,e2,hold c _ e2 (by simp),Env.Nj e⟩
 have H3:∀ c v y L N,A1.get c=some (.arr v)->E.α c=some (y,L,N)->AR A E y/\¬ X y/\y < B.next/\B'.get y=B.get y:=fun c v y L N h1 h2=>by
  have h3:AR A E y:=⟨c,v,L,N,hold c _ h1 (by simp),h2⟩
  obtain ⟨h4,_⟩:=f1 c v h1 y L N h2;have h5:=h.Kw h3;exact ⟨h3,h4,h5,RI y h5 h4 (.inr (.inl h3))⟩
 have RJ:∀ y,AR (A1.new (.arr (.ts T .any N2 rS gb))) (E.Hy A.next (y2,om.length,N2)) y->y=y2\/(AR A E y/\¬ X y):=fun y q=>by
  obtain ⟨c,v,L,M,h1,h2⟩:=q;rcases x5 c v h1 with ⟨_,_,e⟩ | ⟨_,e1,e2,e⟩
  ·rw [e] at h2; simp at h2; exact .inl h2.1.symm
  ·rw [e] at h2
   obtain ⟨h3,h4,_⟩:=H3 c v y L M e1 h2;exact .inr ⟨h3,h4⟩
 have apE:∀ y,y=y2->AR A E y\/B.next<=y:=fun y e=>by
  subst e;exact n1.imp (f2 y) id
 have akj:∀ g,AF (A1.new (.arr (.ts T .any N2 rS gb))) (E.Hy A.next (y2,om.length,N2)) B' g->(∃ k,ur=some (g,k))\/(AF A E B g/\¬ G g/\g < B.next):=fun g q=>by
  obtain ⟨c,v,y,L,M,qS,e,own,k,h1,h2,h3⟩:=q;rcases x5 c v h1 with ⟨_,_,e⟩ | ⟨_,e1,e2,e⟩
  ·rw [e] at h2
   simp at h2;rw [<- h2.1,akk] at h3;simp at h3;exact .inl ⟨k,h3.2.2.2⟩
  ·rw [e] at h2
   obtain ⟨_,_,_,h4⟩:=H3 c v y L M e1 h2;rw [h4] at h3;refine .inr ⟨⟨c,v,y,L,M,qS,_,own,k,e2,h2,h3⟩,(f1 c v e1 y L M h2).2 _ _ _ _ _ h3,(h.ar.vr c v y L M _ _ _ g k e2 h2 h3).1⟩
 have ar0:∀ g,(∃ k,ur=some (g,k))->AF A E B g\/B.next<=g:=fun g ⟨k,e⟩=>by
  rcases n2 g k e with hg | ⟨hg,_⟩
  ·exact .inl (f3 g hg).1
  ·exact .inr hg
 refine ⟨⟨?_,?_,?_,h.apart,h.inj,?_,fun b x e=>by rw [aC.ct,vL]; have:=h.mA b x e; omega,fun b g e=>by rw [aC.ct,vL]; have:=h.oI b g e; omega,?_,fun b x e=>by have:=h.gX b x e; omega,fun b r e=>by have:=h.oS b r e; omega,fun b g e=>by have:=h.kG b g e; omega,b4',atm,?_⟩,hle,by rw [aC.ct,vL]; omega,?_,fun _ _ e=>.inl e,fun _ _ e=>.inl e,fun _ _ e=>.inl e,?_,fun y q=>?_,fun g q=>?_,fun g y q=>?_,fun y q=>?_,?_⟩
 ·intro c qS bV hc
  rcases kF c _ hc with ⟨_,e⟩ | ⟨_,e⟩
  ·simp at e
  ·obtain ⟨y,c1,h1,h2,h3⟩:=h.row c qS bV (hold c _ e (by simp))
   have hy : ¬ X y:=fun e=>(hXz y e).2 c h1;exact ⟨y,c1,h1,by rw [RI y (h.gX c y h1) hy (.inr (.inr ⟨c,h1⟩))]; exact h2,h3.mono hle⟩
 ·intro c top GF hc
  rcases kF c _ hc with ⟨_,e⟩ | ⟨_,e⟩
  ·simp at e
  ·rcases h.bc c top GF (hold c _ e (by simp)) with h1 | ⟨g,h1,h2,h3⟩
   ·exact .inl h1
   ·refine .inr ⟨g,h1,h2,fun y hy qS e own f k hr=>?_⟩
    have hgG:∀ k,ur≠some (g,k):=fun k e=>by
     rcases n2 g k e with hg | ⟨hg,_⟩
     ·exact (f3 g hg).2.2.1 c h1
     ·have:=h.kG c g h1; omega
    rw [b3' g hgG] at hy;have a8:=h.mem g y hy;by_cases F4:X y
    ·obtain ⟨c0,h4,h5⟩:=b2 y F4 _ _ _ _ hr
     obtain ⟨h6,h7⟩:=h3 y hy c0 _ _ f k h4;exact ⟨h6,by rw [<- h5]; exact h7⟩
    ·rcases b1 y a8 F4 with e1 | ⟨e1,_⟩
     ·rw [e1] at hr; exact h3 y hy qS _ own f k hr
     ·rw [e1] at hr; simp at hr
 ·intro y r hy
  have hy:E.z y=some r:=hy;have F4 : ¬ X y:=fun e=>by have:=(hXz y e).1; rw [hy] at this; simp at this
  rw [RI y (h.oS y r hy) F4 (.inl (by rw [hy]; simp))];exact h.z y r hy
 ·intro b c g tb sb tc sc hb hc e1 e2
  rcases kF b _ hb with ⟨_,e⟩ | ⟨_,hb⟩
  ·simp at e
  rcases kF c _ hc with ⟨_,e⟩ | ⟨_,hc⟩
  ·simp at e
  exact h.j6 b c g _ _ _ _ (hold b _ hb (by simp)) (hold c _ hc (by simp)) e1 e2
 ·intro c o hc
  rw [aC.ct,vL];rcases kF c _ hc with ⟨e,_⟩ | ⟨_,e⟩
  ·omega
  ·rcases O9 c o e with e | ⟨_,e⟩
   ·have:=h.live c o e; omega
   ·omega
 ·refine ⟨?_,?_,?_,?_,?_,?_,?_,?_,?_,?_⟩
  ·intro c v hc
   rcases x5 c v hc with ⟨_,rfl,e⟩ | ⟨_,e1,e2,e⟩
   ·exact ⟨T,N2,rS,gb,rfl,ht,fC,.inr ⟨y2,om,ur,Hv,e,akk,RH.mono hle,hl⟩⟩
   ·exact (h.ar.arr c v e2).mono hle e fun y L M hy=>(H3 c v y L M e1 hy).2.2.2
  ·intro c v hc
   rcases kF c _ hc with ⟨_,e⟩ | ⟨eF,e⟩
   ·simp at e
   ·exact (h.ar.jQ c v (hold c _ e (by simp))).mono hle (Env.Nj eF)
  ·intro y q
   rcases RJ y q with e | ⟨e,_⟩
   ·subst e
    rcases n1 with hx | hx
    ·exact hXz y hx
    ·refine ⟨?_,fun c e=>by have:=h.gX c y e; omega⟩
     cases hz:E.z y with
     | none=>exact hz
     | some r=>have:=h.oS y r hz; omega
   ·exact h.ar.z y e
  ·intro c d v u y L M L' M' h1 h2 h3 h4
   rcases x5 c v h1 with ⟨e1,_,e⟩ | ⟨_,p1,p2,e⟩ <;> rcases x5 d u h2 with ⟨e2,_,e'⟩ | ⟨_,q1,q2,e'⟩
   ·omega
   ·rw [e] at h3; rw [e'] at h4
    simp at h3;obtain ⟨_,h5,h6,_⟩:=H3 d u y L' M' q1 h4;rw [<- h3.1] at h5 h6;rcases n1 with hx | hx
    ·exact absurd hx h5
    ·omega
   ·rw [e] at h3; rw [e'] at h4
    simp at h4;obtain ⟨_,h5,h6,_⟩:=H3 c v y L M p1 h3;rw [<- h4.1] at h5 h6;rcases n1 with hx | hx
    ·exact absurd hx h5
    ·omega
   ·rw [e] at h3; rw [e'] at h4
    exact h.ar.inj c d v u y L M L' M' p2 q2 h3 h4
  ·intro c d v u y w L M L' M' qS e own g k cs3 e' rU k' h1 h2 h3 h4 h5 h6
   have I4:∀ {c v y L M qS e own k k2},A1.get c=some (.arr v)->E.α c=some (y,L,M)->B'.get y=some (.row qS e own (some (g,k)))->ur=some (g,k2)->False:=by
    intro c v y L M qS e own k k2 q1 q2 q3 q4;obtain ⟨r1,r2,r3,r4⟩:=H3 c v y L M q1 q2;rw [r4] at q3;rcases n2 g k2 q4 with hg | ⟨hg,_⟩
    ·exact (f1 c v q1 y L M q2).2 _ _ _ _ _ q3 hg
    ·have:=(h.ar.vr c v y L M _ _ _ g k (hold c _ q1 (by simp)) q2 q3).1; omega
   rcases x5 c v h1 with ⟨e1,_,ea⟩ | ⟨_,p1,p2,ea⟩ <;> rcases x5 d u h2 with ⟨e2,_,eb⟩ | ⟨_,q1,q2,eb⟩
   ·omega
   ·rw [ea] at h3; rw [eb] at h4
    simp at h3;rw [<- h3.1,akk] at h5;simp at h5;exact (I4 q1 h4 h6 h5.2.2.2).elim
   ·rw [ea] at h3; rw [eb] at h4
    simp at h4;rw [<- h4.1,akk] at h6;simp at h6;exact (I4 p1 h3 h5 h6.2.2.2).elim
   ·rw [ea] at h3; rw [eb] at h4
    rw [(H3 c v y L M p1 h3).2.2.2] at h5;rw [(H3 d u w L' M' q1 h4).2.2.2] at h6;exact h.ar.xi c d v u y w L M L' M' _ _ _ g k _ _ _ k' p2 q2 h3 h4 h5 h6
  ·intro b x e
   have hb:=h.mA b x e;rw [Env.Nj (by omega)];exact h.ar.dis b x e
  ·intro b p e
   rw [aC.ct,vL];by_cases hb:b=A.next
   ·omega
   ·rw [Env.Nj hb] at e; have:=h.ar.mA b p e; omega
  ·intro b x L N e
   by_cases hb:b=A.next
   ·subst hb; rw [Env.Ex] at e; simp at e; omega
   ·rw [Env.Nj hb] at e; have:=h.ar.gX b x L N e; omega
  ·intro c v y L M qS e own g k h1 h2 h3
   rcases x5 c v h1 with ⟨_,_,ea⟩ | ⟨_,p1,p2,ea⟩
   ·rw [ea] at h2
    simp at h2;obtain ⟨rfl,_⟩:=h2;rw [akk] at h3;simp at h3;have hk:=h3.2.2.2;refine ⟨?_,fun f e=>?_,fun z hz eF=>?_⟩
    ·rcases n2 g k hk with hg | ⟨_,hg⟩
     ·have:=(f3 g hg).2.1; omega
     ·exact hg
    ·rcases n2 g k hk with hg | ⟨hg,_⟩
     ·exact (f3 g hg).2.2.1 f e
     ·have:=h.kG f g e; omega
    ·rcases b3 g z hz with hz | ⟨e,_⟩
     ·rcases n2 g k hk with hg | ⟨hg,_⟩
      ·by_cases anz:X z
       ·exact ⟨(hXz z anz).1,fun q=>by
         rcases RJ z q with e | ⟨_,e⟩
         ·exact eF e
         ·exact e anz,(hXz z anz).2⟩
       ·obtain ⟨h7,h8,h9⟩:=(f3 g hg).2.2.2 z hz anz
        refine ⟨h7,fun q=>?_,h9⟩;rcases RJ z q with e | ⟨e,_⟩
        ·exact eF e
        ·exact h8 e
      ·rw [h.fresh g hg] at hz; simp at hz
     ·exact absurd e eF
   ·rw [ea] at h2
    obtain ⟨r1,r2,r3,r4⟩:=H3 c v y L M p1 h2;rw [r4] at h3;obtain ⟨h4,h5,h6⟩:=h.ar.vr c v y L M _ _ _ g k p2 h2 h3;refine ⟨by omega,h5,fun z hz eF=>?_⟩;have hnG:=(f1 c v p1 y L M h2).2 _ _ _ _ _ h3;rw [b3' g (fun k e=>by
     rcases n2 g k e with hg | ⟨hg,_⟩
     ·exact hnG hg
     ·omega)] at hz
    obtain ⟨h7,h8,h9⟩:=h6 z hz eF;refine ⟨h7,fun q=>?_,h9⟩;rcases RJ z q with e | ⟨e,_⟩
    ·subst e
     rcases n1 with hx | hx
     ·exact h8 (f2 z hx)
     ·have:=h.mem g z hz; omega
    ·exact h8 e
  ·intro c v hc
   rw [aC.ct,vL];rcases x5 c v hc with ⟨e1,_,_⟩ | ⟨_,_,e2,_⟩
   ·subst e1
    refine ⟨Nat.lt_succ_self _,?_⟩;show E.κ A.next=none;cases hk:E.κ A.next with
    | none=>rfl
    | some x=>have:=h.mA _ x hk; omega
   ·obtain ⟨q1,q2⟩:=h.ar.nk c v e2
    exact ⟨by omega,q2⟩
 ·intro y hy hn ha
  by_cases F4:X y
  ·exact absurd (.inl (f2 y F4)) ha
  ·rcases b1 y hy F4 with e | ⟨_,g,hg,h2⟩
   ·exact e
   ·exact absurd (.inr ⟨g,(f3 g hg).1,h2⟩) ha
 ·intro g hg hn ha
  refine b3' g fun k e=>?_;rcases n2 g k e with hg' | ⟨hg',_⟩
  ·exact ha (f3 g hg').1
  ·omega
 ·rcases RJ y q with e | ⟨e,_⟩
  ·exact apE y e
  ·exact .inl e
 ·rcases akj g q with e | ⟨e,_⟩
  ·exact ar0 g e
  ·exact .inl e
 ·rcases b3 g y q with e | ⟨e,e2,_⟩
  ·exact .inl e
  ·exact .inr (by omega)
 ·rcases q with q | ⟨g,h1,h2⟩
  ·rcases RJ y q with e | ⟨e,_⟩
   ·rcases apE y e with e | e
    ·exact .inl (.inl e)
    ·exact .inr e
   ·exact .inl (.inl e)
  ·rcases b3 g y h2 with e | ⟨e,e2,_⟩
   ·rcases akj g h1 with e1 | ⟨e1,_⟩
    ·rcases ar0 g e1 with e2 | e2
     ·exact .inl (.inr ⟨g,e2,e⟩)
     ·rw [h.fresh g e2] at e; simp at e
    ·exact .inl (.inr ⟨g,e1,e⟩)
   ·exact .inr (by omega)
 ·intro y hy qS e own Yq hr
  by_cases F4:X y
  ·exact b2 y F4 qS e own Yq hr
  ·rcases b1 y hy F4 with e1 | ⟨e1,_⟩
   ·exact ⟨qS,by rw [<- e1]; exact hr,rfl⟩
   ·rw [e1] at hr; simp at hr
end Go.K
end
section
namespace Go.K
open Go Go.aB
variable {P:Program} {E:Env}
theorem ei.asA {A:aC} {B:St} {c:List Value} {n:Nat} (h:fK P E A B):ei P E A B (E.gC B.next ⟨c,n,true,some (B.next,0)⟩) A (B.grow B.next 0 c n):=by
 have nL:∀ x,(B.grow B.next 0 c n).get x=if x=B.next then some (.row c n true (some (B.next,0))) else B.get x:=fun x=>by simp [St.grow]
 have ot:∀ q,(B.grow B.next 0 c n).members q=if q=B.next then B.next::B.members B.next else B.members q:=fun q=>by simp [St.grow,St.FF]
 have jz:(B.grow B.next 0 c n).next=B.next+1:=rfl;have hle:E.le (E.gC B.next ⟨c,n,true,some (B.next,0)⟩):=⟨fun _ _ e=>e,fun _ _ e=>e,fun b r e=>by
  have:=h.oS b r e;simp only [Env.gC]; rw [ay (by omega)]; exact e,fun _ _ e=>e⟩
 generalize B.grow B.next 0 c n=B' at nL ot jz;have Bx:∀ x,x < B.next->B'.get x=B.get x:=fun x hx=>by rw [nL,ay (by omega)]
 have Ng:∀ b r,(E.gC B.next ⟨c,n,true,some (B.next,0)⟩).z b=some r->E.z b=some r\/B.next<=b:=fun b r e=>by
  simp only [Env.gC] at e;split at e
  ·exact .inr (by omega)
  ·exact .inl e
 have hmk:∀ q,AF A E B q->B'.members q=B.members q:=fun q hq=>by
  rw [ot,ay];intro e2;obtain ⟨b,v,x,L,N,cs,e,own,k,h1,h2,h3⟩:=hq;obtain ⟨h4,h5,_⟩:=h.ar.vr b v x L N cs e own q k h1 h2 h3;omega
 have amp:∀ q y,y∈B'.members q->y∈B.members q\/B.next<=y:=fun q y hy=>by
  rw [ot] at hy;split at hy
  ·rename_i e2
   subst e2;rcases eL.1 hy with hy | hy
   ·exact .inr (by omega)
   ·exact .inl hy
  ·exact .inl hy
 refine ⟨⟨?_,?_,?_,?_,h.inj,h.j6,h.mA,h.oI,h.live,?_,?_,?_,?_,?_,h.ar.nD hle (fun _=>rfl) (fun _ _ e=>e) (fun _ _ e=>e) (aQ _) (by omega) (fun x q=>Bx x (h.Kw q)) Ng (fun _ _ e=>.inl e) (fun b q e=>.inl ⟨b,e⟩) hmk h.mem⟩,hle,aQ _,?_,fun b x e=>.inl e,fun b r e=>(Ng b r e).imp id .inr,fun b q e=>.inl e,fun q hq hn _=>by rw [ot,ay (by omega)],fun _ q=>.inl q,fun _ q=>.inl (q.of (fun _=>rfl) (fun _ _ e=>e) fun x q=>Bx x (h.Kw q)),amp,fun _ q=>.inl (q.of (fun _=>rfl) (fun _ _ e=>e) (fun x q=>Bx x (h.Kw q)) hmk),nT Bx⟩
 ·intro b nK RE hb
  obtain ⟨x,d,h1,h2,h3⟩:=h.row b nK RE hb;have:=h.gX b x h1;exact ⟨x,d,h1,by rw [nL,ay (by omega)]; exact h2,h3.mono hle⟩
 ·intro b top GF hb
  rcases h.bc b top GF hb with h1 | ⟨g,h1,hp0,h2⟩
  ·exact .inl h1
  ·have hg:=h.kG b g h1
   refine .inr ⟨g,h1,hp0,fun x hx d e own f k hr=>?_⟩;rw [ot,ay (by omega)] at hx;have:=h.mem g x hx;rw [nL,ay (by omega)] at hr;exact h2 x hx d e own f k hr
 ·intro b r hb
  simp only [Env.gC] at hb;rw [nL];split at hb
  ·rename_i e; simp at hb; subst hb; rw [aR e]
  ·rename_i e; rw [ay e]; exact h.z b r hb
 ·intro b x hb
  have:=h.gX b x hb;simp only [Env.gC];rw [ay (by omega)];exact h.apart b x hb
 ·intro b x hb; have:=h.gX b x hb; omega
 ·intro b r hb
  simp only [Env.gC] at hb;rw [jz];split at hb
  ·omega
  ·have:=h.oS b r hb; omega
 ·intro b g hb; have:=h.kG b g hb; omega
 ·intro g hg
  rw [jz] at hg;rw [ot,ay (by omega)];exact h.fresh g (by omega)
 ·intro g x hx
  rw [jz];rw [ot] at hx;split at hx
  ·rcases eL.1 hx with hx | hx
   ·omega
   ·have:=h.mem _ x hx; omega
  ·have:=h.mem g x hx; omega
 ·intro x hx _ _; rw [nL,ay (by omega)]
theorem ei.after {A A1 A2:aC} {B B2:St} {E2:Env} (h:ei P E A B E A1 B) (k:ei P E A1 B E2 A2 B2):ei P E A B E2 A2 B2 where
 jK:=k.jK
 le:=k.le
 next:=oO h.next k.next
 nD x hx hn ha:=k.nD x hx hn fun q=>(h.qv x q).elim ha fun e=>by omega
 new:=k.new
 wk b r e:=by
  rcases k.wk b r e with e | e | e
  ·exact .inl e
  ·exact .inr (h.oJ b e)
  ·exact .inr (.inr e)
 wm:=k.wm
 sQ g hg hn ha:=k.sQ g hg hn fun q=>(h.oY g q).elim ha fun e=>by omega
 oJ x q:=(k.oJ x q).elim (h.oJ x) .inr
 oY g q:=(k.oY g q).elim (h.oY g) .inr
 xY:=k.xY
 qv y q:=(k.qv y q).elim (h.qv y) .inr
 rows:=k.rows
theorem ei.anA {A:aC} {B:St} {f t:Nat} (sz:Nat) (h:fK P E A B) {GF:Nat} (hA:A.get f=some (.bc t GF)) (Kf:E.φ f=none):ei P E A B E (A.put f (.bc 0 sz)) B:=by
 have Yp:∀ (b:Nat) (v:KV),(A.put f (.bc 0 sz)).get b=some (.arr v)->A.get b=some (.arr v):=fun b v hb=>by
  rw [aC.cg] at hb;split at hb
  ·simp at hb
  ·exact hb
 have hfz:∀ (b:Nat) (v:KV),(A.put f (.bc 0 sz)).get b=some (.jQ v)->A.get b=some (.jQ v):=fun b v hb=>by
  rw [aC.cg] at hb;split at hb
  ·simp at hb
  ·exact hb
 refine ⟨⟨fun b cs bV hb=>?_,fun b top GF hb=>?_,h.z,h.apart,h.inj,h.j6.put (.inr Kf),h.mA,h.oI,fun b o hb=>?_,h.gX,h.oS,h.kG,h.fresh,h.mem,h.ar.nD (Env.le_refl _) (fun _=>rfl) Yp hfz (aQ _) (aQ _) (fun _ _=>rfl) (fun _ _ e=>.inl e) (fun _ _ e=>.inl e) (fun b g e=>.inl ⟨b,e⟩) (fun _ _=>rfl) h.mem⟩,Env.le_refl _,aQ _,fun _ _ _ _=>rfl,fun _ _ e=>.inl e,fun _ _ e=>.inl e,fun _ _ e=>.inl e,fun _ _ _ _=>rfl,fun _ q=>.inl (q.of (fun _=>rfl) Yp),fun _ q=>.inl (q.of (fun _=>rfl) Yp fun _ _=>rfl),fun _ _ q=>.inl q,fun _ q=>.inl (q.of (fun _=>rfl) Yp (fun _ _=>rfl) fun _ _=>rfl),nT fun _ _=>rfl⟩
 ·rw [aC.cg] at hb
  split at hb
  ·simp at hb
  ·exact h.row b cs bV hb
 ·rw [aC.cg] at hb
  split at hb
  ·rename_i e2; simp at hb; exact .inl ⟨hb.1.symm,by rw [e2]; exact Kf⟩
  ·exact h.bc b top GF hb
 ·rw [aC.cg] at hb
  split at hb
  ·rename_i e2; rw [e2]; exact h.live f _ hA
  ·exact h.live b o hb
theorem ei.apF {A:aC} {B:St} {f t sz:Nat} (h:fK P E A B) (hA:A.get f=some (.bc t sz)):ei P E A B E (A.put f (.bc t sz)) B:=by
 have hg:∀ b,(A.put f (.bc t sz)).get b=A.get b:=fun b=>by
  rw [aC.cg];split
  ·rename_i e; rw [e,hA]
  ·rfl
 have Yp:∀ (b:Nat) (v:KV),(A.put f (.bc t sz)).get b=some (.arr v)->A.get b=some (.arr v):=fun b v hb=>by rwa [hg] at hb
 have hfz:∀ (b:Nat) (v:KV),(A.put f (.bc t sz)).get b=some (.jQ v)->A.get b=some (.jQ v):=fun b v hb=>by rwa [hg] at hb
 refine ⟨⟨fun b cs bV hb=>h.row b cs bV (by rwa [hg] at hb),fun b top GF hb=>h.bc b top GF (by rwa [hg] at hb),h.z,h.apart,h.inj,fun b c g tb sb tc sc q1 q2=>h.j6 b c g tb sb tc sc (by rwa [hg] at q1) (by rwa [hg] at q2),h.mA,h.oI,fun b o hb=>h.live b o (by rwa [hg] at hb),h.gX,h.oS,h.kG,h.fresh,h.mem,h.ar.nD (Env.le_refl _) (fun _=>rfl) Yp hfz (aQ _) (aQ _) (fun _ _=>rfl) (fun _ _ e=>.inl e) (fun _ _ e=>.inl e) (fun b g e=>.inl ⟨b,e⟩) (fun _ _=>rfl) h.mem⟩,Env.le_refl _,aQ _,fun _ _ _ _=>rfl,fun _ _ e=>.inl e,fun _ _ e=>.inl e,fun _ _ e=>.inl e,fun _ _ _ _=>rfl,fun _ q=>.inl (q.of (fun _=>rfl) Yp),fun _ q=>.inl (q.of (fun _=>rfl) Yp fun _ _=>rfl),fun _ _ q=>.inl q,fun _ q=>.inl (q.of (fun _=>rfl) Yp (fun _ _=>rfl) fun _ _=>rfl),nT fun _ _=>rfl⟩
theorem apG {t:TypeId} (hu:P.underlying t=some (.int .u8)):bu P t=⟨false,[.int .u8]⟩:=by
 unfold bu;rw [lay,hu];rfl
theorem aiI {e:TypeId} (he:isByte P e=true):arV P (Wa e) OI:=by
 intro E A B vs us v h hv hg;unfold Wa at hg;split at hg
 ·rename_i s
  obtain ⟨u,rfl,h1⟩:=hv.fk;have:=h1.uB; subst this;have hg:KV.ts e .any s.size _ _=v:=hg;subst hg;have hu:P.underlying e=some (.int .u8):=by
   unfold isByte at he;split at he
   ·assumption
   ·simp at he
  have ar1:bu P e=⟨false,[.int .u8]⟩:=apG hu;refine ⟨_,_,_,rfl,?_,ei.asA h⟩;simp only [VK];have fC:bz P e=1:=by unfold bz; rw [ar1]; rfl
  refine ⟨⟨by simp,fun i hi=>?_,?_⟩,mf s.data.toList,?_,some ⟨B.next,0,none⟩,s.size,rfl,aQ _,.inr ⟨B.next,0,⟨mf s.data.toList,1,true,some (B.next,0)⟩,rfl,by simp [Env.gC],fC.symm,?_⟩,trivial⟩
  ·have Gw:i < s.data.toList.length:=by simpa using hi
   simp only [List.getD,AI,dz Gw,Option.map_some,bG]
  ·rw [ar1]
   induction s.data.toList with
   | nil=>rfl
   | cons b l ih=>simp [fY,cC,aI,kindOk,ih]
  ·generalize E.gC B.next _=E'
   induction s.data.toList with
   | nil=>exact .nil
   | cons b l ih=>exact .cons .mkInt ih
  ·rw [fC]
   intro i x hx;obtain ⟨b,_,rfl⟩:∃ b,s.data.toList[i]? = some b/\x = .int .u8 b.toNat:=by
    simp only [mf,AI,cR] at hx;obtain ⟨b,h1,h2⟩:=hx;exact ⟨b,h1,h2.symm⟩
   refine ⟨rfl,fun k y hy=>?_⟩;have hk:k=0:=by
    have:=(CP.1 hy).1;simp [Value.cells] at this;exact this
   subst hk;simp [Value.cells] at hy;subst hy;simpa using hx
 ·exact hg.elim
theorem Pa {B:St} {b off n sz:Nat} {r:aj4} {bx:List Value} (hr:B.get b=some (.row r.cs r.bV r.own r.cc)) (hl:qK sz off r.cs bx) (hn:bx.length=n) (fC:1<=sz) :
  B.zM ⟨b,off,none⟩ (n * sz)=some (bR bx):=by
 have hs:∀ v∈bx,v.cells.size=sz:=fun v hv=>by
  obtain ⟨i,hi⟩:=List.getElem?_of_mem hv;exact (hl i v hi).1
 have hlen:=jL hs;have MV:=ou hs;have qP:∀ j,j < n * sz->r.cs[off+j]? = (bR bx)[j]?:=by
  intro j hj;have hi:j / sz < bx.length:=by rw [hn]; exact Nat.div_lt_of_lt_mul (by rw [Nat.mul_comm]; exact hj)
  have hv:bx[j / sz]? = some bx[j / sz]:=dz hi;have hk:j % sz < bx[j / sz].cells.size:=by rw [hs _ (List.getElem_mem hi)]; exact Nat.mod_lt _ fC
  have hy:bx[j / sz].cells[j % sz]? = some (bx[j / sz].cells[j % sz]):=by simp [hk]
  have h1:=(hl _ _ hv).2 _ _ hy;have h2:=(MV _ _ hv).2 _ _ hy;have Pb:j / sz * sz+j % sz=j:=by rw [Nat.mul_comm]; exact Nat.div_add_mod j sz
  rw [Fz,Pb] at h1;rw [bd,Pb] at h2;rw [h1,h2]
 simp only [St.zM,dj,Option.isNone_none,aj,Ch,hr,eV];rw [hn] at hlen;have hle:n * sz<=(r.cs.drop off).length:=by
  cases hm:n * sz with
  | zero=>omega
  | succ q=>
   have:=qP q (by omega);rw [dz (show q < (bR bx).length by omega)] at this;have h7:=(c8.1 this).1;rw [List.length_drop];omega
 rw [uo,Nf hle];congr 1;apply List.ext_getElem?;intro i;rw [pr];split
 ·rename_i hi
  rw [pS];exact qP i hi
 ·exact (adD.2 (by omega)).symm
theorem ae1 {T:TypeId} {m:Mk} {n:Nat} {es:List KV} {acc:Nat->KV} {u:Value} {A:aC} {B:St} (h:fK P E A B) (hv:VK P E (.ts T m n es acc) u) (fC:1<=bz P T) :
  ∃ bx,bm P E es bx/\abM u=some n/\yL B (bz P T) n u=some (bR bx)/\(∀ v∈bx,v.cells.size=bz P T)/\bx.length=n/\es.length=n/\fY (bu P T) es=true:=by
 obtain ⟨ht,bx,h1,a,cap,rfl,h2,h3,_⟩:=hv.ny;have hlen:=ht.len;have vB:bx.length=n:=by rw [h1.length]; exact hlen.symm
 have hs:=qU ht.typed h1;refine ⟨bx,h1,rfl,?_,fun v hv=>(hs v hv).1,vB,hlen.symm,ht.typed⟩;rcases h3 with ⟨rfl,h0⟩ | ⟨b,off,r,rfl,h4,h5,h6⟩
 ·have:bx = []:=lL.1 (by omega)
  subst this;simp [yL,h0,bR]
 ·exact Pa (h.z b r h4) h6 vB fC
theorem ji.join {T:TypeId} {n m:Nat} {es fs:List KV} {f g:Nat->KV} (h:ji P T n es f) (k:ji P T m fs g):ji P T (n+m) (es++fs) (dK n f g) where
 len:=by rw [ko,<- h.len,<- k.len]
 acc i hi:=by
  unfold dK;by_cases hn:i < n
  ·have:Nat.blt i n=true:=by rw [bT]; exact hn
   rw [this,aj,h.acc i hn,gK,gK,pR (by rw [<- h.len]; exact hn)]
  ·have:Nat.blt i n=false:=by
    cases hb:Nat.blt i n with
    | false=>rfl
    | true=>rw [bT] at hb; omega
   rw [this,aq,k.acc (i - n) (by omega),gK,gK,ue (by rw [<- h.len]; omega),<- h.len]
 typed:=Qn h.typed k.typed
theorem ji.none {T:TypeId} {g:Nat->KV} : ji P T 0 [] g:=⟨rfl,fun i h=>by omega,rfl⟩
structure Src (P:Program) (E:Env) (B:St) (T:TypeId) (n:Nat) (es:List KV) (acc:Nat->KV) (u:Value) (bx:List Value):Prop where
 tree:ji P T n es acc
 rel:bm P E es bx
 len:abM u=some n
 size:∀ v∈bx,v.cells.size=bz P T
 length:bx.length=n
 first:∀ k,k<=n->yL B (bz P T) k u=some (bR (bx.take k))
theorem Src.all {B:St} {T:TypeId} {n:Nat} {es:List KV} {acc:Nat->KV} {u:Value} {bx:List Value} (h:Src P E B T n es acc u bx):yL B (bz P T) n u=some (bR bx):=by
 rw [h.first n (aQ _),Re (Nat.le_of_eq h.length)]
theorem qK.take {sz off:Nat} {cs es:List Value} (h:qK sz off cs es) (k:Nat):qK sz off cs (es.take k):=fun i x hi=>h i x (by
 rw [pr] at hi;split at hi
 ·exact hi
 ·simp at hi)
theorem qK.drop {sz off:Nat} {cs es:List Value} (h:qK sz off cs es) (o:Nat):qK sz (off+o * sz) cs (es.drop o):=fun i x hi=>by
 rw [pS] at hi;obtain ⟨h1,h2⟩:=h (o+i) x hi;refine ⟨h1,fun k y hy=>?_⟩;rw [<- h2 k y hy,Nat.add_mul];congr 1;omega
theorem arp {T:TypeId} {m:Mk} {n:Nat} {es:List KV} {acc:Nat->KV} {u:Value} {A:aC} {B:St} (h:fK P E A B) (hv:VK P E (.ts T m n es acc) u) (fC:1<=bz P T):∃ bx,Src P E B T n es acc u bx:=by
 obtain ⟨ht,bx,h1,a,cap,rfl,h2,h3,_⟩:=hv.ny;have vB:bx.length=n:=by rw [h1.length]; exact ht.len.symm
 have hs:=qU ht.typed h1;refine ⟨bx,ht,h1,rfl,fun v hv=>(hs v hv).1,vB,fun k hk=>?_⟩;rcases h3 with ⟨rfl,h0⟩ | ⟨b,off,r,rfl,h4,h5,h6⟩
 ·have:bx = []:=lL.1 (by omega)
  subst this;have:k=0:=by omega
  subst this;simp [yL,bR]
 ·exact Pa (h.z b r h4) (h6.take k) (by rw [nH]; omega) fC
theorem arq {T:TypeId} {m:Mk} {b o n N:Nat} {es:List KV} {acc:Nat->KV} {u:Value} {A:aC} {B:St} (h:fK P E A B) (hv:VK P E (.al T b o n) u) (ha:LL A b=some (.ts T m N es acc)) (fC:1<=bz P T) :
  ∃ bx,Src P E B T n ((es.drop o).take n) (fun i=>acc (o+i)) u bx:=by
 have row:∀ {x:Nat} {r:aj4} {bx:List Value} {c:Nat},u = .slice (some ⟨x,o * bz P T,none⟩) n c->o+n<=N->ji P T N es acc->B.get x=some (.row r.cs r.bV r.own r.cc)->bm P E es bx->qK (bz P T) 0 r.cs bx->∃ bx,Src P E B T n ((es.drop o).take n) (fun i=>acc (o+i)) u bx:=by
  intro x r bx c hu hon ht hr RH hl;subst hu;have ams:bx.length=N:=by rw [RH.length]; exact ht.len.symm
  have amt:((es.drop o).take n).length=n:=by rw [nH,List.length_drop,<- ht.len]; omega
  have apH:((bx.drop o).take n).length=n:=by rw [nH,List.length_drop,ams]; omega
  have hs:=qU ht.typed RH;refine ⟨(bx.drop o).take n,⟨amt.symm,fun i hi=>?_,rj fun i x hi=>?_⟩,(RH.drop o).take n,rfl,fun v hv=>(hs v (List.mem_of_mem_drop (List.mem_of_mem_take hv))).1,apH,fun k hk=>?_⟩
  ·rw [ht.acc (o+i) (by omega),gK,gK,pr,aR hi,pS]
  ·rw [pr] at hi
   split at hi
   ·rw [pS] at hi; exact j7 ht.typed hi
   ·simp at hi
  ·have oo:=((hl.drop o).take n).take k
   rw [bd] at oo;exact Pa hr oo (by rw [nH,apH]; omega) fC
 rcases hv.yW with ⟨rfl,rfl,rfl⟩ | ⟨x,L,N0,c,h1,h2,h3,h4,h5⟩
 ·refine ⟨[],⟨by simp,fun i hi=>by omega,rfl⟩,by simpa using bm.nil,rfl,by simp,rfl,fun k hk=>?_⟩
  have:k=0:=by omega
  subst this;simp [yL,bR]
 ·unfold LL at ha
  split at ha
  ·rename_i v hb
   simp only [db] at ha;subst ha;obtain ⟨T2,N2,rS,gb,e,ht,_,zO⟩:=h.ar.arr b _ hb;simp only [KV.ts.injEq] at e;obtain ⟨rfl,rfl,rfl,rfl,rfl⟩:=e;rcases zO with ⟨_,e⟩ | ⟨x2,cs,cc,bx,e,h6,h7,h8⟩
   ·rw [h1] at e; simp at e
   ·rw [h1] at e
    simp only [db,fI] at e;obtain ⟨rfl,rfl,rfl⟩:=e;exact row (r:=⟨cs,bz P T,true,cc⟩) h2 h4 ht h6 h7 h8
  ·rename_i v hb
   simp only [db] at ha;subst ha;obtain ⟨T2,N2,rS,gb,e,ht,_,zO⟩:=h.ar.jQ b _ hb;simp only [KV.ts.injEq] at e;obtain ⟨rfl,rfl,rfl,rfl,rfl⟩:=e;rcases zO with ⟨_,e⟩ | ⟨x2,r,bx,e,h6,h6',h7,h8⟩
   ·rw [h1] at e; simp at e
   ·rw [h1] at e
    simp only [db,fI] at e;obtain ⟨rfl,rfl,rfl⟩:=e;exact row h2 h4 ht (h.z _ _ h6) h7 h8
  ·simp at ha
theorem anB {A:aC} {B:St} {y:KV} {u:Value} {T:TypeId} {m:Mk} {n:Nat} {es:List KV} {acc:Nat->KV} (h:fK P E A B) (hv:VK P E y u) (hs:Rv A y=some (.ts T m n es acc)) (fC:1<=bz P T):∃ bx,Src P E B T n es acc u bx:=by
 unfold Rv at hs;split at hs
 ·rename_i T' b o k
  unfold aiv at hs;split at hs
  ·rename_i T2 _ _ rS gb ha
   cases hb:Nat.beq T' T2 with
   | false=>rw [hb] at hs; simp at hs
   | true=>
    have:=bh hb;subst this;rw [hb,aj] at hs;simp only [db,KV.ts.injEq] at hs;obtain ⟨rfl,rfl,rfl,rfl,rfl⟩:=hs;exact arq h hv ha fC
  ·simp at hs
 ·simp only [db,KV.ts.injEq] at hs
  obtain ⟨rfl,rfl,rfl,rfl,rfl⟩:=hs;exact arp h hv fC
 ·simp at hs
theorem amu {e n b:Nat} (hn:bz P e=n) (h1n:1<=n) {E:Env} {A A' : aC} {B:St} {x v:KV} {u w:Value} {e' : TypeId} {mk:Mk} {k:Nat} {new:List KV} {acc:Nat->KV} (h:fK P E A B) (h1:VK P E x u)
  (hsr:Nat.beq e e' = true->∃ bx,Src P E B e' k new acc w bx) (hg:a9 (Ru e n b A [x,.ts e' mk k new acc]) (v,A')):∃ r B' E',ly n b B [u,w] = some (r,B')/\VK P E' v r/\ei P E A B E' A' B':=by
 have xk:1<=bz P e:=by omega
 have put:∀ (E1:Env) (A1:aC) (m f k:Nat) (base new:List KV) (ab an:Nat->KV) (more:Bool) (A2:aC) (v:KV),a9 (Ye e n b m base ab A1 f k new an more) (v,A2)->
   (more=true/\Nat.ble ((m+k) * b) 140737488355328=true/\Nat.ble (m+k) 17592186044416=true)/\v = .ts e (.bc f) (m+k) (base++new) (dK m ab an)/\A2=A1.put f (.bc (m+k) n):=by
  intro E1 A1 m f k base new ab an more A2 v hp;obtain ⟨hc,hp⟩:=a9.lB hp;simp only [gi,aD] at hc;simp only [fI] at hp;exact ⟨⟨hc.1,hc.2.1,hc.2.2⟩,hp.1.symm,hp.2.symm⟩
 unfold Ru at hg;split at hg
 ·
  rename_i e9 mk9 k9 anC anE heq;simp only [List.cons.injEq,KV.ts.injEq,and_true] at heq;obtain ⟨rfl,rfl,rfl,rfl,rfl,rfl⟩:=heq;have:=h1.qu; subst this;obtain ⟨he,Ew⟩:=hg.cond;clear hg;obtain ⟨cL,lz⟩:=hsr he;have:=bh he;subst this;obtain ⟨⟨_,CW,uu⟩,rfl,rfl⟩:=put E _ _ _ _ _ _ _ _ _ _ _ Ew;have LP:=lz.tree;have h3:=lz.rel;have h4:=lz.len;have h5:=lz.all;have h6:=lz.size;have h7:=lz.length;have h8:=LP.len.symm;rw [hn] at h5 h6;have CY:=ei.anw n h;have hAf:(A.new (.bc 0 n)).get A.next=some (.bc 0 n):=by simp
  have Kf:E.φ A.next=none:=by
   cases hq:E.φ A.next with
   | none=>rfl
   | some g=>have:=h.oI _ g hq; omega
  cases k with
  | zero=>
   have xj:new = []:=lL.1 h8;have Wl:cL = []:=lL.1 h7;subst xj Wl;refine ⟨.slice none 0 0,B,E,?_,?_,?_⟩
   ·simp only [ly,h4,eV]
    rw [h5];rfl
   ·simp only [VK]
    exact ⟨⟨rfl,fun i hi=>by omega,rfl⟩,[],.nil,none,0,rfl,aQ _,.inl ⟨rfl,rfl⟩,rfl,.inl ⟨rfl,rfl⟩⟩
   ·exact CY.after (ei.anA n CY.jK hAf Kf)
  | succ k=>
   have Ys:=ei.grow (c:=bR cL) (top:=0) (Vb:=k+1) (sz:=n) (g:=B.next) (f:=A.next) CY.jK hAf (.inl ⟨Kf,rfl⟩) (by rw [jL h6,h7]) (by omega) (by omega);refine ⟨.slice (some ⟨B.next,0,none⟩) (k+1) (k+1),B.grow B.next 0 (bR cL) n,_,?_,?_,CY.after (by simpa using Ys)⟩
   ·simp only [bd] at CW uu
    simp only [ly,h4,eV,bd];rw [show Nat.ble (k+1) 0=false from rfl,aq,CW,uu,h5];rfl
   ·simp only [VK,bd,List.nil_append]
    have Wl:=h3.mono (Env.le_trans CY.le Ys.le);have hl:=ou h6;refine ⟨by have:=ji.none (P:=P) (T:=e) (g:=nQ) |>.join LP; simpa using this,cL,Wl,_,_,rfl,aQ _,.inr ⟨B.next,0,⟨bR cL,n,true,some (B.next,0)⟩,rfl,by simp [Env.uD,Env.gC],hn.symm,by rw [hn]; exact hl⟩,rfl,.inr ⟨B.next,⟨bR cL,n,true,some (B.next,0)⟩,B.next,rfl,by simp [Env.uD,Env.gC],rfl,by simp [Env.uD],rfl,?_⟩⟩;rw [hn];simp only;rw [jL h6,h7]
 ·
  rename_i e1 m es ar2 e9 mk9 k9 anC anE heq;simp only [List.cons.injEq,KV.ts.injEq,and_true] at heq;obtain ⟨rfl,rfl,rfl,rfl,rfl,rfl⟩:=heq;obtain ⟨he,Ew⟩:=hg.cond;clear hg;simp only [aD] at he;obtain ⟨cL,lz⟩:=hsr he.1;have:=bh he.1;subst this;have:=bh he.2;subst this;obtain ⟨⟨hk,CW,uu⟩,rfl,rfl⟩:=put E _ _ _ _ _ _ _ _ _ _ _ Ew;have hk:0 < k:=by rwa [bT] at hk
  have yX:=h1.ny.1;have LP:=lz.tree;have h3:=lz.rel;have h4:=lz.len;have h5:=lz.all;have h6:=lz.size;have h7:=lz.length;have h8:=LP.len.symm;obtain ⟨tV,h3b,h4b,h5b,h6b,h7b,h8b,h9b⟩:=ae1 h h1 xk;rw [hn] at h5 h6 h5b h6b;obtain ⟨_,ajT,xJ,a,cap,rfl,ang,aaw,amv⟩:=h1.ny;obtain ⟨rfl,hmk⟩:=amv;have CY:=ei.anw n h;have hAf:(A.new (.bc 0 n)).get A.next=some (.bc 0 n):=by simp
  have Kf:E.φ A.next=none:=by
   cases hq:E.φ A.next with
   | none=>rfl
   | some g=>have:=h.oI _ g hq; omega
  have hs:∀ v∈tV++cL,v.cells.size=n:=fun v hv=>by
   rcases oM.1 hv with hv | hv
   ·exact h6b v hv
   ·exact h6 v hv
  have hlen:(bR (tV++cL)).length=(cap+k) * n:=by rw [jL hs,ko,h7b,h7]
  have Ys:=ei.grow (c:=bR (tV++cL)) (top:=0) (Vb:=cap+k) (sz:=n) (g:=B.next) (f:=A.next) CY.jK hAf (.inl ⟨Kf,rfl⟩) hlen (by omega) (by omega);refine ⟨.slice (some ⟨B.next,0,none⟩) (cap+k) (cap+k),B.grow B.next 0 (bR (tV++cL)) n,_,?_,?_,CY.after Ys⟩
  ·simp only [ly,h4,eV]
   have hnb:Nat.ble (cap+k) cap=false:=by
    cases hq:Nat.ble (cap+k) cap with
    | false=>rfl
    | true=>have:=fH hq; omega
   rw [hnb,aq,CW,uu];rcases aaw with ⟨rfl,h0⟩ | ⟨b',off,r,rfl,hz,he2,oo⟩
   ·subst h0
    have:tV = []:=lL.1 h7b;subst this;simp only [wD,AL,bI];rw [show Nat.beq 0 0=true from rfl,aj,h5];simp [IJ]
   ·obtain ⟨r2,En,ho,akl,ar3⟩:=hmk b' off rfl
    rw [hz] at En;simp at En;subst En;have jZ:=h.z b' r hz;have hex:wD B n cap (some ⟨b',off,none⟩)=true:=by
     simp only [wD,jZ,akl];rw [hn] at ar3;simp [ar3]
    rw [hex];simp only [bI,aj,h5,eV];simp only [yL] at h5b;have XV:Nat.beq r.bV n=true:=by rw [he2,hn]; simp
    simp only [IJ,dj,Option.isNone_none,aj,h5b,eV,jZ,XV,akl,ho];rw [<- Ao]
  ·simp only [VK]
   have Ea:=(h3b.append h3).mono (Env.le_trans CY.le Ys.le);have hl:=ou hs;refine ⟨yX.join LP,tV++cL,Ea,_,_,rfl,aQ _,.inr ⟨B.next,0,⟨bR (tV++cL),n,true,some (B.next,0)⟩,rfl,by simp [Env.uD,Env.gC],hn.symm,by rw [hn]; exact hl⟩,rfl,.inr ⟨B.next,⟨bR (tV++cL),n,true,some (B.next,0)⟩,B.next,rfl,by simp [Env.uD,Env.gC],rfl,by simp [Env.uD],rfl,?_⟩⟩;rw [hn];exact hlen
 ·
  rename_i e1 f m es ar2 e9 mk9 k9 anC anE heq;simp only [List.cons.injEq,KV.ts.injEq,and_true] at heq;obtain ⟨rfl,rfl,rfl,rfl,rfl,rfl⟩:=heq;split at hg
  ·rename_i top sz' ab1
   obtain ⟨he,Ew⟩:=hg.cond;clear hg;simp only [aD] at he;obtain ⟨cL,lz⟩:=hsr he.1.1;have:=bh he.1.1;subst this;have:=bh he.1.2;subst this;have apB:=bh he.2;rw [apB] at ab1;obtain ⟨⟨Kh,CW,uu⟩,rfl,rfl⟩:=put E _ _ _ _ _ _ _ _ _ _ _ Ew;have:=bh Kh;subst this;have yX:=h1.ny.1;have LP:=lz.tree;have h3:=lz.rel;have h4:=lz.len;have h5:=lz.all;have h6:=lz.size;have h7:=lz.length;have h8:=LP.len.symm;obtain ⟨tV,h3b,h4b,h5b,h6b,h7b,h8b,h9b⟩:=ae1 h h1 xk;rw [hn] at h5 h6 h5b h6b;obtain ⟨_,ajT,xJ,a,cap,rfl,ang,aaw,amv⟩:=h1.ny;obtain ⟨rfl,hmk⟩:=amv;have hs:∀ v∈tV++cL,v.cells.size=n:=fun v hv=>by
    rcases oM.1 hv with hv | hv
    ·exact h6b v hv
    ·exact h6 v hv
   have hlen:(bR (tV++cL)).length=(cap+k) * n:=by rw [jL hs,ko,h7b,h7]
   have asB:=h3b.append h3;have hl:=ou hs;have fin:∀ (E2:Env) (x g:Nat),E.le E2->E2.z x=some ⟨bR (tV++cL),n,true,some (g,0)⟩->E2.φ f=some g->VK P E2 (.ts e (.bc f) (cap+k) (es++new) (dK cap ar2 acc)) (.slice (some ⟨x,0,none⟩) (cap+k) (cap+k)):=by
    intro E2 x g hle hzx atn;simp only [VK];refine ⟨yX.join LP,tV++cL,asB.mono hle,_,_,rfl,aQ _,.inr ⟨x,0,_,rfl,hzx,hn.symm,by rw [hn]; exact hl⟩,rfl,.inr ⟨x,_,g,rfl,hzx,rfl,atn,rfl,?_⟩⟩;rw [hn];exact hlen
   rcases hmk with ⟨rfl,rfl⟩ | ⟨b',r,g,rfl,hz,ho,Kf,akl,hcl⟩
   ·
    have hold:es = []:=lL.1 h8b;have aiJ:tV = []:=lL.1 h7b;subst hold aiJ;have Kf:E.φ f=none:=by
     rcases h.bc f 0 n ab1 with ⟨_,IM⟩ | ⟨g2,_,IM,_⟩
     ·exact IM
     ·omega
    cases k with
    | zero=>
     have xj:new = []:=lL.1 h8;have Wl:cL = []:=lL.1 h7;subst xj Wl;refine ⟨.slice none 0 0,B,E,?_,?_,ei.anA n h ab1 Kf⟩
     ·simp only [ly,h4,eV]
      rw [h5];rfl
     ·simp only [VK]
      exact ⟨⟨rfl,fun i hi=>by omega,rfl⟩,[],.nil,none,0,rfl,aQ _,.inl ⟨rfl,rfl⟩,rfl,.inl ⟨rfl,rfl⟩⟩
    | succ k=>
     have Ys:=ei.grow (c:=bR ([]++cL)) (top:=0) (Vb:=0+(k+1)) (sz:=n) (g:=B.next) (f:=f) h ab1 (.inl ⟨Kf,rfl⟩) hlen (by omega) (by omega);refine ⟨.slice (some ⟨B.next,0,none⟩) (0+(k+1)) (0+(k+1)),B.grow B.next 0 (bR ([]++cL)) n,_,?_,fin _ B.next B.next Ys.le (by simp [Env.uD,Env.gC]) (by simp [Env.uD]),Ys⟩;simp only [bd] at CW uu;simp only [ly,h4,eV,bd,List.nil_append];rw [show Nat.ble (k+1) 0=false from rfl,aq,CW,uu,h5];rfl
   ·
    have hcap1:0 < cap:=by
     rcases Nat.eq_zero_or_pos cap with h0 | h0
     ·subst h0
      rcases h.bc f 0 n ab1 with ⟨_,IM⟩ | ⟨g2,_,IM,_⟩
      ·rw [Kf] at IM; simp at IM
      ·omega
     ·exact h0
    rcases Nat.eq_zero_or_pos k with xH | xH
    ·subst xH
     have xj:new = []:=lL.1 h8;have Wl:cL = []:=lL.1 h7;subst xj Wl;refine ⟨.slice (some ⟨b',0,none⟩) cap cap,B,E,?_,?_,ei.apF h ab1⟩
     ·simp only [ly,h4,eV]
      rw [show Nat.ble (cap+0) cap=true from Nat.ble_eq_true_of_le (aQ _),aj,h5];rfl
     ·simp only [VK]
      exact ⟨yX.join LP,ajT,by rw [lM]; exact xJ,some ⟨b',0,none⟩,cap,rfl,aQ _,aaw,rfl,.inr ⟨b',r,g,rfl,hz,ho,Kf,akl,hcl⟩⟩
    have asC:0 < cap+k/\0 < k:=⟨by omega,xH⟩
    have jZ:=h.z b' r hz;rw [ho,akl] at jZ;have XV:r.bV=n:=by
     rcases aaw with ⟨h0,_⟩ | ⟨b2,apJ,r2,e2,En,he2,_⟩
     ·simp at h0
     ·simp at e2
      obtain ⟨rfl,rfl⟩:=e2;rw [hz] at En;simp at En;subst En;rw [he2,hn]
    have asD:B.kill B.next (0+(0+cap * n)) (0+(0+cap * n)+(bR cL).length) (B.members g)=B:=by
     refine aeX fun y hy=>?_;rcases h.bc f cap n ab1 with ⟨_,IM⟩ | ⟨g2,IM,_,h3'⟩
     ·rw [Kf] at IM; simp at IM
     ·rw [Kf] at IM
      simp at IM;subst IM;cases hy2:B.get y with
      | none=>rfl
      | some o=>cases o with
       | row om e2 Km ur=>
        cases ur with
        | none=>rfl
        | some p=>
         obtain ⟨f2,k2⟩:=p;obtain ⟨rfl,hle2⟩:=h3' y hy om e2 Km f2 k2 hy2;simp only [tK,meets,bd];have:Nat.blt (cap * n) om.length=false:=by
          cases hq:Nat.blt (cap * n) om.length with
          | false=>rfl
          | true=>rw [bT] at hq; omega
         rw [this,ug]
       | _=>rfl
    have Ys:=ei.grow (c:=bR (tV++cL)) (top:=cap) (Vb:=cap+k) (sz:=n) (g:=g) (f:=f) h ab1 (.inr Kf) hlen (by omega) asC.1;refine ⟨.slice (some ⟨B.next,0,none⟩) (cap+k) (cap+k),B.grow g 0 (bR (tV++cL)) n,_,?_,fin _ B.next g Ys.le (by simp [Env.uD,Env.gC]) (by simp [Env.uD]),Ys⟩;have hnb:Nat.ble (cap+k) cap=false:=by
     cases hq:Nat.ble (cap+k) cap with
     | false=>rfl
     | true=>have:=fH hq; omega
    have hex:wD B n cap (some ⟨b',0,none⟩)=true:=by simp only [wD,jZ]
    simp only [ly,h4,eV,hnb,aq,CW,uu,hex,bI,aj,h5];simp only [yL] at h5b;have ato:Nat.beq r.bV n=true:=by rw [XV]; simp
    simp only [IJ,dj,Option.isNone_none,aj,h5b,eV,jZ,ato,asD,<- Ao]
  ·exact hg.elim
 ·exact hg.elim
end Go.K
end
section
namespace Go.K
open Go Go.aB
variable {P:Program} {E:Env}
theorem ei.art {A A1:aC} {B:St} {T:TypeId} {acc:Nat->KV} (h:fK P E A B) (vL:A1.next=A.next) (O9:∀ c o,A1.get c=some o->A.get c=some o\/(o = .dead/\c < A.next)) (fC:1<=bz P T) :
  ei P E A B E (A1.new (.arr (.ts T .any 0 [] acc))) B:=by
 have apD:E.α A.next=none:=by
  cases hq:E.α A.next with
  | none=>rfl
  | some p=>have:=h.ar.mA _ p hq; omega
 have kF:∀ c o,(A1.new (.arr (.ts T .any 0 [] acc))).get c=some o->(c=A.next/\o = .arr (.ts T .any 0 [] acc))\/(o = .dead/\c < A.next)\/A.get c=some o:=fun c o hc=>by
  rw [aC.dw,vL] at hc;split at hc
  ·rename_i e; simp at hc; exact .inl ⟨e,hc.symm⟩
  ·rcases O9 c o hc with e | e
   ·exact .inr (.inr e)
   ·exact .inr (.inl e)
 have x5:∀ c v,(A1.new (.arr (.ts T .any 0 [] acc))).get c=some (.arr v)->E.α c=none\/A.get c=some (.arr v):=fun c v hc=>by
  rcases kF c _ hc with ⟨e,_⟩ | ⟨e,_⟩ | e
  ·exact .inl (by rw [e]; exact apD)
  ·simp at e
  ·exact .inr e
 have hA:∀ c v y L N,(A1.new (.arr (.ts T .any 0 [] acc))).get c=some (.arr v)->E.α c=some (y,L,N)->A.get c=some (.arr v):=fun c v y L N hc hy=>by
  rcases x5 c v hc with e | e
  ·rw [e] at hy; simp at hy
  ·exact e
 have tP:∀ y,AR (A1.new (.arr (.ts T .any 0 [] acc))) E y->AR A E y:=fun y ⟨c,v,L,N,h1,h2⟩=>⟨c,v,L,N,hA c v _ _ _ h1 h2,h2⟩
 have LQ:∀ g,AF (A1.new (.arr (.ts T .any 0 [] acc))) E B g->AF A E B g:=fun g ⟨c,v,x,L,N,cs,e,own,k,h1,h2,h3⟩=>⟨c,v,x,L,N,cs,e,own,k,hA c v _ _ _ h1 h2,h2,h3⟩
 refine ⟨⟨fun c cs bV hc=>?_,fun c top sz hc=>?_,h.z,h.apart,h.inj,?_,fun b x e=>by rw [aC.ct,vL]; have:=h.mA b x e; omega,fun b g e=>by rw [aC.ct,vL]; have:=h.oI b g e; omega,fun c o hc=>?_,h.gX,h.oS,h.kG,h.fresh,h.mem,?_⟩,Env.le_refl _,by rw [aC.ct,vL]; omega,fun _ _ _ _=>rfl,fun _ _ e=>.inl e,fun _ _ e=>.inl e,fun _ _ e=>.inl e,fun _ _ _ _=>rfl,fun x q=>.inl (tP x q),fun g q=>.inl (LQ g q),fun _ _ q=>.inl q,fun y q=>.inl (q.imp (tP y) fun ⟨g,q1,q2⟩=>⟨g,LQ g q1,q2⟩),nT fun _ _=>rfl⟩
 ·rcases kF c _ hc with ⟨_,e⟩ | ⟨e,_⟩ | e
  ·simp at e
  ·simp at e
  ·exact h.row c cs bV e
 ·rcases kF c _ hc with ⟨_,e⟩ | ⟨e,_⟩ | e
  ·simp at e
  ·simp at e
  ·exact h.bc c top sz e
 ·intro b c g tb sb tc sc hb hc e1 e2
  rcases kF b _ hb with ⟨_,e⟩ | ⟨e,_⟩ | hb
  ·simp at e
  ·simp at e
  rcases kF c _ hc with ⟨_,e⟩ | ⟨e,_⟩ | hc
  ·simp at e
  ·simp at e
  exact h.j6 b c g _ _ _ _ hb hc e1 e2
 ·rw [aC.ct,vL]
  rcases kF c _ hc with ⟨e,_⟩ | ⟨_,e⟩ | e
  ·omega
  ·omega
  ·have:=h.live c o e; omega
 ·refine ⟨fun c v hc=>?_,fun c v hc=>?_,fun x q=>h.ar.z x (tP x q),fun b c v u x L N L' N' h1 h2 h3 h4=>h.ar.inj b c v u x L N L' N' (hA b v _ _ _ h1 h3) (hA c u _ _ _ h2 h4) h3 h4,fun b c v u x y L N L' N' cs e own g k cd e' rU k' h1 h2 h3 h4=>h.ar.xi b c v u x y L N L' N' cs e own g k cd e' rU k' (hA b v _ _ _ h1 h3) (hA c u _ _ _ h2 h4) h3 h4,h.ar.dis,fun b p e=>by rw [aC.ct,vL]; have:=h.ar.mA b p e; omega,h.ar.gX,fun b v x L N cs e own g k h1 h2 h3=>?_,fun c v hc=>?_⟩
  ·rcases kF c _ hc with ⟨e,e2⟩ | ⟨e,_⟩ | e
   ·simp at e2
    subst e2;exact ⟨T,0,[],acc,rfl,⟨rfl,fun i hi=>by omega,rfl⟩,fC,.inl ⟨rfl,by rw [e]; exact apD⟩⟩
   ·simp at e
   ·exact h.ar.arr c v e
  ·rcases kF c _ hc with ⟨_,e⟩ | ⟨e,_⟩ | e
   ·simp at e
   ·simp at e
   ·exact h.ar.jQ c v e
  ·obtain ⟨q1,q2,q3⟩:=h.ar.vr b v x L N cs e own g k (hA b v _ _ _ h1 h2) h2 h3
   exact ⟨q1,q2,fun y hy eF=>⟨(q3 y hy eF).1,fun q=>(q3 y hy eF).2.1 (tP y q),(q3 y hy eF).2.2⟩⟩
  ·rw [aC.ct,vL]
   rcases kF c _ hc with ⟨e,_⟩ | ⟨e,_⟩ | e
   ·rw [e]
    refine ⟨Nat.lt_succ_self _,?_⟩;cases hk:E.κ A.next with
    | none=>rfl
    | some x=>have:=h.mA _ x hk; omega
   ·simp at e
   ·obtain ⟨q1,q2⟩:=h.ar.nk c v e
    exact ⟨by omega,q2⟩
theorem akm {E:Env} {T:TypeId} {b x L N n c:Nat} (tj:E.α b=some (x,L,N)) (h1:n<=c) (h2:n<=N) (h3:c * bz P T=L):VK P E (.al T b 0 n) (.slice (some ⟨x,0,none⟩) n c):=
 .U4 (.inr ⟨x,L,N,c,tj,by simp,h1,by omega,by rw [bd]; exact h3⟩)
theorem akn {T b n:Nat} {z:Value} (hn:bz P T=n) (h1n:1<=n) (hz:z.cells.size=n) (he:cC (bu P T) (K.gq (bu P T) (gQ z))=true):ahA P (aan T b (K.gq (bu P T) (gQ z))) (FZ n b z):=by
 intro E A A' B vs us v h hv hg;unfold aan at hg;split at hg
 ·rename_i k l k' c
  obtain ⟨x,y,rfl,h1,h2⟩:=hv.mo;have:=h1.dx; subst this;have:=h2.dx; subst this;obtain ⟨hc,hg⟩:=a9.lB hg;simp only [fI] at hg;obtain ⟨rfl,rfl⟩:=hg;simp only [aD,kV] at hc;obtain ⟨⟨h3,h4⟩,h5⟩:=hc;obtain ⟨l',rfl⟩:=Int.eq_ofNat_of_zero_le h3;obtain ⟨c',rfl⟩:=Int.eq_ofNat_of_zero_le (Int.le_trans h3 h4);have h6:Nat.ble l' c' = true:=Nat.ble_eq_true_of_le (by omega);have hs:∀ v∈List.replicate c' z,v.cells.size=n:=fun v hv=>by rw [List.eq_of_mem_replicate hv]; exact hz
  have hlen:(bR (List.replicate c' z)).length=c' * n:=by rw [jL hs,List.length_replicate]
  have Pc:∀ m,eA [K.gq (bu P T) (gQ z)] m=List.replicate m (K.gq (bu P T) (gQ z)):=fun m=>by
   induction m with
   | zero=>rfl
   | succ m ih=>simp [eA,ih,List.replicate_succ]
  have iE:=ei.Yr (P:=P) (X:=fun _=>False) (G:=fun _=>False) (y2:=B.next) (N2:=c') (T:=T) (rS:=eA [K.gq (bu P T) (gQ z)] c') (gb:=fun _=>K.gq (bu P T) (gQ z)) (Hv:=List.replicate c' z) (om:=bR (List.replicate c' z)) (ur:=none) (A1:=A) (B':=B.new (.row (bR (List.replicate c' z)) n true none)) h rfl (fun _ _ e=>.inl e) (fun _ _ _ _ _ _ _=>⟨id,fun _ _ _ _ _ _=>id⟩) (fun _ e=>e.elim) (fun _ e=>e.elim) (.inr (aQ _)) (by simp) (by simp [hn]) (fun _ _ e=>by simp at e)
   (fun y hy _=>.inl (by rw [St.dw,ay (by omega)])) (fun _ e=>e.elim) (fun q y hy=>.inl (by simpa using hy)) (fun q _=>by simp) (by simp) (fun g hg=>by rw [St.mB]; exact h.fresh g (by rw [St.ct] at hg; omega)) (fun g y hy=>by rw [St.mB] at hy; rw [St.ct]; have:=h.mem g y hy; omega)
   (by omega) ⟨by rw [Pc]; simp,fun i hi=>by rw [Pc,gK,List.getElem?_replicate,aR hi]; rfl,by
    rw [Pc];exact rj fun i x hx=>by rw [List.getElem?_replicate] at hx; split at hx <;> simp at hx; subst hx; exact he⟩ (by
    rw [Pc];generalize c' = m
    induction m with
    | zero=>exact .nil
    | succ m ih=>exact .cons (VK.gQ z).gq ih) (by rw [hn]; exact ou hs)
  refine ⟨.row (gp z.cells.toList c') n true none,fun k=>.slice (some ⟨k,0,none⟩) l' c',E.Hy A.next (B.next,(bR (List.replicate c' z)).length,c'),?_,?_,?_⟩
  ·have h5:Nat.ble (b * c') 281474976710656=true:=h5
   show cond (Nat.ble l' c'&&Nat.ble (b * c') 281474976710656) _ _=_;rw [h6,h5];rfl
  ·exact akm Env.Ex (by omega) (by show l'<=c'; omega) (by rw [hn,hlen])
  ·rw [HZ]; exact iE
 ·exact hg.elim
theorem aoy {T b n:Nat} {z:Value} (hn:bz P T=n) (_:1<=n) (hz:z.cells.size=n) (he:cC (bu P T) (K.gq (bu P T) (gQ z))=true):apz P (aiw T b (K.gq (bu P T) (gQ z))) (FZ n b z):=by
 intro E A B vs us v h hv hg;unfold aiw at hg;split at hg
 ·rename_i k l k' c
  obtain ⟨x,y,rfl,h1,h2⟩:=hv.mo;have:=h1.dx; subst this;have:=h2.dx; subst this;obtain ⟨hc,hg⟩:=a9.lB hg;subst hg;simp only [aD,kV] at hc;obtain ⟨⟨h3,h4⟩,h5⟩:=hc;obtain ⟨l',rfl⟩:=Int.eq_ofNat_of_zero_le h3;obtain ⟨c',rfl⟩:=Int.eq_ofNat_of_zero_le (Int.le_trans h3 h4);have IQ:l'<=c':=by omega
  have h6:Nat.ble l' c' = true:=Nat.ble_eq_true_of_le IQ;have hs:∀ v∈List.replicate c' z,v.cells.size=n:=fun v hv=>by rw [List.eq_of_mem_replicate hv]; exact hz
  have Pc:∀ m,eA [K.gq (bu P T) (gQ z)] m=List.replicate m (K.gq (bu P T) (gQ z)):=fun m=>by
   induction m with
   | zero=>rfl
   | succ m ih=>simp [eA,ih,List.replicate_succ]
  have Ea:∀ m,bm P E (List.replicate m (K.gq (bu P T) (gQ z))) (List.replicate m z):=fun m=>by
   induction m with
   | zero=>exact .nil
   | succ m ih=>exact .cons (VK.gQ z).gq ih
  refine ⟨.row (gp z.cells.toList c') n true none,fun k=>.slice (some ⟨k,0,none⟩) l' c',E.gC B.next ⟨bR (List.replicate c' z),n,true,none⟩,?_,?_,?_⟩
  ·have h5:Nat.ble (b * c') 281474976710656=true:=h5
   show cond (Nat.ble l' c'&&Nat.ble (b * c') 281474976710656) _ _=_;rw [h6,h5];rfl
  ·have amo:=(Ea l').mono (ei.anu (cd:=bR (List.replicate c' z)) (bV:=n) h).le
   simp only [VK];refine ⟨⟨by rw [Pc]; simp,fun i hi=>by rw [Pc,gK,List.getElem?_replicate,aR hi]; rfl,by
    rw [Pc];exact rj fun i x hx=>by rw [List.getElem?_replicate] at hx; split at hx <;> simp at hx; subst hx; exact he⟩,List.replicate l' z,by rw [Pc]; exact amo,some ⟨B.next,0,none⟩,c',rfl,IQ,.inr ⟨B.next,0,⟨bR (List.replicate c' z),n,true,none⟩,rfl,by simp [Env.gC],hn.symm,?_⟩,trivial⟩
   rw [hn];intro i x hx;rw [List.getElem?_replicate] at hx;split at hx
   ·rename_i hi
    refine ou hs i x ?_;rw [List.getElem?_replicate,aR (by have hi:i < l':=hi; omega)];exact hx
   ·simp at hx
  ·rw [HZ]; exact ei.anu h
 ·exact hg.elim
theorem aax {sz:Nat} {cs:List Value} {xs ys:List Value} (h:qK sz 0 cs xs) (k:qK sz (xs.length * sz) cs ys):qK sz 0 cs (xs++ys):=fun i x hi=>by
 by_cases a8:i < xs.length
 ·rw [pR a8] at hi; exact h i x hi
 ·rw [ue (by omega)] at hi
  obtain ⟨h1,h2⟩:=k _ x hi;refine ⟨h1,fun j y hy=>?_⟩;rw [<- h2 j y hy];congr 1;have:i * sz=xs.length * sz+(i - xs.length) * sz:=by rw [<- Nat.add_mul]; congr 1; omega
  omega
theorem ab2 {sz o:Nat} {cs r news:List Value} (hs:∀ v∈news,v.cells.size=sz) (hw:ig (o * sz) cs (bR news)=some r):qK sz (o * sz) r news:=fun i x hi=>by
 have MV:=ou hs i x hi;have hlen:=jL hs;obtain ⟨_,_,h3⟩:=ij hw;refine ⟨MV.1,fun k y hy=>?_⟩;have h4:=MV.2 k y hy;rw [bd] at h4;rw [h3,aR ⟨by omega,by have:=(c8.1 h4).1; omega⟩,<- h4];congr 1;omega
theorem ae2 {sz o:Nat} {cs r vs es:List Value} (hl:qK sz 0 cs es) (ho:es.length<=o) (hw:ig (o * sz) cs vs=some r) (_:1<=sz):qK sz 0 r es:=fun i x hi=>by
 obtain ⟨h1,h2⟩:=hl i x hi;obtain ⟨_,_,h3⟩:=ij hw;refine ⟨h1,fun k y hy=>?_⟩;have hk:k < sz:=by have:=(CP.1 hy).1; omega
 have Gw:=(c8.1 hi).1;have a8:0+i * sz+k < o * sz:=by
  have:(i+1) * sz<=o * sz:=Nat.mul_le_mul_right _ (by omega);rw [Nat.add_mul] at this;omega
 rw [h3,ay (by omega)];exact h2 k y hy
theorem amw {A:aC} {B:St} {f:Nat} {o0:jP} (h:fK P E A B) (hA:A.get f=some o0):∀ c o,(A.put f .dead).get c=some o->A.get c=some o\/(o = .dead/\c < A.next):=fun c o hc=>by
 rw [aC.cg] at hc;split at hc
 ·rename_i e; simp at hc; subst hc e; exact .inr ⟨rfl,h.live _ _ hA⟩
 ·exact .inl hc
theorem Yt {B:St} {g k:Nat} {c:List Value} {n:Nat} (_:g<=B.next):(∀ x,(B.grow g k c n).get x=if x=B.next then some (.row c n true (some (g,k))) else B.get x)/\(∀ q,(B.grow g k c n).members q=if q=g then B.next::B.members g else B.members q)/\(B.grow g k c n).next=B.next+1:=
 ⟨fun x=>by simp [St.grow],fun q=>by simp [St.grow,St.FF],rfl⟩
theorem ae3 {e b:Nat} {E:Env} {A A' : aC} {B:St} {x v:KV} {u w:Value} {e' : TypeId} {mk:Mk} {k:Nat} {new:List KV} {acc:Nat->KV} (xk:1<=bz P e) (h:fK P E A B) (h1:VK P E x u)
  (hsr:Nat.beq e e' = true->∃ bx,Src P E B e' k new acc w bx) (hg:a9 (Iu e b A [x,.ts e' mk k new acc]) (v,A')):∃ r B' E',ly (bz P e) b B [u,w] = some (r,B')/\VK P E' v r/\ei P E A B E' A' B':=by
 have put:∀ (A1:aC) (m:Nat) (base:List KV) (ab:Nat->KV) (more:Bool) (A2:aC) (v:KV),a9 (adP e b m base ab A1 k new acc more) (v,A2)->
   (more=true/\Nat.ble ((m+k) * b) 140737488355328=true/\Nat.ble (m+k) 17592186044416=true)/\v = .al e A1.next 0 (m+k)/\A2=A1.new (.arr (.ts e .any (m+k) (base++new) (dK m ab acc))):=by
  intro A1 m base ab more A2 v hp;obtain ⟨hc,hp⟩:=a9.lB hp;simp only [ano,aD] at hc;simp only [fI] at hp;exact ⟨⟨hc.1,hc.2.1,hc.2.2⟩,hp.1.symm,hp.2.symm⟩
 have nil:∀ (A1:aC) (base:List KV) (ab:Nat->KV),base = []->A1.next=A.next->(∀ c o,A1.get c=some o->A.get c=some o\/(o = .dead/\c < A.next))->(∃ bx,Src P E B e k new acc w bx)->Nat.ble ((0+k) * b) 140737488355328=true->Nat.ble (0+k) 17592186044416=true->
   ∃ r B' E',ly (bz P e) b B [.slice none 0 0,w] = some (r,B')/\VK P E' (.al e A.next 0 (0+k)) r/\ei P E A B E' (A1.new (.arr (.ts e .any (0+k) (base++new) (dK 0 ab acc)))) B':=by
  intro A1 base ab aaw hn1 hr1 ⟨cL,lz⟩ CW uu;subst aaw;have hj:ji P e (0+k) ([]++new) (dK 0 ab acc):=(ji.none (P:=P) (T:=e) (g:=ab)).join lz.tree;cases k with
  | zero=>
   have xj:new = []:=lL.1 lz.tree.len.symm;subst xj;refine ⟨.slice none 0 0,B,E,?_,.U4 (.inl ⟨rfl,rfl,rfl⟩),ei.art h hn1 hr1 xk⟩;simp only [ly,lz.len,eV,lz.all];rfl
  | succ k=>
   obtain ⟨g1,g2,g3⟩:=Yt (B:=B) (g:=B.next) (k:=0) (c:=bR cL) (n:=bz P e) (aQ _);have hlen:(bR cL).length=(k+1) * bz P e:=by rw [jL lz.size,lz.length]
   refine ⟨.slice (some ⟨B.next,0,none⟩) (k+1) (k+1),B.grow B.next 0 (bR cL) (bz P e),E.Hy A.next (B.next,(bR cL).length,0+(k+1)),?_,?_,?_⟩
   ·simp only [bd] at CW uu
    simp only [ly,lz.len,eV,bd];rw [show Nat.ble (k+1) 0=false from rfl,aq,CW,uu,lz.all];rfl
   ·rw [bd]; exact akm Env.Ex (aQ _) (by omega) (by rw [hlen])
   ·generalize B.grow B.next 0 (bR cL) (bz P e)=B' at g1 g2 g3
    exact ei.Yr (X:=fun _=>False) (G:=fun _=>False) (y2:=B.next) (ur:=some (B.next,0)) h hn1 hr1 (fun _ _ _ _ _ _ _=>⟨id,fun _ _ _ _ _ _=>id⟩) (fun _ e=>e.elim) (fun _ e=>e.elim) (.inr (aQ _)) (by omega) (by rw [g1,aR rfl]) (fun g k e=>by simp at e; exact .inr (by omega))
     (fun y hy _=>.inl (by rw [g1,ay (by omega)])) (fun _ e=>e.elim) (fun q y hy=>by
      rw [g2] at hy;split at hy
      ·rename_i e
       subst e;rcases eL.1 hy with hy | hy
       ·exact .inr ⟨hy,aQ _,0,rfl⟩
       ·exact .inl hy
      ·exact .inl hy) (fun q hq=>by rw [g2,ay (fun e=>hq 0 (by rw [e]))]) (by omega) (fun g hg=>by rw [g2,ay (by omega)]; exact h.fresh g (by omega)) (fun g y hy=>by
      rw [g2] at hy;split at hy
      ·rcases eL.1 hy with hy | hy
       ·omega
       ·have:=h.mem _ y hy; omega
      ·have:=h.mem g y hy; omega) xk hj (by simpa using lz.rel) (ou lz.size)
 unfold Iu at hg;split at hg
 ·rename_i e9 mk9 k9 anC anE heq
  simp only [List.cons.injEq,KV.ts.injEq,and_true] at heq;obtain ⟨rfl,rfl,rfl,rfl,rfl,rfl⟩:=heq;have:=h1.qu; subst this;obtain ⟨he,Ew⟩:=hg.cond;have lz:=hsr he;have:=bh he;subst this;obtain ⟨⟨_,CW,uu⟩,rfl,rfl⟩:=put _ _ _ _ _ _ _ Ew;exact nil A [] nQ rfl rfl (fun _ _ e=>.inl e) lz CW uu
 ·rename_i e1 f o n e9 mk9 k9 anC anE heq
  simp only [List.cons.injEq,KV.ts.injEq,and_true] at heq;obtain ⟨rfl,rfl,rfl,rfl,rfl,rfl⟩:=heq;split at hg
  ·rename_i e2 mk2 N es ac hf
   obtain ⟨he,Ew⟩:=hg.cond;simp only [aD] at he;obtain ⟨cL,lz⟩:=hsr he.1.1;have:=bh he.1.1;subst this;have:=bh he.1.2;subst this;have:=bh he.2;subst this;obtain ⟨⟨ho,CW,uu⟩,rfl,rfl⟩:=put _ _ _ _ _ _ _ Ew;have:=bh ho;subst this;have O9:=amw h hf;rcases h1.yW with ⟨rfl,_,rfl⟩ | ⟨x,L,N0,c,h2,rfl,h3,h4,h5⟩
   ·exact nil (A.put f .dead) (es.take 0) ac (by simp) rfl O9 ⟨cL,lz⟩ CW uu
   ·obtain ⟨T2,N2,rS,gb,e2,ht,_,zO⟩:=h.ar.arr f _ hf
    simp only [KV.ts.injEq] at e2;obtain ⟨rfl,rfl,rfl,rfl,rfl⟩:=e2;rcases zO with ⟨_,e2⟩ | ⟨x2,cs,cc,bx,e2,h6,h7,h8⟩
    ·rw [h2] at e2; simp at e2
    rw [h2] at e2;simp only [db,fI] at e2;obtain ⟨rfl,rfl,rfl⟩:=e2;have tP:AR A E x:=⟨f,_,_,_,hf,h2⟩
    have hxlt:x < B.next:=h.Kw tP;have ams:bx.length=N0:=by rw [h7.length]; exact ht.len.symm
    have hs:=qU ht.typed h7;have htk:ji P e n (es.take n) ac:=⟨by rw [nH,<- ht.len]; omega,fun i hi=>by rw [ht.acc i (by omega),gK,gK,pr,aR hi],rj fun i x hi=>by
     rw [pr] at hi;split at hi
     ·exact j7 ht.typed hi
     ·simp at hi⟩
    have hj:=htk.join lz.tree;have IU:(bx.take n).length=n:=by rw [nH]; omega
    have atp:∀ v∈bx.take n,v.cells.size=bz P e:=fun v hv=>(hs v (List.mem_of_mem_take hv)).1;have Ea:=(h7.take n).append lz.rel;have h5:c * bz P e=cs.length:=by simpa using h5
    have ss:∀ c v,(A.put f .dead).get c=some (.arr v)->c≠f/\A.get c=some (.arr v):=fun c v hc=>by
     rw [aC.cg] at hc;split at hc
     ·simp at hc
     ·rename_i e; exact ⟨e,hc⟩
    have hf1:∀ c v,(A.put f .dead).get c=some (.arr v)->∀ y L N,E.α c=some (y,L,N)->¬ (y=x)/\∀ qS e1 own g k1,B.get y=some (.row qS e1 own (some (g,k1)))->¬ (∃ k,cc=some (g,k)):=fun c v hc y L N hy=>by
     obtain ⟨eF,hc⟩:=ss c v hc;refine ⟨fun e=>eF (h.ar.inj c f v _ x L N _ _ hc hf (by rw [<- e]; exact hy) h2),fun qS e1 own g k1 hr ⟨k2,hk⟩=>?_⟩;rw [hk] at h6;exact eF (h.ar.xi c f v _ y x L N _ _ _ _ _ g k1 _ _ _ k2 hc hf hy h2 hr h6)
    have hf3:∀ g,(∃ k,cc=some (g,k))->AF A E B g/\g < B.next/\(∀ f,E.φ f≠some g)/\∀ y∈B.members g,¬ (y=x)->E.z y=none/\¬ AR A E y/\∀ c,E.κ c≠some y:=fun g ⟨k2,hk⟩=>by
     rw [hk] at h6;obtain ⟨q1,q2,q3⟩:=h.ar.vr f _ x _ _ _ _ _ g k2 hf h2 h6;exact ⟨⟨f,_,x,_,_,_,_,_,k2,hf,h2,h6⟩,q1,q2,fun y hy eF=>q3 y hy eF⟩
    have anF:dj (⟨x,0 * bz P e,none⟩:Addr)=true:=rfl;by_cases pU:n+k<=c
    ·
     have hle:n * bz P e+(bR cL).length<=cs.length:=by
      rw [jL lz.size,lz.length,<- h5,<- Nat.add_mul];exact Nat.mul_le_mul_right _ pU
     obtain ⟨om,hw⟩:=C7 (n * bz P e) cs (bR cL) hle;have hcl:om.length=cs.length:=(ij hw).1;have hsc:(bR cL).all scalar=true:=gx.2 (FK fun v hv=>(qU lz.tree.typed lz.rel v hv).2);have hb:Nat.ble (n+k) c=true:=Nat.ble_eq_true_of_le pU;have key:∃ B' : St,ly (bz P e) b B [.slice (some ⟨x,0 * bz P e,none⟩) n c,w] = some (.slice (some ⟨x,0 * bz P e,none⟩) (n+k) c,B')/\B'.get x=some (.row om (bz P e) true cc)/\
       (∀ y,y≠x->B'.get y=B.get y\/(B'.get y=some .dead/\∃ g,(∃ k,cc=some (g,k))/\y∈B.members g))/\B'.members=B.members/\B'.next=B.next:=by
      cases xH:Nat.beq k 0 with
      | true=>
       have aeu:cL = []:=lL.1 (by rw [lz.length]; exact bh xH);have LH:om=cs:=by
        rw [aeu] at hw;refine List.ext_getElem? fun i=>?_;rw [(ij hw).2.2 i,ay (by simp [bR])]
       refine ⟨B,?_,by rw [LH]; exact h6,fun _ _=>.inl rfl,rfl,rfl⟩;simp only [ly,lz.len,eV,hb,aj,lz.all,anF,xH]
      | false=>
       refine ⟨(B.put x (.row om (bz P e) true cc)).gf x cc (n * bz P e) (n * bz P e+(bR cL).length),?_,?_,?_,by rw [Ni]; simp,by rw [Vc]; simp⟩
       ·simp only [ly,lz.len,eV,hb,aj,aq,lz.all,anF,xH]
        simp only [St.AO,dj,Option.isNone_none,AL,hsc,aj,Nat.zero_mul,bd,h6,hw,Option.map_some]
       ·rcases H2 (B:=B.put x (.row om (bz P e) true cc)) (x:=x) (y:=x) (lo:=n * bz P e) (hi:=n * bz P e+(bR cL).length) (cc:=cc) with e | ⟨g,k,_,_,h3,_⟩
        ·rw [e]; simp
        ·exact absurd rfl h3
       ·intro y hy
        rcases H2 (B:=B.put x (.row om (bz P e) true cc)) (x:=x) (y:=y) (lo:=n * bz P e) (hi:=n * bz P e+(bR cL).length) (cc:=cc) with e | ⟨g,k,h1,h2,_,h4,_⟩
        ·exact .inl (by rw [e,St.cg,ay hy])
        ·exact .inr ⟨h4,g,⟨k,h1⟩,by simpa using h2⟩
     obtain ⟨B',nF,ki,hgy,ot,jz⟩:=key;refine ⟨_,B',E.Hy A.next (x,om.length,n+k),nF,?_,?_⟩
     ·rw [Nat.zero_mul]; exact akm Env.Ex pU (aQ _) (by rw [hcl]; exact h5)
     ·
      have hli:qK (bz P e) 0 om (bx.take n++cL):=aax (ae2 (h8.take n) (by omega) hw xk) (by rw [IU]; exact ab2 lz.size hw);exact ei.Yr (A1:=A.put f .dead) (X:=fun y=>y=x) (G:=fun g=>∃ k,cc=some (g,k)) (y2:=x) (ur:=cc) h rfl O9 hf1 (fun y hy=>by rw [hy]; exact tP) hf3 (.inl rfl) (by omega) ki (fun g k hk=>.inl ⟨k,hk⟩)
       (fun y _ eF=>hgy y eF) (fun y hy qS e1 own Yq hr=>by
        rw [hy,ki] at hr;simp at hr;obtain ⟨rfl,rfl,rfl,rfl⟩:=hr;rw [hy];exact ⟨cs,h6,hcl.symm⟩) (fun q y hy=>.inl (by rw [ot] at hy; exact hy)) (fun q _=>by rw [ot]) (by omega) (fun g hg=>by rw [ot]; exact h.fresh g (by omega)) (fun g y hy=>by rw [ot] at hy; rw [jz]; exact h.mem g y hy) xk hj Ea hli
    ·
     have hb:Nat.ble (n+k) c=false:=by
      cases hq:Nat.ble (n+k) c with
      | false=>rfl
      | true=>exact absurd (fH hq) pU
     have hex:wD B (bz P e) c (some ⟨x,0 * bz P e,none⟩)=true:=by
      simp only [wD,h6];cases cc with
      | none=>simp [h5]
      | some p=>rfl
     have hold:B.zM ⟨x,0 * bz P e,none⟩ (n * bz P e)=some (bR (bx.take n)):=by
      have:=Pa (B:=B) (b:=x) (off:=0) (n:=n) (sz:=bz P e) (r:=⟨cs,bz P e,true,cc⟩) (bx:=bx.take n) h6 (h8.take n) IU xk;simpa using this
     have amx:∀ v∈bx.take n++cL,v.cells.size=bz P e:=fun v hv=>by
      rcases oM.1 hv with hv | hv
      ·exact atp v hv
      ·exact lz.size v hv
     have hlen:(bR (bx.take n++cL)).length=(n+k) * bz P e:=by rw [jL amx,ko,IU,lz.length]
     cases cc with
     | none=>
      obtain ⟨g1,g2,g3⟩:=Yt (B:=B) (g:=B.next) (k:=0) (c:=bR (bx.take n++cL)) (n:=bz P e) (aQ _);refine ⟨.slice (some ⟨B.next,0,none⟩) (n+k) (n+k),B.grow B.next 0 (bR (bx.take n++cL)) (bz P e),E.Hy A.next (B.next,(bR (bx.take n++cL)).length,n+k),?_,?_,?_⟩
      ·simp only [ly,lz.len,eV,hb,aq,CW,uu,hex,bI,aj,lz.all]
       simp only [IJ,dj,Option.isNone_none,aj,hold,eV,h6,kp,<- Ao]
      ·exact akm Env.Ex (aQ _) (aQ _) (by rw [hlen])
      ·generalize B.grow B.next 0 (bR (bx.take n++cL)) (bz P e)=B' at g1 g2 g3
       exact ei.Yr (A1:=A.put f .dead) (X:=fun _=>False) (G:=fun _=>False) (y2:=B.next) (ur:=some (B.next,0)) h rfl O9 (fun _ _ _ _ _ _ _=>⟨id,fun _ _ _ _ _ _=>id⟩) (fun _ e=>e.elim) (fun _ e=>e.elim) (.inr (aQ _)) (by omega) (by rw [g1,aR rfl]) (fun g k e=>by simp at e; exact .inr (by omega))
        (fun y hy _=>.inl (by rw [g1,ay (by omega)])) (fun _ e=>e.elim) (fun q y hy=>by
         rw [g2] at hy;split at hy
         ·rename_i e
          subst e;rcases eL.1 hy with hy | hy
          ·exact .inr ⟨hy,aQ _,0,rfl⟩
          ·exact .inl hy
         ·exact .inl hy) (fun q hq=>by rw [g2,ay (fun e=>hq 0 (by rw [e]))]) (by omega) (fun g hg=>by rw [g2,ay (by omega)]; exact h.fresh g (by omega)) (fun g y hy=>by
         rw [g2] at hy;split at hy
         ·rcases eL.1 hy with hy | hy
          ·omega
          ·have:=h.mem _ y hy; omega
         ·have:=h.mem g y hy; omega) xk hj Ea (ou amx)
     | some p=>
      obtain ⟨g,k0⟩:=p;have hgB:g < B.next:=(hf3 g ⟨k0,rfl⟩).2.1;have kg:∀ y,(B.kill B.next (k0+(0+n * bz P e)) (k0+(0+n * bz P e)+(bR cL).length) (B.members g)).get y=B.get y\/((B.kill B.next (k0+(0+n * bz P e)) (k0+(0+n * bz P e)+(bR cL).length) (B.members g)).get y=some .dead/\y∈B.members g):=fun y=>by
       rw [El];by_cases hc:y∈B.members g/\y≠B.next/\tK (B.get y) (k0+(0+n * bz P e)) (k0+(0+n * bz P e)+(bR cL).length)=true
       ·exact .inr ⟨by rw [aR hc],hc.1⟩
       ·exact .inl (by rw [ay hc])
      have km:(B.kill B.next (k0+(0+n * bz P e)) (k0+(0+n * bz P e)+(bR cL).length) (B.members g)).members=B.members:=by simp
      have kn:(B.kill B.next (k0+(0+n * bz P e)) (k0+(0+n * bz P e)+(bR cL).length) (B.members g)).next=B.next:=by simp
      obtain ⟨g1,g2,g3⟩:=Yt (B:=B.kill B.next (k0+(0+n * bz P e)) (k0+(0+n * bz P e)+(bR cL).length) (B.members g)) (g:=g) (k:=k0+0) (c:=bR (bx.take n++cL)) (n:=bz P e) (by omega);rw [kn] at g3;have g1:∀ y,y≠B.next->_:=fun y hy=>(g1 y).trans (ay (by rw [kn]; exact hy));have g1':=(Yt (B:=B.kill B.next (k0+(0+n * bz P e)) (k0+(0+n * bz P e)+(bR cL).length) (B.members g)) (g:=g) (k:=k0+0) (c:=bR (bx.take n++cL)) (n:=bz P e) (by omega)).1 B.next;rw [kn,aR rfl] at g1';simp only [km,kn] at g2;refine ⟨.slice (some ⟨B.next,0,none⟩) (n+k) (n+k),(B.kill B.next (k0+(0+n * bz P e)) (k0+(0+n * bz P e)+(bR cL).length) (B.members g)).grow g (k0+0) (bR (bx.take n++cL)) (bz P e),E.Hy A.next (B.next,(bR (bx.take n++cL)).length,n+k),?_,?_,?_⟩
      ·simp only [ly,lz.len,eV,hb,aq,CW,uu,hex,bI,aj,lz.all]
       have aiJ:=hold;rw [Nat.zero_mul] at aiJ;simp only [IJ,dj,Option.isNone_none,aj,Nat.zero_mul,aiJ,eV,h6,kp,<- Ao]
      ·exact akm Env.Ex (aQ _) (aQ _) (by rw [hlen])
      ·generalize (B.kill B.next (k0+(0+n * bz P e)) (k0+(0+n * bz P e)+(bR cL).length) (B.members g)).grow g (k0+0) (bR (bx.take n++cL)) (bz P e)=B' at g1 g1' g2 g3
       have gy:∀ y,y≠B.next->B'.get y=B.get y\/(B'.get y=some .dead/\y∈B.members g):=fun y hy=>by
        rw [g1 y hy]; exact kg y
       exact ei.Yr (A1:=A.put f .dead) (X:=fun y=>y=x) (G:=fun q=>∃ k,some (g,k0)=some (q,k)) (y2:=B.next) (ur:=some (g,k0+0)) h rfl O9 hf1 (fun y hy=>by rw [hy]; exact tP) hf3 (.inr (aQ _)) (by omega) g1' (fun q k e=>by simp at e; exact .inl ⟨k0,by rw [e.1]⟩)
        (fun y hy _=>(gy y (by omega)).imp id fun ⟨q1,q2⟩=>⟨q1,g,⟨k0,rfl⟩,q2⟩) (fun y hy qS e1 own Yq hr=>by
         have hy:y=x:=hy;rcases gy y (by omega) with q | ⟨q,_⟩
         ·rw [q] at hr; exact ⟨qS,hr,rfl⟩
         ·rw [q] at hr; simp at hr) (fun q y hy=>by
         rw [g2] at hy;split at hy
         ·rename_i e
          subst e;rcases eL.1 hy with hy | hy
          ·exact .inr ⟨hy,aQ _,k0+0,rfl⟩
          ·exact .inl hy
         ·exact .inl hy) (fun q hq=>by rw [g2,ay (fun e=>hq (k0+0) (by rw [e]))]) (by omega) (fun q hq=>by rw [g2,ay (by omega)]; exact h.fresh q (by omega)) (fun q y hy=>by
         rw [g2] at hy;split at hy
         ·rcases eL.1 hy with hy | hy
          ·omega
          ·have:=h.mem _ y hy; omega
         ·have:=h.mem q y hy; omega) xk hj Ea (ou amx)
  ·exact hg.elim
 ·exact hg.elim
theorem ei.asE {A:aC} {B:St} {b:Nat} {v2:KV} (h:fK P E A B) (hb:∃ v,A.get b=some (.arr v)) (cf:aeI P E B b v2):ei P E A B E (A.put b (.arr v2)) B:=by
 obtain ⟨v0,hb⟩:=hb;have kF:∀ c o,(A.put b (.arr v2)).get c=some o->(c=b/\o = .arr v2)\/A.get c=some o:=fun c o hc=>by
  rw [aC.cg] at hc;split at hc
  ·rename_i e; simp at hc; exact .inl ⟨e,hc.symm⟩
  ·exact .inr hc
 have hA:∀ c v,(A.put b (.arr v2)).get c=some (.arr v)->∃ u,A.get c=some (.arr u):=fun c v hc=>by
  rcases kF c _ hc with ⟨e,_⟩ | e
  ·exact ⟨v0,by rw [e]; exact hb⟩
  ·exact ⟨v,e⟩
 have tP:∀ y,AR (A.put b (.arr v2)) E y->AR A E y:=fun y ⟨c,v,L,N,h1,h2⟩=>by
  obtain ⟨u,hu⟩:=hA c v h1;exact ⟨c,u,L,N,hu,h2⟩
 have LQ:∀ g,AF (A.put b (.arr v2)) E B g->AF A E B g:=fun g ⟨c,v,x,L,N,cs,e,own,k,h1,h2,h3⟩=>by
  obtain ⟨u,hu⟩:=hA c v h1;exact ⟨c,u,x,L,N,cs,e,own,k,hu,h2,h3⟩
 refine ⟨⟨fun c cs bV hc=>?_,fun c top sz hc=>?_,h.z,h.apart,h.inj,?_,h.mA,h.oI,fun c o hc=>?_,h.gX,h.oS,h.kG,h.fresh,h.mem,?_⟩,Env.le_refl _,aQ _,fun _ _ _ _=>rfl,fun _ _ e=>.inl e,fun _ _ e=>.inl e,fun _ _ e=>.inl e,fun _ _ _ _=>rfl,fun x q=>.inl (tP x q),fun g q=>.inl (LQ g q),fun _ _ q=>.inl q,fun y q=>.inl (q.imp (tP y) fun ⟨g,q1,q2⟩=>⟨g,LQ g q1,q2⟩),nT fun _ _=>rfl⟩
 ·rcases kF c _ hc with ⟨_,e⟩ | e
  ·simp at e
  ·exact h.row c cs bV e
 ·rcases kF c _ hc with ⟨_,e⟩ | e
  ·simp at e
  ·exact h.bc c top sz e
 ·exact h.j6.put (.inl fun t s=>by simp)
 ·rw [aC.uq]
  rcases kF c _ hc with ⟨e,_⟩ | e
  ·rw [e]; exact h.live b _ hb
  ·exact h.live c o e
 ·refine ⟨fun c v hc=>?_,fun c v hc=>?_,fun x q=>h.ar.z x (tP x q),fun c d v u x L N L' N' h1 h2 h3 h4=>?_,fun c d v u x y L N L' N' cs e own g k cd e' rU k' h1 h2 h3 h4=>?_,h.ar.dis,h.ar.mA,h.ar.gX,fun c v x L N cs e own g k h1 h2 h3=>?_,fun c v hc=>?_⟩
  ·rcases kF c _ hc with ⟨e,e2⟩ | e
   ·simp at e2; rw [e2,e]; exact cf
   ·exact h.ar.arr c v e
  ·rcases kF c _ hc with ⟨_,e⟩ | e
   ·simp at e
   ·exact h.ar.jQ c v e
  ·obtain ⟨v',h1⟩:=hA c v h1
   obtain ⟨u',h2⟩:=hA d u h2;exact h.ar.inj c d v' u' x L N L' N' h1 h2 h3 h4
  ·obtain ⟨v',h1⟩:=hA c v h1
   obtain ⟨u',h2⟩:=hA d u h2;exact h.ar.xi c d v' u' x y L N L' N' cs e own g k cd e' rU k' h1 h2 h3 h4
  ·obtain ⟨v',h1⟩:=hA c v h1
   obtain ⟨q1,q2,q3⟩:=h.ar.vr c v' x L N cs e own g k h1 h2 h3;exact ⟨q1,q2,fun y hy eF=>⟨(q3 y hy eF).1,fun q=>(q3 y hy eF).2.1 (tP y q),(q3 y hy eF).2.2⟩⟩
  ·obtain ⟨v',h1⟩:=hA c v hc
   rw [aC.uq];exact h.ar.nk c v' h1
theorem ae4 {es new:List KV} {o:Nat} (h:o+new.length<=es.length):(C3 es o new).length=es.length:=by
 simp only [C3,ko,nH,List.length_drop];omega
theorem ako {es new:List KV} {o i:Nat} (h:o+new.length<=es.length):(C3 es o new)[i]? = if i < o then es[i]? else if i < o+new.length then new[i - o]? else es[i]?:=by
 unfold C3;by_cases h1:i < o
 ·rw [aR h1,Tz,pR (by rw [nH]; omega),pr,aR h1]
 ·rw [ay h1]
  by_cases h2:i < o+new.length
  ·rw [aR h2,pR (by rw [ko,nH]; omega),ue (by rw [nH]; omega),nH]
   congr 1;omega
  ·rw [ay h2,ue (by rw [ko,nH]; omega),pS,ko,nH]
   congr 1;omega
theorem ahD {T:TypeId} {N m o k:Nat} {es new:List KV} {acc an:Nat->KV} (ht:ji P T N es acc) (hn:ji P T m new an) (hk:k<=m) (ho:o+k<=N):ji P T N (C3 es o (new.take k)) (mg o k acc an):=by
 have hl:(new.take k).length=k:=by rw [nH,<- hn.len]; omega
 have pU:o+(new.take k).length<=es.length:=by rw [hl,<- ht.len]; exact ho
 have nL:=fun i=>ako (i:=i) pU;rw [hl] at nL;refine ⟨by rw [ae4 pU]; exact ht.len,fun i hi=>?_,rj fun i x hx=>?_⟩
 ·rw [gK,nL]
  unfold mg;by_cases h1:i < o
  ·rw [aR h1,show Nat.blt i o=true from bT ▸ h1,aj,ht.acc i hi,gK]
  ·have e1:Nat.blt i o=false:=by
    cases hb:Nat.blt i o with
    | false=>rfl
    | true=>exact absurd (bT ▸ hb) h1
   rw [ay h1,e1,aq];by_cases h2:i < o+k
   ·rw [aR h2,show Nat.blt i (o+k)=true from bT ▸ h2,aj,pr,aR (by omega),hn.acc (i - o) (by omega),gK]
   ·have e2:Nat.blt i (o+k)=false:=by
     cases hb:Nat.blt i (o+k) with
     | false=>rfl
     | true=>exact absurd (bT ▸ hb) h2
    rw [ay h2,e2,aq,ht.acc i hi,gK]
 ·rw [nL] at hx
  split at hx
  ·exact j7 ht.typed hx
  ·split at hx
   ·rw [pr] at hx
    split at hx
    ·exact j7 hn.typed hx
    ·simp at hx
   ·exact j7 ht.typed hx
theorem akp {sz o:Nat} {cs r vs es:List Value} (hl:qK sz (o * sz+vs.length) cs es) (hw:ig (o * sz) cs vs=some r):qK sz (o * sz+vs.length) r es:=fun i x hi=>by
 obtain ⟨h1,h2⟩:=hl i x hi;obtain ⟨_,_,h3⟩:=ij hw;exact ⟨h1,fun k y hy=>by rw [h3,ay (by omega)]; exact h2 k y hy⟩
theorem apK {e n:Nat} (hn:bz P e=n) (h1n:1<=n):ant P (amg e) (aea n):=by
 intro E A A' B vs us v h hv hg;unfold amg at hg;split at hg
 ·rename_i e1 b o q y
  obtain ⟨u,w,rfl,h1,h2⟩:=hv.mo;split at hg
  ·rename_i e' mk m new an e2 mk2 N es acc hy hb
   obtain ⟨he,hg2⟩:=hg.cond;clear hg;simp only [aD] at he;have:=bh he.1.1;subst this;have:=bh he.1.2;subst this;have:=bh he.2;subst this;have xk:1<=bz P e:=by omega
   obtain ⟨cL,lz⟩:=anB h h2 hy xk;have hg2:(KV.int .i64 (Nat.min m q:Nat),A.put b (.arr (.ts e .any N (C3 es o (new.take (Nat.min m q))) (mg o (Nat.min m q) acc an))))=(v,A'):=hg2;simp only [fI] at hg2;obtain ⟨rfl,rfl⟩:=hg2;obtain ⟨T2,N2,rS,gb,e2,ht,_,zO⟩:=h.ar.arr b _ hb;simp only [KV.ts.injEq] at e2;obtain ⟨rfl,rfl,rfl,rfl,rfl⟩:=e2;have Z1:Nat.min m q<=m:=Nat.min_le_left _ _;have hkq:Nat.min m q<=q:=Nat.min_le_right _ _;have hf:=lz.first _ Z1
   rw [hn] at hf;rcases h1.yW with ⟨rfl,rfl,rfl⟩ | ⟨x,L,N0,c,p2,rfl,p3,p4,p5⟩
   ·
    have xH:Nat.min m 0=0:=Nat.min_zero m;refine ⟨.int .i64 (Int.ofNat (Nat.min m 0)),B,E,?_,.mkInt,ei.asE h ⟨_,hb⟩ ?_⟩
    ·simp only [aea,lz.len,eV,hf]
    ·have hp:=ahD (o:=0) ht lz.tree Z1 (by rw [xH]; omega)
     refine ⟨_,_,_,_,rfl,hp,xk,?_⟩;have RH:C3 es 0 (new.take (Nat.min m 0))=es:=by rw [xH]; simp [C3]
     rw [RH];exact zO
   ·rcases zO with ⟨_,e2⟩ | ⟨x2,cs,cc,bx,e2,h6,h7,h8⟩
    ·rw [p2] at e2; simp at e2
    rw [p2] at e2;simp only [db,fI] at e2;obtain ⟨rfl,rfl,rfl⟩:=e2;have ams:bx.length=N0:=by rw [h7.length]; exact ht.len.symm
    have iE:∀ v∈cL.take (Nat.min m q),v.cells.size=bz P e:=fun v hv=>lz.size v (List.mem_of_mem_take hv);have ar4:(cL.take (Nat.min m q)).length=Nat.min m q:=by rw [nH,lz.length]; exact Nat.min_eq_left Z1
    have MV:(bR (cL.take (Nat.min m q))).length=Nat.min m q * bz P e:=by rw [jL iE,ar4]
    have hle:o * bz P e+(bR (cL.take (Nat.min m q))).length<=cs.length:=by
     rw [MV,<- p5,<- Nat.add_mul];exact Nat.mul_le_mul_right _ (by omega)
    obtain ⟨om,hw⟩:=C7 (o * bz P e) cs (bR (cL.take (Nat.min m q))) hle;have hcl:om.length=cs.length:=(ij hw).1;have hsc:(bR (cL.take (Nat.min m q))).all scalar=true:=gx.2 (FK fun v hv=>(qU lz.tree.typed lz.rel v (List.mem_of_mem_take hv)).2);have hp:=ahD (o:=o) ht lz.tree Z1 (by omega);have hon:(bx.take o).length=o:=by rw [nH]; omega
    have Ea:bm P E (C3 es o (new.take (Nat.min m q))) (bx.take o++cL.take (Nat.min m q)++bx.drop (o+Nat.min m q)):=by
     unfold C3;have hlk:(new.take (Nat.min m q)).length=Nat.min m q:=by rw [nH,<- lz.tree.len]; exact Nat.min_eq_left Z1
     rw [hlk];exact ((h7.take o).append (lz.rel.take _)).append (h7.drop _)
    have hli:qK (bz P e) 0 om (bx.take o++cL.take (Nat.min m q)++bx.drop (o+Nat.min m q)):=by
     refine aax (aax (ae2 (h8.take o) (by omega) hw xk) (by rw [hon]; exact ab2 iE hw)) ?_;have e3:(bx.take o++cL.take (Nat.min m q)).length * bz P e=o * bz P e+(bR (cL.take (Nat.min m q))).length:=by rw [ko,hon,ar4,MV,Nat.add_mul]
     rw [e3];refine akp ?_ hw;have:=h8.drop (o+Nat.min m q);rw [bd,Nat.add_mul] at this;rw [MV];exact this
    have iE:=ei.anx (lo:=o * bz P e) (hi:=o * bz P e+(bR (cL.take (Nat.min m q))).length) h ⟨_,hb⟩ p2 h6 hcl xk hp Ea hli;refine ⟨.int .i64 (Int.ofNat (Nat.min m q)),_,E,?_,.mkInt,iE⟩;subst hn;simp only [aea,lz.len,eV,hf,St.AO,dj,Option.isNone_none,AL,hsc,aj,h6,hw,Option.map_some]
  ·exact hg.elim
 ·exact hg.elim
theorem akq {e n b:Nat} {mt:Bool} (hn:bz P e=n) (h1n:1<=n):ant P (M5 e n b mt) (ly n b):=by
 intro E A A' B vs us v h hv hg;unfold M5 at hg;split at hg
 ·rename_i x y
  obtain ⟨u,w,rfl,h1,h2⟩:=hv.mo;split at hg
  ·rename_i y' hy
   have xk:1<=bz P e:=by omega
   have hts:∃ T m k es acc,y' = .ts T m k es acc:=by
    unfold Rv at hy;split at hy
    ·unfold aiv at hy
     split at hy
     ·rename_i T' b' o' n' _ T2 _ _ rS gb _
      cases hb:Nat.beq T' T2 with
      | false=>rw [hb] at hy; simp at hy
      | true=>rw [hb,aj] at hy; simp only [db] at hy; exact ⟨_,_,_,_,_,hy.symm⟩
     ·simp at hy
    ·simp only [db] at hy; exact ⟨_,_,_,_,_,hy.symm⟩
    ·simp at hy
   obtain ⟨T,m,k,es,acc,rfl⟩:=hts;have hsr:Nat.beq e T=true->∃ bx,Src P E B T k es acc w bx:=fun he=>by
    have:=bh he;subst this;exact anB h h2 hy xk
   subst hn;cases hx:apv x with
   | true=>rw [hx,aj] at hg; exact ae3 xk h h1 hsr hg
   | false=>
    rw [hx,aq] at hg;cases mt with
    | true=>rw [aj] at hg; exact ae3 xk h h1 hsr hg
    | false=>rw [aq] at hg; exact amu rfl xk h h1 hsr hg
  ·exact hg.elim
 ·exact hg.elim
end Go.K
end
section
namespace Go.K
open Go Go.aB
variable {P:Program} {E:Env}
theorem ei.anG {E1 E2:Env} {A A1 A2:aC} {B:St} (h:ei P E A B E1 A1 B) (k:ei P E1 A1 B E2 A2 B):ei P E A B E2 A2 B where
 jK:=k.jK
 le:=Env.le_trans h.le k.le
 next:=oO h.next k.next
 nD _ _ _ _:=rfl
 new b x e:=(k.new b x e).elim (h.new b x) .inr
 wk b r e:=by
  rcases k.wk b r e with e | e | e
  ·exact h.wk b r e
  ·exact .inr (h.oJ b e)
  ·exact .inr (.inr e)
 wm b g e:=(k.wm b g e).elim (h.wm b g) .inr
 sQ _ _ _ _:=rfl
 oJ x q:=(k.oJ x q).elim (h.oJ x) .inr
 oY g q:=(k.oY g q).elim (h.oY g) .inr
 xY _ _ q:=.inl q
 qv y q:=(k.qv y q).elim (h.qv y) .inr
 rows:=nT fun _ _=>rfl
theorem ei.refl {A:aC} {B:St} (h:fK P E A B):ei P E A B E A B:=
 ⟨h,Env.le_refl _,aQ _,fun _ _ _ _=>rfl,fun _ _ e=>.inl e,fun _ _ e=>.inl e,fun _ _ e=>.inl e,fun _ _ _ _=>rfl,fun _ q=>.inl q,fun _ q=>.inl q,fun _ _ q=>.inl q,fun _ q=>.inl q,nT fun _ _=>rfl⟩
theorem Env.apL {A:aC} {B:St} {x:Nat} {r:aj4} (h:fK P E A B) (hx:AR A E x):E.le (E.gC x r):=⟨fun _ _ e=>e,fun _ _ e=>e,fun b q e=>by
 simp only [Env.gC];rw [ay]
 ·exact e
 ·intro e2; subst e2
  have:=(h.ar.z b hx).1;rw [e] at this; simp at this,fun _ _ e=>e⟩
theorem ei.jQ {A:aC} {B:St} {b x N:Nat} {T:TypeId} {m:Mk} {es:List KV} {acc:Nat->KV} {cs:List Value} {cc:Option (Nat×Nat)} {bx:List Value} (h:fK P E A B) (hb:A.get b=some (.arr (.ts T m N es acc))) (hx:E.α b=some (x,cs.length,N))
  (jZ:B.get x=some (.row cs (bz P T) true cc)) (ht:ji P T N es acc) (hm:m = .any) (fC:1<=bz P T) (RH:bm P E es bx) (hl:qK (bz P T) 0 cs bx) :
  ei P E A B (E.gC x ⟨cs,bz P T,true,cc⟩) (A.put b (.jQ (.ts T m N es acc))) B:=by
 subst hm;have tP:AR A E x:=⟨b,_,_,_,hb,hx⟩
 have hle:=Env.apL (r:=⟨cs,bz P T,true,cc⟩) h tP;have hzx:(E.gC x ⟨cs,bz P T,true,cc⟩).z x=some ⟨cs,bz P T,true,cc⟩:=by simp [Env.gC]
 have Ng:∀ c r,(E.gC x ⟨cs,bz P T,true,cc⟩).z c=some r->E.z c=some r\/(c=x/\r=⟨cs,bz P T,true,cc⟩):=fun c r e=>by
  simp only [Env.gC] at e;split at e
  ·rename_i e2; simp at e; exact .inr ⟨e2,e.symm⟩
  ·exact .inl e
 have kF:∀ c o,(A.put b (.jQ (.ts T .any N es acc))).get c=some o->(c=b/\o = .jQ (.ts T .any N es acc))\/(c≠b/\A.get c=some o):=fun c o hc=>by
  rw [aC.cg] at hc;split at hc
  ·rename_i e; simp at hc; exact .inl ⟨e,hc.symm⟩
  ·rename_i e; exact .inr ⟨e,hc⟩
 have hA:∀ c v,(A.put b (.jQ (.ts T .any N es acc))).get c=some (.arr v)->c≠b/\A.get c=some (.arr v):=fun c v hc=>by
  rcases kF c _ hc with ⟨_,e⟩ | e
  ·simp at e
  ·exact e
 have anH:∀ y,AR (A.put b (.jQ (.ts T .any N es acc))) E y->AR A E y/\y≠x:=fun y ⟨c,v,L,M,h1,h2⟩=>by
  obtain ⟨h3,h4⟩:=hA c v h1;refine ⟨⟨c,v,L,M,h4,h2⟩,fun e=>h3 ?_⟩;subst e;exact h.ar.inj c b v _ y L M _ _ h4 hb h2 hx
 have LQ:∀ g,AF (A.put b (.jQ (.ts T .any N es acc))) E B g->AF A E B g:=fun g ⟨c,v,y,L,M,cs,e,own,k,h1,h2,h3⟩=>⟨c,v,y,L,M,cs,e,own,k,(hA c v h1).2,h2,h3⟩
 refine ⟨⟨fun c qS bV hc=>?_,fun c top sz hc=>?_,fun y r hy=>?_,fun c y hc=>?_,h.inj,?_,h.mA,h.oI,fun c o hc=>?_,h.gX,fun y r hy=>?_,h.kG,h.fresh,h.mem,?_⟩,hle,aQ _,fun _ _ _ _=>rfl,fun _ _ e=>.inl e,fun y r e=>?_,fun _ _ e=>.inl e,fun _ _ _ _=>rfl,fun y q=>.inl (anH y q).1,fun g q=>.inl (LQ g q),fun _ _ q=>.inl q,fun y q=>.inl (q.imp (fun q=>(anH y q).1) fun ⟨g,q1,q2⟩=>⟨g,LQ g q1,q2⟩),nT fun _ _=>rfl⟩
 ·rcases kF c _ hc with ⟨_,e⟩ | ⟨_,e⟩
  ·simp at e
  ·obtain ⟨y,d,h1,h2,h3⟩:=h.row c qS bV e
   exact ⟨y,d,h1,h2,h3.mono hle⟩
 ·rcases kF c _ hc with ⟨_,e⟩ | ⟨_,e⟩
  ·simp at e
  ·exact h.bc c top sz e
 ·rcases Ng y r hy with e | ⟨rfl,rfl⟩
  ·exact h.z y r e
  ·exact jZ
 ·have hc:E.κ c=some y:=hc
  cases hz:(E.gC x ⟨cs,bz P T,true,cc⟩).z y with
  | none=>rfl
  | some r=>
   rcases Ng y r hz with e | ⟨rfl,_⟩
   ·rw [h.apart c y hc] at e; simp at e
   ·exact absurd hc ((h.ar.z y tP).2 c)
 ·exact h.j6.put (.inl fun t s=>by simp)
 ·rw [aC.uq]
  rcases kF c _ hc with ⟨e,_⟩ | ⟨_,e⟩
  ·rw [e]; exact h.live b _ hb
  ·exact h.live c o e
 ·rcases Ng y r hy with e | ⟨rfl,_⟩
  ·exact h.oS y r e
  ·exact h.Kw tP
 ·refine ⟨fun c v hc=>?_,fun c v hc=>?_,fun y q=>?_,fun c d v u y L M L' M' h1 h2 h3 h4=>h.ar.inj c d v u y L M L' M' (hA c v h1).2 (hA d u h2).2 h3 h4,fun c d v u y w L M L' M' qS e own g k cd e' rU k' h1 h2 h3 h4=>h.ar.xi c d v u y w L M L' M' qS e own g k cd e' rU k' (hA c v h1).2 (hA d u h2).2 h3 h4,h.ar.dis,h.ar.mA,h.ar.gX,fun c v y L M qS e own g k h1 h2 h3=>?_,fun c v hc=>h.ar.nk c v (hA c v hc).2⟩
  ·exact (h.ar.arr c v (hA c v hc).2).mono hle rfl fun _ _ _ _=>rfl
  ·rcases kF c _ hc with ⟨e,e2⟩ | ⟨_,e⟩
   ·simp at e2
    subst e2;exact ⟨T,N,es,acc,rfl,ht,fC,.inr ⟨x,⟨cs,bz P T,true,cc⟩,bx,by rw [e]; exact hx,hzx,rfl,RH.mono hle,hl⟩⟩
   ·exact (h.ar.jQ c v e).mono hle rfl
  ·obtain ⟨q1,q2⟩:=anH y q
   refine ⟨?_,(h.ar.z y q1).2⟩;simp only [Env.gC];rw [ay q2];exact (h.ar.z y q1).1
  ·obtain ⟨eF,h1⟩:=hA c v h1
   obtain ⟨q1,q2,q3⟩:=h.ar.vr c v y L M qS e own g k h1 h2 h3;refine ⟨q1,q2,fun z hz hzy=>?_⟩;obtain ⟨q4,q5,q6⟩:=q3 z hz hzy;refine ⟨?_,fun q=>q5 (anH z q).1,q6⟩;simp only [Env.gC];rw [ay]
   ·exact q4
   ·intro e2
    subst e2;exact q5 tP
 ·rcases Ng y r e with e | ⟨rfl,_⟩
  ·exact .inl e
  ·exact .inr (.inl tP)
theorem ei.asF {A:aC} {B:St} {b:Nat} {T:TypeId} {m:Mk} {N:Nat} {es:List KV} {acc:Nat->KV} (h:fK P E A B) (hb:A.get b=some (.arr (.ts T m N es acc))) (cf:Yi P E b (.ts T m N es acc)) (tj:E.α b=none):ei P E A B E (A.put b (.jQ (.ts T m N es acc))) B:=by
 have kF:∀ c o,(A.put b (.jQ (.ts T m N es acc))).get c=some o->(c=b/\o = .jQ (.ts T m N es acc))\/A.get c=some o:=fun c o hc=>by
  rw [aC.cg] at hc;split at hc
  ·rename_i e; simp at hc; exact .inl ⟨e,hc.symm⟩
  ·exact .inr hc
 have hA:∀ c v,(A.put b (.jQ (.ts T m N es acc))).get c=some (.arr v)->A.get c=some (.arr v):=fun c v hc=>by
  rcases kF c _ hc with ⟨_,e⟩ | e
  ·simp at e
  ·exact e
 have tP:∀ y,AR (A.put b (.jQ (.ts T m N es acc))) E y->AR A E y:=fun y ⟨c,v,L,M,h1,h2⟩=>⟨c,v,L,M,hA c v h1,h2⟩
 have LQ:∀ g,AF (A.put b (.jQ (.ts T m N es acc))) E B g->AF A E B g:=fun g ⟨c,v,y,L,M,cs,e,own,k,h1,h2,h3⟩=>⟨c,v,y,L,M,cs,e,own,k,hA c v h1,h2,h3⟩
 have _:=tj;refine ⟨⟨fun c qS bV hc=>?_,fun c top sz hc=>?_,h.z,h.apart,h.inj,?_,h.mA,h.oI,fun c o hc=>?_,h.gX,h.oS,h.kG,h.fresh,h.mem,?_⟩,Env.le_refl _,aQ _,fun _ _ _ _=>rfl,fun _ _ e=>.inl e,fun y r e=>.inl e,fun _ _ e=>.inl e,fun _ _ _ _=>rfl,fun y q=>.inl (tP y q),fun g q=>.inl (LQ g q),fun _ _ q=>.inl q,fun y q=>.inl (q.imp (tP y) fun ⟨g,q1,q2⟩=>⟨g,LQ g q1,q2⟩),nT fun _ _=>rfl⟩
 ·rcases kF c _ hc with ⟨_,e⟩ | e
  ·simp at e
  ·exact h.row c qS bV e
 ·rcases kF c _ hc with ⟨_,e⟩ | e
  ·simp at e
  ·exact h.bc c top sz e
 ·exact h.j6.put (.inl fun t s=>by simp)
 ·rw [aC.uq]
  rcases kF c _ hc with ⟨e,_⟩ | e
  ·rw [e]; exact h.live b _ hb
  ·exact h.live c o e
 ·refine ⟨fun c v hc=>h.ar.arr c v (hA c v hc),fun c v hc=>?_,fun y q=>h.ar.z y (tP y q),fun c d v u y L M L' M' h1 h2 h3 h4=>h.ar.inj c d v u y L M L' M' (hA c v h1) (hA d u h2) h3 h4,fun c d v u y w L M L' M' qS e own g k cd e' rU k' h1 h2 h3 h4=>h.ar.xi c d v u y w L M L' M' qS e own g k cd e' rU k' (hA c v h1) (hA d u h2) h3 h4,h.ar.dis,h.ar.mA,h.ar.gX,fun c v y L M qS e own g k h1 h2 h3=>?_,fun c v hc=>h.ar.nk c v (hA c v hc)⟩
  ·rcases kF c _ hc with ⟨e,e2⟩ | e
   ·simp at e2; rw [e2,e]; exact cf
   ·exact h.ar.jQ c v e
  ·obtain ⟨q1,q2,q3⟩:=h.ar.vr c v y L M qS e own g k (hA c v h1) h2 h3
   exact ⟨q1,q2,fun z hz hzy=>⟨(q3 z hz hzy).1,fun q=>(q3 z hz hzy).2.1 (tP z q),(q3 z hz hzy).2.2⟩⟩
theorem aay {T:TypeId} {m:Mk} {b o n N:Nat} {es:List KV} {acc:Nat->KV} {u:Value} {A:aC} {B:St} (h:fK P E A B) (hv:VK P E (.al T b o n) u) (ha:A.get b=some (.jQ (.ts T m N es acc))) :
  VK P E (.ts T .any n ((es.drop o).take n) (fun i=>acc (o+i))) u:=by
 obtain ⟨T2,N2,rS,gb,e,ht,fC,zO⟩:=h.ar.jQ b _ ha;simp only [KV.ts.injEq] at e;obtain ⟨rfl,rfl,rfl,rfl,rfl⟩:=e;simp only [VK];rcases hv.yW with ⟨rfl,rfl,rfl⟩ | ⟨x,L,N0,c,h1,rfl,h3,h4,h5⟩
 ·exact ⟨⟨by simp,fun i hi=>by omega,rfl⟩,[],by simpa using bm.nil,none,0,rfl,aQ _,.inl ⟨rfl,rfl⟩,trivial⟩
 ·rcases zO with ⟨_,e⟩ | ⟨x2,r,bx,e,h6,h6',h7,h8⟩
  ·rw [h1] at e; simp at e
  rw [h1] at e;simp only [db,fI] at e;obtain ⟨rfl,rfl,rfl⟩:=e;have amt:((es.drop o).take n).length=n:=by rw [nH,List.length_drop,<- ht.len]; omega
  refine ⟨⟨amt.symm,fun i hi=>?_,rj fun i x hi=>?_⟩,(bx.drop o).take n,(h7.drop o).take n,_,c,rfl,h3,.inr ⟨x,o * bz P T,r,rfl,h6,h6',?_⟩,trivial⟩
  ·rw [ht.acc (o+i) (by omega),gK,gK,pr,aR hi,pS]
  ·rw [pr] at hi
   split at hi
   ·rw [pS] at hi; exact j7 ht.typed hi
   ·simp at hi
  ·have:=(h8.drop o).take n
   rw [bd] at this;exact this
theorem ab3 {A:aC} {B:St} {v:KV} {u:Value} (h:fK P E A B) (hv:VK P E v u):∃ E',ei P E A B E' (aeD A v).2 B/\VK P E' (aeD A v).1 u:=by
 unfold aeD;split
 ·rename_i T b o n
  split
  ·rename_i T' m N es acc hb
   cases ht:Nat.beq T T' with
   | false=>exact ⟨E,.refl h,.uC⟩
   | true=>
    have:=bh ht;subst this;rw [aj];have cf:=h.ar.arr b _ hb;obtain ⟨T2,N2,rS,gb,e,LP,fC,zO⟩:=cf;simp only [KV.ts.injEq] at e;obtain ⟨rfl,rfl,rfl,rfl,rfl⟩:=e;rcases zO with ⟨h1,h2⟩ | ⟨x,cs,cc,bx,h2,h3,h4,h5⟩
    ·have iE:=ei.asF h hb ⟨_,_,_,_,rfl,LP,fC,.inl ⟨h1,h2⟩⟩ h2
     exact ⟨E,iE,aay iE.jK hv ((aC.cg _ _ _ _).trans (aR rfl))⟩
    ·have iE:=ei.jQ h hb h2 h3 LP rfl fC h4 h5
     exact ⟨_,iE,aay iE.jK (hv.mono iE.le) ((aC.cg _ _ _ _).trans (aR rfl))⟩
  ·rename_i T' m N es acc hb
   cases ht:Nat.beq T T' with
   | false=>exact ⟨E,.refl h,.uC⟩
   | true=>
    have:=bh ht;subst this;rw [aj];exact ⟨E,.refl h,aay h hv hb⟩
  ·exact ⟨E,.refl h,.uC⟩
 ·exact ⟨E,.refl h,hv⟩
theorem a9.map {α β:Type} {r:KR α} {f:α->β} {v:β} (h:a9 (r.map f) v):∃ u,a9 r u/\f u=v:=by
 cases r with
 | no=>exact h.elim
 | ok u=>exact ⟨u,rfl,h⟩
 | lB c u=>exact ⟨u,⟨h.1,rfl⟩,h.2⟩
 | br c x y=>
  rcases h with ⟨h1,h2⟩ | ⟨h1,h2⟩
  ·obtain ⟨u,h3,h4⟩:=a9.map (r:=x) h2; exact ⟨u,.inl ⟨h1,h3⟩,h4⟩
  ·obtain ⟨u,h3,h4⟩:=a9.map (r:=y) h2; exact ⟨u,.inr ⟨h1,h3⟩,h4⟩
theorem Yu {B:St} : ∀ {vs:List KV} {us:List Value} {E:Env} {A:aC},fK P E A B->bm P E vs us->∃ E',ei P E A B E' (aam A vs).2 B/\bm P E' (aam A vs).1 us
 | [],us,E,A,h,hv=>⟨E,.refl h,hv⟩
 | v::vs,us,E,A,h,hv=>by
  obtain ⟨u,us',rfl,h1,h2⟩:=hv.cons_inv;obtain ⟨E1,h3,h4⟩:=ab3 h h1;obtain ⟨E2,h5,h6⟩:=Yu h3.jK (h2.mono h3.le);exact ⟨E2,h3.anG h5,.cons (h4.mono h5.le) h6⟩
theorem akr {A:aC} {B:St} {v:KV} {u:Value} (h:fK P E A B) (hv:VK P E v u):∃ E',ei P E A B E' (ahv A v).2 B/\VK P E' (ahv A v).1 u:=by
 unfold ahv;split
 ·rename_i cs
  obtain ⟨l,rfl,h1⟩:=hv.nM;obtain ⟨E1,h2,h3⟩:=Yu h h1;exact ⟨E1,h2,.rQ h3⟩
 ·exact ab3 h hv
theorem Pd:∀ (A:aC) (vs:List KV),(zL A vs).1.length=vs.length
 | _,[]=>rfl
 | A,v::vs=>by simp [zL,Pd]
theorem Kx {B:St} : ∀ {vs:List KV} {us:List Value} {E:Env} {A:aC},fK P E A B->bm P E vs us->∃ E',ei P E A B E' (zL A vs).2 B/\bm P E' (zL A vs).1 us
 | [],us,E,A,h,hv=>⟨E,.refl h,hv⟩
 | v::vs,us,E,A,h,hv=>by
  obtain ⟨u,us',rfl,h1,h2⟩:=hv.cons_inv;obtain ⟨E1,h3,h4⟩:=akr h h1;obtain ⟨E2,h5,h6⟩:=Kx h3.jK (h2.mono h3.le);exact ⟨E2,h3.anG h5,.cons (h4.mono h5.le) h6⟩
end Go.K
end
section
namespace Go.K
open Go Go.aB
variable {P:Program}
theorem dy {o:Oper} : LO P o .bad:=trivial
theorem aoz (P:Program) (cfg:eQ) (o:Oper):LO P o (bW P cfg o.op):=by
 cases ho:o.op with
 | move x=>exact lift_pure (by rw [ho]; rfl) aj8
 | assign x=>exact lift_pure (by rw [ho]; rfl) aop
 | pick c a b=>exact lift_pure (by rw [ho]; rfl) apy
 | alloc t=>
  show LO P o (rE P t);unfold rE;split
  ·rename_i z hz
   cases hc:(flat z&&z.cells.toList.all scalar&&il (gQ z).cells) with
   | false=>exact dy
   | true=>
    simp only [aD] at hc;exact I2 (by rw [ho]; rfl) (aou hz hc.1.1 hc.1.2 hc.2)
  ·exact dy
 | box t x=>exact I2 (by rw [ho]; rfl) ark
 | build t parts=>
  show LO P o (vC P t (parts.toList.map (·.1)) (parts.toList.map (·.2)));have ba:compile P o.op=MK P t (parts.toList.map (·.1)) (parts.toList.map (·.2)):=by rw [ho]; rfl
  unfold vC;unfold MK at ba;split
  ·rename_i z fields hz hu
   rw [hz,hu] at ba;simp only at ba;split
   ·rename_i l hl
    rw [hl] at ba;cases hc:(flat z&&il (gQ z).cells) with
    | false=>exact dy
    | true=>
     simp only [aD] at hc;exact lift_pure ba (ahy hc.1 hc.2)
   ·exact dy
  ·rename_i z len e hz hu
   rw [hz,hu] at ba;simp only at ba;split
   ·rename_i n hn
    rw [hn] at ba;cases hc:(flat z&&il (gQ z).cells) with
    | false=>exact dy
    | true=>
     simp only [aD] at hc;exact lift_pure ba (ahy hc.1 hc.2)
   ·exact dy
  ·exact dy
 | buildSlice t len parts=>
  show LO P o (mF P t len (parts.toList.map (·.1)) (parts.toList.map (·.2)));have ba:compile P o.op=xQ P t len (parts.toList.map (·.1)) (parts.toList.map (·.2)):=by rw [ho]; rfl
  unfold mF;unfold xQ at ba;split
  ·rename_i e hu
   rw [hu] at ba;simp only at ba;split
   ·rename_i i z hi hz
    have fC:size? P e=some i.size:=by simp [size?,hi]
    rw [fC,hz] at ba;simp only at ba;cases hc:(Nat.ble (len * i.size) 16777216&&Nat.beq z.cells.size i.size&&Nat.ble 1 i.size&&flat z&&Nat.beq (bu P e).ks.length i.size&&Ir len (parts.toList.map (·.1))) with
    | false=>exact dy
    | true=>
     simp only [aD] at hc;obtain ⟨⟨⟨⟨⟨h1,h2⟩,h3⟩,h4⟩,h5⟩,h6⟩:=hc;rw [h1,h2,h3,h4] at ba;cases OV (bu P e).ks with
     | true=>exact ahB ba (agP (bh h5) (fH h3) (bh h2) h6)
     | false=>
      cases h7:il (gQ z).cells with
      | true=>exact I2 ba (aiE h7)
      | false=>exact dy
   ·exact dy
  ·exact dy
 | load t a=>exact O6 (by rw [ho]; rfl) akf
 | store t a x=>exact aas (by rw [ho]; rfl) aox
 | nilCheck x=>exact lift_pure (by rw [ho]; rfl) arh
 | binOp op t x y yt=>exact lift_pure (by rw [ho]; rfl) ari
 | unOp op t x=>exact lift_pure (by rw [ho]; rfl) asx
 | convert src dst x=>
  show LO P o (qR P src dst x);have ba:compile P o.op=F1 P src dst x:=by rw [ho]; rfl
  unfold qR;unfold F1 at ba;split
  ·rename_i k k' hs hd
   rw [hs,hd] at ba;exact lift_pure ba (aot hd hs)
  ·rename_i hs hd
   rw [hs,hd] at ba;exact lift_pure ba aos
  ·rename_i e hs hd
   rw [hs,hd] at ba;simp only at ba;cases hb:isByte P e with
   | false=>exact dy
   | true=>rw [hb] at ba; exact O6 ba aiH
  ·rename_i e hs hd
   rw [hs,hd] at ba;simp only at ba;cases hb:isByte P e with
   | false=>exact dy
   | true=>rw [hb] at ba; exact aml ba (aiI hb)
  ·exact dy
 | makeFunc fn first cap=>
  show LO P o (cond (Ak fn) .bad (.pure (OY fn first.size) (first.toList++cap.toList)));cases hy:Ak fn with
  | true=>exact dy
  | false=>
   have hn:Im fn=true:=by cases fn <;> first | rfl | simp [Ak] at hy
   exact lift_pure (by rw [ho]; show cond (Im fn) _ _=_; rw [hn]; rfl) aiC
 | fieldAddr s x f=>
  show LO P o (nR P s x f);have ba:compile P o.op=Af P s x f:=by rw [ho]; rfl
  unfold nR;unfold Af at ba;split
  ·rename_i fd hf
   rw [hf] at ba;simp only at ba;split
   ·rename_i m hm
    rw [hm] at ba;exact lift_pure ba (agM rfl)
   ·exact dy
  ·exact dy
 | field t x f=>
  show LO P o (vE P t x f);have ba:compile P o.op=MP P t x f:=by rw [ho]; rfl
  unfold vE;unfold MP at ba;split
  ·rename_i fd hf
   rw [hf] at ba;exact lift_pure ba aoq
  ·exact dy
 | indexAddr t x ix=>
  show LO P o (nS P t x ix);have ba:compile P o.op=Ag P t x ix:=by rw [ho]; rfl
  unfold nS;unfold Ag at ba;split
  ·rename_i len e hu
   rw [hu] at ba;simp only at ba;split
   ·rename_i n hn
    rw [hn] at ba;exact lift_pure ba aiz
   ·exact dy
  ·rename_i e hu
   rw [hu] at ba;simp only at ba;split
   ·rename_i n hn
    rw [hn] at ba;exact lift_pure ba (aka rfl)
   ·exact dy
  ·exact dy
 | index t x ix=>
  show LO P o (vF P t x ix);have ba:compile P o.op=MQ P t x ix:=by rw [ho]; rfl
  unfold vF;unfold MQ at ba;split
  ·rename_i len e hu
   rw [hu] at ba;simp only at ba;split
   ·rename_i n hn
    rw [hn] at ba;exact lift_pure ba aiA
   ·exact dy
  ·rename_i hu
   rw [hu] at ba;exact lift_pure ba aiB
  ·exact dy
 | extract t i=>exact lift_pure (by rw [ho]; rfl) akb
 | slice t x lo hi mx=>
  show LO P o (vG P t x lo hi mx);have ba:compile P o.op=MN P t x lo hi mx:=by rw [ho]; rfl
  unfold vG;unfold MN at ba;split
  ·rename_i e hu
   rw [hu] at ba;simp only at ba;split
   ·rename_i n hn
    rw [hn] at ba;simp only at ba;cases hc:(Nat.ble 1 n&&mx.isNone) with
    | false=>exact dy
    | true=>
     simp only [aD] at hc;rw [hc.1] at ba;have hmx:mx=none:=Option.isNone_iff_eq_none.1 hc.2;subst hmx;simp only [aj,ga,lM,Option.isSome_none] at ba;exact O6 ba (aki (fH hc.1))
   ·exact dy
  ·rename_i len e hu
   rw [hu] at ba;simp only at ba;split
   ·rename_i n hn
    rw [hn] at ba;simp only at ba;cases hc:(Nat.ble 1 n&&mx.isNone) with
    | false=>exact dy
    | true=>
     simp only [aD] at hc;rw [hc.1] at ba;have hmx:mx=none:=Option.isNone_iff_eq_none.1 hc.2;subst hmx;simp only [aj,ga,lM,Option.isSome_none] at ba;exact O6 ba aiF
   ·exact dy
  ·rename_i hu
   rw [hu] at ba;simp only at ba;cases hc:mx.isNone with
   | false=>exact dy
   | true=>rw [hc] at ba; exact lift_pure ba aiG
  ·exact dy
 | makeSlice t l c=>
  show LO P o (xW P cfg.x.mt t l c);have ba:compile P o.op=Ae P t l c:=by rw [ho]; rfl
  unfold xW;unfold Ae at ba;split
  ·rename_i e hu
   rw [hu] at ba;simp only at ba;split
   ·rename_i i hi
    rw [hi] at ba;simp only at ba;split
    ·rename_i z hz
     rw [hz] at ba;simp only at ba;cases hmz:cfg.x.mt (e+1000000) with
     | true=>
      rw [aj];cases hc:(Nat.ble 1 i.size&&Nat.ble 1 i.bytes&&Nat.beq z.cells.size i.size&&flat z&&z.cells.toList.all scalar&&Nat.beq (bu P e).ks.length i.size&&cC (bu P e) (gq (bu P e) (gQ z))) with
      | false=>exact dy
      | true=>
       simp only [aD] at hc;obtain ⟨⟨⟨⟨⟨⟨h1,h2⟩,h3⟩,h4⟩,h5⟩,h6⟩,h7⟩:=hc;rw [h1,h2,h3,h4,h5] at ba;exact ahB ba (aoy (bh h6) (fH h1) (bh h3) h7)
     | false=>
     rw [aq];cases hmt:cfg.x.mt e with
     | true=>
      rw [aj];cases hc:(Nat.ble 1 i.size&&Nat.ble 1 i.bytes&&Nat.beq z.cells.size i.size&&flat z&&z.cells.toList.all scalar&&Nat.beq (bu P e).ks.length i.size&&cC (bu P e) (gq (bu P e) (gQ z))) with
      | false=>exact dy
      | true=>
       simp only [aD] at hc;obtain ⟨⟨⟨⟨⟨⟨h1,h2⟩,h3⟩,h4⟩,h5⟩,h6⟩,h7⟩:=hc;rw [h1,h2,h3,h4,h5] at ba;exact I2 ba (akn (bh h6) (fH h1) (bh h3) h7)
     | false=>
     rw [aq];cases hc:(Nat.ble 1 i.size&&Nat.ble 1 i.bytes&&Nat.beq z.cells.size i.size&&flat z&&z.cells.toList.all scalar&&il (gQ z).cells) with
     | false=>exact dy
     | true=>
      simp only [aD] at hc;obtain ⟨⟨⟨⟨⟨h1,h2⟩,h3⟩,h4⟩,h5⟩,h6⟩:=hc;rw [h1,h2,h3,h4,h5] at ba;exact I2 ba (agN h6)
    ·exact dy
   ·exact dy
  ·exact dy
 | call c=>
  show LO P o (mZ P cfg c);unfold mZ;split
  ·split
   ·cases cfg.aj0 _ <;> trivial
   ·trivial
  ·trivial
  ·rename_i b hb
   obtain ⟨callee,args,argTypes⟩:=c;simp only at hb;subst hb;have ba:compile P o.op=Kl P b argTypes.toList args.toList:=by rw [ho]; rfl
   unfold C4;unfold Kl at ba;split
   ·
    simp only at ba;unfold aeC;unfold adI at ba;split
    ·rename_i t ht
     rw [ht] at ba;simp only at ba;split
     ·rename_i e hu
      rw [hu] at ba;exact lift_pure ba aor
     ·rename_i hu
      rw [hu] at ba;exact lift_pure ba amj
     ·exact dy
    ·exact dy
   ·simp only at ba
    exact lift_pure (f:=M4 false) ba aeR
   ·simp only at ba
    exact lift_pure (f:=M4 true) ba aeR
   ·
    simp only at ba;unfold Kr;unfold OG at ba;split
    ·rename_i t u ht
     rw [ht] at ba;simp only at ba;split
     ·rename_i e eu hu huu
      rw [hu] at ba;simp only at ba;split
      ·rename_i i hi
       rw [hi] at ba;simp only at ba;split
       ·rename_i z hz
        rw [hz] at ba;simp only at ba;cases hc:(Nat.ble 1 i.size&&Nat.beq z.cells.size i.size&&Nat.beq (bu P e).ks.length i.size) with
        | false=>exact dy
        | true=>
         simp only [aD] at hc;have atq:OE P u=true:=by unfold OE; rw [huu]
         rw [hc.1.1,hc.1.2,atq] at ba;exact aas ba (akq (bh hc.2) (fH hc.1.1))
       ·exact dy
      ·exact dy
     ·exact dy
    ·exact dy
   ·
    simp only at ba;show LO P o (TH P argTypes.toList args.toList);unfold TH;unfold XL at ba;split
    ·rename_i t u ht
     rw [ht] at ba;simp only at ba;split
     ·rename_i e eu hu huu
      rw [hu] at ba;simp only at ba;split
      ·rename_i n hn
       rw [hn] at ba;simp only at ba;cases hc:(Nat.ble 1 n&&Nat.beq (bu P e).ks.length n) with
       | false=>exact dy
       | true=>
        simp only [aD] at hc;rw [hc.1] at ba;exact aas ba (apK (bh hc.2) (fH hc.1))
      ·exact dy
     ·exact dy
    ·exact dy
   ·trivial
  ·trivial
 | _=>trivial
end Go.K
end
section
namespace Go.K
open Go Go.aB
variable {P:Program} {E:Env}
theorem uE (t:bF):∀ xs,mR t xs=xs.map (l7 t)
 | []=>rfl
 | x::xs=>by rw [mR,uE t xs]; rfl
structure mq (P:Program) (E:Env) (ρ:aZ) (t:bF) (N:Nat) (a:Act):Prop where
 size:a.tmps.size=N
 val:∀ i,VC P E ρ ((t.get i).getD .bD) (a.tmps.getD i undef)
 none:∀ i,N<=i->t.get i=Option.none
theorem mq.ev {ρ:aZ} {t:bF} {N:Nat} {a:Act} (h:mq P E ρ t N a) (x:Operand):VC P E ρ (l7 t x) (a.eval x):=by
 cases x with
 | tmp i=>exact h.val i
 | const v=>
  simp only [l7,Act.eval];cases hf:flat v with
  | true=>exact ⟨v,.gQ v,VR.of_flat hf⟩
  | false=>exact .bD
 | global g=>exact .bD
 | func f=>exact ⟨.func (.func f) ⟨[]⟩ ⟨[]⟩,.aj7 .nil .nil,VR.adK (l:=[]) (m:=[]) (.func f) rfl .nil .nil⟩
theorem mq.mono {E' : Env} {ρ a7:aZ} {t:bF} {N:Nat} {a:Act} (h:mq P E ρ t N a) (k:E.le E') (m:ρ.le a7):mq P E' a7 t N a:=⟨h.size,fun i=>(h.val i).mono k m,h.none⟩
theorem mq.put {ρ:aZ} {t:bF} {N:Nat} {a:Act} {dst:Option Tmp} {v:KV} {v' : Value} (h:mq P E ρ t N a) (hd:∀ d,dst=some d->d < N) (hv:VC P E ρ v v'):mq P E ρ (rT t dst v) N (a.put dst v'):=by
 cases dst with
 | none=>exact h
 | some d=>
  have hd:=hd d rfl;refine ⟨by simp [Act.put,h.size],fun i=>?_,fun i hi=>?_⟩
  ·simp only [rT,Trie.qH,Act.put]
   by_cases e:i=d
   ·subst e
    have:i < a.tmps.size:=by rw [h.size]; exact hd
    simp [hM,this,hv]
   ·have:=h.val i
    simp only [ay e];simpa [hM,Array.getElem?_setIfInBounds_ne (Ne.symm e)] using this
  ·simp only [rT,Trie.qH]
   have eF:i≠d:=fun e=>absurd hi (by rw [e]; exact Nat.not_le_of_lt hd);rw [ay eF];exact h.none i hi
theorem mq.same {ρ:aZ} {t t' : bF} {N:Nat} {a:Act} (h:mq P E ρ t N a) (hs:∀ i,t'.get i=t.get i):mq P E ρ t' N a:=
 ⟨h.size,fun i=>by rw [hs]; exact h.val i,fun i hi=>by rw [hs]; exact h.none i hi⟩
theorem F5 {v:KV} {b:Bool} (h:wZ v = .bool b):v = .bool b:=by cases v <;> simp [wZ] at h; rw [h]
theorem ae5 {v:KV} (h:wZ v = .iv):∃ l,v = .iv l:=by cases v <;> simp [wZ] at h; exact ⟨_,rfl⟩
theorem Pe {t:bF} {d:Tmp} {b:Bool} (h:wZ ((t.get d).getD .bD) = .bool b):∀ i,(Trie.set (.bool b) t d).get i=t.get i:=by
 intro i;have:=F5 h;rw [Trie.qH];split
 ·rename_i e
  subst e;cases ht:t.get i with
  | none=>rw [ht] at this; simp at this
  | some v=>rw [ht] at this; simp at this; rw [this]
 ·rfl
theorem VC.gh {ρ:aZ} {b:Bool} {v:Value} (h:VC P E ρ (.bool b) v):v = .bool b:=by
 obtain ⟨u,h1,h2⟩:=h;have:=h1.gh; subst this;exact h2.gh
theorem aiK {R:Type} {ρ:aZ} {t:bF} {N:Nat} {a:Act} {all:List Oper} {o:Oper} {j:Nat} {want:Bool} {yes no:bF->Option R} {r:R} (hg:o.guard=some (j,want)) (ht:mq P E ρ t N a)
  (h:aj1 t ((all[j]?).bind (·.dst)) want yes no=some r) :
  ∃ t',(∀ i,t'.get i=t.get i)/\((Region.wanted o (yielded ⟨all⟩ a.tmps)=true/\yes t' = some r)\/(Region.wanted o (yielded ⟨all⟩ a.tmps)=false/\no t' = some r)):=by
 unfold aj1 at h;cases hd:(all[j]?).bind (·.dst) with
 | none=>rw [hd] at h; exact absurd h (by simp)
 | some d=>
  rw [hd] at h;have hw:∀ u,a.tmps[d]? = some u->Region.wanted o (yielded ⟨all⟩ a.tmps)=(match u with
    | .bool b=>b==want
    | _=>false):=by
   intro u hu;unfold Region.wanted;rw [hg];simp only;unfold yielded;have e:(⟨all⟩:Array Oper)[j]? = all[j]?:=by simp
   rw [e,hd];simp only [eV,hu];cases u <;> rfl
  have Ap:=ht.val d;have h:BK.rec (motive:=fun _=>Option R)
   (fun b=>Bool.rec (motive:=fun _=>Option R)
    (Bool.rec (motive:=fun _=>Option R) (yes (t.set (.bool false) d)) (no (t.set (.bool false) d)) want)
    (Bool.rec (motive:=fun _=>Option R) (no (t.set (.bool true) d)) (yes (t.set (.bool true) d)) want) b)
   (no t) none (wZ ((t.get d).getD .bD))=some r:=h
  cases hb:wZ ((t.get d).getD .bD) with
  | no=>rw [hb] at h; exact absurd h (by simp)
  | iv=>
   rw [hb] at h;obtain ⟨l,hl⟩:=ae5 hb;rw [hl] at Ap;obtain ⟨u,h1,h2⟩:=Ap;obtain ⟨m,rfl,_⟩:=h1.Rz;obtain ⟨m',h3,_⟩:=h2.V7;refine ⟨t,fun _=>rfl,.inr ⟨?_,h⟩⟩;cases hc:a.tmps[d]? with
   | none=>
    unfold Region.wanted;rw [hg];simp only;unfold yielded;have e:(⟨all⟩:Array Oper)[j]? = all[j]?:=by simp
    rw [e,hd];simp [hc]
   | some u=>
    have:u = .tuple m':=by rw [<- h3]; simp [hM,hc]
    rw [hw u hc,this]
  | bool b=>
   rw [hb] at h;have hbv:=F5 hb;rw [hbv] at Ap;have hcv:=Ap.gh;have hc:a.tmps[d]? = some (.bool b):=by
    cases hc:a.tmps[d]? with
    | none=>simp [hM,hc,undef] at hcv
    | some u=>have:u = .bool b:=by rw [<- hcv]; simp [hM,hc]
              rw [this]
   have hwd:=hw _ hc;refine ⟨t.set (.bool b) d,Pe hb,?_⟩;cases b <;> cases want
   ·exact .inl ⟨hwd,h⟩
   ·exact .inr ⟨hwd,h⟩
   ·exact .inr ⟨hwd,h⟩
   ·exact .inl ⟨hwd,h⟩
def Ey (P:Program) (E:Env) (ρ:aZ) (l:List KV) (l' : List Value):Prop:=∃ m,bm P E l m/\ej ρ m l'
def Nk (P : Program) (g : FuncId) : Prop := Nat.blt g yB = true ∧ ∃ fn, P.funcs[g]? = some fn ∧ fn.body.isSome = true ∧ (fn.name == "runtime.NumGoroutine") = false
def Nl {R:Type} (P:Program) (bC:oX R):Prop:=
 ∀ f args A k r,bC f args A k=some r->Nk P f/\∀ (E:Env) (B:St) (ρ:aZ) (base:Nat) (w:World) (kY:List Value),Ey P E ρ args kY->KJ P E A B ρ base w->
  Calls P f kY.toArray w fun e w'=>∃ v v' E' A' B' a7,e = .returned v'/\VC P E' a7 v v'/\Ev P base E A B ρ w E' A' B' a7 w'/\k v A' = some r
def bg (P:Program) (g:FuncId) (F:List KV->KR KV):Prop:=
 ∀ args v,a9 (F (normArgs P (fy P g) args)) v->args.length=(fy P g).length->Nk P g/\∀ (E:Env) (A:aC) (B:St) (ρ:aZ) (base:Nat) (w:World) (kY:List Value),Ey P E ρ args kY->KJ P E A B ρ base w->
  Calls P g kY.toArray w fun e w'=>∃ v' E' B' a7,e = .returned v'/\VC P E' a7 v v'/\Ev P base E A B ρ w E' A B' a7 w'
def tW (P:Program) (pc:FuncId->Option (List KV->KR KV)):Prop:=∀ g F,pc g=some F->bg P g F
theorem aiL {o:Oper} {f:Operand} {args:List Operand} (ba:compile P o.op = .call f args) {ρ:aZ} {t:bF} {N:Nat} {a:Act} (ht:mq P E ρ t N a) {g:FuncId} {vs:List KV} (hc:IZ (mR t args) (l7 t f)=some (g,vs)) (hg:Nk P g) :
  ∃ cK,Ey P E ρ vs cK/\∀ w,(execOp a.eval o).run P w = .ok (.enter g cK.toArray) w:=by
 have cf:=tg P o;rw [ba] at cf;obtain ⟨em,h1,h2⟩:=cn (xs:=f::args) (ev:=l7 t) (cS:=a.eval) fun x _=>ht.ev x;obtain ⟨y,ys,e,h3,h4⟩:=h1.cons_inv;simp only [List.map_cons,List.cons.injEq] at e;obtain ⟨rfl,rfl⟩:=e;have hv:∃ us,xR (args.map em) (em f)=some (g,us)/\bm P E vs us:=by
  unfold IZ at hc;split at hc
  ·rename_i g' first cap e
   simp only [db,fI] at hc;obtain ⟨rfl,rfl⟩:=hc;rw [e] at h3;obtain ⟨l,m,e2,h5,h6⟩:=h3.Ku;rw [e2];refine ⟨l++args.map em++m,by simp only [xR]; rw [hg.1]; rfl,?_⟩;rw [uE];exact (h5.append h4).append h6
  ·simp at hc
 obtain ⟨us,h5,h6⟩:=hv;obtain ⟨cK,h7,h8⟩:=cf.2 ρ em a.eval g us h2 hg.1 h5 hg.2;exact ⟨cK,⟨us,h6,h7⟩,h8⟩
def dW:ti->Bool
 | .call _ _=>false
 | .Eo _ _ _=>false
 | .IY _ _ _=>false
 | _=>true
theorem eK {c:Bool} {x:ti} (h:dW x=true):dW (cond c x .bad)=true:=by
 cases c with
 | false=>rfl
 | true=>exact h
theorem Ez (mt:TypeId->Bool) (b:Builtin) (ts:List TypeId) (args:List Operand):dW (C4 P mt b ts args)=true:=by
 unfold C4 aeC Kr TH
 repeat' split
 all_goals first | rfl | exact eK rfl
theorem BA (mt:TypeId->Bool) (t:TypeId) (l c:Operand):dW (xW P mt t l c)=true:=by
 unfold xW;split
 ·rename_i e he
  split
  ·split
   ·cases mt (e+1000000)
    ·cases mt e <;> exact eK rfl
    ·exact eK rfl
   ·rfl
  ·rfl
 ·rfl
theorem ab4 {cfg:eQ} {op:Op} {f:Operand} {args:List Operand} (h:bW P cfg op = .call f args):compile P op = .call f args:=by
 have key:dW (bW P cfg op)=true->compile P op = .call f args:=fun hn=>by rw [h] at hn; simp [dW] at hn
 cases op with
 | call c=>
  have h:mZ P cfg c = .call f args:=h;show CR P c=_;unfold mZ at h;unfold CR;split at h
  ·rename_i g hc
   split at h
   ·cases hz:cfg.aj0 g <;> rw [hz] at h <;> simp at h
   ·simp at h; obtain ⟨rfl,rfl⟩:=h; rw [hc]
  ·rename_i f' eF hc; simp at h; obtain ⟨rfl,rfl⟩:=h; rw [hc]
  ·rename_i b hc
   have:=Ez (P:=P) cfg.x.mt b c.argTypes.toList c.args.toList;rw [h] at this;simp [dW] at this
  ·simp at h
 | alloc t=>exact key (by show dW (rE P t)=true; unfold rE; split <;> first | rfl | exact eK rfl)
 | build t ps=>exact key (by show dW (vC P t _ _)=true; unfold vC; (repeat' split); all_goals first | rfl | exact eK rfl)
 | buildSlice t n ps=>exact key (by show dW (mF P t n _ _)=true; unfold mF; (repeat' split); all_goals first | rfl | exact eK (by cases OV _ <;> first | rfl | exact eK rfl))
 | convert s d x=>exact key (by show dW (qR P s d x)=true; unfold qR; (repeat' split); all_goals first | rfl | exact eK rfl)
 | makeFunc fn a b=>exact key (by show dW (cond (Ak fn) .bad _)=true; cases Ak fn <;> rfl)
 | fieldAddr s x i=>exact key (by show dW (nR P s x i)=true; unfold nR; (repeat' split); all_goals rfl)
 | field s x i=>exact key (by show dW (vE P s x i)=true; unfold vE; (repeat' split); all_goals rfl)
 | indexAddr s x i=>exact key (by show dW (nS P s x i)=true; unfold nS; (repeat' split); all_goals rfl)
 | index s x i=>exact key (by show dW (vF P s x i)=true; unfold vF; (repeat' split); all_goals rfl)
 | slice t x lo hi mx=>exact key (by show dW (vG P t x lo hi mx)=true; unfold vG; (repeat' split); all_goals first | rfl | exact eK rfl)
 | makeSlice t l c=>exact key (BA _ t l c)
 | _=>exact key rfl
theorem aiM {cfg:eQ} {op:Op} {g:FuncId} {F:List KV->KR KV} {args:List Operand} (h:bW P cfg op = .Eo g F args):compile P op = .call (.func g) args/\∃ F0,cfg.pc g=some F0/\F=fun vs=>cond (Nat.beq vs.length (fy P g).length) (F0 (normArgs P (fy P g) vs)) .no:=by
 have key:dW (bW P cfg op)=true->compile P op = .call (.func g) args/\∃ F0,cfg.pc g=some F0/\F=fun vs=>cond (Nat.beq vs.length (fy P g).length) (F0 (normArgs P (fy P g) vs)) .no:=fun hn=>by rw [h] at hn; simp [dW] at hn
 cases op with
 | call c=>
  have h:mZ P cfg c = .Eo g F args:=h;show CR P c=_/\_;unfold mZ at h;unfold CR;split at h
  ·rename_i g' hc
   split at h
   ·rename_i F0 hF
    cases hz:cfg.aj0 g' with
    | true=>rw [hz] at h; simp at h
    | false=>
     rw [hz] at h;simp at h; obtain ⟨rfl,rfl,rfl⟩:=h; rw [hc];exact ⟨rfl,F0,hF,rfl⟩
   ·simp at h
  ·simp at h
  ·rename_i b hc
   have:=Ez (P:=P) cfg.x.mt b c.argTypes.toList c.args.toList;rw [h] at this;simp [dW] at this
  ·simp at h
 | alloc t=>exact key (by show dW (rE P t)=true; unfold rE; split <;> first | rfl | exact eK rfl)
 | build t ps=>exact key (by show dW (vC P t _ _)=true; unfold vC; (repeat' split); all_goals first | rfl | exact eK rfl)
 | buildSlice t n ps=>exact key (by show dW (mF P t n _ _)=true; unfold mF; (repeat' split); all_goals first | rfl | exact eK (by cases OV _ <;> first | rfl | exact eK rfl))
 | convert s d x=>exact key (by show dW (qR P s d x)=true; unfold qR; (repeat' split); all_goals first | rfl | exact eK rfl)
 | makeFunc fn a b=>exact key (by show dW (cond (Ak fn) .bad _)=true; cases Ak fn <;> rfl)
 | fieldAddr s x i=>exact key (by show dW (nR P s x i)=true; unfold nR; (repeat' split); all_goals rfl)
 | field s x i=>exact key (by show dW (vE P s x i)=true; unfold vE; (repeat' split); all_goals rfl)
 | indexAddr s x i=>exact key (by show dW (nS P s x i)=true; unfold nS; (repeat' split); all_goals rfl)
 | index s x i=>exact key (by show dW (vF P s x i)=true; unfold vF; (repeat' split); all_goals rfl)
 | slice t x lo hi mx=>exact key (by show dW (vG P t x lo hi mx)=true; unfold vG; (repeat' split); all_goals first | rfl | exact eK rfl)
 | makeSlice t l c=>exact key (BA _ t l c)
 | _=>exact key rfl
theorem aiN {cfg:eQ} {op:Op} {g:FuncId} {F:List KV->KR KV} {args:List Operand} (h:bW P cfg op = .IY g F args):compile P op = .call (.func g) args/\∃ F0,cfg.pc g=some F0/\F=fun vs=>cond (Nat.beq vs.length (fy P g).length) (F0 (normArgs P (fy P g) vs)) .no:=by
 have key:dW (bW P cfg op)=true->compile P op = .call (.func g) args/\∃ F0,cfg.pc g=some F0/\F=fun vs=>cond (Nat.beq vs.length (fy P g).length) (F0 (normArgs P (fy P g) vs)) .no:=fun hn=>by rw [h] at hn; simp [dW] at hn
 cases op with
 | call c=>
  have h:mZ P cfg c = .IY g F args:=h;show CR P c=_/\_;unfold mZ at h;unfold CR;split at h
  ·rename_i g' hc
   split at h
   ·rename_i F0 hF
    cases hz:cfg.aj0 g' with
    | false=>rw [hz] at h; simp at h
    | true=>
     rw [hz] at h;simp at h; obtain ⟨rfl,rfl,rfl⟩:=h; rw [hc];exact ⟨rfl,F0,hF,rfl⟩
   ·simp at h
  ·simp at h
  ·rename_i b hc
   have:=Ez (P:=P) cfg.x.mt b c.argTypes.toList c.args.toList;rw [h] at this;simp [dW] at this
  ·simp at h
 | alloc t=>exact key (by show dW (rE P t)=true; unfold rE; split <;> first | rfl | exact eK rfl)
 | build t ps=>exact key (by show dW (vC P t _ _)=true; unfold vC; (repeat' split); all_goals first | rfl | exact eK rfl)
 | buildSlice t n ps=>exact key (by show dW (mF P t n _ _)=true; unfold mF; (repeat' split); all_goals first | rfl | exact eK (by cases OV _ <;> first | rfl | exact eK rfl))
 | convert s d x=>exact key (by show dW (qR P s d x)=true; unfold qR; (repeat' split); all_goals first | rfl | exact eK rfl)
 | makeFunc fn a b=>exact key (by show dW (cond (Ak fn) .bad _)=true; cases Ak fn <;> rfl)
 | fieldAddr s x i=>exact key (by show dW (nR P s x i)=true; unfold nR; (repeat' split); all_goals rfl)
 | field s x i=>exact key (by show dW (vE P s x i)=true; unfold vE; (repeat' split); all_goals rfl)
 | indexAddr s x i=>exact key (by show dW (nS P s x i)=true; unfold nS; (repeat' split); all_goals rfl)
 | index s x i=>exact key (by show dW (vF P s x i)=true; unfold vF; (repeat' split); all_goals rfl)
 | slice t x lo hi mx=>exact key (by show dW (vG P t x lo hi mx)=true; unfold vG; (repeat' split); all_goals first | rfl | exact eK rfl)
 | makeSlice t l c=>exact key (BA _ t l c)
 | _=>exact key rfl
noncomputable def xl (ins:ti) (t:bF) (A:aC):KR (KV×aC):=
 match ins with
 | .pure f xs=>(f (mR t xs)).map fun v=>(v,A)
 | .read f xs=>(f A (mR t xs)).map fun v=>(v,A)
 | .act f xs=>f A (mR t xs)
 | .look f xs=>(f (mR t xs)).map fun v=>(v,A)
 | .Eo _ f xs=>(f (mR t xs)).map fun v=>(v,A)
 | .IY _ f xs=>(f (zL A (mR t xs)).1).map fun v=>(v,(zL A (mR t xs)).2)
 | .call _ _=>.no
 | .bad=>.no
theorem a9.C8 {α β:Type} {r:KR α} {f:α->β} {u:α} (h:a9 r u):a9 (r.map f) (f u):=by
 cases r with
 | no=>exact h.elim
 | ok x=>have h:x=u:=h; subst h; exact rfl
 | lB c x=>obtain ⟨h1,rfl⟩:=h; exact ⟨h1,rfl⟩
 | br c x y=>exact h.imp (fun h=>⟨h.1,a9.C8 (r:=x) h.2⟩) (fun h=>⟨h.1,a9.C8 (r:=y) h.2⟩)
theorem Ky {R:Type} {bC:oX R} {t:bF} {A:aC} {k:KV->aC->Option R} {ins:ti} {r:R} (hn:∀ f args,ins≠.call f args) (h:Rx bC t A k ins=some r):∃ v A',a9 (xl ins t A) (v,A')/\k v A' = some r:=by
 cases ins with
 | pure f xs=>obtain ⟨v,h1,h2⟩:=KR.Cl h; exact ⟨v,A,h1.C8,h2⟩
 | read f xs=>obtain ⟨v,h1,h2⟩:=KR.Cl h; exact ⟨v,A,h1.C8,h2⟩
 | act f xs=>obtain ⟨v,h1,h2⟩:=KR.Cl h; exact ⟨v.1,v.2,h1,h2⟩
 | look f xs=>obtain ⟨v,h1,h2⟩:=KR.Cl h; exact ⟨v,A,h1.C8,h2⟩
 | Eo g f xs=>obtain ⟨v,h1,h2⟩:=KR.Cl h; exact ⟨v,A,h1.C8,h2⟩
 | IY g f xs=>obtain ⟨v,h1,h2⟩:=KR.Cl h; exact ⟨v,(zL A (mR t xs)).2,h1.C8 (f:=fun v=>(v,(zL A (mR t xs)).2)),h2⟩
 | call f args=>exact absurd rfl (hn f args)
 | bad=>exact absurd h (by simp [Rx])
theorem ab5 {cfg:eQ} (gZ:tW P cfg.pc) {o:Oper} {g:FuncId} {xs:List Operand} (ba:compile P o.op = .call (.func g) xs) {F0:List KV->KR KV} (hF0:cfg.pc g=some F0) {t:bF} {vs0:List KV} {v:KV}
  (hf:a9 (F0 (normArgs P (fy P g) vs0)) v) (hlen:vs0.length=(fy P g).length) {E:Env} {ρ:aZ} {a:Act} (hv:∀ x∈xs,VC P E ρ (l7 t x) (a.eval x)) {A A1:aC} {B:St} {base:Nat} {w:World}
  (atr:∀ us,bm P E (xs.map (l7 t)) us->∃ E1,Ev P base E A B ρ w E1 A1 B ρ w/\bm P E1 vs0 us) {next:Act->World->Prop} {Q:Exit->Act->World->Prop}
  (hk:∀ E' B' a7 v' w',VC P E' a7 v v'->Ev P base E A B ρ w E' A1 B' a7 w'->next (a.put o.dst v') w'):o.upon P a next Q ((execOp a.eval o).run P w):=by
 obtain ⟨hg,nF⟩:=gZ g F0 hF0 _ _ hf hlen;have ab6:=tg P o;rw [ba] at ab6;obtain ⟨em,h3,h4⟩:=cn (xs:=xs) hv
 let em2:Operand->Value:=fun x=>match x with
  | .func f=>.func (.func f) #[] #[]
  | x=>em x
 have e3:∀ x∈xs,VK P E (l7 t x) (em2 x)/\VR ρ (em2 x) (a.eval x):=by
  intro x hx;have key:∀ (l:List Operand),bm P E (l.map (l7 t)) (l.map em)->x∈l->VK P E (l7 t x) (em x):=by
   intro l
   induction l with
   | nil=>intro _ h; simp at h
   | cons y l ih=>
    intro h hm;obtain ⟨z,zs,e,q1,q2⟩:=h.cons_inv;simp only [List.map_cons,List.cons.injEq] at e;obtain ⟨rfl,rfl⟩:=e;rcases eL.1 hm with rfl | hm
    ·exact q1
    ·exact ih q2 hm
  cases x with
  | func f=>exact ⟨.aj7 .nil .nil,VR.adK (l:=[]) (m:=[]) (.func f) rfl .nil .nil⟩
  | tmp i=>exact ⟨key xs h3 hx,h4 _ hx⟩
  | const c=>exact ⟨key xs h3 hx,h4 _ hx⟩
  | global q=>exact ⟨key xs h3 hx,h4 _ hx⟩
 have e4:bm P E (xs.map (l7 t)) (xs.map em2):=by
  have:∀ (l:List Operand),(∀ x∈l,VK P E (l7 t x) (em2 x))->bm P E (l.map (l7 t)) (l.map em2):=by
   intro l
   induction l with
   | nil=>intro _; exact .nil
   | cons y l ih=>intro h; exact .cons (h y (by simp)) (ih fun z hz=>h z (by simp [hz]))
  exact this xs fun x hx=>(e3 x hx).1
 obtain ⟨cK,h5,h6⟩:=ab6.2 ρ em2 a.eval g (xs.map em2) (fun x hx=>by
   rcases eL.1 hx with rfl | hx
   ·exact VR.adK (l:=[]) (m:=[]) (.func g) rfl .nil .nil
   ·exact (e3 x hx).2) hg.1 (by simp only [em2,xR]; rw [hg.1]; simp) hg.2
 rw [h6 w];obtain ⟨E1,q1,q2⟩:=atr _ e4;refine (nF E1 A1 B ρ base w cK ⟨xs.map em2,q2,h5⟩ q1.kj).mono ?_;rintro e w' ⟨v',E',B',a7,rfl,h7,h8⟩;exact hk E' B' a7 v' w' h7 (q1.trans h8)
theorem Pf {cfg:eQ} (gZ:tW P cfg.pc) {o:Oper} {t:bF} {A A' : aC} {v:KV} {base:Nat} {B:St} {ρ:aZ} {a:Act} {w:World} {next:Act->World->Prop} {Q:Exit->Act->World->Prop}
  (h:a9 (xl (bW P cfg o.op) t A) (v,A')) (hv:∀ x∈adQ (bW P cfg o.op),VC P E ρ (l7 t x) (a.eval x)) (hj:KJ P E A B ρ base w)
  (hk:∀ E' B' a7 v' w',VC P E' a7 v v'->Ev P base E A B ρ w E' A' B' a7 w'->next (a.put o.dst v') w'):o.wp P a w next Q:=by
 have cf:=aoz P cfg o;have anI:=@aiM P cfg o.op;have anJ:=@aiN P cfg o.op;generalize bW P cfg o.op=ins at h cf hv anI anJ;unfold Oper.wp;cases ins with
 | pure f xs=>
  obtain ⟨u,h1,h2⟩:=a9.map h;simp only [fI] at h2;obtain ⟨rfl,rfl⟩:=h2;rw [uE] at h1;obtain ⟨v',h3,h4⟩:=cf E ρ (l7 t) a.eval u hv h1;rw [h4 w];exact hk E B ρ v' w h3 (.refl hj.k hj.s)
 | read f xs=>
  obtain ⟨u,h1,h2⟩:=a9.map h;simp only [fI] at h2;obtain ⟨rfl,rfl⟩:=h2;rw [uE] at h1;obtain ⟨v',h3,h4⟩:=cf E A B ρ base w (l7 t) a.eval u hj hv h1;rw [h4];exact hk E B ρ v' w h3 (.refl hj.k hj.s)
 | act f xs=>
  have h:a9 (f A (mR t xs)) (v,A'):=h;rw [uE] at h;obtain ⟨E',B',a7,v',nx,w',h1,h2,h3,h4⟩:=cf E A A' B ρ base w (l7 t) a.eval v hj hv h;rw [h1];have hd:=hk E' B' a7 v' w' h3 h4;cases nx with
  | value u=>have:u=v':=h2; subst this; exact hd
  | skip=>have:v' = undef:=h2; subst this; exact hd
  | _=>exact h2.elim
 | look f xs=>
  obtain ⟨u,h1,h2⟩:=a9.map h;simp only [fI] at h2;obtain ⟨rfl,rfl⟩:=h2;rw [uE] at h1;obtain ⟨E',B',a7,v',nx,w',h3,h4,h5,h6⟩:=cf E A B ρ base w (l7 t) a.eval u hj hv h1;rw [h3];have hd:=hk E' B' a7 v' w' h5 h6;cases nx with
  | value u=>have:u=v':=h4; subst this; exact hd
  | skip=>have:v' = undef:=h4; subst this; exact hd
  | _=>exact h4.elim
 | Eo g f xs=>
  obtain ⟨u,h1,h2⟩:=a9.map h;simp only [fI] at h2;obtain ⟨rfl,rfl⟩:=h2;obtain ⟨ba,F0,hF0,rfl⟩:=anI rfl;obtain ⟨hlen,hf⟩:=a9.cond h1;exact ab5 gZ ba hF0 hf (bh hlen) hv (fun us q=>⟨E,.refl hj.k hj.s,by rw [uE]; exact q⟩) hk
 | IY g f xs=>
  obtain ⟨u,h1,h2⟩:=a9.map h;simp only [fI] at h2;obtain ⟨rfl,rfl⟩:=h2;obtain ⟨ba,F0,hF0,rfl⟩:=anJ rfl;obtain ⟨hlen,hf⟩:=a9.cond h1;refine ab5 gZ ba hF0 hf (bh hlen) hv (fun us q=>?_) hk;obtain ⟨E1,p1,p2⟩:=Kx hj.k q;rw [uE];exact ⟨E1,p1.ev (.refl hj.s),p2⟩
 | call f args=>exact h.elim
 | bad=>exact h.elim
end Go.K
end
section
namespace Go.K
open Go Go.aB
variable {P:Program} {E:Env}
theorem ab7 {R:Type} {cfg:eQ} {bC:oX R} (gZ:tW P cfg.pc) (xK:Nl P bC) {o:Oper} {t:bF} {A:aC} {k:KV->aC->Option R} {r:R} {N base:Nat} {B:St} {ρ:aZ} {a:Act} {w:World} {next:Act->World->Prop} {Q:Exit->Act->World->Prop}
  (h:Rx bC t A k (bW P cfg o.op)=some r) (ht:mq P E ρ t N a) (hj:KJ P E A B ρ base w)
  (hk:∀ E' A' B' a7 v v' w',k v A' = some r->VC P E' a7 v v'->Ev P base E A B ρ w E' A' B' a7 w'->next (a.put o.dst v') w'):o.wp P a w next Q:=by
 by_cases hc:∃ f args,bW P cfg o.op = .call f args
 ·obtain ⟨f,args,hc⟩:=hc
  rw [hc] at h;have h:Option.rec (motive:=fun _=>Option R) none (fun p=>bC p.1 p.2 A k) (IZ (mR t args) (l7 t f))=some r:=h;cases ajR:IZ (mR t args) (l7 t f) with
  | none=>rw [ajR] at h; exact absurd h (by simp)
  | some p=>
   obtain ⟨g,vs⟩:=p;rw [ajR] at h;have h:bC g vs A k=some r:=h;obtain ⟨hg,nF⟩:=xK g vs A k r h;obtain ⟨cK,h1,h2⟩:=aiL (ab4 hc) ht ajR hg;unfold Oper.wp;rw [h2 w];refine (nF E B ρ base w cK h1 hj).mono ?_;rintro e w' ⟨v,v',E',A',B',a7,rfl,h3,h4,h5⟩;exact hk E' A' B' a7 v v' w' h5 h3 h4
 ·obtain ⟨v,A',h1,h2⟩:=Ky (fun f args e=>hc ⟨f,args,e⟩) h
  exact Pf gZ h1 (fun x _=>ht.ev x) hj fun E' B' a7 v' w' h3 h4=>hk E' A' B' a7 v v' w' h2 h3 h4
theorem aks {R:Type} {cfg:eQ} {bC:oX R} {all:List Oper} {o:Oper} {k:bF->aC->Option R} {t:bF} {A:aC} {r:R} {N:Nat} {ρ:aZ} {a:Act} (ht:mq P E ρ t N a) (h:Bw P cfg bC all o k t A=some r) :
  ∃ t1,(∀ i,t1.get i=t.get i)/\((Region.wanted o (yielded ⟨all⟩ a.tmps)=true/\Rx bC t1 A (fun v A=>k (rT t1 o.dst v) A) (bW P cfg o.op)=some r)\/
   (Region.wanted o (yielded ⟨all⟩ a.tmps)=false/\k (rT t1 o.dst uh) A=some r)):=by
 unfold Bw at h;cases hg:o.guard with
 | none=>
  rw [hg] at h;refine ⟨t,fun _=>rfl,.inl ⟨?_,h⟩⟩;unfold Region.wanted;rw [hg]
 | some p=>
  obtain ⟨j,want⟩:=p;rw [hg] at h;exact aiK hg ht h
theorem RK {R:Type} {cfg:eQ} {bC:oX R} (gZ:tW P cfg.pc) (xK:Nl P bC) {N base:Nat} {Q:Exit->Act->World->Prop} {all:List Oper} (hd:all.all (LD N)=true) {k:bF->aC->Option R} {r:R} :
  ∀ (os:List Oper) (j:Nat) (t:bF) (E:Env) (A:aC) (B:St) (ρ:aZ) (a:Act) (w:World),all.drop j=os->vq P cfg bC all k os t A=some r->mq P E ρ t N a->KJ P E A B ρ base w->
   (∀ t' E' A' B' a7 a' w',k t' A' = some r->mq P E' a7 t' N a'->a'.defers=a.defers->Ev P base E A B ρ w E' A' B' a7 w'->Q .normal a' w')->wpOps P ⟨all⟩ Q (List.range' j os.length) a w
 | [],j,t,E,A,B,ρ,a,w,_,h,ht,hj,hq=>hq t E A B ρ a w h ht rfl (.refl hj.k hj.s)
 | o::os,j,t,E,A,B,ρ,a,w,hk,h,ht,hj,hq=>by
  have ho:(⟨all⟩:Array Oper)[j]? = some o:=by
   have:(all.drop j)[0]? = some o:=by rw [hk]; rfl
   rw [pS] at this;simpa using this
  have yO:all.drop (j+1)=os:=by rw [<- List.drop_drop,hk]; rfl
  have I5:∀ d,o.dst=some d->d < N:=by
   intro d e;have hm:o∈all:=hQ (by simpa using ho);have:=gx.1 hd o hm;unfold LD at this;rw [e] at this;simp only at this;rw [bT] at this;exact this
  rw [HP,List.range'_succ];simp only [wpOps,ho];have h:Bw P cfg bC all o (vq P cfg bC all k os) t A=some r:=h;obtain ⟨t1,CU,h⟩:=aks ht h;have yX:=ht.same CU;rcases h with ⟨hw,h⟩ | ⟨hw,h⟩
  ·rw [hw]
   refine .inl (ab7 gZ xK h yX hj fun E' A' B' a7 v v' w' h1 h2 h3=>?_);refine RK gZ xK hd os (j+1) _ E' A' B' a7 _ w' yO h1 ((yX.mono h3.le (h3.fX.le hj.s)).put I5 h2) h3.kj fun t' Nm A'' Pg xT a'' MT h4 h5 h6 h7=>?_;exact hq t' Nm A'' Pg xT a'' MT h4 h5 (by rw [h6,put_defers]) (h3.trans h7)
  ·rw [hw]
   refine RK gZ xK hd os (j+1) _ E A B ρ _ w yO h (yX.put I5 .undef) hj fun t' Nm A'' Pg xT a'' MT h4 h5 h6 h7=>?_;exact hq t' Nm A'' Pg xT a'' MT h4 h5 (by rw [h6,put_defers]) h7
abbrev Out:=Bool×KV×aC
inductive Run (P:Program) (cfg:eQ) (all:List Oper):List Oper->bF->aC->List Out->bF->aC->Prop where
 | nil {t:bF} {A:aC} : Run P cfg all [] t A [] t A
 | cons {o:Oper} {os:List Oper} {t t1 t' : bF} {A A1 A' : aC} {wd:Bool} {v:KV} {L:List Out}
   (same:∀ i,t1.get i=t.get i)
   (want:(o.guard=none/\wd=true)\/∃ j want d,o.guard=some (j,want)/\(all[j]?).bind (·.dst)=some d/\((∃ b,t.get d=some (.bool b)/\wd=(b==want))\/(∃ l,t.get d=some (.iv l)/\wd=false)))
   (yes:wd=true->a9 (xl (bW P cfg o.op) t1 A) (v,A1)) (no:wd=false->v=uh/\A1=A)
   (rest:Run P cfg all os (rT t1 o.dst v) A1 L t' A'):Run P cfg all (o::os) t A ((wd,v,A1)::L) t' A'
theorem Ph {R:Type} {t:bF} {d:Option Tmp} {want:Bool} {yes no:bF->Option R} {r:R} (h:aj1 t d want yes no=some r) :
  ∃ d',d=some d'/\((∃ b t',t.get d' = some (.bool b)/\(∀ i,t'.get i=t.get i)/\((b==want)=true/\yes t' = some r\/(b==want)=false/\no t' = some r))\/∃ l,t.get d' = some (.iv l)/\no t=some r):=by
 unfold aj1 at h;cases d with
 | none=>exact absurd h (by simp)
 | some d=>
  refine ⟨d,rfl,?_⟩;have h:BK.rec (motive:=fun _=>Option R)
   (fun b=>Bool.rec (motive:=fun _=>Option R)
    (Bool.rec (motive:=fun _=>Option R) (yes (t.set (.bool false) d)) (no (t.set (.bool false) d)) want)
    (Bool.rec (motive:=fun _=>Option R) (no (t.set (.bool true) d)) (yes (t.set (.bool true) d)) want) b)
   (no t) none (wZ ((t.get d).getD .bD))=some r:=h
  have nL:∀ v,(t.get d).getD .bD=v->v≠.bD->t.get d=some v:=by
   intro v e eF;cases hg:t.get d with
   | none=>rw [hg] at e; exact absurd e.symm eF
   | some u=>rw [hg] at e; simp at e; rw [e]
  cases hb:wZ ((t.get d).getD .bD) with
  | no=>rw [hb] at h; exact absurd h (by simp)
  | iv=>
   rw [hb] at h;obtain ⟨l,hl⟩:=ae5 hb;exact .inr ⟨l,nL _ hl (by simp),h⟩
  | bool b=>
   rw [hb] at h;refine .inl ⟨b,t.set (.bool b) d,nL _ (F5 hb) (by simp),Pe hb,?_⟩;cases b <;> cases want
   ·exact .inl ⟨rfl,h⟩
   ·exact .inr ⟨rfl,h⟩
   ·exact .inr ⟨rfl,h⟩
   ·exact .inl ⟨rfl,h⟩
theorem Yv {R:Type} {cfg:eQ} {bC:oX R} {all:List Oper} {k:bF->aC->Option R} {r:R} : ∀ {os:List Oper} {t:bF} {A:aC},(∀ o∈os,∀ f args,bW P cfg o.op≠.call f args)->vq P cfg bC all k os t A=some r->
  ∃ L t' A',Run P cfg all os t A L t' A'/\k t' A' = some r
 | [],t,A,_,h=>⟨[],t,A,.nil,h⟩
 | o::os,t,A,hn,h=>by
  have h:Bw P cfg bC all o (vq P cfg bC all k os) t A=some r:=h;have OS:=fun q hq=>hn q (xh o hq);unfold Bw at h;cases hg:o.guard with
  | none=>
   rw [hg] at h;obtain ⟨v,A1,h1,h2⟩:=Ky (hn o (by simp)) h;obtain ⟨L,t',A',h3,h4⟩:=Yv OS h2;exact ⟨_,t',A',.cons (fun _=>rfl) (.inl ⟨hg,rfl⟩) (fun _=>h1) (fun e=>by simp at e) h3,h4⟩
  | some p=>
   obtain ⟨j,want⟩:=p;rw [hg] at h;obtain ⟨d,hd,h⟩:=Ph h;rcases h with ⟨b,t1,h1,h2,h3⟩ | ⟨l,h1,h2⟩
   ·rcases h3 with ⟨h3,h4⟩ | ⟨h3,h4⟩
    ·obtain ⟨v,A1,h5,h6⟩:=Ky (hn o (by simp)) h4
     obtain ⟨L,t',A',h7,h8⟩:=Yv OS h6;exact ⟨_,t',A',.cons h2 (.inr ⟨j,want,d,hg,hd,.inl ⟨b,h1,h3.symm⟩⟩) (fun _=>h5) (fun e=>by simp at e) h7,h8⟩
    ·obtain ⟨L,t',A',h7,h8⟩:=Yv OS h4
     exact ⟨_,t',A',.cons h2 (.inr ⟨j,want,d,hg,hd,.inl ⟨b,h1,h3.symm⟩⟩) (fun e=>by simp at e) (fun _=>⟨rfl,rfl⟩) h7,h8⟩
   ·obtain ⟨L,t',A',h7,h8⟩:=Yv OS h2
    exact ⟨_,t',A',.cons (fun _=>rfl) (.inr ⟨j,want,d,hg,hd,.inr ⟨l,h1,rfl⟩⟩) (fun e=>by simp at e) (fun _=>⟨rfl,rfl⟩) h7,h8⟩
noncomputable def turns (P:Program) (cfg:eQ) (o:Oper) (x:Out):Bool:=x.1&&Nat.ble 3 (dL (bW P cfg o.op))
noncomputable def jd (S:Nat->Bool):List Oper->List Out->Nat->bF->bF
 | o::os,x::L,i,t=>jd S os L (i+1) (cond (S i) (rT t o.dst x.2.1) t)
 | _,_,_,t=>t
noncomputable def oT (P:Program) (cfg:eQ) (S:Nat->Bool):List Oper->List Out->Nat->aC->aC
 | o::os,x::L,i,A=>oT P cfg S os L (i+1) (cond (S i&&turns P cfg o x) x.2.2 A)
 | _,_,_,A=>A
theorem uF (t:bF) (dst:Option Tmp) (v:KV) (x:Tmp):(rT t dst v).get x=if dst=some x then some v else t.get x:=by
 cases dst with
 | none=>rfl
 | some d=>
  simp only [rT,Trie.qH,db];by_cases h:x=d
  ·rw [aR h,aR h.symm]
  ·rw [ay h,ay (Ne.symm h)]
theorem EA (S:Nat->Bool):∀ (os:List Oper) (L:List Out) (k:Nat) (t:bF),jd S os L (k+1) t=jd (fun i=>S (i+1)) os L k t
 | [],L,k,t=>by cases L <;> rfl
 | o::os,[],k,t=>rfl
 | o::os,x::L,k,t=>by simp only [jd]; exact EA S os L (k+1) _
theorem Wm {cfg:eQ} (S:Nat->Bool):∀ (os:List Oper) (L:List Out) (k:Nat) (A:aC),oT P cfg S os L (k+1) A=oT P cfg (fun i=>S (i+1)) os L k A
 | [],L,k,t=>by cases L <;> rfl
 | o::os,[],k,t=>rfl
 | o::os,x::L,k,t=>by simp only [oT]; exact Wm S os L (k+1) _
theorem na {S S' : Nat->Bool} {y:Tmp} : ∀ {os:List Oper} {L:List Out} {k:Nat} {t t' : bF},t.get y=t'.get y->(∀ i o,os[i]? = some o->o.dst=some y->S (k+i)=S' (k+i))->(jd S os L k t).get y=(jd S' os L k t').get y
 | [],L,k,t,t',h,_=>by cases L <;> exact h
 | o::os,[],k,t,t',h,_=>h
 | o::os,x::L,k,t,t',h,hs=>by
  simp only [jd];refine na ?_ fun i o' ho hd=>by have:=hs (i+1) o' (by simpa using ho) hd; rwa [show k+(i+1)=k+1+i by omega] at this
  by_cases hd:o.dst=some y
  ·have:=hs 0 o rfl hd
   rw [yH] at this;rw [this];cases S' k with
   | true=>simp only [aj,uF,aR hd]
   | false=>exact h
  ·have e:∀ (b:Bool) (u:bF),(cond b (rT u o.dst x.2.1) u).get y=u.get y:=by
    intro b u;cases b with
    | true=>rw [aj,uF,ay hd]
    | false=>rfl
   rw [e,e]; exact h
theorem ae6 {S:Nat->Bool} {y:Tmp} : ∀ {os:List Oper} {L:List Out} {k i:Nat} {t:bF} {o:Oper} {x:Out},os[i]? = some o->L[i]? = some x->o.dst=some y->(∀ j q,os[j]? = some q->q.dst=some y->i < j->S (k+j)=false)->
  (jd (cQ S (k+i)) os L k t).get y=some x.2.1
 | [],L,k,i,t,o,x,ho,_,_,_=>by simp at ho
 | q::os,[],k,i,t,o,x,_,hx,_,_=>by simp at hx
 | q::os,u::L,k,0,t,o,x,ho,hx,hd,hs=>by
  simp at ho hx;subst ho hx;simp only [jd,yH];have hk:cQ S k k=true:=by simp [cQ]
  rw [hk,aj];have:=na (S:=cQ S k) (S':=fun _=>false) (y:=y) (os:=os) (L:=L) (k:=k+1) (t:=rT t q.dst u.2.1) (t':=rT t q.dst u.2.1) rfl (fun j q' hq hqd=>by
   have h1:=hs (j+1) q' (by simpa using hq) hqd (by omega);rw [show k+(j+1)=k+1+j by omega] at h1;simp only [cQ,h1,Bool.false_or];cases hb:Nat.beq (k+1+j) k with
   | false=>rfl
   | true=>have:=bh hb; omega)
  rw [this];have GG:∀ (os:List Oper) (L:List Out) (k:Nat) (t:bF),jd (fun _=>false) os L k t=t:=by
   intro os
   induction os with
   | nil=>intro L k t; cases L <;> rfl
   | cons o os ih=>intro L k t; cases L with
    | nil=>rfl
    | cons x L=>simp only [jd,aq]; exact ih L _ t
  rw [GG,uF,aR hd]
 | q::os,u::L,k,i+1,t,o,x,ho,hx,hd,hs=>by
  simp only [jd];rw [show k+(i+1)=k+1+i by omega];exact ae6 (by simpa using ho) (by simpa using hx) hd fun j q' hq hqd a8=>by
   have:=hs (j+1) q' (by simpa using hq) hqd (by omega);rwa [show k+(j+1)=k+1+j by omega] at this
theorem Kz {cfg:eQ} {S S' : Nat->Bool} : ∀ {os:List Oper} {L:List Out} {k:Nat} {A:aC},(∀ i o x,os[i]? = some o->L[i]? = some x->turns P cfg o x=true->S (k+i)=S' (k+i))->oT P cfg S os L k A=oT P cfg S' os L k A
 | [],L,k,A,_=>by cases L <;> rfl
 | o::os,[],k,A,_=>rfl
 | o::os,x::L,k,A,h=>by
  simp only [oT];have h0:(S k&&turns P cfg o x)=(S' k&&turns P cfg o x):=by
   cases ht:turns P cfg o x with
   | false=>simp
   | true=>have:=h 0 o x rfl rfl ht; rw [yH] at this; rw [this]
  rw [h0];exact Kz fun i o' x' ho hx ht=>by have:=h (i+1) o' x' (by simpa using ho) (by simpa using hx) ht; rwa [show k+(i+1)=k+1+i by omega] at this
def Pj (all:List Oper) (o:Oper) (t:bF) (wd:Bool):Prop:=(o.guard=none/\wd=true)\/∃ j want d,o.guard=some (j,want)/\(all[j]?).bind (·.dst)=some d/\((∃ b,t.get d=some (.bool b)/\wd=(b==want))\/(∃ l,t.get d=some (.iv l)/\wd=false))
theorem EB {cfg:eQ} {o:Oper} {t:bF} {A A1:aC} {v:KV} (h:a9 (xl (bW P cfg o.op) t A) (v,A1)) (hk:Nat.ble 3 (dL (bW P cfg o.op))=false):A1=A:=by
 generalize bW P cfg o.op=ins at h hk;cases ins with
 | pure f xs=>obtain ⟨u,_,h2⟩:=a9.map h; simp at h2; exact h2.2.symm
 | read f xs=>obtain ⟨u,_,h2⟩:=a9.map h; simp at h2; exact h2.2.symm
 | act f xs=>exact absurd hk (by simp [dL])
 | look f xs=>obtain ⟨u,_,h2⟩:=a9.map h; simp at h2; exact h2.2.symm
 | Eo g f xs=>obtain ⟨u,_,h2⟩:=a9.map h; simp at h2; exact h2.2.symm
 | IY g f xs=>exact absurd hk (by simp [dL])
 | call f xs=>exact h.elim
 | bad=>exact h.elim
theorem Run.at {cfg:eQ} {all:List Oper} : ∀ {os:List Oper} {t t' : bF} {A A' : aC} {L:List Out},Run P cfg all os t A L t' A'->
  L.length=os.length/\(∀ y,t'.get y=(jd (fun _=>true) os L 0 t).get y)/\A' = oT P cfg (fun _=>true) os L 0 A/\
  ∀ i o x,os[i]? = some o->L[i]? = some x->∃ t1,(∀ y,t1.get y=(jd (fun j=>Nat.blt j i) os L 0 t).get y)/\Pj all o t1 x.1/\(x.1=true->a9 (xl (bW P cfg o.op) t1 (oT P cfg (fun j=>Nat.blt j i) os L 0 A)) (x.2.1,x.2.2))/\(x.1=false->x.2.1=uh)
 | _,_,_,_,_,_,.nil=>⟨rfl,fun _=>rfl,rfl,fun i o x ho=>by simp at ho⟩
 | o::os,t,t',A,A',(wd,v,A1)::L,.cons (t1:=t1) same want yes no rest=>by
  obtain ⟨h1,h2,h3,h4⟩:=rest.at;have hA1:cond (turns P cfg o (wd,v,A1)) A1 A=A1:=by
   cases ht:turns P cfg o (wd,v,A1) with
   | true=>rfl
   | false=>
    rw [aq];cases wd with
    | false=>exact (no rfl).2.symm
    | true=>exact (EB (yes rfl) (by simpa [turns] using ht)).symm
  have ab8:∀ y,(rT t1 o.dst v).get y=(rT t o.dst v).get y:=fun y=>by rw [uF,uF,same]
  refine ⟨by simp [h1],fun y=>?_,?_,fun i q x hq hx=>?_⟩
  ·rw [h2 y]
   simp only [jd,aj];rw [EA];exact na (ab8 y) fun _ _ _ _=>rfl
  ·rw [h3]
   simp only [oT,AL];rw [Wm,hA1]
  ·cases i with
   | zero=>
    simp at hq hx;subst hq hx;have e0:∀ (os:List Oper) (L:List Out) (k:Nat) (t:bF),jd (fun j=>Nat.blt j 0) os L k t=t:=by
     intro os
     induction os with
     | nil=>intro L k t; cases L <;> rfl
     | cons o os ih=>intro L k t; cases L with
      | nil=>rfl
      | cons x L=>simp only [jd]; exact ih L _ t
    have e1:∀ (os:List Oper) (L:List Out) (k:Nat) (A:aC),oT P cfg (fun j=>Nat.blt j 0) os L k A=A:=by
     intro os
     induction os with
     | nil=>intro L k t; cases L <;> rfl
     | cons o os ih=>intro L k t; cases L with
      | nil=>rfl
      | cons x L=>simp only [oT]; exact ih L _ t
    refine ⟨t1,fun y=>by rw [e0]; exact same y,?_,fun e=>by rw [e1]; exact yes e,fun e=>(no e).1⟩;rcases want with h | ⟨j,wt,d,e2,e3,e4⟩
    ·exact .inl h
    ·exact .inr ⟨j,wt,d,e2,e3,by rw [same]; exact e4⟩
   | succ i=>
    obtain ⟨t2,h5,h6,h7,h8⟩:=h4 i q x (by simpa using hq) (by simpa using hx);have hsh:(fun j=>Nat.blt (j+1) (i+1))=fun j=>Nat.blt j i:=by
     funext j;cases hb:Nat.blt j i with
     | true=>rw [bT] at hb ⊢; omega
     | false=>
      cases hc:Nat.blt (j+1) (i+1) with
      | false=>rfl
      | true=>rw [bT] at hc; rw [show Nat.blt j i=true from by rw [bT]; omega] at hb; simp at hb
    have h01:Nat.blt 0 (i+1)=true:=by rw [bT]; omega
    have iE:oT P cfg (fun j=>Nat.blt j (i+1)) (o::os) ((wd,v,A1)::L) 0 A=oT P cfg (fun j=>Nat.blt j i) os L 0 A1:=by
     simp only [oT,h01,AL];rw [Wm,hA1,hsh]
    refine ⟨t2,fun y=>?_,h6,fun e=>by rw [iE]; exact h7 e,h8⟩;rw [h5 y];simp only [jd,h01,aj];rw [EA,hsh];exact na (ab8 y) fun _ _ _ _=>rfl
end Go.K
end
