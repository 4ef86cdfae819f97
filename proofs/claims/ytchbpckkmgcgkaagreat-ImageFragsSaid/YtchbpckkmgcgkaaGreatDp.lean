/- Part of the proof of ImageFrags: the machine, shown to be the model's, and plain models. No conditions. -/
import Derived.Test.YtchbpckkmgcgkaaGreatCp
set_option linter.unusedSimpArgs false
set_option linter.unusedVariables false
section
namespace Go.K
open Go Go.aE
variable {P:Program} {E:Env}
def mkE (agg:Bool) (m:List Value):Value:=cond agg (.agg ⟨m⟩) (m.headD .nilIface)
theorem agZ {agg:Bool} {m:List Value} (hs:∀ v∈m,scalar v=true) (h:agg=true\/m.length=1):(mkE agg m).cells.toList=m:=by
 cases agg with
 | true=>rfl
 | false=>
  rcases h with h | h
  ·simp at h
  ·match m,h with
   | [v],_=>
    have:=hs v (by simp);show v.cells.toList = [v];cases v <;> first | rfl | simp [scalar] at this
theorem acp {l:Bd} {ks:List KV} (h:aO l.ks ks=true) (ha:l.agg=true\/l.ks.length=1):cG l (TR l.agg ks)=true:=by
 obtain ⟨agg,cs⟩:=l;cases agg with
 | true=>simpa [TR,cG] using h
 | false=>
  simp at ha
  match cs,ha,ks,h with
  | [c],_,[v],h=>
   have hk:kindOk c v=true:=by simpa [aO] using h
   show cG ⟨false,[c]⟩ v=true;cases v with
   | agg cs=>cases c <;> simp [kindOk] at hk
   | jd cs=>cases c <;> simp [kindOk] at hk
   | _=>simpa [cG] using h
  | [c],_,[],h=>simp [aO] at h
  | [c],_,_::_::_,h=>simp [aO] at h
theorem ag0 {E:Env} {ks:List KV} {m:List Value} {agg:Bool} (h:bp P E ks m) (ha:agg=true\/m.length=1):VK P E (TR agg ks) (mkE agg m):=by
 cases agg with
 | true=>exact .tI h
 | false=>
  rcases ha with ha | ha
  ·simp at ha
  ·match m,ha,ks,h with
   | [v],_,ks,h=>
    have hl:=h.length
    match ks,hl,h with
    | [k],_,h=>
     obtain ⟨y,ys,e,h1,_⟩:=h.cons_inv;simp at e;rw [e.1];exact h1
theorem RC {α:Type} : ∀ {n:Nat} {l vs r:List α},n5 n l vs=some r->
  r.length=l.length/\(vs≠[]->n+vs.length<=l.length)/\∀ (i:Nat),r[i]? = if n<=i/\i < n+vs.length then vs[i - n]? else l[i]?
 | 0,l,[],r,h=>by simp [n5] at h; subst h; simp
 | 0,[],_::_,r,h=>by simp [n5] at h
 | 0,x::l,v::vs,r,h=>by
  simp only [n5,cZ] at h;obtain ⟨q,hq,rfl⟩:=h;obtain ⟨h1,h2,h3⟩:=RC hq;refine ⟨by simp [h1],?_,fun i=>?_⟩
  ·intro _
   cases vs with
   | nil=>simp
   | cons u us=>have:=h2 (by simp); simp at this ⊢; omega
  ·cases i with
   | zero=>simp
   | succ i=>simp [h3 i]
 | n+1,[],[],r,h=>by simp [n5] at h; subst h; simp
 | n+1,[],_::_,r,h=>by simp [n5] at h
 | n+1,x::l,vs,r,h=>by
  simp only [n5,cZ] at h;obtain ⟨q,hq,rfl⟩:=h;obtain ⟨h1,h2,h3⟩:=RC hq;refine ⟨by simp [h1],?_,fun i=>?_⟩
  ·intro eU
   have:=h2 eU;simp at this ⊢;omega
  ·cases i with
   | zero=>simp
   | succ i=>
    simp only [Wl,h3 i];by_cases hc:n<=i/\i < n+vs.length
    ·rw [aW hc,aW (by omega),show i+1 - (n+1)=i - n by omega]
    ·rw [aB hc,aB (by omega)]
theorem YO (v:KV):∀ (es:List KV) (i j:Nat),(setAt es i v).getD j .bJ=if j=i/\i < es.length then v else es.getD j .bJ
 | [],0,j=>by simp [setAt]
 | [],_+1,j=>by simp [setAt]
 | e::es,0,0=>by simp [setAt]
 | e::es,0,j+1=>by simp [setAt]
 | e::es,i+1,0=>by simp [setAt]
 | e::es,i+1,j+1=>by
  have:=YO v es i j;simp only [setAt,List.getD_cons_succ,Kh];rw [this];by_cases h:j=i/\i < es.length
  ·rw [aW h,aW ⟨by omega,by omega⟩]
  ·rw [aB h,aB (by omega)]
theorem Fb:∀ (n:Nat) (l vs:List Value),n+vs.length<=l.length->∃ r,jt n l vs=some r
 | 0,l,[],_=>⟨l,rfl⟩
 | 0,[],_::_,h=>by simp at h
 | 0,x::l,v::vs,h=>by
  obtain ⟨r,hr⟩:=Fb 0 l vs (by simp at h ⊢; omega);exact ⟨v::r,by rw [zN,hr]; rfl⟩
 | n+1,[],[],_=>⟨[],rfl⟩
 | n+1,[],_::_,h=>by simp at h
 | n+1,x::l,vs,h=>by
  obtain ⟨r,hr⟩:=Fb n l vs (by simp at h ⊢; omega);exact ⟨x::r,by rw [vF,hr]; rfl⟩
theorem ad2:∀ {ks:List CK} {cs:List KV},cs.length=ks.length->(∀ (i:Nat) c v,ks[i]? = some c->cs[i]? = some v->kindOk c v=true)->aO ks cs=true
 | [],[],_,_=>rfl
 | [],_::_,h,_=>by simp at h
 | _::_,[],h,_=>by simp at h
 | c::ks,v::cs,h,k=>by
  simp only [aO,aD];exact ⟨k 0 c v rfl rfl,ad2 (by simpa using h) fun i d u e1 e2=>k (i+1) d u (by simpa using e1) (by simpa using e2)⟩
theorem aoM {l:Bd} {e:KV} (h:cG l e=true):l.agg=true\/e.cells.length=1:=by
 by_cases ha:∃ cs,e = .agg cs
 ·obtain ⟨cs,rfl⟩:=ha
  simp only [cG,aD] at h;exact .inl h.1
 ·have hc:e.cells = [e]:=by cases e <;> first | rfl | exact absurd ⟨_,rfl⟩ ha
  rw [hc];exact .inr rfl
theorem aqZ {T t:TypeId} {k:Nat} {e vn e2:KV} {u w:Value} (hw:afW P T t k) (Iw:cG (bw P T) e=true) (hu:VK P E e u) (hvn:cG (bw P t) vn=true) (hvw:VK P E vn w) (h:aca P T k e vn.cells=some e2) :
  ∃ u2,VK P E e2 u2/\cG (bw P T) e2=true/\u2.cells.size=bq P T/\e2.cells.length=e.cells.length/\(∀ m,u2.cells.toList[m]? = if k<=m/\m < k+w.cells.toList.length then w.cells.toList[m - k]? else u.cells.toList[m]?)/\(w.cells.toList≠[]->k+w.cells.toList.length<=bq P T):=by
 unfold aca at h;obtain ⟨l1,l2,_⟩:=RB Iw;rw [l1] at h;obtain ⟨ox,h1,rfl⟩:=cZ.1 h;obtain ⟨Pt,hk2⟩:=jN Iw;obtain ⟨ZV,Oh⟩:=jN hvn;have hcu:=hu.cells hk2;have hcw:=hvw.cells Oh;obtain ⟨r,h2,h3⟩:=bp.n5 h1 hcu hcw;obtain ⟨s1,s2,s3⟩:=ko h2;obtain ⟨q1,q2,q3⟩:=RC h1;have Rl:e.cells.length=bq P T:=vf Pt;have DB:=aoM Iw;have hlr:r.length=e.cells.length:=by rw [s1,hcu.length]
 have wG:aO (bw P T).ks ox=true:=by
  refine ad2 (by rw [q1]; exact Rl) fun i c v e1 e3=>?_;rw [q3 i] at e3;split at e3
  ·rename_i hc
   obtain ⟨x,Ks,hx2⟩:∃ d,(bw P t).ks[i - k]? = some d/\d=c:=by
    have bu:i - k < (bw P t).ks.length:=by rw [<- vf ZV]; omega
    refine ⟨_,dD bu,?_⟩;have:=hw.is (i - k) _ (dD bu);rw [show k+(i - k)=i by omega,e1] at this;simpa using this.symm
   subst hx2;obtain ⟨v',h4,h5⟩:=Fa ZV Ks;rw [e3] at h4;simp at h4; subst h4;exact h5
  ·obtain ⟨v',h4,h5⟩:=Fa Pt e1
   rw [e3] at h4;simp at h4; subst h4;exact h5
 have au3:cG (bw P T) (TR (bw P T).agg ox)=true:=acp wG (by
  rcases DB with h | h
  ·exact .inl h
  ·exact .inr (by rw [<- vf Pt]; exact h))
 have hsc:∀ v∈r,scalar v=true:=h3.scalar (Kq wG);have Bc:(mkE (bw P T).agg r).cells.toList=r:=agZ hsc (DB.imp id fun h=>by rw [hlr]; exact h);refine ⟨mkE (bw P T).agg r,ag0 h3 (DB.imp id fun h=>by rw [hlr]; exact h),au3,?_,?_,fun m=>?_,fun eU=>?_⟩
 ·rw [<- Array.length_toList,Bc,hlr]; exact Rl
 ·exact (vf (jN au3).1).trans Rl.symm
 ·rw [Bc]; exact s3 m
 ·have:=s2 eU
  rw [hcu.length] at this;omega
theorem aq0 {sz i k:Nat} {cs:List Value} {bF:List Value} {u u2:Value} {wl:List Value} (hl:ss sz 0 cs bF) (hi:bF[i]? = some u) (hsu:u.cells.size=sz) (s4:wl≠[]->k+wl.length<=sz) (hg:∀ m,u2.cells.toList[m]? = if k<=m/\m < k+wl.length then wl[m - k]? else u.cells.toList[m]?) (mM:u2.cells.size=sz) :
  ∃ ox,jt (i * sz+k) cs wl=some ox/\ss sz 0 ox (bF.set i u2)/\ox.length=cs.length:=by
 have hex:∃ ox,jt (i * sz+k) cs wl=some ox:=by
  cases hwl:wl with
  | nil=>exact ⟨cs,Ug _ _⟩
  | cons a l=>
   have hf:=s4 (by rw [hwl]; simp);rw [hwl] at hf;obtain ⟨_,hc⟩:=hl i u hi;have bu:k+l.length < u.cells.size:=by rw [hsu]; simp at hf; omega
   have:=hc (k+l.length) u.cells[k+l.length] (by simp [bu]);have hb:=(dB.1 this).1;exact Fb _ _ _ (by simp; omega)
 obtain ⟨ox,h1⟩:=hex;obtain ⟨s1,s2,s3⟩:=ko h1;refine ⟨ox,h1,fun j x hx=>?_,s1⟩;rw [List.getElem?_set] at hx;split at hx
 ·rename_i e
  subst e;split at hx
  ·simp at hx; subst hx
   refine ⟨mM,fun m y hy=>?_⟩;have hy' : u2.cells.toList[m]? = some y:=by simpa using hy
   have hm:m < sz:=by rw [<- mM]; exact (EN.1 hy).1
   rw [hg m] at hy';rw [bk,s3];split at hy'
   ·rw [aW (by omega),show i * sz+m - (i * sz+k)=m - k by omega]; exact hy'
   ·rw [aB (by omega)]
    have:=(hl i u hi).2 m y (by simpa using hy');rwa [bk] at this
  ·simp at hx
 ·rename_i eU
  obtain ⟨h2,h3⟩:=hl j x hx;refine ⟨h2,fun m y hy=>?_⟩;have hm:m < sz:=by rw [<- h2]; exact (EN.1 hy).1
  rw [s3,aB]
  ·exact h3 m y hy
  ·rintro ⟨ha,hb⟩
   cases hwl:wl with
   | nil=>rw [hwl] at hb; simp at hb; omega
   | cons a l=>
    have hf:=s4 (by rw [hwl]; simp);rcases Nat.lt_or_gt_of_ne eU with h | h
    ·have:(i+1) * sz<=j * sz:=Nat.mul_le_mul_right _ h
     rw [Nat.succ_mul] at this;omega
    ·have:(j+1) * sz<=i * sz:=Nat.mul_le_mul_right _ h
     rw [Nat.succ_mul] at this;omega
theorem aoN {T:TypeId} {N i:Nat} {es:List KV} {acc:Nat->KV} {e:KV} (ht:ku P T N es acc) (hi:i < N) (he:cG (bw P T) e=true):ku P T N (setAt es i e) (xR acc i e) where
 len:=by rw [HV]; exact ht.len
 acc j hj:=by
  rw [YO];unfold xR;cases hb:Nat.beq j i with
  | true=>have:=bo hb; rw [aW ⟨this,by rw [<- ht.len]; exact hi⟩]; rfl
  | false=>rw [aB (fun h=>by rw [h.1,nA] at hb; simp at hb)]; exact ht.acc j hj
 typed:=s6 fun j x hx=>by
  have hx' : x=(setAt es i e).getD j .bJ:=by rw [iQ,hx]; rfl
  rw [YO] at hx';split at hx'
  ·rw [hx']; exact he
  ·rename_i eU
   have bu:j < es.length:=by rw [<- HV es i e]; exact (dB.1 hx).1
   exact lD ht.typed (i:=j) (by rw [hx',iQ,dD bu]; rfl)
theorem Kt {B:St} {x y lo hi:Nat} {bV:Option (Nat×Nat)} : (B.fE x bV lo hi).get y=B.get y\/∃ g k,bV=some (g,k)/\y∈B.members g/\y≠x/\(B.fE x bV lo hi).get y=some .dead/\∃ cs e own f j,B.get y=some (.row cs e own (some (f,j))):=by
 cases bV with
 | none=>exact .inl rfl
 | some p=>
  obtain ⟨g,k⟩:=p;simp only [St.fE,GA];by_cases hc:y∈B.members g/\y≠x/\vE (B.get y) (k+lo) (k+hi)=true
  ·refine .inr ⟨g,k,rfl,hc.1,hc.2.1,by rw [aW hc],?_⟩
   have hs:=hc.2.2;unfold vE at hs;split at hs
   ·rename_i cs e own f j hy; exact ⟨cs,e,own,f,j,hy⟩
   ·simp at hs
  ·exact .inl (by rw [aB hc])
theorem PM {B:St} {x lo hi:Nat} {bV:Option (Nat×Nat)} : (B.fE x bV lo hi).members=B.members:=by
 cases bV with
 | none=>rfl
 | some p=>simp [St.fE]
theorem XK {B:St} {x lo hi:Nat} {bV:Option (Nat×Nat)} : (B.fE x bV lo hi).next=B.next:=by
 cases bV with
 | none=>rfl
 | some p=>simp [St.fE]
theorem eT.ap3 {A:aC} {B:St} {b x N lo hi:Nat} {T:TypeId} {es:List KV} {acc:Nat->KV} {bF cs pz:List Value} {bV:Option (Nat×Nat)} (h:gU P E A B) (hb:∃ v,A.get b=some (.arr v)) (hx:E.α b=some (x,pz.length,N))
  (lC:B.get x=some (.row pz (bq P T) true bV)) (hlen:cs.length=pz.length) (gI:1<=bq P T) (ht:ku P T N es acc) (UD:bp P E es bF) (hl:ss (bq P T) 0 cs bF) :
  eT P E A B E (A.put b (.arr (.ts T .any N es acc))) ((B.put x (.row cs (bq P T) true bV)).fE x bV lo hi):=by
 obtain ⟨v0,hb⟩:=hb;have vI:AR A E x:=⟨b,v0,_,_,hb,hx⟩
 have lA:((B.put x (.row cs (bq P T) true bV)).fE x bV lo hi).get x=some (.row cs (bq P T) true bV):=by
  rcases Kt (B:=B.put x (.row cs (bq P T) true bV)) (x:=x) (y:=x) (lo:=lo) (hi:=hi) (bV:=bV) with e | ⟨g,k,_,_,h3,_⟩
  ·rw [e]; simp
  ·exact absurd rfl h3
 have hgy:∀ y,y≠x->((B.put x (.row cs (bq P T) true bV)).fE x bV lo hi).get y=B.get y\/(((B.put x (.row cs (bq P T) true bV)).fE x bV lo hi).get y=some .dead/\∃ g k,bV=some (g,k)/\y∈B.members g):=by
  intro y hy;rcases Kt (B:=B.put x (.row cs (bq P T) true bV)) (x:=x) (y:=y) (lo:=lo) (hi:=hi) (bV:=bV) with e | ⟨g,k,h1,h2,_,h4,_⟩
  ·exact .inl (by rw [e,St.cn,aB hy])
  ·exact .inr ⟨h4,g,k,h1,by simpa using h2⟩
 have oC:((B.put x (.row cs (bq P T) true bV)).fE x bV lo hi).members=B.members:=by rw [PM]; simp
 have kr:((B.put x (.row cs (bq P T) true bV)).fE x bV lo hi).next=B.next:=by rw [XK]; simp
 generalize (B.put x (.row cs (bq P T) true bV)).fE x bV lo hi=B' at lA hgy oC kr;have UE:∀ y,y≠x->(E.z y≠none\/AR A E y\/∃ c,E.κ c=some y)->B'.get y=B.get y:=by
  intro y hy hs;rcases hgy y hy with e | ⟨_,g,k,rfl,h2⟩
  ·exact e
  ·obtain ⟨_,_,h3⟩:=h.ar.xG b v0 x _ _ _ _ _ g k hb hx lC
   obtain ⟨h4,h5,h6⟩:=h3 y h2 hy;rcases hs with hs | hs | ⟨c,hs⟩
   ·exact absurd h4 hs
   ·exact absurd hs h5
   ·exact absurd hs (h6 c)
 have hA:∀ (c:Nat) (v:KV),(A.put b (.arr (.ts T .any N es acc))).get c=some (.arr v)->∃ u,A.get c=some (.arr u):=fun c v hc=>by
  rw [aC.cn] at hc;split at hc
  ·rename_i e; exact ⟨v0,by rw [e]; exact hb⟩
  ·exact ⟨v,hc⟩
 have UF:∀ y,AR (A.put b (.arr (.ts T .any N es acc))) E y->AR A E y:=fun y q=>by
  obtain ⟨c,v,L,M,h1,h2⟩:=q;obtain ⟨u,h1⟩:=hA c v h1;exact ⟨c,u,L,M,h1,h2⟩
 have ag1:∀ y,AR A E y->∀ sJ e own aai,B'.get y=some (.row sJ e own aai)->∃ ox,B.get y=some (.row ox e own aai)/\ox.length=sJ.length:=fun y q sJ e own aai hy=>by
  by_cases Ix:y=x
  ·subst Ix
   rw [lA] at hy;simp at hy;obtain ⟨rfl,rfl,rfl,rfl⟩:=hy;exact ⟨pz,lC,hlen.symm⟩
  ·rw [UE y Ix (.inr (.inl q))] at hy
   exact ⟨sJ,hy,rfl⟩
 have amR:∀ g,AF (A.put b (.arr (.ts T .any N es acc))) E B' g->AF A E B g:=fun g q=>by
  obtain ⟨c,v,y,L,M,sJ,e,own,k,h1,h2,h3⟩:=q;obtain ⟨u,h1⟩:=hA c v h1;obtain ⟨ox,h3,_⟩:=ag1 y ⟨c,u,L,M,h1,h2⟩ _ _ _ _ h3;exact ⟨c,u,y,L,M,ox,e,own,k,h1,h2,h3⟩
 refine ⟨⟨?_,?_,?_,h.apart,h.inj,h.lT.put (.inl fun _ _=>by simp),h.ow,h.qD,?_,fun b x e=>by rw [kr]; exact h.jc b x e,fun b r e=>by rw [kr]; exact h.qX b r e,fun b g e=>by rw [kr]; exact h.mL b g e,fun g hg=>by rw [kr] at hg; rw [oC]; exact h.fresh g hg,fun g y hy=>by rw [oC] at hy; rw [kr]; exact h.mem g y hy,?_⟩,Env.le_refl _,aX _,?_,fun _ _ e=>.inl e,fun _ _ e=>.inl e,fun _ _ e=>.inl e,fun _ _ _ _=>by rw [oC],fun y q=>.inl (UF y q),fun g q=>.inl (amR g q),fun g y q=>.inl (by rw [oC] at q; exact q),fun y q=>.inl ?_,?_⟩
 ·intro c sJ ca hc
  rw [aC.cn] at hc;split at hc
  ·simp at hc
  ·obtain ⟨y,c1,h1,h2,h3⟩:=h.row c sJ ca hc
   have hy:y≠x:=fun e=>(h.ar.z x vI).2 c (by rw [<- e]; exact h1);exact ⟨y,c1,h1,by rw [UE y hy (.inr (.inr ⟨c,h1⟩))]; exact h2,h3⟩
 ·intro c top Ls hc
  rw [aC.cn] at hc;split at hc
  ·simp at hc
  ·rcases h.bm c top Ls hc with h1 | ⟨g,h1,h2,h3⟩
   ·exact .inl h1
   ·refine .inr ⟨g,h1,h2,fun y hy sJ e own f k hr=>?_⟩
    rw [oC] at hy;by_cases Ix:y=x
    ·subst Ix
     rw [lA] at hr;simp at hr;obtain ⟨rfl,_,_,rfl⟩:=hr;obtain ⟨h4,h5⟩:=h3 y hy pz _ _ f k lC;exact ⟨h4,by rw [hlen]; exact h5⟩
    ·rcases hgy y Ix with e1 | ⟨e1,_⟩
     ·rw [e1] at hr; exact h3 y hy sJ e own f k hr
     ·rw [e1] at hr; simp at hr
 ·intro y r hy
  have Ix:y≠x:=fun e=>by have:=(h.ar.z x vI).1; rw [<- e,hy] at this; simp at this
  rw [UE y Ix (.inl (by rw [hy]; simp))];exact h.z y r hy
 ·intro c o hc
  rw [aC.cn] at hc;split at hc
  ·rename_i e; rw [e]; exact h.live b _ hb
  ·exact h.live c o hc
 ·refine ⟨?_,?_,fun y q=>h.ar.z y (UF y q),?_,?_,h.ar.dis,h.ar.ow,fun b x L N e=>by rw [kr]; exact h.ar.jc b x L N e,?_,fun c v hc=>?_⟩
  ·intro c v hc
   rw [aC.cn] at hc;split at hc
   ·rename_i e
    simp at hc;subst hc e;exact ⟨T,N,es,acc,rfl,ht,gI,.inr ⟨x,cs,bV,bF,by rw [hlen]; exact hx,lA,UD,hl⟩⟩
   ·rename_i eU
    refine (h.ar.arr c v hc).mono (Env.le_refl _) rfl fun y L M e=>?_;have Ix:y≠x:=fun e2=>eU (h.ar.inj c b v v0 x _ _ _ _ hc hb (by rw [<- e2]; exact e) hx);exact UE y Ix (.inr (.inl ⟨c,v,L,M,hc,e⟩))
  ·intro c v hc
   rw [aC.cn] at hc;split at hc
   ·simp at hc
   ·exact h.ar.lR c v hc
  ·intro c d v u y L M L' M' h1 h2 h3 h4
   obtain ⟨v',h1⟩:=hA c v h1;obtain ⟨u',h2⟩:=hA d u h2;exact h.ar.inj c d v' u' y L M L' M' h1 h2 h3 h4
  ·intro c d v u y w L M L' M' sJ e own g k ox e' tP k' h1 h2 h3 h4 h5 h6
   obtain ⟨v',h1⟩:=hA c v h1;obtain ⟨u',h2⟩:=hA d u h2;obtain ⟨_,h5,_⟩:=ag1 y ⟨c,v',L,M,h1,h3⟩ _ _ _ _ h5;obtain ⟨_,h6,_⟩:=ag1 w ⟨d,u',L',M',h2,h4⟩ _ _ _ _ h6;exact h.ar.zj c d v' u' y w L M L' M' _ e own g k _ e' tP k' h1 h2 h3 h4 h5 h6
  ·intro c v y L M sJ e own g k h1 h2 h3
   obtain ⟨v',h1⟩:=hA c v h1;obtain ⟨_,h3,_⟩:=ag1 y ⟨c,v',L,M,h1,h2⟩ _ _ _ _ h3;obtain ⟨h4,h5,h6⟩:=h.ar.xG c v' y L M _ e own g k h1 h2 h3;refine ⟨by rw [kr]; exact h4,h5,fun z hz eU=>?_⟩;rw [oC] at hz;obtain ⟨h7,h8,h9⟩:=h6 z hz eU;exact ⟨h7,fun q=>h8 (UF z q),h9⟩
  ·rw [aC.cn] at hc
   rw [aC.wC];split at hc
   ·rename_i e; rw [e]; exact h.ar.nk b _ hb
   ·exact h.ar.nk c v hc
 ·intro y hy hn ha
  by_cases Ix:y=x
  ·subst Ix; exact absurd (.inl vI) ha
  ·rcases hgy y Ix with e | ⟨_,g,k,rfl,h2⟩
   ·exact e
   ·exact absurd (.inr ⟨g,⟨b,v0,x,_,_,pz,_,_,k,hb,hx,lC⟩,h2⟩) ha
 ·rcases q with q | ⟨g,h1,h2⟩
  ·exact .inl (UF y q)
  ·exact .inr ⟨g,amR g h1,by rw [oC] at h2; exact h2⟩
 ·intro y hy sJ e own aai hr
  by_cases Ix:y=x
  ·exact ag1 y (by rw [Ix]; exact vI) sJ e own aai hr
  ·rcases hgy y Ix with e1 | ⟨e1,_⟩
   ·exact ⟨sJ,by rw [<- e1]; exact hr,rfl⟩
   ·rw [e1] at hr; simp at hr
theorem aq1 {t:TypeId} : apZ P (Z6 P t) (M3 P t):=by
 intro E A A' B vs us v h hv hg;unfold Z6 at hg;split at hg
 ·rename_i b off x
  obtain ⟨y,z,rfl,h1,h2⟩:=hv.nP;obtain ⟨c,hx,rfl⟩:=h1.j8;obtain ⟨hc,hg⟩:=hg.cond;simp only [aD,lz] at hc;obtain ⟨gI,ho⟩:=hc;split at hg
  ·rename_i cs ca lC
   split at hg
   ·rename_i ck hw
    have hg:(wk,A.put b (.row ck ca))=(v,A'):=hg;simp only [gF] at hg;obtain ⟨rfl,rfl⟩:=hg;obtain ⟨c',d,e1,e2,e3⟩:=h.row b cs ca lC;rw [hx] at e1;simp at e1;subst e1;have Ri:=h2.cells (CR ho);obtain ⟨r,e4,e5⟩:=bp.n5 hw e3 Ri;have qw:z.cells.toList.all scalar=true:=im.2 (Ri.scalar ho);have asp:some z.cells.size=size? P t:=by rw [<- gI,Uw h2 (CR ho)]
    refine ⟨undef,B.put c (.row r ca true none),E,?_,.undef,eT.auk h ⟨_,_,lC⟩ hx ⟨d,e2,(ko e4).1.symm⟩ e5⟩;simp [M3,storeAt,asp,St.Dd,dA,qw,e2,e4,St.fE]
   ·exact hg.elim
  ·exact hg.elim
 ·rename_i T Tc b i k x
  obtain ⟨y,z,rfl,h1,h2⟩:=hv.nP;split at hg
  ·rename_i T' mk N es acc hA
   obtain ⟨hc,hg2⟩:=hg.cond;clear hg;simp only [aD,lz] at hc;obtain ⟨⟨⟨hT,hTc⟩,Iw⟩,gI⟩:=hc;have:=bo hT;subst this;have:=bo hTc;subst this;split at hg2
   ·rename_i e2 he2
    have hg:(wk,A.put b (.arr (apN T N i es acc e2)))=(v,A'):=hg2;simp only [gF] at hg;obtain ⟨rfl,rfl⟩:=hg;obtain ⟨c,L,N',h3,hw,hi,rfl⟩:=h1.Ng;obtain ⟨T2,N2,tM,hJ,ZY,ht,h1s,Ce⟩:=h.ar.arr b _ hA;simp only [KV.ts.injEq] at ZY;obtain ⟨rfl,rfl,rfl,rfl,rfl⟩:=ZY;rcases Ce with ⟨_,h4⟩ | ⟨c',cs,bV,bF,h4,h5,h6,h7⟩
    ·rw [h3] at h4; simp at h4
    rw [h3] at h4;simp only [dE,gF] at h4;obtain ⟨rfl,rfl,rfl⟩:=h4;have bu:i < es.length:=by rw [<- ht.len]; exact hi
    have hei:es[i]? = some (acc i):=by rw [ht.acc i hi]; simp [List.getD,bu]
    obtain ⟨u,h8,h9⟩:=h6.get hei;obtain ⟨hsu,sG⟩:=h7 i u h8;rw [bk] at sG;have hvn:=h2.ib (l:=bw P Tc);obtain ⟨u2,p1,p2,p3,p4,p5,p6⟩:=aqZ (T:=T) (t:=Tc) hw (lD ht.typed hei) h9 Iw hvn he2;obtain ⟨ox,w1,w2,w3⟩:=aq0 h7 h8 hsu p6 p5 p3;have jL:=eT.ap3 (lo:=i * bq P T+k) (hi:=i * bq P T+k+z.cells.toList.length) h ⟨_,hA⟩ h3 h5 (ko w1).1 h1s (aoN ht hi p2) (bF:=bF.set i u2) (YN p1 i h6) w2;obtain ⟨Pt,hk2⟩:=jN Iw;have qw:z.cells.toList.all scalar=true:=im.2 ((hvn.cells hk2).scalar (Kq Pt));have hzs:some z.cells.size=size? P Tc:=by
     rw [gI,<- vf Pt];exact congrArg some (Uw hvn hk2)
    refine ⟨undef,_,E,?_,.undef,jL⟩;simp [M3,storeAt,hzs,St.Dd,dA,qw,h5,w1]
   ·exact hg2.elim
  ·exact hg.elim
 ·exact hg.elim
end Go.K
end
section
namespace Go.K
open Go Go.aE
variable {P:Program} {E:Env}
def Env.JY (E:Env) (b:Nat) (p:Nat×Nat×Nat):Env:={ E with α:=fun c=>if c=b then some p else E.α c }
theorem Env.asq {A:aC} {B:St} {p:Nat×Nat×Nat} (h:gU P E A B):E.le (E.JY A.next p):=⟨fun b q e=>by
 have:=h.ar.ow b q e;simp only [Env.JY]; rw [aB (by omega)]; exact e,fun _ _ e=>e,fun _ _ e=>e,fun _ _ e=>e⟩
theorem Env.GL {b:Nat} {p:Nat×Nat×Nat} : (E.JY b p).α b=some p:=by simp [Env.JY]
theorem Env.PN {b c:Nat} {p:Nat×Nat×Nat} (h:c≠b):(E.JY b p).α c=E.α c:=by simp [Env.JY,h]
theorem eT.aaj {A A1:aC} {B B' : St} {X G:Nat->Prop} {y2 N2:Nat} {T:TypeId} {tM:List KV} {hJ:Nat->KV} {JV ox:List Value} {wD:Option (Nat×Nat)} (h:gU P E A B)
  (xZ:A1.next=A.next) (RD:∀ c o,A1.get c=some o->A.get c=some o\/(o = .dead/\c < A.next))
  (f1:∀ c v,A1.get c=some (.arr v)->∀ y L N,E.α c=some (y,L,N)->¬ X y/\∀ cs e own g k,B.get y=some (.row cs e own (some (g,k)))->¬ G g)
  (f2:∀ y,X y->AR A E y) (f3:∀ g,G g->AF A E B g/\g < B.next/\(∀ f,E.φ f≠some g)/\∀ y∈B.members g,¬ X y->E.z y=none/\¬ AR A E y/\∀ c,E.κ c≠some y)
  (n1:X y2\/B.next<=y2) (n1' : y2 < B'.next) (amS:B'.get y2=some (.row ox (bq P T) true wD)) (n2:∀ g k,wD=some (g,k)->G g\/(B.next<=g/\g < B'.next))
  (b1:∀ y,y < B.next->¬ X y->B'.get y=B.get y\/(B'.get y=some .dead/\∃ g,G g/\y∈B.members g))
  (b2:∀ y,X y->∀ cs e own bV,B'.get y=some (.row cs e own bV)->∃ c,B.get y=some (.row c e own bV)/\c.length=cs.length)
  (b3:∀ q y,y∈B'.members q->y∈B.members q\/(y=y2/\B.next<=y2/\∃ k,wD=some (q,k))) (b3' : ∀ q,(∀ k,wD≠some (q,k))->B'.members q=B.members q)
  (b4:B.next<=B'.next) (b4' : ∀ g,B'.next<=g->B'.members g = []) (awr:∀ g y,y∈B'.members g->y < B'.next)
  (gI:1<=bq P T) (ht:ku P T N2 tM hJ) (UD:bp P E tM JV) (hl:ss (bq P T) 0 ox JV) :
  eT P E A B (E.JY A.next (y2,ox.length,N2)) (A1.new (.arr (.ts T .any N2 tM hJ))) B':=by
 have hle:=Env.asq (p:=(y2,ox.length,N2)) h;have asr:E.α A.next=none:=by
  cases hq:E.α A.next with
  | none=>rfl
  | some p=>have:=h.ar.ow _ p hq; omega
 have hXlt:∀ y,X y->y < B.next:=fun y hy=>h.Nh (f2 y hy);have UE:∀ y,y < B.next->¬ X y->(E.z y≠none\/AR A E y\/∃ c,E.κ c=some y)->B'.get y=B.get y:=by
  intro y bu hy hs;rcases b1 y bu hy with e | ⟨_,g,hg,h2⟩
  ·exact e
  ·obtain ⟨_,_,_,h3⟩:=f3 g hg
   obtain ⟨h4,h5,h6⟩:=h3 y h2 hy;rcases hs with hs | hs | ⟨c,hs⟩
   ·exact absurd h4 hs
   ·exact absurd hs h5
   ·exact absurd hs (h6 c)
 have hXz:∀ y,X y->E.z y=none/\∀ c,E.κ c≠some y:=fun y hy=>h.ar.z y (f2 y hy);have mi:∀ c o,(A1.new (.arr (.ts T .any N2 tM hJ))).get c=some o->(c=A.next/\o = .arr (.ts T .any N2 tM hJ))\/(c≠A.next/\A1.get c=some o):=fun c o hc=>by
  rw [aC.dN,xZ] at hc;split at hc
  ·rename_i e; simp at hc; exact .inl ⟨e,hc.symm⟩
  ·rename_i e; exact .inr ⟨e,hc⟩
 have hold:∀ c o,A1.get c=some o->o≠.dead->A.get c=some o:=fun c o hc hd=>by
  rcases RD c o hc with e | ⟨e,_⟩
  ·exact e
  ·exact absurd e hd
 have z7:∀ c v,(A1.new (.arr (.ts T .any N2 tM hJ))).get c=some (.arr v)->(c=A.next/\v = .ts T .any N2 tM hJ/\(E.JY A.next (y2,ox.length,N2)).α c=some (y2,ox.length,N2))\/(c≠A.next/\A1.get c=some (.arr v)/\A.get c=some (.arr v)/\(E.JY A.next (y2,ox.length,N2)).α c=E.α c):=fun c v hc=>by
  rcases mi c _ hc with ⟨e,e2⟩ | ⟨e,e2⟩
  ·simp at e2
   exact .inl ⟨e,e2,by rw [e]; exact Env.GL⟩
  ·exact .inr ⟨e,e2,hold c _ e2 (by simp),Env.PN e⟩
 have Ku:∀ c v y L N,A1.get c=some (.arr v)->E.α c=some (y,L,N)->AR A E y/\¬ X y/\y < B.next/\B'.get y=B.get y:=fun c v y L N h1 h2=>by
  have h3:AR A E y:=⟨c,v,L,N,hold c _ h1 (by simp),h2⟩
  obtain ⟨h4,_⟩:=f1 c v h1 y L N h2;have h5:=h.Nh h3;exact ⟨h3,h4,h5,UE y h5 h4 (.inr (.inl h3))⟩
 have UF:∀ y,AR (A1.new (.arr (.ts T .any N2 tM hJ))) (E.JY A.next (y2,ox.length,N2)) y->y=y2\/(AR A E y/\¬ X y):=fun y q=>by
  obtain ⟨c,v,L,M,h1,h2⟩:=q;rcases z7 c v h1 with ⟨_,_,e⟩ | ⟨_,e1,e2,e⟩
  ·rw [e] at h2; simp at h2; exact .inl h2.1.symm
  ·rw [e] at h2
   obtain ⟨h3,h4,_⟩:=Ku c v y L M e1 h2;exact .inr ⟨h3,h4⟩
 have ass:∀ y,y=y2->AR A E y\/B.next<=y:=fun y e=>by
  subst e;exact n1.imp (f2 y) id
 have amR:∀ g,AF (A1.new (.arr (.ts T .any N2 tM hJ))) (E.JY A.next (y2,ox.length,N2)) B' g->(∃ k,wD=some (g,k))\/(AF A E B g/\¬ G g/\g < B.next):=fun g q=>by
  obtain ⟨c,v,y,L,M,sJ,e,own,k,h1,h2,h3⟩:=q;rcases z7 c v h1 with ⟨_,_,e⟩ | ⟨_,e1,e2,e⟩
  ·rw [e] at h2
   simp at h2;rw [<- h2.1,amS] at h3;simp at h3;exact .inl ⟨k,h3.2.2.2⟩
  ·rw [e] at h2
   obtain ⟨_,_,_,h4⟩:=Ku c v y L M e1 h2;rw [h4] at h3;refine .inr ⟨⟨c,v,y,L,M,sJ,_,own,k,e2,h2,h3⟩,(f1 c v e1 y L M h2).2 _ _ _ _ _ h3,(h.ar.xG c v y L M _ _ _ g k e2 h2 h3).1⟩
 have au4:∀ g,(∃ k,wD=some (g,k))->AF A E B g\/B.next<=g:=fun g ⟨k,e⟩=>by
  rcases n2 g k e with hg | ⟨hg,_⟩
  ·exact .inl (f3 g hg).1
  ·exact .inr hg
 refine ⟨⟨?_,?_,?_,h.apart,h.inj,?_,fun b x e=>by rw [aC.cB,xZ]; have:=h.ow b x e; omega,fun b g e=>by rw [aC.cB,xZ]; have:=h.qD b g e; omega,?_,fun b x e=>by have:=h.jc b x e; omega,fun b r e=>by have:=h.qX b r e; omega,fun b g e=>by have:=h.mL b g e; omega,b4',awr,?_⟩,hle,by rw [aC.cB,xZ]; omega,?_,fun _ _ e=>.inl e,fun _ _ e=>.inl e,fun _ _ e=>.inl e,?_,fun y q=>?_,fun g q=>?_,fun g y q=>?_,fun y q=>?_,?_⟩
 ·intro c sJ ca hc
  rcases mi c _ hc with ⟨_,e⟩ | ⟨_,e⟩
  ·simp at e
  ·obtain ⟨y,c1,h1,h2,h3⟩:=h.row c sJ ca (hold c _ e (by simp))
   have hy : ¬ X y:=fun e=>(hXz y e).2 c h1;exact ⟨y,c1,h1,by rw [UE y (h.jc c y h1) hy (.inr (.inr ⟨c,h1⟩))]; exact h2,h3.mono hle⟩
 ·intro c top Ls hc
  rcases mi c _ hc with ⟨_,e⟩ | ⟨_,e⟩
  ·simp at e
  ·rcases h.bm c top Ls (hold c _ e (by simp)) with h1 | ⟨g,h1,h2,h3⟩
   ·exact .inl h1
   ·refine .inr ⟨g,h1,h2,fun y hy sJ e own f k hr=>?_⟩
    have hgG:∀ k,wD≠some (g,k):=fun k e=>by
     rcases n2 g k e with hg | ⟨hg,_⟩
     ·exact (f3 g hg).2.2.1 c h1
     ·have:=h.mL c g h1; omega
    rw [b3' g hgG] at hy;have bu:=h.mem g y hy;by_cases Ix:X y
    ·obtain ⟨c0,h4,h5⟩:=b2 y Ix _ _ _ _ hr
     obtain ⟨h6,h7⟩:=h3 y hy c0 _ _ f k h4;exact ⟨h6,by rw [<- h5]; exact h7⟩
    ·rcases b1 y bu Ix with e1 | ⟨e1,_⟩
     ·rw [e1] at hr; exact h3 y hy sJ _ own f k hr
     ·rw [e1] at hr; simp at hr
 ·intro y r hy
  have hy:E.z y=some r:=hy;have Ix : ¬ X y:=fun e=>by have:=(hXz y e).1; rw [hy] at this; simp at this
  rw [UE y (h.qX y r hy) Ix (.inl (by rw [hy]; simp))];exact h.z y r hy
 ·intro b c g tb sb tc sc hb hc e1 e2
  rcases mi b _ hb with ⟨_,e⟩ | ⟨_,hb⟩
  ·simp at e
  rcases mi c _ hc with ⟨_,e⟩ | ⟨_,hc⟩
  ·simp at e
  exact h.lT b c g _ _ _ _ (hold b _ hb (by simp)) (hold c _ hc (by simp)) e1 e2
 ·intro c o hc
  rw [aC.cB,xZ];rcases mi c _ hc with ⟨e,_⟩ | ⟨_,e⟩
  ·omega
  ·rcases RD c o e with e | ⟨_,e⟩
   ·have:=h.live c o e; omega
   ·omega
 ·refine ⟨?_,?_,?_,?_,?_,?_,?_,?_,?_,?_⟩
  ·intro c v hc
   rcases z7 c v hc with ⟨_,rfl,e⟩ | ⟨_,e1,e2,e⟩
   ·exact ⟨T,N2,tM,hJ,rfl,ht,gI,.inr ⟨y2,ox,wD,JV,e,amS,UD.mono hle,hl⟩⟩
   ·exact (h.ar.arr c v e2).mono hle e fun y L M hy=>(Ku c v y L M e1 hy).2.2.2
  ·intro c v hc
   rcases mi c _ hc with ⟨_,e⟩ | ⟨eU,e⟩
   ·simp at e
   ·exact (h.ar.lR c v (hold c _ e (by simp))).mono hle (Env.PN eU)
  ·intro y q
   rcases UF y q with e | ⟨e,_⟩
   ·subst e
    rcases n1 with hx | hx
    ·exact hXz y hx
    ·refine ⟨?_,fun c e=>by have:=h.jc c y e; omega⟩
     cases hz:E.z y with
     | none=>exact hz
     | some r=>have:=h.qX y r hz; omega
   ·exact h.ar.z y e
  ·intro c d v u y L M L' M' h1 h2 h3 h4
   rcases z7 c v h1 with ⟨e1,_,e⟩ | ⟨_,p1,p2,e⟩ <;> rcases z7 d u h2 with ⟨e2,_,e'⟩ | ⟨_,q1,q2,e'⟩
   ·omega
   ·rw [e] at h3; rw [e'] at h4
    simp at h3;obtain ⟨_,h5,h6,_⟩:=Ku d u y L' M' q1 h4;rw [<- h3.1] at h5 h6;rcases n1 with hx | hx
    ·exact absurd hx h5
    ·omega
   ·rw [e] at h3; rw [e'] at h4
    simp at h4;obtain ⟨_,h5,h6,_⟩:=Ku c v y L M p1 h3;rw [<- h4.1] at h5 h6;rcases n1 with hx | hx
    ·exact absurd hx h5
    ·omega
   ·rw [e] at h3; rw [e'] at h4
    exact h.ar.inj c d v u y L M L' M' p2 q2 h3 h4
  ·intro c d v u y w L M L' M' sJ e own g k cs3 e' tP k' h1 h2 h3 h4 h5 h6
   have Lu:∀ {c v y L M sJ e own k k2},A1.get c=some (.arr v)->E.α c=some (y,L,M)->B'.get y=some (.row sJ e own (some (g,k)))->wD=some (g,k2)->False:=by
    intro c v y L M sJ e own k k2 q1 q2 q3 q4;obtain ⟨r1,r2,r3,r4⟩:=Ku c v y L M q1 q2;rw [r4] at q3;rcases n2 g k2 q4 with hg | ⟨hg,_⟩
    ·exact (f1 c v q1 y L M q2).2 _ _ _ _ _ q3 hg
    ·have:=(h.ar.xG c v y L M _ _ _ g k (hold c _ q1 (by simp)) q2 q3).1; omega
   rcases z7 c v h1 with ⟨e1,_,ea⟩ | ⟨_,p1,p2,ea⟩ <;> rcases z7 d u h2 with ⟨e2,_,eb⟩ | ⟨_,q1,q2,eb⟩
   ·omega
   ·rw [ea] at h3; rw [eb] at h4
    simp at h3;rw [<- h3.1,amS] at h5;simp at h5;exact (Lu q1 h4 h6 h5.2.2.2).elim
   ·rw [ea] at h3; rw [eb] at h4
    simp at h4;rw [<- h4.1,amS] at h6;simp at h6;exact (Lu p1 h3 h5 h6.2.2.2).elim
   ·rw [ea] at h3; rw [eb] at h4
    rw [(Ku c v y L M p1 h3).2.2.2] at h5;rw [(Ku d u w L' M' q1 h4).2.2.2] at h6;exact h.ar.zj c d v u y w L M L' M' _ _ _ g k _ _ _ k' p2 q2 h3 h4 h5 h6
  ·intro b x e
   have hb:=h.ow b x e;rw [Env.PN (by omega)];exact h.ar.dis b x e
  ·intro b p e
   rw [aC.cB,xZ];by_cases hb:b=A.next
   ·omega
   ·rw [Env.PN hb] at e; have:=h.ar.ow b p e; omega
  ·intro b x L N e
   by_cases hb:b=A.next
   ·subst hb; rw [Env.GL] at e; simp at e; omega
   ·rw [Env.PN hb] at e; have:=h.ar.jc b x L N e; omega
  ·intro c v y L M sJ e own g k h1 h2 h3
   rcases z7 c v h1 with ⟨_,_,ea⟩ | ⟨_,p1,p2,ea⟩
   ·rw [ea] at h2
    simp at h2;obtain ⟨rfl,_⟩:=h2;rw [amS] at h3;simp at h3;have hk:=h3.2.2.2;refine ⟨?_,fun f e=>?_,fun z hz eU=>?_⟩
    ·rcases n2 g k hk with hg | ⟨_,hg⟩
     ·have:=(f3 g hg).2.1; omega
     ·exact hg
    ·rcases n2 g k hk with hg | ⟨hg,_⟩
     ·exact (f3 g hg).2.2.1 f e
     ·have:=h.mL f g e; omega
    ·rcases b3 g z hz with hz | ⟨e,_⟩
     ·rcases n2 g k hk with hg | ⟨hg,_⟩
      ·by_cases ap4:X z
       ·exact ⟨(hXz z ap4).1,fun q=>by
         rcases UF z q with e | ⟨_,e⟩
         ·exact eU e
         ·exact e ap4,(hXz z ap4).2⟩
       ·obtain ⟨h7,h8,h9⟩:=(f3 g hg).2.2.2 z hz ap4
        refine ⟨h7,fun q=>?_,h9⟩;rcases UF z q with e | ⟨e,_⟩
        ·exact eU e
        ·exact h8 e
      ·rw [h.fresh g hg] at hz; simp at hz
     ·exact absurd e eU
   ·rw [ea] at h2
    obtain ⟨r1,r2,r3,r4⟩:=Ku c v y L M p1 h2;rw [r4] at h3;obtain ⟨h4,h5,h6⟩:=h.ar.xG c v y L M _ _ _ g k p2 h2 h3;refine ⟨by omega,h5,fun z hz eU=>?_⟩;have hnG:=(f1 c v p1 y L M h2).2 _ _ _ _ _ h3;rw [b3' g (fun k e=>by
     rcases n2 g k e with hg | ⟨hg,_⟩
     ·exact hnG hg
     ·omega)] at hz
    obtain ⟨h7,h8,h9⟩:=h6 z hz eU;refine ⟨h7,fun q=>?_,h9⟩;rcases UF z q with e | ⟨e,_⟩
    ·subst e
     rcases n1 with hx | hx
     ·exact h8 (f2 z hx)
     ·have:=h.mem g z hz; omega
    ·exact h8 e
  ·intro c v hc
   rw [aC.cB,xZ];rcases z7 c v hc with ⟨e1,_,_⟩ | ⟨_,_,e2,_⟩
   ·subst e1
    refine ⟨Nat.lt_succ_self _,?_⟩;show E.κ A.next=none;cases hk:E.κ A.next with
    | none=>rfl
    | some x=>have:=h.ow _ x hk; omega
   ·obtain ⟨q1,q2⟩:=h.ar.nk c v e2
    exact ⟨by omega,q2⟩
 ·intro y hy hn ha
  by_cases Ix:X y
  ·exact absurd (.inl (f2 y Ix)) ha
  ·rcases b1 y hy Ix with e | ⟨_,g,hg,h2⟩
   ·exact e
   ·exact absurd (.inr ⟨g,(f3 g hg).1,h2⟩) ha
 ·intro g hg hn ha
  refine b3' g fun k e=>?_;rcases n2 g k e with hg' | ⟨hg',_⟩
  ·exact ha (f3 g hg').1
  ·omega
 ·rcases UF y q with e | ⟨e,_⟩
  ·exact ass y e
  ·exact .inl e
 ·rcases amR g q with e | ⟨e,_⟩
  ·exact au4 g e
  ·exact .inl e
 ·rcases b3 g y q with e | ⟨e,e2,_⟩
  ·exact .inl e
  ·exact .inr (by omega)
 ·rcases q with q | ⟨g,h1,h2⟩
  ·rcases UF y q with e | ⟨e,_⟩
   ·rcases ass y e with e | e
    ·exact .inl (.inl e)
    ·exact .inr e
   ·exact .inl (.inl e)
  ·rcases b3 g y h2 with e | ⟨e,e2,_⟩
   ·rcases amR g h1 with e1 | ⟨e1,_⟩
    ·rcases au4 g e1 with e2 | e2
     ·exact .inl (.inr ⟨g,e2,e⟩)
     ·rw [h.fresh g e2] at e; simp at e
    ·exact .inl (.inr ⟨g,e1,e⟩)
   ·exact .inr (by omega)
 ·intro y hy sJ e own aai hr
  by_cases Ix:X y
  ·exact b2 y Ix sJ e own aai hr
  ·rcases b1 y hy Ix with e1 | ⟨e1,_⟩
   ·exact ⟨sJ,by rw [<- e1]; exact hr,rfl⟩
   ·rw [e1] at hr; simp at hr
end Go.K
end
section
namespace Go.K
open Go Go.aE
variable {P:Program} {E:Env}
theorem eT.avF {A:aC} {B:St} {c:List Value} {n:Nat} (h:gU P E A B):eT P E A B (E.ir B.next ⟨c,n,true,some (B.next,0)⟩) A (B.grow B.next 0 c n):=by
 have qu:∀ x,(B.grow B.next 0 c n).get x=if x=B.next then some (.row c n true (some (B.next,0))) else B.get x:=fun x=>by simp [St.grow]
 have oC:∀ q,(B.grow B.next 0 c n).members q=if q=B.next then B.next::B.members B.next else B.members q:=fun q=>by simp [St.grow,St.HQ]
 have kr:(B.grow B.next 0 c n).next=B.next+1:=rfl;have hle:E.le (E.ir B.next ⟨c,n,true,some (B.next,0)⟩):=⟨fun _ _ e=>e,fun _ _ e=>e,fun b r e=>by
  have:=h.qX b r e;simp only [Env.ir]; rw [aB (by omega)]; exact e,fun _ _ e=>e⟩
 generalize B.grow B.next 0 c n=B' at qu oC kr;have DE:∀ x,x < B.next->B'.get x=B.get x:=fun x hx=>by rw [qu,aB (by omega)]
 have MX:∀ b r,(E.ir B.next ⟨c,n,true,some (B.next,0)⟩).z b=some r->E.z b=some r\/B.next<=b:=fun b r e=>by
  simp only [Env.ir] at e;split at e
  ·exact .inr (by omega)
  ·exact .inl e
 have hmk:∀ q,AF A E B q->B'.members q=B.members q:=fun q hq=>by
  rw [oC,aB];intro e2;obtain ⟨b,v,x,L,N,cs,e,own,k,h1,h2,h3⟩:=hq;obtain ⟨h4,h5,_⟩:=h.ar.xG b v x L N cs e own q k h1 h2 h3;omega
 have aoL:∀ q y,y∈B'.members q->y∈B.members q\/B.next<=y:=fun q y hy=>by
  rw [oC] at hy;split at hy
  ·rename_i e2
   subst e2;rcases ff.1 hy with hy | hy
   ·exact .inr (by omega)
   ·exact .inl hy
  ·exact .inl hy
 refine ⟨⟨?_,?_,?_,?_,h.inj,h.lT,h.ow,h.qD,h.live,?_,?_,?_,?_,?_,h.ar.pB hle (fun _=>rfl) (fun _ _ e=>e) (fun _ _ e=>e) (aX _) (by omega) (fun x q=>DE x (h.Nh q)) MX (fun _ _ e=>.inl e) (fun b q e=>.inl ⟨b,e⟩) hmk h.mem⟩,hle,aX _,?_,fun b x e=>.inl e,fun b r e=>(MX b r e).imp id .inr,fun b q e=>.inl e,fun q hq hn _=>by rw [oC,aB (by omega)],fun _ q=>.inl q,fun _ q=>.inl (q.of (fun _=>rfl) (fun _ _ e=>e) fun x q=>DE x (h.Nh q)),aoL,fun _ q=>.inl (q.of (fun _=>rfl) (fun _ _ e=>e) (fun x q=>DE x (h.Nh q)) hmk),qF DE⟩
 ·intro b pz UA hb
  obtain ⟨x,d,h1,h2,h3⟩:=h.row b pz UA hb;have:=h.jc b x h1;exact ⟨x,d,h1,by rw [qu,aB (by omega)]; exact h2,h3.mono hle⟩
 ·intro b top Ls hb
  rcases h.bm b top Ls hb with h1 | ⟨g,h1,hp0,h2⟩
  ·exact .inl h1
  ·have hg:=h.mL b g h1
   refine .inr ⟨g,h1,hp0,fun x hx d e own f k hr=>?_⟩;rw [oC,aB (by omega)] at hx;have:=h.mem g x hx;rw [qu,aB (by omega)] at hr;exact h2 x hx d e own f k hr
 ·intro b r hb
  simp only [Env.ir] at hb;rw [qu];split at hb
  ·rename_i e; simp at hb; subst hb; rw [aW e]
  ·rename_i e; rw [aB e]; exact h.z b r hb
 ·intro b x hb
  have:=h.jc b x hb;simp only [Env.ir];rw [aB (by omega)];exact h.apart b x hb
 ·intro b x hb; have:=h.jc b x hb; omega
 ·intro b r hb
  simp only [Env.ir] at hb;rw [kr];split at hb
  ·omega
  ·have:=h.qX b r hb; omega
 ·intro b g hb; have:=h.mL b g hb; omega
 ·intro g hg
  rw [kr] at hg;rw [oC,aB (by omega)];exact h.fresh g (by omega)
 ·intro g x hx
  rw [kr];rw [oC] at hx;split at hx
  ·rcases ff.1 hx with hx | hx
   ·omega
   ·have:=h.mem _ x hx; omega
  ·have:=h.mem g x hx; omega
 ·intro x hx _ _; rw [qu,aB (by omega)]
theorem eT.after {A A1 A2:aC} {B B2:St} {E2:Env} (h:eT P E A B E A1 B) (k:eT P E A1 B E2 A2 B2):eT P E A B E2 A2 B2 where
 kW:=k.kW
 le:=k.le
 next:=um h.next k.next
 pB x hx hn ha:=k.pB x hx hn fun q=>(h.r7 x q).elim ha fun e=>by omega
 new:=k.new
 yw b r e:=by
  rcases k.yw b r e with e | e | e
  ·exact .inl e
  ·exact .inr (h.qo b e)
  ·exact .inr (.inr e)
 yx:=k.yx
 uH g hg hn ha:=k.uH g hg hn fun q=>(h.qE g q).elim ha fun e=>by omega
 qo x q:=(k.qo x q).elim (h.qo x) .inr
 qE g q:=(k.qE g q).elim (h.qE g) .inr
 zZ:=k.zZ
 r7 y q:=(k.r7 y q).elim (h.r7 y) .inr
 rows:=k.rows
theorem eT.ap5 {A:aC} {B:St} {f t:Nat} (sz:Nat) (h:gU P E A B) {Ls:Nat} (hA:A.get f=some (.bm t Ls)) (Ot:E.φ f=none):eT P E A B E (A.put f (.bm 0 sz)) B:=by
 have hAk:∀ (b:Nat) (v:KV),(A.put f (.bm 0 sz)).get b=some (.arr v)->A.get b=some (.arr v):=fun b v hb=>by
  rw [aC.cn] at hb;split at hb
  ·simp at hb
  ·exact hb
 have hfz:∀ (b:Nat) (v:KV),(A.put f (.bm 0 sz)).get b=some (.lR v)->A.get b=some (.lR v):=fun b v hb=>by
  rw [aC.cn] at hb;split at hb
  ·simp at hb
  ·exact hb
 refine ⟨⟨fun b cs ca hb=>?_,fun b top Ls hb=>?_,h.z,h.apart,h.inj,h.lT.put (.inr Ot),h.ow,h.qD,fun b o hb=>?_,h.jc,h.qX,h.mL,h.fresh,h.mem,h.ar.pB (Env.le_refl _) (fun _=>rfl) hAk hfz (aX _) (aX _) (fun _ _=>rfl) (fun _ _ e=>.inl e) (fun _ _ e=>.inl e) (fun b g e=>.inl ⟨b,e⟩) (fun _ _=>rfl) h.mem⟩,Env.le_refl _,aX _,fun _ _ _ _=>rfl,fun _ _ e=>.inl e,fun _ _ e=>.inl e,fun _ _ e=>.inl e,fun _ _ _ _=>rfl,fun _ q=>.inl (q.of (fun _=>rfl) hAk),fun _ q=>.inl (q.of (fun _=>rfl) hAk fun _ _=>rfl),fun _ _ q=>.inl q,fun _ q=>.inl (q.of (fun _=>rfl) hAk (fun _ _=>rfl) fun _ _=>rfl),qF fun _ _=>rfl⟩
 ·rw [aC.cn] at hb
  split at hb
  ·simp at hb
  ·exact h.row b cs ca hb
 ·rw [aC.cn] at hb
  split at hb
  ·rename_i e2; simp at hb; exact .inl ⟨hb.1.symm,by rw [e2]; exact Ot⟩
  ·exact h.bm b top Ls hb
 ·rw [aC.cn] at hb
  split at hb
  ·rename_i e2; rw [e2]; exact h.live f _ hA
  ·exact h.live b o hb
theorem ast {t:TypeId} (hu:P.underlying t=some (.int .u8)):bw P t=⟨false,[.int .u8]⟩:=by
 unfold bw;rw [lay,hu];rfl
theorem alc {e:TypeId} (he:isByte P e=true):auZ P (YE e) Rd:=by
 intro E A B vs us v h hv hg;unfold YE at hg;split at hg
 ·rename_i s
  obtain ⟨u,rfl,h1⟩:=hv.gi;have:=h1.wL; subst this;have hg:KV.ts e .any s.size _ _=v:=hg;subst hg;have hu:P.underlying e=some (.int .u8):=by
   unfold isByte at he;split at he
   ·assumption
   ·simp at he
  have au5:bw P e=⟨false,[.int .u8]⟩:=ast hu;refine ⟨_,_,_,rfl,?_,eT.avF h⟩;simp only [VK];have gI:bq P e=1:=by unfold bq; rw [au5]; rfl
  refine ⟨⟨by simp,fun i hi=>?_,?_⟩,nI s.data.toList,?_,some ⟨B.next,0,none⟩,s.size,rfl,aX _,.inr ⟨B.next,0,⟨nI s.data.toList,1,true,some (B.next,0)⟩,rfl,by simp [Env.ir],gI.symm,?_⟩,trivial⟩
  ·have Yq:i < s.data.toList.length:=by simpa using hi
   simp only [List.getD,A5,dD Yq,Option.map_some,bc]
  ·rw [au5]
   induction s.data.toList with
   | nil=>rfl
   | cons b l ih=>simp [gY,cG,aO,kindOk,ih]
  ·generalize E.ir B.next _=E'
   induction s.data.toList with
   | nil=>exact .nil
   | cons b l ih=>exact .cons .mkInt ih
  ·rw [gI]
   intro i x hx;obtain ⟨b,_,rfl⟩:∃ b,s.data.toList[i]? = some b/\x = .int .u8 b.toNat:=by
    simp only [nI,A5,cZ] at hx;obtain ⟨b,h1,h2⟩:=hx;exact ⟨b,h1,h2.symm⟩
   refine ⟨rfl,fun k y hy=>?_⟩;have hk:k=0:=by
    have:=(EN.1 hy).1;simp [Value.cells] at this;exact this
   subst hk;simp [Value.cells] at hy;subst hy;simpa using hx
 ·exact hg.elim
theorem RE {B:St} {b off n sz:Nat} {r:amC} {bF:List Value} (hr:B.get b=some (.row r.cs r.ca r.own r.bV)) (hl:ss sz off r.cs bF) (hn:bF.length=n) (gI:1<=sz) :
  B.Cb ⟨b,off,none⟩ (n * sz)=some (bP bF):=by
 have hs:∀ v∈bF,v.cells.size=sz:=fun v hv=>by
  obtain ⟨i,hi⟩:=List.getElem?_of_mem hv;exact (hl i v hi).1
 have hlen:=kX hs;have Pq:=qf hs;have sG:∀ j,j < n * sz->r.cs[off+j]? = (bP bF)[j]?:=by
  intro j hj;have hi:j / sz < bF.length:=by rw [hn]; exact Nat.div_lt_of_lt_mul (by rw [Nat.mul_comm]; exact hj)
  have hv:bF[j / sz]? = some bF[j / sz]:=dD hi;have hk:j % sz < bF[j / sz].cells.size:=by rw [hs _ (Wm hi)]; exact Nat.mod_lt _ gI
  have hy:bF[j / sz].cells[j % sz]? = some (bF[j / sz].cells[j % sz]):=by simp [hk]
  have h1:=(hl _ _ hv).2 _ _ hy;have h2:=(Pq _ _ hv).2 _ _ hy;have RF:j / sz * sz+j % sz=j:=by rw [Nat.mul_comm]; exact Nat.div_add_mod j sz
  rw [HL,RF] at h1;rw [bk,RF] at h2;rw [h1,h2]
 simp only [St.Cb,dA,Option.isNone_none,ai,Eb,hr,gE];rw [hn] at hlen;have hle:n * sz<=(r.cs.drop off).length:=by
  cases hm:n * sz with
  | zero=>omega
  | succ q=>
   have:=sG q (by omega);rw [dD (show q < (bP bF).length by omega)] at this;have h7:=(dB.1 this).1;rw [List.length_drop];omega
 rw [wB,PJ hle];congr 1;apply List.ext_getElem?;intro i;rw [rf];split
 ·rename_i hi
  rw [rK];exact sG i hi
 ·exact (afH.2 (by omega)).symm
theorem ag2 {T:TypeId} {m:Mk} {n:Nat} {es:List KV} {acc:Nat->KV} {u:Value} {A:aC} {B:St} (h:gU P E A B) (hv:VK P E (.ts T m n es acc) u) (gI:1<=bq P T) :
  ∃ bF,bp P E es bF/\adO u=some n/\A8 B (bq P T) n u=some (bP bF)/\(∀ v∈bF,v.cells.size=bq P T)/\bF.length=n/\es.length=n/\gY (bw P T) es=true:=by
 obtain ⟨ht,bF,h1,a,cap,rfl,h2,h3,_⟩:=hv.pH;have hlen:=ht.len;have tL:bF.length=n:=by rw [h1.length]; exact hlen.symm
 have hs:=sL ht.typed h1;refine ⟨bF,h1,rfl,?_,fun v hv=>(hs v hv).1,tL,hlen.symm,ht.typed⟩;rcases h3 with ⟨rfl,h0⟩ | ⟨b,off,r,rfl,h4,h5,h6⟩
 ·have:bF = []:=pq.1 (by omega)
  subst this;simp [A8,h0,bP]
 ·exact RE (h.z b r h4) h6 tL gI
theorem ku.join {T:TypeId} {n m:Nat} {es fs:List KV} {f g:Nat->KV} (h:ku P T n es f) (k:ku P T m fs g):ku P T (n+m) (es++fs) (dZ n f g) where
 len:=by rw [nY,<- h.len,<- k.len]
 acc i hi:=by
  unfold dZ;by_cases hn:i < n
  ·have:Nat.blt i n=true:=by rw [bX]; exact hn
   rw [this,ai,h.acc i hn,iQ,iQ,uk (by rw [<- h.len]; exact hn)]
  ·have:Nat.blt i n=false:=by
    cases hb:Nat.blt i n with
    | false=>rfl
    | true=>rw [bX] at hb; omega
   rw [this,aw,k.acc (i - n) (by omega),iQ,iQ,wg (by rw [<- h.len]; omega),<- h.len]
 typed:=S2 h.typed k.typed
theorem ku.none {T:TypeId} {g:Nat->KV} : ku P T 0 [] g:=⟨rfl,fun i h=>by omega,rfl⟩
structure Src (P:Program) (E:Env) (B:St) (T:TypeId) (n:Nat) (es:List KV) (acc:Nat->KV) (u:Value) (bF:List Value):Prop where
 tree:ku P T n es acc
 rel:bp P E es bF
 len:adO u=some n
 size:∀ v∈bF,v.cells.size=bq P T
 length:bF.length=n
 first:∀ k,k<=n->A8 B (bq P T) k u=some (bP (bF.take k))
theorem Src.all {B:St} {T:TypeId} {n:Nat} {es:List KV} {acc:Nat->KV} {u:Value} {bF:List Value} (h:Src P E B T n es acc u bF):A8 B (bq P T) n u=some (bP bF):=by
 rw [h.first n (aX _),CH (Nat.le_of_eq h.length)]
theorem ss.take {sz off:Nat} {cs es:List Value} (h:ss sz off cs es) (k:Nat):ss sz off cs (es.take k):=fun i x hi=>h i x (by
 rw [rf] at hi;split at hi
 ·exact hi
 ·simp at hi)
theorem ss.drop {sz off:Nat} {cs es:List Value} (h:ss sz off cs es) (o:Nat):ss sz (off+o * sz) cs (es.drop o):=fun i x hi=>by
 rw [rK] at hi;obtain ⟨h1,h2⟩:=h (o+i) x hi;refine ⟨h1,fun k y hy=>?_⟩;rw [<- h2 k y hy,Nat.add_mul];congr 1;omega
theorem aup {T:TypeId} {m:Mk} {n:Nat} {es:List KV} {acc:Nat->KV} {u:Value} {A:aC} {B:St} (h:gU P E A B) (hv:VK P E (.ts T m n es acc) u) (gI:1<=bq P T):∃ bF,Src P E B T n es acc u bF:=by
 obtain ⟨ht,bF,h1,a,cap,rfl,h2,h3,_⟩:=hv.pH;have tL:bF.length=n:=by rw [h1.length]; exact ht.len.symm
 have hs:=sL ht.typed h1;refine ⟨bF,ht,h1,rfl,fun v hv=>(hs v hv).1,tL,fun k hk=>?_⟩;rcases h3 with ⟨rfl,h0⟩ | ⟨b,off,r,rfl,h4,h5,h6⟩
 ·have:bF = []:=pq.1 (by omega)
  subst this;have:k=0:=by omega
  subst this;simp [A8,bP]
 ·exact RE (h.z b r h4) (h6.take k) (by rw [pt]; omega) gI
theorem auq {T:TypeId} {m:Mk} {b o n N:Nat} {es:List KV} {acc:Nat->KV} {u:Value} {A:aC} {B:St} (h:gU P E A B) (hv:VK P E (.al T b o n) u) (ha:Om A b=some (.ts T m N es acc)) (gI:1<=bq P T) :
  ∃ bF,Src P E B T n ((es.drop o).take n) (fun i=>acc (o+i)) u bF:=by
 have row:∀ {x:Nat} {r:amC} {bF:List Value} {c:Nat},u = .slice (some ⟨x,o * bq P T,none⟩) n c->o+n<=N->ku P T N es acc->B.get x=some (.row r.cs r.ca r.own r.bV)->bp P E es bF->ss (bq P T) 0 r.cs bF->∃ bF,Src P E B T n ((es.drop o).take n) (fun i=>acc (o+i)) u bF:=by
  intro x r bF c hu hon ht hr UD hl;subst hu;have aoO:bF.length=N:=by rw [UD.length]; exact ht.len.symm
  have aoP:((es.drop o).take n).length=n:=by rw [pt,List.length_drop,<- ht.len]; omega
  have asu:((bF.drop o).take n).length=n:=by rw [pt,List.length_drop,aoO]; omega
  have hs:=sL ht.typed UD;refine ⟨(bF.drop o).take n,⟨aoP.symm,fun i hi=>?_,s6 fun i x hi=>?_⟩,(UD.drop o).take n,rfl,fun v hv=>(hs v (List.mem_of_mem_drop (List.mem_of_mem_take hv))).1,asu,fun k hk=>?_⟩
  ·rw [ht.acc (o+i) (by omega),iQ,iQ,rf,aW hi,rK]
  ·rw [rf] at hi
   split at hi
   ·rw [rK] at hi; exact lD ht.typed hi
   ·simp at hi
  ·have qc:=((hl.drop o).take n).take k
   rw [bk] at qc;exact RE hr qc (by rw [pt,asu]; omega) gI
 rcases hv.Bj with ⟨rfl,rfl,rfl⟩ | ⟨x,L,N0,c,h1,h2,h3,h4,h5⟩
 ·refine ⟨[],⟨by simp,fun i hi=>by omega,rfl⟩,by simpa using bp.nil,rfl,by simp,rfl,fun k hk=>?_⟩
  have:k=0:=by omega
  subst this;simp [A8,bP]
 ·unfold Om at ha
  split at ha
  ·rename_i v hb
   simp only [dE] at ha;subst ha;obtain ⟨T2,N2,tM,hJ,e,ht,_,Ce⟩:=h.ar.arr b _ hb;simp only [KV.ts.injEq] at e;obtain ⟨rfl,rfl,rfl,rfl,rfl⟩:=e;rcases Ce with ⟨_,e⟩ | ⟨x2,cs,bV,bF,e,h6,h7,h8⟩
   ·rw [h1] at e; simp at e
   ·rw [h1] at e
    simp only [dE,gF] at e;obtain ⟨rfl,rfl,rfl⟩:=e;exact row (r:=⟨cs,bq P T,true,bV⟩) h2 h4 ht h6 h7 h8
  ·rename_i v hb
   simp only [dE] at ha;subst ha;obtain ⟨T2,N2,tM,hJ,e,ht,_,Ce⟩:=h.ar.lR b _ hb;simp only [KV.ts.injEq] at e;obtain ⟨rfl,rfl,rfl,rfl,rfl⟩:=e;rcases Ce with ⟨_,e⟩ | ⟨x2,r,bF,e,h6,h6',h7,h8⟩
   ·rw [h1] at e; simp at e
   ·rw [h1] at e
    simp only [dE,gF] at e;obtain ⟨rfl,rfl,rfl⟩:=e;exact row h2 h4 ht (h.z _ _ h6) h7 h8
  ·simp at ha
theorem ap6 {A:aC} {B:St} {y:KV} {u:Value} {T:TypeId} {m:Mk} {n:Nat} {es:List KV} {acc:Nat->KV} (h:gU P E A B) (hv:VK P E y u) (hs:Uq A y=some (.ts T m n es acc)) (gI:1<=bq P T):∃ bF,Src P E B T n es acc u bF:=by
 unfold Uq at hs;split at hs
 ·rename_i T' b o k
  unfold akZ at hs;split at hs
  ·rename_i T2 _ _ tM hJ ha
   cases hb:Nat.beq T' T2 with
   | false=>rw [hb] at hs; simp at hs
   | true=>
    have:=bo hb;subst this;rw [hb,ai] at hs;simp only [dE,KV.ts.injEq] at hs;obtain ⟨rfl,rfl,rfl,rfl,rfl⟩:=hs;exact auq h hv ha gI
  ·simp at hs
 ·simp only [dE,KV.ts.injEq] at hs
  obtain ⟨rfl,rfl,rfl,rfl,rfl⟩:=hs;exact aup h hv gI
 ·simp at hs
theorem aoQ {e n b:Nat} (hn:bq P e=n) (h1n:1<=n) {E:Env} {A A' : aC} {B:St} {x v:KV} {u w:Value} {e' : TypeId} {mk:Mk} {k:Nat} {new:List KV} {acc:Nat->KV} (h:gU P E A B) (h1:VK P E x u)
  (hsr:Nat.beq e e' = true->∃ bF,Src P E B e' k new acc w bF) (hg:bf (Uo e n b A [x,.ts e' mk k new acc]) (v,A')):∃ r B' E',pw n b B [u,w] = some (r,B')/\VK P E' v r/\eT P E A B E' A' B':=by
 have zk:1<=bq P e:=by omega
 have put:∀ (E1:Env) (A1:aC) (m f k:Nat) (base new:List KV) (ab an:Nat->KV) (more:Bool) (A2:aC) (v:KV),bf (Z8 e n b m base ab A1 f k new an more) (v,A2)->
   (more=true/\Nat.ble ((m+k+512) * b) 17592186044416=true/\Nat.ble (m+k) 17592186044416=true/\(m=0\/0 < k))/\v = .ts e (.bm f) (m+k) (base++new) (dZ m ab an)/\A2=A1.put f (.bm (m+k) n):=by
  intro E1 A1 m f k base new ab an more A2 v hp;obtain ⟨hc,hp⟩:=bf.nF hp;simp only [j6,aD] at hc;simp only [gF] at hp;refine ⟨⟨hc.1,hc.2.1.1,hc.2.1.2,?_⟩,hp.1.symm,hp.2.symm⟩;have:=hc.2.2;simp only [u4,bX] at this;exact this.symm.imp (fun h=>bo h) id
 unfold Uo at hg;split at hg
 ·
  rename_i e9 mk9 k9 ap7 ap8 heq;simp only [List.cons.injEq,KV.ts.injEq,and_true] at heq;obtain ⟨rfl,rfl,rfl,rfl,rfl,rfl⟩:=heq;have:=h1.r6; subst this;obtain ⟨he,GK⟩:=hg.cond;clear hg;obtain ⟨cK,mM⟩:=hsr he;have:=bo he;subst this;obtain ⟨⟨_,EE,uE,asv⟩,rfl,rfl⟩:=put E _ _ _ _ _ _ _ _ _ _ _ GK;have PO:=mM.tree;have h3:=mM.rel;have h4:=mM.len;have h5:=mM.all;have h6:=mM.size;have h7:=mM.length;have h8:=PO.len.symm;rw [hn] at h5 h6;have EW:=eT.ap2 n h;have hAf:(A.new (.bm 0 n)).get A.next=some (.bm 0 n):=by simp
  have Ot:E.φ A.next=none:=by
   cases hq:E.φ A.next with
   | none=>rfl
   | some g=>have:=h.qD _ g hq; omega
  cases k with
  | zero=>
   have qv:new = []:=pq.1 h8;have ag3:cK = []:=pq.1 h7;subst qv ag3;refine ⟨.slice none 0 0,B,E,?_,?_,?_⟩
   ·simp only [pw,h4,gE]
    rw [h5];rfl
   ·simp only [VK]
    exact ⟨⟨rfl,fun i hi=>by omega,rfl⟩,[],.nil,none,0,rfl,aX _,.inl ⟨rfl,rfl⟩,rfl,.inl ⟨rfl,rfl⟩⟩
   ·exact EW.after (eT.ap5 n EW.kW hAf Ot)
  | succ k=>
   have hgr:=eT.grow (c:=bP cK) (top:=0) (XJ:=k+1) (sz:=n) (g:=B.next) (f:=A.next) EW.kW hAf (.inl ⟨Ot,rfl⟩) (by rw [kX h6,h7]) (by omega) (by omega);refine ⟨.slice (some ⟨B.next,0,none⟩) (k+1) (k+1),B.grow B.next 0 (bP cK) n,_,?_,?_,EW.after (by simpa using hgr)⟩
   ·simp only [bk] at EE uE
    simp only [pw,h4,gE,bk];rw [show Nat.ble (k+1) 0=false from rfl,aw,EE,uE,h5];rfl
   ·simp only [VK,bk,List.nil_append]
    have ag3:=h3.mono (Env.le_trans EW.le hgr.le);have hl:=qf h6;refine ⟨by have:=ku.none (P:=P) (T:=e) (g:=pE) |>.join PO; simpa using this,cK,ag3,_,_,rfl,aX _,.inr ⟨B.next,0,⟨bP cK,n,true,some (B.next,0)⟩,rfl,by simp [Env.wN,Env.ir],hn.symm,by rw [hn]; exact hl⟩,rfl,.inr ⟨B.next,⟨bP cK,n,true,some (B.next,0)⟩,B.next,rfl,by simp [Env.wN,Env.ir],rfl,by simp [Env.wN],rfl,?_⟩⟩;rw [hn];simp only;rw [kX h6,h7]
 ·
  rename_i e1 m es au6 e9 mk9 k9 ap7 ap8 heq;simp only [List.cons.injEq,KV.ts.injEq,and_true] at heq;obtain ⟨rfl,rfl,rfl,rfl,rfl,rfl⟩:=heq;obtain ⟨he,GK⟩:=hg.cond;clear hg;simp only [aD] at he;obtain ⟨cK,mM⟩:=hsr he.1;have:=bo he.1;subst this;have:=bo he.2;subst this;obtain ⟨⟨hk,EE,uE,asv⟩,rfl,rfl⟩:=put E _ _ _ _ _ _ _ _ _ _ _ GK;have hk:0 < k:=by rwa [bX] at hk
  have Cf:=h1.pH.1;have PO:=mM.tree;have h3:=mM.rel;have h4:=mM.len;have h5:=mM.all;have h6:=mM.size;have h7:=mM.length;have h8:=PO.len.symm;obtain ⟨vY,h3b,h4b,h5b,h6b,h7b,h8b,h9b⟩:=ag2 h h1 zk;rw [hn] at h5 h6 h5b h6b;obtain ⟨_,apM,zT,a,cap,rfl,ar5,ag4,aoR⟩:=h1.pH;obtain ⟨rfl,hmk⟩:=aoR;have EW:=eT.ap2 n h;have hAf:(A.new (.bm 0 n)).get A.next=some (.bm 0 n):=by simp
  have Ot:E.φ A.next=none:=by
   cases hq:E.φ A.next with
   | none=>rfl
   | some g=>have:=h.qD _ g hq; omega
  have hs:∀ v∈vY++cK,v.cells.size=n:=fun v hv=>by
   rcases mJ.1 hv with hv | hv
   ·exact h6b v hv
   ·exact h6 v hv
  have hlen:(bP (vY++cK)).length=(cap+k) * n:=by rw [kX hs,nY,h7b,h7]
  have hgr:=eT.grow (c:=bP (vY++cK)) (top:=0) (XJ:=cap+k) (sz:=n) (g:=B.next) (f:=A.next) EW.kW hAf (.inl ⟨Ot,rfl⟩) hlen (by omega) (by omega);refine ⟨.slice (some ⟨B.next,0,none⟩) (cap+k) (cap+k),B.grow B.next 0 (bP (vY++cK)) n,_,?_,?_,EW.after hgr⟩
  ·simp only [pw,h4,gE]
   have hnb:Nat.ble (cap+k) cap=false:=by
    cases hq:Nat.ble (cap+k) cap with
    | false=>rfl
    | true=>have:=gD hq; omega
   rw [hnb,aw,EE,uE];rcases ag4 with ⟨rfl,h0⟩ | ⟨b',off,r,rfl,hz,he2,qc⟩
   ·subst h0
    have:vY = []:=pq.1 h7b;subst this;simp only [yO,M0,bC];rw [show Nat.beq 0 0=true from rfl,ai,h5];simp [Ld]
   ·obtain ⟨r2,I9,ho,ap9,au7⟩:=hmk b' off rfl
    rw [hz] at I9;simp at I9;subst I9;have lC:=h.z b' r hz;have hex:yO B n cap (some ⟨b',off,none⟩)=true:=by
     simp only [yO,lC,ap9];rw [hn] at au7;simp [au7]
    rw [hex];simp only [bC,ai,h5,gE];simp only [A8] at h5b;have ZZ:Nat.beq r.ca n=true:=by rw [he2,hn]; simp
    simp only [Ld,dA,Option.isNone_none,ai,h5b,gE,lC,ZZ,ap9,ho];rw [<- CS]
  ·simp only [VK]
   have Gr:=(h3b.append h3).mono (Env.le_trans EW.le hgr.le);have hl:=qf hs;refine ⟨Cf.join PO,vY++cK,Gr,_,_,rfl,aX _,.inr ⟨B.next,0,⟨bP (vY++cK),n,true,some (B.next,0)⟩,rfl,by simp [Env.wN,Env.ir],hn.symm,by rw [hn]; exact hl⟩,rfl,.inr ⟨B.next,⟨bP (vY++cK),n,true,some (B.next,0)⟩,B.next,rfl,by simp [Env.wN,Env.ir],rfl,by simp [Env.wN],rfl,?_⟩⟩;rw [hn];exact hlen
 ·
  rename_i e1 f m es au6 e9 mk9 k9 ap7 ap8 heq;simp only [List.cons.injEq,KV.ts.injEq,and_true] at heq;obtain ⟨rfl,rfl,rfl,rfl,rfl,rfl⟩:=heq;split at hg
  ·rename_i top sz' ag5
   obtain ⟨he,GK⟩:=hg.cond;clear hg;simp only [aD] at he;obtain ⟨cK,mM⟩:=hsr he.1.1;have:=bo he.1.1;subst this;have:=bo he.1.2;subst this;have asp:=bo he.2;rw [asp] at ag5;obtain ⟨⟨W5,EE,uE,asv⟩,rfl,rfl⟩:=put E _ _ _ _ _ _ _ _ _ _ _ GK;have:=bo W5;subst this;have Cf:=h1.pH.1;have PO:=mM.tree;have h3:=mM.rel;have h4:=mM.len;have h5:=mM.all;have h6:=mM.size;have h7:=mM.length;have h8:=PO.len.symm;obtain ⟨vY,h3b,h4b,h5b,h6b,h7b,h8b,h9b⟩:=ag2 h h1 zk;rw [hn] at h5 h6 h5b h6b;obtain ⟨_,apM,zT,a,cap,rfl,ar5,ag4,aoR⟩:=h1.pH;obtain ⟨rfl,hmk⟩:=aoR;have hs:∀ v∈vY++cK,v.cells.size=n:=fun v hv=>by
    rcases mJ.1 hv with hv | hv
    ·exact h6b v hv
    ·exact h6 v hv
   have hlen:(bP (vY++cK)).length=(cap+k) * n:=by rw [kX hs,nY,h7b,h7]
   have avG:=h3b.append h3;have hl:=qf hs;have fin:∀ (E2:Env) (x g:Nat),E.le E2->E2.z x=some ⟨bP (vY++cK),n,true,some (g,0)⟩->E2.φ f=some g->VK P E2 (.ts e (.bm f) (cap+k) (es++new) (dZ cap au6 acc)) (.slice (some ⟨x,0,none⟩) (cap+k) (cap+k)):=by
    intro E2 x g hle hzx aws;simp only [VK];refine ⟨Cf.join PO,vY++cK,avG.mono hle,_,_,rfl,aX _,.inr ⟨x,0,_,rfl,hzx,hn.symm,by rw [hn]; exact hl⟩,rfl,.inr ⟨x,_,g,rfl,hzx,rfl,aws,rfl,?_⟩⟩;rw [hn];exact hlen
   rcases hmk with ⟨rfl,rfl⟩ | ⟨b',r,g,rfl,hz,ho,Ot,ap9,hcl⟩
   ·
    have hold:es = []:=pq.1 h8b;have ald:vY = []:=pq.1 h7b;subst hold ald;have Ot:E.φ f=none:=by
     rcases h.bm f 0 n ag5 with ⟨_,Lg⟩ | ⟨g2,_,Lg,_⟩
     ·exact Lg
     ·omega
    cases k with
    | zero=>
     have qv:new = []:=pq.1 h8;have ag3:cK = []:=pq.1 h7;subst qv ag3;refine ⟨.slice none 0 0,B,E,?_,?_,eT.ap5 n h ag5 Ot⟩
     ·simp only [pw,h4,gE]
      rw [h5];rfl
     ·simp only [VK]
      exact ⟨⟨rfl,fun i hi=>by omega,rfl⟩,[],.nil,none,0,rfl,aX _,.inl ⟨rfl,rfl⟩,rfl,.inl ⟨rfl,rfl⟩⟩
    | succ k=>
     have hgr:=eT.grow (c:=bP ([]++cK)) (top:=0) (XJ:=0+(k+1)) (sz:=n) (g:=B.next) (f:=f) h ag5 (.inl ⟨Ot,rfl⟩) hlen (by omega) (by omega);refine ⟨.slice (some ⟨B.next,0,none⟩) (0+(k+1)) (0+(k+1)),B.grow B.next 0 (bP ([]++cK)) n,_,?_,fin _ B.next B.next hgr.le (by simp [Env.wN,Env.ir]) (by simp [Env.wN]),hgr⟩;simp only [bk] at EE uE;simp only [pw,h4,gE,bk,List.nil_append];rw [show Nat.ble (k+1) 0=false from rfl,aw,EE,uE,h5];rfl
   ·
    have avH:0 < cap+k/\0 < k:=by
     rcases asv with h0 | h0
     ·subst h0
      rcases h.bm f 0 n ag5 with ⟨_,Lg⟩ | ⟨g2,_,Lg,_⟩
      ·rw [Ot] at Lg; simp at Lg
      ·omega
     ·exact ⟨by omega,h0⟩
    have lC:=h.z b' r hz;rw [ho,ap9] at lC;have ZZ:r.ca=n:=by
     rcases ag4 with ⟨h0,_⟩ | ⟨b2,asw,r2,e2,I9,he2,_⟩
     ·simp at h0
     ·simp at e2
      obtain ⟨rfl,rfl⟩:=e2;rw [hz] at I9;simp at I9;subst I9;rw [he2,hn]
    have avI:B.kill B.next (0+(0+cap * n)) (0+(0+cap * n)+(bP cK).length) (B.members g)=B:=by
     refine agY fun y hy=>?_;rcases h.bm f cap n ag5 with ⟨_,Lg⟩ | ⟨g2,Lg,_,h3'⟩
     ·rw [Ot] at Lg; simp at Lg
     ·rw [Ot] at Lg
      simp at Lg;subst Lg;cases hy2:B.get y with
      | none=>rfl
      | some o=>cases o with
       | row ox e2 M6 wD=>
        cases wD with
        | none=>rfl
        | some p=>
         obtain ⟨f2,k2⟩:=p;obtain ⟨rfl,hle2⟩:=h3' y hy ox e2 M6 f2 k2 hy2;simp only [vE,meets,bk];have:Nat.blt (cap * n) ox.length=false:=by
          cases hq:Nat.blt (cap * n) ox.length with
          | false=>rfl
          | true=>rw [bX] at hq; omega
         rw [this,wi]
       | _=>rfl
    have hgr:=eT.grow (c:=bP (vY++cK)) (top:=cap) (XJ:=cap+k) (sz:=n) (g:=g) (f:=f) h ag5 (.inr Ot) hlen (by omega) avH.1;refine ⟨.slice (some ⟨B.next,0,none⟩) (cap+k) (cap+k),B.grow g 0 (bP (vY++cK)) n,_,?_,fin _ B.next g hgr.le (by simp [Env.wN,Env.ir]) (by simp [Env.wN]),hgr⟩;have hnb:Nat.ble (cap+k) cap=false:=by
     cases hq:Nat.ble (cap+k) cap with
     | false=>rfl
     | true=>have:=gD hq; omega
    have hex:yO B n cap (some ⟨b',0,none⟩)=true:=by simp only [yO,lC]
    simp only [pw,h4,gE,hnb,aw,EE,uE,hex,bC,ai,h5];simp only [A8] at h5b;have awt:Nat.beq r.ca n=true:=by rw [ZZ]; simp
    simp only [Ld,dA,Option.isNone_none,ai,h5b,gE,lC,awt,avI,<- CS]
  ·exact hg.elim
 ·exact hg.elim
end Go.K
end
section
namespace Go.K
open Go Go.aE
variable {P:Program} {E:Env}
theorem eT.aur {A A1:aC} {B:St} {T:TypeId} {acc:Nat->KV} (h:gU P E A B) (xZ:A1.next=A.next) (RD:∀ c o,A1.get c=some o->A.get c=some o\/(o = .dead/\c < A.next)) (gI:1<=bq P T) :
  eT P E A B E (A1.new (.arr (.ts T .any 0 [] acc))) B:=by
 have asr:E.α A.next=none:=by
  cases hq:E.α A.next with
  | none=>rfl
  | some p=>have:=h.ar.ow _ p hq; omega
 have mi:∀ c o,(A1.new (.arr (.ts T .any 0 [] acc))).get c=some o->(c=A.next/\o = .arr (.ts T .any 0 [] acc))\/(o = .dead/\c < A.next)\/A.get c=some o:=fun c o hc=>by
  rw [aC.dN,xZ] at hc;split at hc
  ·rename_i e; simp at hc; exact .inl ⟨e,hc.symm⟩
  ·rcases RD c o hc with e | e
   ·exact .inr (.inr e)
   ·exact .inr (.inl e)
 have z7:∀ c v,(A1.new (.arr (.ts T .any 0 [] acc))).get c=some (.arr v)->E.α c=none\/A.get c=some (.arr v):=fun c v hc=>by
  rcases mi c _ hc with ⟨e,_⟩ | ⟨e,_⟩ | e
  ·exact .inl (by rw [e]; exact asr)
  ·simp at e
  ·exact .inr e
 have hA:∀ c v y L N,(A1.new (.arr (.ts T .any 0 [] acc))).get c=some (.arr v)->E.α c=some (y,L,N)->A.get c=some (.arr v):=fun c v y L N hc hy=>by
  rcases z7 c v hc with e | e
  ·rw [e] at hy; simp at hy
  ·exact e
 have vI:∀ y,AR (A1.new (.arr (.ts T .any 0 [] acc))) E y->AR A E y:=fun y ⟨c,v,L,N,h1,h2⟩=>⟨c,v,L,N,hA c v _ _ _ h1 h2,h2⟩
 have Ov:∀ g,AF (A1.new (.arr (.ts T .any 0 [] acc))) E B g->AF A E B g:=fun g ⟨c,v,x,L,N,cs,e,own,k,h1,h2,h3⟩=>⟨c,v,x,L,N,cs,e,own,k,hA c v _ _ _ h1 h2,h2,h3⟩
 refine ⟨⟨fun c cs ca hc=>?_,fun c top sz hc=>?_,h.z,h.apart,h.inj,?_,fun b x e=>by rw [aC.cB,xZ]; have:=h.ow b x e; omega,fun b g e=>by rw [aC.cB,xZ]; have:=h.qD b g e; omega,fun c o hc=>?_,h.jc,h.qX,h.mL,h.fresh,h.mem,?_⟩,Env.le_refl _,by rw [aC.cB,xZ]; omega,fun _ _ _ _=>rfl,fun _ _ e=>.inl e,fun _ _ e=>.inl e,fun _ _ e=>.inl e,fun _ _ _ _=>rfl,fun x q=>.inl (vI x q),fun g q=>.inl (Ov g q),fun _ _ q=>.inl q,fun y q=>.inl (q.imp (vI y) fun ⟨g,q1,q2⟩=>⟨g,Ov g q1,q2⟩),qF fun _ _=>rfl⟩
 ·rcases mi c _ hc with ⟨_,e⟩ | ⟨e,_⟩ | e
  ·simp at e
  ·simp at e
  ·exact h.row c cs ca e
 ·rcases mi c _ hc with ⟨_,e⟩ | ⟨e,_⟩ | e
  ·simp at e
  ·simp at e
  ·exact h.bm c top sz e
 ·intro b c g tb sb tc sc hb hc e1 e2
  rcases mi b _ hb with ⟨_,e⟩ | ⟨e,_⟩ | hb
  ·simp at e
  ·simp at e
  rcases mi c _ hc with ⟨_,e⟩ | ⟨e,_⟩ | hc
  ·simp at e
  ·simp at e
  exact h.lT b c g _ _ _ _ hb hc e1 e2
 ·rw [aC.cB,xZ]
  rcases mi c _ hc with ⟨e,_⟩ | ⟨_,e⟩ | e
  ·omega
  ·omega
  ·have:=h.live c o e; omega
 ·refine ⟨fun c v hc=>?_,fun c v hc=>?_,fun x q=>h.ar.z x (vI x q),fun b c v u x L N L' N' h1 h2 h3 h4=>h.ar.inj b c v u x L N L' N' (hA b v _ _ _ h1 h3) (hA c u _ _ _ h2 h4) h3 h4,fun b c v u x y L N L' N' cs e own g k ck e' tP k' h1 h2 h3 h4=>h.ar.zj b c v u x y L N L' N' cs e own g k ck e' tP k' (hA b v _ _ _ h1 h3) (hA c u _ _ _ h2 h4) h3 h4,h.ar.dis,fun b p e=>by rw [aC.cB,xZ]; have:=h.ar.ow b p e; omega,h.ar.jc,fun b v x L N cs e own g k h1 h2 h3=>?_,fun c v hc=>?_⟩
  ·rcases mi c _ hc with ⟨e,e2⟩ | ⟨e,_⟩ | e
   ·simp at e2
    subst e2;exact ⟨T,0,[],acc,rfl,⟨rfl,fun i hi=>by omega,rfl⟩,gI,.inl ⟨rfl,by rw [e]; exact asr⟩⟩
   ·simp at e
   ·exact h.ar.arr c v e
  ·rcases mi c _ hc with ⟨_,e⟩ | ⟨e,_⟩ | e
   ·simp at e
   ·simp at e
   ·exact h.ar.lR c v e
  ·obtain ⟨q1,q2,q3⟩:=h.ar.xG b v x L N cs e own g k (hA b v _ _ _ h1 h2) h2 h3
   exact ⟨q1,q2,fun y hy eU=>⟨(q3 y hy eU).1,fun q=>(q3 y hy eU).2.1 (vI y q),(q3 y hy eU).2.2⟩⟩
  ·rw [aC.cB,xZ]
   rcases mi c _ hc with ⟨e,_⟩ | ⟨e,_⟩ | e
   ·rw [e]
    refine ⟨Nat.lt_succ_self _,?_⟩;cases hk:E.κ A.next with
    | none=>rfl
    | some x=>have:=h.ow _ x hk; omega
   ·simp at e
   ·obtain ⟨q1,q2⟩:=h.ar.nk c v e
    exact ⟨by omega,q2⟩
theorem amT {E:Env} {T:TypeId} {b x L N n c:Nat} (ve:E.α b=some (x,L,N)) (h1:n<=c) (h2:n<=N) (h3:c * bq P T=L):VK P E (.al T b 0 n) (.slice (some ⟨x,0,none⟩) n c):=
 .XD (.inr ⟨x,L,N,c,ve,by simp,h1,by omega,by rw [bk]; exact h3⟩)
theorem amU {T b n:Nat} {z:Value} (hn:bq P T=n) (h1n:1<=n) (hz:z.cells.size=n) (he:cG (bw P T) (K.ib (bw P T) (iU z))=true):ajZ P (acg T b (K.ib (bw P T) (iU z))) (Im n b z):=by
 intro E A A' B vs us v h hv hg;unfold acg at hg;split at hg
 ·rename_i k l k' c
  obtain ⟨x,y,rfl,h1,h2⟩:=hv.nP;have:=h1.dP; subst this;have:=h2.dP; subst this;obtain ⟨hc,hg⟩:=bf.nF hg;simp only [gF] at hg;obtain ⟨rfl,rfl⟩:=hg;simp only [aD,lz] at hc;obtain ⟨⟨h3,h4⟩,h5⟩:=hc;obtain ⟨l',rfl⟩:=Int.eq_ofNat_of_zero_le h3;obtain ⟨c',rfl⟩:=Int.eq_ofNat_of_zero_le (Int.le_trans h3 h4);have h6:Nat.ble l' c' = true:=Nat.ble_eq_true_of_le (by omega);have hs:∀ v∈List.replicate c' z,v.cells.size=n:=fun v hv=>by rw [List.eq_of_mem_replicate hv]; exact hz
  have hlen:(bP (List.replicate c' z)).length=c' * n:=by rw [kX hs,List.length_replicate]
  have RG:∀ m,eN [K.ib (bw P T) (iU z)] m=List.replicate m (K.ib (bw P T) (iU z)):=fun m=>by
   induction m with
   | zero=>rfl
   | succ m ih=>simp [eN,ih,List.replicate_succ]
  have jL:=eT.aaj (P:=P) (X:=fun _=>False) (G:=fun _=>False) (y2:=B.next) (N2:=c') (T:=T) (tM:=eN [K.ib (bw P T) (iU z)] c') (hJ:=fun _=>K.ib (bw P T) (iU z)) (JV:=List.replicate c' z) (ox:=bP (List.replicate c' z)) (wD:=none) (A1:=A) (B':=B.new (.row (bP (List.replicate c' z)) n true none)) h rfl (fun _ _ e=>.inl e) (fun _ _ _ _ _ _ _=>⟨id,fun _ _ _ _ _ _=>id⟩) (fun _ e=>e.elim) (fun _ e=>e.elim) (.inr (aX _)) (by simp) (by simp [hn]) (fun _ _ e=>by simp at e)
   (fun y hy _=>.inl (by rw [St.dN,aB (by omega)])) (fun _ e=>e.elim) (fun q y hy=>.inl (by simpa using hy)) (fun q _=>by simp) (by simp) (fun g hg=>by rw [St.n3]; exact h.fresh g (by rw [St.cB] at hg; omega)) (fun g y hy=>by rw [St.n3] at hy; rw [St.cB]; have:=h.mem g y hy; omega)
   (by omega) ⟨by rw [RG]; simp,fun i hi=>by rw [RG,iQ,List.getElem?_replicate,aW hi]; rfl,by
    rw [RG];exact s6 fun i x hx=>by rw [List.getElem?_replicate] at hx; split at hx <;> simp at hx; subst hx; exact he⟩ (by
    rw [RG];generalize c' = m
    induction m with
    | zero=>exact .nil
    | succ m ih=>exact .cons (VK.iU z).ib ih) (by rw [hn]; exact qf hs)
  refine ⟨.row (ia z.cells.toList c') n true none,fun k=>.slice (some ⟨k,0,none⟩) l' c',E.JY A.next (B.next,(bP (List.replicate c' z)).length,c'),?_,?_,?_⟩
  ·have h5:Nat.ble (b * c') 281474976710656=true:=h5
   show cond (Nat.ble l' c'&&Nat.ble (b * c') 281474976710656) _ _=_;rw [h6,h5];rfl
  ·exact amT Env.GL (by omega) (by show l'<=c'; omega) (by rw [hn,hlen])
  ·rw [Kr]; exact jL
 ·exact hg.elim
theorem aq2 {T b n:Nat} {z:Value} (hn:bq P T=n) (_:1<=n) (hz:z.cells.size=n) (he:cG (bw P T) (K.ib (bw P T) (iU z))=true):asn P (ak0 T b (K.ib (bw P T) (iU z))) (Im n b z):=by
 intro E A B vs us v h hv hg;unfold ak0 at hg;split at hg
 ·rename_i k l k' c
  obtain ⟨x,y,rfl,h1,h2⟩:=hv.nP;have:=h1.dP; subst this;have:=h2.dP; subst this;obtain ⟨hc,hg⟩:=bf.nF hg;subst hg;simp only [aD,lz] at hc;obtain ⟨⟨h3,h4⟩,h5⟩:=hc;obtain ⟨l',rfl⟩:=Int.eq_ofNat_of_zero_le h3;obtain ⟨c',rfl⟩:=Int.eq_ofNat_of_zero_le (Int.le_trans h3 h4);have MU:l'<=c':=by omega
  have h6:Nat.ble l' c' = true:=Nat.ble_eq_true_of_le MU;have hs:∀ v∈List.replicate c' z,v.cells.size=n:=fun v hv=>by rw [List.eq_of_mem_replicate hv]; exact hz
  have RG:∀ m,eN [K.ib (bw P T) (iU z)] m=List.replicate m (K.ib (bw P T) (iU z)):=fun m=>by
   induction m with
   | zero=>rfl
   | succ m ih=>simp [eN,ih,List.replicate_succ]
  have Gr:∀ m,bp P E (List.replicate m (K.ib (bw P T) (iU z))) (List.replicate m z):=fun m=>by
   induction m with
   | zero=>exact .nil
   | succ m ih=>exact .cons (VK.iU z).ib ih
  refine ⟨.row (ia z.cells.toList c') n true none,fun k=>.slice (some ⟨k,0,none⟩) l' c',E.ir B.next ⟨bP (List.replicate c' z),n,true,none⟩,?_,?_,?_⟩
  ·have h5:Nat.ble (b * c') 281474976710656=true:=h5
   show cond (Nat.ble l' c'&&Nat.ble (b * c') 281474976710656) _ _=_;rw [h6,h5];rfl
  ·have aoK:=(Gr l').mono (eT.ap0 (ck:=bP (List.replicate c' z)) (ca:=n) h).le
   simp only [VK];refine ⟨⟨by rw [RG]; simp,fun i hi=>by rw [RG,iQ,List.getElem?_replicate,aW hi]; rfl,by
    rw [RG];exact s6 fun i x hx=>by rw [List.getElem?_replicate] at hx; split at hx <;> simp at hx; subst hx; exact he⟩,List.replicate l' z,by rw [RG]; exact aoK,some ⟨B.next,0,none⟩,c',rfl,MU,.inr ⟨B.next,0,⟨bP (List.replicate c' z),n,true,none⟩,rfl,by simp [Env.ir],hn.symm,?_⟩,trivial⟩
   rw [hn];intro i x hx;rw [List.getElem?_replicate] at hx;split at hx
   ·rename_i hi
    refine qf hs i x ?_;rw [List.getElem?_replicate,aW (by have hi:i < l':=hi; omega)];exact hx
   ·simp at hx
  ·rw [Kr]; exact eT.ap0 h
 ·exact hg.elim
theorem acq {sz:Nat} {cs:List Value} {xs ys:List Value} (h:ss sz 0 cs xs) (k:ss sz (xs.length * sz) cs ys):ss sz 0 cs (xs++ys):=fun i x hi=>by
 by_cases bu:i < xs.length
 ·rw [uk bu] at hi; exact h i x hi
 ·rw [wg (by omega)] at hi
  obtain ⟨h1,h2⟩:=k _ x hi;refine ⟨h1,fun j y hy=>?_⟩;rw [<- h2 j y hy];congr 1;have:i * sz=xs.length * sz+(i - xs.length) * sz:=by rw [<- Nat.add_mul]; congr 1; omega
  omega
theorem ad3 {sz o:Nat} {cs r news:List Value} (hs:∀ v∈news,v.cells.size=sz) (hw:jt (o * sz) cs (bP news)=some r):ss sz (o * sz) r news:=fun i x hi=>by
 have Pq:=qf hs i x hi;have hlen:=kX hs;obtain ⟨_,_,h3⟩:=ko hw;refine ⟨Pq.1,fun k y hy=>?_⟩;have h4:=Pq.2 k y hy;rw [bk] at h4;rw [h3,aW ⟨by omega,by have:=(dB.1 h4).1; omega⟩,<- h4];congr 1;omega
theorem ag6 {sz o:Nat} {cs r vs es:List Value} (hl:ss sz 0 cs es) (ho:es.length<=o) (hw:jt (o * sz) cs vs=some r) (_:1<=sz):ss sz 0 r es:=fun i x hi=>by
 obtain ⟨h1,h2⟩:=hl i x hi;obtain ⟨_,_,h3⟩:=ko hw;refine ⟨h1,fun k y hy=>?_⟩;have hk:k < sz:=by have:=(EN.1 hy).1; omega
 have Yq:=(dB.1 hi).1;have bu:0+i * sz+k < o * sz:=by
  have:(i+1) * sz<=o * sz:=Nat.mul_le_mul_right _ (by omega);rw [Nat.add_mul] at this;omega
 rw [h3,aB (by omega)];exact h2 k y hy
theorem aoS {A:aC} {B:St} {f:Nat} {o0:la} (h:gU P E A B) (hA:A.get f=some o0):∀ c o,(A.put f .dead).get c=some o->A.get c=some o\/(o = .dead/\c < A.next):=fun c o hc=>by
 rw [aC.cn] at hc;split at hc
 ·rename_i e; simp at hc; subst hc e; exact .inr ⟨rfl,h.live _ _ hA⟩
 ·exact .inl hc
theorem aak {B:St} {g k:Nat} {c:List Value} {n:Nat} (_:g<=B.next):(∀ x,(B.grow g k c n).get x=if x=B.next then some (.row c n true (some (g,k))) else B.get x)/\(∀ q,(B.grow g k c n).members q=if q=g then B.next::B.members g else B.members q)/\(B.grow g k c n).next=B.next+1:=
 ⟨fun x=>by simp [St.grow],fun q=>by simp [St.grow,St.HQ],rfl⟩
theorem ag7 {e b:Nat} {E:Env} {A A' : aC} {B:St} {x v:KV} {u w:Value} {e' : TypeId} {mk:Mk} {k:Nat} {new:List KV} {acc:Nat->KV} (zk:1<=bq P e) (h:gU P E A B) (h1:VK P E x u)
  (hsr:Nat.beq e e' = true->∃ bF,Src P E B e' k new acc w bF) (hg:bf (KY e b A [x,.ts e' mk k new acc]) (v,A')):∃ r B' E',pw (bq P e) b B [u,w] = some (r,B')/\VK P E' v r/\eT P E A B E' A' B':=by
 have put:∀ (A1:aC) (m:Nat) (base:List KV) (ab:Nat->KV) (more:Bool) (A2:aC) (v:KV),bf (afT e b m base ab A1 k new acc more) (v,A2)->
   (more=true/\Nat.ble ((m+k+512) * b) 17592186044416=true/\Nat.ble (m+k) 17592186044416=true)/\v = .al e A1.next 0 (m+k)/\A2=A1.new (.arr (.ts e .any (m+k) (base++new) (dZ m ab acc))):=by
  intro A1 m base ab more A2 v hp;obtain ⟨hc,hp⟩:=bf.nF hp;simp only [apU,aD] at hc;simp only [gF] at hp;exact ⟨⟨hc.1,hc.2.1,hc.2.2⟩,hp.1.symm,hp.2.symm⟩
 have nil:∀ (A1:aC) (base:List KV) (ab:Nat->KV),base = []->A1.next=A.next->(∀ c o,A1.get c=some o->A.get c=some o\/(o = .dead/\c < A.next))->(∃ bF,Src P E B e k new acc w bF)->Nat.ble ((0+k+512) * b) 17592186044416=true->Nat.ble (0+k) 17592186044416=true->
   ∃ r B' E',pw (bq P e) b B [.slice none 0 0,w] = some (r,B')/\VK P E' (.al e A.next 0 (0+k)) r/\eT P E A B E' (A1.new (.arr (.ts e .any (0+k) (base++new) (dZ 0 ab acc)))) B':=by
  intro A1 base ab ag4 hn1 hr1 ⟨cK,mM⟩ EE uE;subst ag4;have hj:ku P e (0+k) ([]++new) (dZ 0 ab acc):=(ku.none (P:=P) (T:=e) (g:=ab)).join mM.tree;cases k with
  | zero=>
   have qv:new = []:=pq.1 mM.tree.len.symm;subst qv;refine ⟨.slice none 0 0,B,E,?_,.XD (.inl ⟨rfl,rfl,rfl⟩),eT.aur h hn1 hr1 zk⟩;simp only [pw,mM.len,gE,mM.all];rfl
  | succ k=>
   obtain ⟨g1,g2,g3⟩:=aak (B:=B) (g:=B.next) (k:=0) (c:=bP cK) (n:=bq P e) (aX _);have hlen:(bP cK).length=(k+1) * bq P e:=by rw [kX mM.size,mM.length]
   refine ⟨.slice (some ⟨B.next,0,none⟩) (k+1) (k+1),B.grow B.next 0 (bP cK) (bq P e),E.JY A.next (B.next,(bP cK).length,0+(k+1)),?_,?_,?_⟩
   ·simp only [bk] at EE uE
    simp only [pw,mM.len,gE,bk];rw [show Nat.ble (k+1) 0=false from rfl,aw,EE,uE,mM.all];rfl
   ·rw [bk]; exact amT Env.GL (aX _) (by omega) (by rw [hlen])
   ·generalize B.grow B.next 0 (bP cK) (bq P e)=B' at g1 g2 g3
    exact eT.aaj (X:=fun _=>False) (G:=fun _=>False) (y2:=B.next) (wD:=some (B.next,0)) h hn1 hr1 (fun _ _ _ _ _ _ _=>⟨id,fun _ _ _ _ _ _=>id⟩) (fun _ e=>e.elim) (fun _ e=>e.elim) (.inr (aX _)) (by omega) (by rw [g1,aW rfl]) (fun g k e=>by simp at e; exact .inr (by omega))
     (fun y hy _=>.inl (by rw [g1,aB (by omega)])) (fun _ e=>e.elim) (fun q y hy=>by
      rw [g2] at hy;split at hy
      ·rename_i e
       subst e;rcases ff.1 hy with hy | hy
       ·exact .inr ⟨hy,aX _,0,rfl⟩
       ·exact .inl hy
      ·exact .inl hy) (fun q hq=>by rw [g2,aB (fun e=>hq 0 (by rw [e]))]) (by omega) (fun g hg=>by rw [g2,aB (by omega)]; exact h.fresh g (by omega)) (fun g y hy=>by
      rw [g2] at hy;split at hy
      ·rcases ff.1 hy with hy | hy
       ·omega
       ·have:=h.mem _ y hy; omega
      ·have:=h.mem g y hy; omega) zk hj (by simpa using mM.rel) (qf mM.size)
 unfold KY at hg;split at hg
 ·rename_i e9 mk9 k9 ap7 ap8 heq
  simp only [List.cons.injEq,KV.ts.injEq,and_true] at heq;obtain ⟨rfl,rfl,rfl,rfl,rfl,rfl⟩:=heq;have:=h1.r6; subst this;obtain ⟨he,GK⟩:=hg.cond;have mM:=hsr he;have:=bo he;subst this;obtain ⟨⟨_,EE,uE⟩,rfl,rfl⟩:=put _ _ _ _ _ _ _ GK;exact nil A [] pE rfl rfl (fun _ _ e=>.inl e) mM EE uE
 ·rename_i e1 f o n e9 mk9 k9 ap7 ap8 heq
  simp only [List.cons.injEq,KV.ts.injEq,and_true] at heq;obtain ⟨rfl,rfl,rfl,rfl,rfl,rfl⟩:=heq;split at hg
  ·rename_i e2 mk2 N es ac hf
   obtain ⟨he,GK⟩:=hg.cond;simp only [aD] at he;obtain ⟨cK,mM⟩:=hsr he.1.1;have:=bo he.1.1;subst this;have:=bo he.1.2;subst this;have:=bo he.2;subst this;obtain ⟨⟨ho,EE,uE⟩,rfl,rfl⟩:=put _ _ _ _ _ _ _ GK;have:=bo ho;subst this;have RD:=aoS h hf;rcases h1.Bj with ⟨rfl,_,rfl⟩ | ⟨x,L,N0,c,h2,rfl,h3,h4,h5⟩
   ·exact nil (A.put f .dead) (es.take 0) ac (by simp) rfl RD ⟨cK,mM⟩ EE uE
   ·obtain ⟨T2,N2,tM,hJ,e2,ht,_,Ce⟩:=h.ar.arr f _ hf
    simp only [KV.ts.injEq] at e2;obtain ⟨rfl,rfl,rfl,rfl,rfl⟩:=e2;rcases Ce with ⟨_,e2⟩ | ⟨x2,cs,bV,bF,e2,h6,h7,h8⟩
    ·rw [h2] at e2; simp at e2
    rw [h2] at e2;simp only [dE,gF] at e2;obtain ⟨rfl,rfl,rfl⟩:=e2;have vI:AR A E x:=⟨f,_,_,_,hf,h2⟩
    have hxlt:x < B.next:=h.Nh vI;have aoO:bF.length=N0:=by rw [h7.length]; exact ht.len.symm
    have hs:=sL ht.typed h7;have htk:ku P e n (es.take n) ac:=⟨by rw [pt,<- ht.len]; omega,fun i hi=>by rw [ht.acc i (by omega),iQ,iQ,rf,aW hi],s6 fun i x hi=>by
     rw [rf] at hi;split at hi
     ·exact lD ht.typed hi
     ·simp at hi⟩
    have hj:=htk.join mM.tree;have Ul:(bF.take n).length=n:=by rw [pt]; omega
    have awu:∀ v∈bF.take n,v.cells.size=bq P e:=fun v hv=>(hs v (List.mem_of_mem_take hv)).1;have Gr:=(h7.take n).append mM.rel;have h5:c * bq P e=cs.length:=by simpa using h5
    have uo:∀ c v,(A.put f .dead).get c=some (.arr v)->c≠f/\A.get c=some (.arr v):=fun c v hc=>by
     rw [aC.cn] at hc;split at hc
     ·simp at hc
     ·rename_i e; exact ⟨e,hc⟩
    have hf1:∀ c v,(A.put f .dead).get c=some (.arr v)->∀ y L N,E.α c=some (y,L,N)->¬ (y=x)/\∀ sJ e1 own g k1,B.get y=some (.row sJ e1 own (some (g,k1)))->¬ (∃ k,bV=some (g,k)):=fun c v hc y L N hy=>by
     obtain ⟨eU,hc⟩:=uo c v hc;refine ⟨fun e=>eU (h.ar.inj c f v _ x L N _ _ hc hf (by rw [<- e]; exact hy) h2),fun sJ e1 own g k1 hr ⟨k2,hk⟩=>?_⟩;rw [hk] at h6;exact eU (h.ar.zj c f v _ y x L N _ _ _ _ _ g k1 _ _ _ k2 hc hf hy h2 hr h6)
    have hf3:∀ g,(∃ k,bV=some (g,k))->AF A E B g/\g < B.next/\(∀ f,E.φ f≠some g)/\∀ y∈B.members g,¬ (y=x)->E.z y=none/\¬ AR A E y/\∀ c,E.κ c≠some y:=fun g ⟨k2,hk⟩=>by
     rw [hk] at h6;obtain ⟨q1,q2,q3⟩:=h.ar.xG f _ x _ _ _ _ _ g k2 hf h2 h6;exact ⟨⟨f,_,x,_,_,_,_,_,k2,hf,h2,h6⟩,q1,q2,fun y hy eU=>q3 y hy eU⟩
    have aus:dA (⟨x,0 * bq P e,none⟩:Addr)=true:=rfl;by_cases s4:n+k<=c
    ·
     have hle:n * bq P e+(bP cK).length<=cs.length:=by
      rw [kX mM.size,mM.length,<- h5,<- Nat.add_mul];exact Nat.mul_le_mul_right _ s4
     obtain ⟨ox,hw⟩:=Fb (n * bq P e) cs (bP cK) hle;have hcl:ox.length=cs.length:=(ko hw).1;have hsc:(bP cK).all scalar=true:=im.2 (HU fun v hv=>(sL mM.tree.typed mM.rel v hv).2);have hb:Nat.ble (n+k) c=true:=Nat.ble_eq_true_of_le s4;refine ⟨.slice (some ⟨x,0 * bq P e,none⟩) (n+k) c,(B.put x (.row ox (bq P e) true bV)).fE x bV (n * bq P e) (n * bq P e+(bP cK).length),E.JY A.next (x,ox.length,n+k),?_,?_,?_⟩
     ·simp only [pw,mM.len,gE,hb,ai,mM.all,aus]
      simp only [St.Dd,dA,Option.isNone_none,M0,hsc,ai,Nat.zero_mul,bk,h6,hw,Option.map_some]
     ·rw [Nat.zero_mul]; exact amT Env.GL s4 (aX _) (by rw [hcl]; exact h5)
     ·have lA:((B.put x (.row ox (bq P e) true bV)).fE x bV (n * bq P e) (n * bq P e+(bP cK).length)).get x=some (.row ox (bq P e) true bV):=by
       rcases Kt (B:=B.put x (.row ox (bq P e) true bV)) (x:=x) (y:=x) (lo:=n * bq P e) (hi:=n * bq P e+(bP cK).length) (bV:=bV) with e | ⟨g,k,_,_,h3,_⟩
       ·rw [e]; simp
       ·exact absurd rfl h3
      have hgy:∀ y,y≠x->((B.put x (.row ox (bq P e) true bV)).fE x bV (n * bq P e) (n * bq P e+(bP cK).length)).get y=B.get y\/(((B.put x (.row ox (bq P e) true bV)).fE x bV (n * bq P e) (n * bq P e+(bP cK).length)).get y=some .dead/\∃ g,(∃ k,bV=some (g,k))/\y∈B.members g):=by
       intro y hy;rcases Kt (B:=B.put x (.row ox (bq P e) true bV)) (x:=x) (y:=y) (lo:=n * bq P e) (hi:=n * bq P e+(bP cK).length) (bV:=bV) with e | ⟨g,k,h1,h2,_,h4,_⟩
       ·exact .inl (by rw [e,St.cn,aB hy])
       ·exact .inr ⟨h4,g,⟨k,h1⟩,by simpa using h2⟩
      have oC:((B.put x (.row ox (bq P e) true bV)).fE x bV (n * bq P e) (n * bq P e+(bP cK).length)).members=B.members:=by rw [PM]; simp
      have kr:((B.put x (.row ox (bq P e) true bV)).fE x bV (n * bq P e) (n * bq P e+(bP cK).length)).next=B.next:=by rw [XK]; simp
      generalize (B.put x (.row ox (bq P e) true bV)).fE x bV (n * bq P e) (n * bq P e+(bP cK).length)=B' at lA hgy oC kr;have hli:ss (bq P e) 0 ox (bF.take n++cK):=acq (ag6 (h8.take n) (by omega) hw zk) (by rw [Ul]; exact ad3 mM.size hw);exact eT.aaj (A1:=A.put f .dead) (X:=fun y=>y=x) (G:=fun g=>∃ k,bV=some (g,k)) (y2:=x) (wD:=bV) h rfl RD hf1 (fun y hy=>by rw [hy]; exact vI) hf3 (.inl rfl) (by omega) lA (fun g k hk=>.inl ⟨k,hk⟩)
       (fun y _ eU=>hgy y eU) (fun y hy sJ e1 own aai hr=>by
        rw [hy,lA] at hr;simp at hr;obtain ⟨rfl,rfl,rfl,rfl⟩:=hr;rw [hy];exact ⟨cs,h6,hcl.symm⟩) (fun q y hy=>.inl (by rw [oC] at hy; exact hy)) (fun q _=>by rw [oC]) (by omega) (fun g hg=>by rw [oC]; exact h.fresh g (by omega)) (fun g y hy=>by rw [oC] at hy; rw [kr]; exact h.mem g y hy) zk hj Gr hli
    ·
     have hb:Nat.ble (n+k) c=false:=by
      cases hq:Nat.ble (n+k) c with
      | false=>rfl
      | true=>exact absurd (gD hq) s4
     have hex:yO B (bq P e) c (some ⟨x,0 * bq P e,none⟩)=true:=by
      simp only [yO,h6];cases bV with
      | none=>simp [h5]
      | some p=>rfl
     have hold:B.Cb ⟨x,0 * bq P e,none⟩ (n * bq P e)=some (bP (bF.take n)):=by
      have:=RE (B:=B) (b:=x) (off:=0) (n:=n) (sz:=bq P e) (r:=⟨cs,bq P e,true,bV⟩) (bF:=bF.take n) h6 (h8.take n) Ul zk;simpa using this
     have aoT:∀ v∈bF.take n++cK,v.cells.size=bq P e:=fun v hv=>by
      rcases mJ.1 hv with hv | hv
      ·exact awu v hv
      ·exact mM.size v hv
     have hlen:(bP (bF.take n++cK)).length=(n+k) * bq P e:=by rw [kX aoT,nY,Ul,mM.length]
     cases bV with
     | none=>
      obtain ⟨g1,g2,g3⟩:=aak (B:=B) (g:=B.next) (k:=0) (c:=bP (bF.take n++cK)) (n:=bq P e) (aX _);refine ⟨.slice (some ⟨B.next,0,none⟩) (n+k) (n+k),B.grow B.next 0 (bP (bF.take n++cK)) (bq P e),E.JY A.next (B.next,(bP (bF.take n++cK)).length,n+k),?_,?_,?_⟩
      ·simp only [pw,mM.len,gE,hb,aw,EE,uE,hex,bC,ai,mM.all]
       simp only [Ld,dA,Option.isNone_none,ai,hold,gE,h6,nA,<- CS]
      ·exact amT Env.GL (aX _) (aX _) (by rw [hlen])
      ·generalize B.grow B.next 0 (bP (bF.take n++cK)) (bq P e)=B' at g1 g2 g3
       exact eT.aaj (A1:=A.put f .dead) (X:=fun _=>False) (G:=fun _=>False) (y2:=B.next) (wD:=some (B.next,0)) h rfl RD (fun _ _ _ _ _ _ _=>⟨id,fun _ _ _ _ _ _=>id⟩) (fun _ e=>e.elim) (fun _ e=>e.elim) (.inr (aX _)) (by omega) (by rw [g1,aW rfl]) (fun g k e=>by simp at e; exact .inr (by omega))
        (fun y hy _=>.inl (by rw [g1,aB (by omega)])) (fun _ e=>e.elim) (fun q y hy=>by
         rw [g2] at hy;split at hy
         ·rename_i e
          subst e;rcases ff.1 hy with hy | hy
          ·exact .inr ⟨hy,aX _,0,rfl⟩
          ·exact .inl hy
         ·exact .inl hy) (fun q hq=>by rw [g2,aB (fun e=>hq 0 (by rw [e]))]) (by omega) (fun g hg=>by rw [g2,aB (by omega)]; exact h.fresh g (by omega)) (fun g y hy=>by
         rw [g2] at hy;split at hy
         ·rcases ff.1 hy with hy | hy
          ·omega
          ·have:=h.mem _ y hy; omega
         ·have:=h.mem g y hy; omega) zk hj Gr (qf aoT)
     | some p=>
      obtain ⟨g,k0⟩:=p;have hgB:g < B.next:=(hf3 g ⟨k0,rfl⟩).2.1;have kg:∀ y,(B.kill B.next (k0+(0+n * bq P e)) (k0+(0+n * bq P e)+(bP cK).length) (B.members g)).get y=B.get y\/((B.kill B.next (k0+(0+n * bq P e)) (k0+(0+n * bq P e)+(bP cK).length) (B.members g)).get y=some .dead/\y∈B.members g):=fun y=>by
       rw [GA];by_cases hc:y∈B.members g/\y≠B.next/\vE (B.get y) (k0+(0+n * bq P e)) (k0+(0+n * bq P e)+(bP cK).length)=true
       ·exact .inr ⟨by rw [aW hc],hc.1⟩
       ·exact .inl (by rw [aB hc])
      have km:(B.kill B.next (k0+(0+n * bq P e)) (k0+(0+n * bq P e)+(bP cK).length) (B.members g)).members=B.members:=by simp
      have kn:(B.kill B.next (k0+(0+n * bq P e)) (k0+(0+n * bq P e)+(bP cK).length) (B.members g)).next=B.next:=by simp
      obtain ⟨g1,g2,g3⟩:=aak (B:=B.kill B.next (k0+(0+n * bq P e)) (k0+(0+n * bq P e)+(bP cK).length) (B.members g)) (g:=g) (k:=k0+0) (c:=bP (bF.take n++cK)) (n:=bq P e) (by omega);rw [kn] at g3;have g1:∀ y,y≠B.next->_:=fun y hy=>(g1 y).trans (aB (by rw [kn]; exact hy));have g1':=(aak (B:=B.kill B.next (k0+(0+n * bq P e)) (k0+(0+n * bq P e)+(bP cK).length) (B.members g)) (g:=g) (k:=k0+0) (c:=bP (bF.take n++cK)) (n:=bq P e) (by omega)).1 B.next;rw [kn,aW rfl] at g1';simp only [km,kn] at g2;refine ⟨.slice (some ⟨B.next,0,none⟩) (n+k) (n+k),(B.kill B.next (k0+(0+n * bq P e)) (k0+(0+n * bq P e)+(bP cK).length) (B.members g)).grow g (k0+0) (bP (bF.take n++cK)) (bq P e),E.JY A.next (B.next,(bP (bF.take n++cK)).length,n+k),?_,?_,?_⟩
      ·simp only [pw,mM.len,gE,hb,aw,EE,uE,hex,bC,ai,mM.all]
       have ald:=hold;rw [Nat.zero_mul] at ald;simp only [Ld,dA,Option.isNone_none,ai,Nat.zero_mul,ald,gE,h6,nA,<- CS]
      ·exact amT Env.GL (aX _) (aX _) (by rw [hlen])
      ·generalize (B.kill B.next (k0+(0+n * bq P e)) (k0+(0+n * bq P e)+(bP cK).length) (B.members g)).grow g (k0+0) (bP (bF.take n++cK)) (bq P e)=B' at g1 g1' g2 g3
       have gy:∀ y,y≠B.next->B'.get y=B.get y\/(B'.get y=some .dead/\y∈B.members g):=fun y hy=>by
        rw [g1 y hy]; exact kg y
       exact eT.aaj (A1:=A.put f .dead) (X:=fun y=>y=x) (G:=fun q=>∃ k,some (g,k0)=some (q,k)) (y2:=B.next) (wD:=some (g,k0+0)) h rfl RD hf1 (fun y hy=>by rw [hy]; exact vI) hf3 (.inr (aX _)) (by omega) g1' (fun q k e=>by simp at e; exact .inl ⟨k0,by rw [e.1]⟩)
        (fun y hy _=>(gy y (by omega)).imp id fun ⟨q1,q2⟩=>⟨q1,g,⟨k0,rfl⟩,q2⟩) (fun y hy sJ e1 own aai hr=>by
         have hy:y=x:=hy;rcases gy y (by omega) with q | ⟨q,_⟩
         ·rw [q] at hr; exact ⟨sJ,hr,rfl⟩
         ·rw [q] at hr; simp at hr) (fun q y hy=>by
         rw [g2] at hy;split at hy
         ·rename_i e
          subst e;rcases ff.1 hy with hy | hy
          ·exact .inr ⟨hy,aX _,k0+0,rfl⟩
          ·exact .inl hy
         ·exact .inl hy) (fun q hq=>by rw [g2,aB (fun e=>hq (k0+0) (by rw [e]))]) (by omega) (fun q hq=>by rw [g2,aB (by omega)]; exact h.fresh q (by omega)) (fun q y hy=>by
         rw [g2] at hy;split at hy
         ·rcases ff.1 hy with hy | hy
          ·omega
          ·have:=h.mem _ y hy; omega
         ·have:=h.mem q y hy; omega) zk hj Gr (qf aoT)
  ·exact hg.elim
 ·exact hg.elim
theorem eT.avJ {A:aC} {B:St} {b:Nat} {v2:KV} (h:gU P E A B) (hb:∃ v,A.get b=some (.arr v)) (cm:agJ P E B b v2):eT P E A B E (A.put b (.arr v2)) B:=by
 obtain ⟨v0,hb⟩:=hb;have mi:∀ c o,(A.put b (.arr v2)).get c=some o->(c=b/\o = .arr v2)\/A.get c=some o:=fun c o hc=>by
  rw [aC.cn] at hc;split at hc
  ·rename_i e; simp at hc; exact .inl ⟨e,hc.symm⟩
  ·exact .inr hc
 have hA:∀ c v,(A.put b (.arr v2)).get c=some (.arr v)->∃ u,A.get c=some (.arr u):=fun c v hc=>by
  rcases mi c _ hc with ⟨e,_⟩ | e
  ·exact ⟨v0,by rw [e]; exact hb⟩
  ·exact ⟨v,e⟩
 have vI:∀ y,AR (A.put b (.arr v2)) E y->AR A E y:=fun y ⟨c,v,L,N,h1,h2⟩=>by
  obtain ⟨u,hu⟩:=hA c v h1;exact ⟨c,u,L,N,hu,h2⟩
 have Ov:∀ g,AF (A.put b (.arr v2)) E B g->AF A E B g:=fun g ⟨c,v,x,L,N,cs,e,own,k,h1,h2,h3⟩=>by
  obtain ⟨u,hu⟩:=hA c v h1;exact ⟨c,u,x,L,N,cs,e,own,k,hu,h2,h3⟩
 refine ⟨⟨fun c cs ca hc=>?_,fun c top sz hc=>?_,h.z,h.apart,h.inj,?_,h.ow,h.qD,fun c o hc=>?_,h.jc,h.qX,h.mL,h.fresh,h.mem,?_⟩,Env.le_refl _,aX _,fun _ _ _ _=>rfl,fun _ _ e=>.inl e,fun _ _ e=>.inl e,fun _ _ e=>.inl e,fun _ _ _ _=>rfl,fun x q=>.inl (vI x q),fun g q=>.inl (Ov g q),fun _ _ q=>.inl q,fun y q=>.inl (q.imp (vI y) fun ⟨g,q1,q2⟩=>⟨g,Ov g q1,q2⟩),qF fun _ _=>rfl⟩
 ·rcases mi c _ hc with ⟨_,e⟩ | e
  ·simp at e
  ·exact h.row c cs ca e
 ·rcases mi c _ hc with ⟨_,e⟩ | e
  ·simp at e
  ·exact h.bm c top sz e
 ·exact h.lT.put (.inl fun t s=>by simp)
 ·rw [aC.wC]
  rcases mi c _ hc with ⟨e,_⟩ | e
  ·rw [e]; exact h.live b _ hb
  ·exact h.live c o e
 ·refine ⟨fun c v hc=>?_,fun c v hc=>?_,fun x q=>h.ar.z x (vI x q),fun c d v u x L N L' N' h1 h2 h3 h4=>?_,fun c d v u x y L N L' N' cs e own g k ck e' tP k' h1 h2 h3 h4=>?_,h.ar.dis,h.ar.ow,h.ar.jc,fun c v x L N cs e own g k h1 h2 h3=>?_,fun c v hc=>?_⟩
  ·rcases mi c _ hc with ⟨e,e2⟩ | e
   ·simp at e2; rw [e2,e]; exact cm
   ·exact h.ar.arr c v e
  ·rcases mi c _ hc with ⟨_,e⟩ | e
   ·simp at e
   ·exact h.ar.lR c v e
  ·obtain ⟨v',h1⟩:=hA c v h1
   obtain ⟨u',h2⟩:=hA d u h2;exact h.ar.inj c d v' u' x L N L' N' h1 h2 h3 h4
  ·obtain ⟨v',h1⟩:=hA c v h1
   obtain ⟨u',h2⟩:=hA d u h2;exact h.ar.zj c d v' u' x y L N L' N' cs e own g k ck e' tP k' h1 h2 h3 h4
  ·obtain ⟨v',h1⟩:=hA c v h1
   obtain ⟨q1,q2,q3⟩:=h.ar.xG c v' x L N cs e own g k h1 h2 h3;exact ⟨q1,q2,fun y hy eU=>⟨(q3 y hy eU).1,fun q=>(q3 y hy eU).2.1 (vI y q),(q3 y hy eU).2.2⟩⟩
  ·obtain ⟨v',h1⟩:=hA c v hc
   rw [aC.wC];exact h.ar.nk c v' h1
theorem ag8 {es new:List KV} {o:Nat} (h:o+new.length<=es.length):(E7 es o new).length=es.length:=by
 simp only [E7,nY,pt,List.length_drop];omega
theorem amV {es new:List KV} {o i:Nat} (h:o+new.length<=es.length):(E7 es o new)[i]? = if i < o then es[i]? else if i < o+new.length then new[i - o]? else es[i]?:=by
 unfold E7;by_cases h1:i < o
 ·rw [aW h1,HJ,uk (by rw [pt]; omega),rf,aW h1]
 ·rw [aB h1]
  by_cases h2:i < o+new.length
  ·rw [aW h2,uk (by rw [nY,pt]; omega),wg (by rw [pt]; omega),pt]
   congr 1;omega
  ·rw [aB h2,wg (by rw [nY,pt]; omega),rK,nY,pt]
   congr 1;omega
theorem aj2 {T:TypeId} {N m o k:Nat} {es new:List KV} {acc an:Nat->KV} (ht:ku P T N es acc) (hn:ku P T m new an) (hk:k<=m) (ho:o+k<=N):ku P T N (E7 es o (new.take k)) (nJ o k acc an):=by
 have hl:(new.take k).length=k:=by rw [pt,<- hn.len]; omega
 have s4:o+(new.take k).length<=es.length:=by rw [hl,<- ht.len]; exact ho
 have qu:=fun i=>amV (i:=i) s4;rw [hl] at qu;refine ⟨by rw [ag8 s4]; exact ht.len,fun i hi=>?_,s6 fun i x hx=>?_⟩
 ·rw [iQ,qu]
  unfold nJ;by_cases h1:i < o
  ·rw [aW h1,show Nat.blt i o=true from bX ▸ h1,ai,ht.acc i hi,iQ]
  ·have e1:Nat.blt i o=false:=by
    cases hb:Nat.blt i o with
    | false=>rfl
    | true=>exact absurd (bX ▸ hb) h1
   rw [aB h1,e1,aw];by_cases h2:i < o+k
   ·rw [aW h2,show Nat.blt i (o+k)=true from bX ▸ h2,ai,rf,aW (by omega),hn.acc (i - o) (by omega),iQ]
   ·have e2:Nat.blt i (o+k)=false:=by
     cases hb:Nat.blt i (o+k) with
     | false=>rfl
     | true=>exact absurd (bX ▸ hb) h2
    rw [aB h2,e2,aw,ht.acc i hi,iQ]
 ·rw [qu] at hx
  split at hx
  ·exact lD ht.typed hx
  ·split at hx
   ·rw [rf] at hx
    split at hx
    ·exact lD hn.typed hx
    ·simp at hx
   ·exact lD ht.typed hx
theorem amW {sz o:Nat} {cs r vs es:List Value} (hl:ss sz (o * sz+vs.length) cs es) (hw:jt (o * sz) cs vs=some r):ss sz (o * sz+vs.length) r es:=fun i x hi=>by
 obtain ⟨h1,h2⟩:=hl i x hi;obtain ⟨_,_,h3⟩:=ko hw;exact ⟨h1,fun k y hy=>by rw [h3,aB (by omega)]; exact h2 k y hy⟩
theorem asx {e n:Nat} (hn:bq P e=n) (h1n:1<=n):apZ P (aoC e) (agb n):=by
 intro E A A' B vs us v h hv hg;unfold aoC at hg;split at hg
 ·rename_i e1 b o q y
  obtain ⟨u,w,rfl,h1,h2⟩:=hv.nP;split at hg
  ·rename_i e' mk m new an e2 mk2 N es acc hy hb
   obtain ⟨he,hg2⟩:=hg.cond;clear hg;simp only [aD] at he;have:=bo he.1.1;subst this;have:=bo he.1.2;subst this;have:=bo he.2;subst this;have zk:1<=bq P e:=by omega
   obtain ⟨cK,mM⟩:=ap6 h h2 hy zk;have hg2:(KV.int .i64 (Nat.min m q:Nat),A.put b (.arr (.ts e .any N (E7 es o (new.take (Nat.min m q))) (nJ o (Nat.min m q) acc an))))=(v,A'):=hg2;simp only [gF] at hg2;obtain ⟨rfl,rfl⟩:=hg2;obtain ⟨T2,N2,tM,hJ,e2,ht,_,Ce⟩:=h.ar.arr b _ hb;simp only [KV.ts.injEq] at e2;obtain ⟨rfl,rfl,rfl,rfl,rfl⟩:=e2;have ZI:Nat.min m q<=m:=Nat.min_le_left _ _;have hkq:Nat.min m q<=q:=Nat.min_le_right _ _;have hf:=mM.first _ ZI
   rw [hn] at hf;rcases h1.Bj with ⟨rfl,rfl,rfl⟩ | ⟨x,L,N0,c,p2,rfl,p3,p4,p5⟩
   ·
    have MT:Nat.min m 0=0:=Nat.min_zero m;refine ⟨.int .i64 (Int.ofNat (Nat.min m 0)),B,E,?_,.mkInt,eT.avJ h ⟨_,hb⟩ ?_⟩
    ·simp only [agb,mM.len,gE,hf]
    ·have hp:=aj2 (o:=0) ht mM.tree ZI (by rw [MT]; omega)
     refine ⟨_,_,_,_,rfl,hp,zk,?_⟩;have UD:E7 es 0 (new.take (Nat.min m 0))=es:=by rw [MT]; simp [E7]
     rw [UD];exact Ce
   ·rcases Ce with ⟨_,e2⟩ | ⟨x2,cs,bV,bF,e2,h6,h7,h8⟩
    ·rw [p2] at e2; simp at e2
    rw [p2] at e2;simp only [dE,gF] at e2;obtain ⟨rfl,rfl,rfl⟩:=e2;have aoO:bF.length=N0:=by rw [h7.length]; exact ht.len.symm
    have jL:∀ v∈cK.take (Nat.min m q),v.cells.size=bq P e:=fun v hv=>mM.size v (List.mem_of_mem_take hv);have au8:(cK.take (Nat.min m q)).length=Nat.min m q:=by rw [pt,mM.length]; exact Nat.min_eq_left ZI
    have Pq:(bP (cK.take (Nat.min m q))).length=Nat.min m q * bq P e:=by rw [kX jL,au8]
    have hle:o * bq P e+(bP (cK.take (Nat.min m q))).length<=cs.length:=by
     rw [Pq,<- p5,<- Nat.add_mul];exact Nat.mul_le_mul_right _ (by omega)
    obtain ⟨ox,hw⟩:=Fb (o * bq P e) cs (bP (cK.take (Nat.min m q))) hle;have hcl:ox.length=cs.length:=(ko hw).1;have hsc:(bP (cK.take (Nat.min m q))).all scalar=true:=im.2 (HU fun v hv=>(sL mM.tree.typed mM.rel v (List.mem_of_mem_take hv)).2);have hp:=aj2 (o:=o) ht mM.tree ZI (by omega);have hon:(bF.take o).length=o:=by rw [pt]; omega
    have Gr:bp P E (E7 es o (new.take (Nat.min m q))) (bF.take o++cK.take (Nat.min m q)++bF.drop (o+Nat.min m q)):=by
     unfold E7;have hlk:(new.take (Nat.min m q)).length=Nat.min m q:=by rw [pt,<- mM.tree.len]; exact Nat.min_eq_left ZI
     rw [hlk];exact ((h7.take o).append (mM.rel.take _)).append (h7.drop _)
    have hli:ss (bq P e) 0 ox (bF.take o++cK.take (Nat.min m q)++bF.drop (o+Nat.min m q)):=by
     refine acq (acq (ag6 (h8.take o) (by omega) hw zk) (by rw [hon]; exact ad3 jL hw)) ?_;have e3:(bF.take o++cK.take (Nat.min m q)).length * bq P e=o * bq P e+(bP (cK.take (Nat.min m q))).length:=by rw [nY,hon,au8,Pq,Nat.add_mul]
     rw [e3];refine amW ?_ hw;have:=h8.drop (o+Nat.min m q);rw [bk,Nat.add_mul] at this;rw [Pq];exact this
    have jL:=eT.ap3 (lo:=o * bq P e) (hi:=o * bq P e+(bP (cK.take (Nat.min m q))).length) h ⟨_,hb⟩ p2 h6 hcl zk hp Gr hli;refine ⟨.int .i64 (Int.ofNat (Nat.min m q)),_,E,?_,.mkInt,jL⟩;subst hn;simp only [agb,mM.len,gE,hf,St.Dd,dA,Option.isNone_none,M0,hsc,ai,h6,hw,Option.map_some]
  ·exact hg.elim
 ·exact hg.elim
theorem amX {e n b:Nat} {mt:Bool} (hn:bq P e=n) (h1n:1<=n):apZ P (Pz e n b mt) (pw n b):=by
 intro E A A' B vs us v h hv hg;unfold Pz at hg;split at hg
 ·rename_i x y
  obtain ⟨u,w,rfl,h1,h2⟩:=hv.nP;split at hg
  ·rename_i y' hy
   have zk:1<=bq P e:=by omega
   have hts:∃ T m k es acc,y' = .ts T m k es acc:=by
    unfold Uq at hy;split at hy
    ·unfold akZ at hy
     split at hy
     ·rename_i T' b' o' n' _ T2 _ _ tM hJ _
      cases hb:Nat.beq T' T2 with
      | false=>rw [hb] at hy; simp at hy
      | true=>rw [hb,ai] at hy; simp only [dE] at hy; exact ⟨_,_,_,_,_,hy.symm⟩
     ·simp at hy
    ·simp only [dE] at hy; exact ⟨_,_,_,_,_,hy.symm⟩
    ·simp at hy
   obtain ⟨T,m,k,es,acc,rfl⟩:=hts;have hsr:Nat.beq e T=true->∃ bF,Src P E B T k es acc w bF:=fun he=>by
    have:=bo he;subst this;exact ap6 h h2 hy zk
   subst hn;cases hx:asi x with
   | true=>rw [hx,ai] at hg; exact ag7 zk h h1 hsr hg
   | false=>
    rw [hx,aw] at hg;cases mt with
    | true=>rw [ai] at hg; exact ag7 zk h h1 hsr hg
    | false=>rw [aw] at hg; exact aoQ rfl zk h h1 hsr hg
  ·exact hg.elim
 ·exact hg.elim
end Go.K
end
section
namespace Go.K
open Go Go.aE
variable {P:Program} {E:Env}
theorem eT.aqa {E1 E2:Env} {A A1 A2:aC} {B:St} (h:eT P E A B E1 A1 B) (k:eT P E1 A1 B E2 A2 B):eT P E A B E2 A2 B where
 kW:=k.kW
 le:=Env.le_trans h.le k.le
 next:=um h.next k.next
 pB _ _ _ _:=rfl
 new b x e:=(k.new b x e).elim (h.new b x) .inr
 yw b r e:=by
  rcases k.yw b r e with e | e | e
  ·exact h.yw b r e
  ·exact .inr (h.qo b e)
  ·exact .inr (.inr e)
 yx b g e:=(k.yx b g e).elim (h.yx b g) .inr
 uH _ _ _ _:=rfl
 qo x q:=(k.qo x q).elim (h.qo x) .inr
 qE g q:=(k.qE g q).elim (h.qE g) .inr
 zZ _ _ q:=.inl q
 r7 y q:=(k.r7 y q).elim (h.r7 y) .inr
 rows:=qF fun _ _=>rfl
theorem eT.refl {A:aC} {B:St} (h:gU P E A B):eT P E A B E A B:=
 ⟨h,Env.le_refl _,aX _,fun _ _ _ _=>rfl,fun _ _ e=>.inl e,fun _ _ e=>.inl e,fun _ _ e=>.inl e,fun _ _ _ _=>rfl,fun _ q=>.inl q,fun _ q=>.inl q,fun _ _ q=>.inl q,fun _ q=>.inl q,qF fun _ _=>rfl⟩
theorem Env.asy {A:aC} {B:St} {x:Nat} {r:amC} (h:gU P E A B) (hx:AR A E x):E.le (E.ir x r):=⟨fun _ _ e=>e,fun _ _ e=>e,fun b q e=>by
 simp only [Env.ir];rw [aB]
 ·exact e
 ·intro e2; subst e2
  have:=(h.ar.z b hx).1;rw [e] at this; simp at this,fun _ _ e=>e⟩
theorem eT.lR {A:aC} {B:St} {b x N:Nat} {T:TypeId} {m:Mk} {es:List KV} {acc:Nat->KV} {cs:List Value} {bV:Option (Nat×Nat)} {bF:List Value} (h:gU P E A B) (hb:A.get b=some (.arr (.ts T m N es acc))) (hx:E.α b=some (x,cs.length,N))
  (lC:B.get x=some (.row cs (bq P T) true bV)) (ht:ku P T N es acc) (hm:m = .any) (gI:1<=bq P T) (UD:bp P E es bF) (hl:ss (bq P T) 0 cs bF) :
  eT P E A B (E.ir x ⟨cs,bq P T,true,bV⟩) (A.put b (.lR (.ts T m N es acc))) B:=by
 subst hm;have vI:AR A E x:=⟨b,_,_,_,hb,hx⟩
 have hle:=Env.asy (r:=⟨cs,bq P T,true,bV⟩) h vI;have hzx:(E.ir x ⟨cs,bq P T,true,bV⟩).z x=some ⟨cs,bq P T,true,bV⟩:=by simp [Env.ir]
 have MX:∀ c r,(E.ir x ⟨cs,bq P T,true,bV⟩).z c=some r->E.z c=some r\/(c=x/\r=⟨cs,bq P T,true,bV⟩):=fun c r e=>by
  simp only [Env.ir] at e;split at e
  ·rename_i e2; simp at e; exact .inr ⟨e2,e.symm⟩
  ·exact .inl e
 have mi:∀ c o,(A.put b (.lR (.ts T .any N es acc))).get c=some o->(c=b/\o = .lR (.ts T .any N es acc))\/(c≠b/\A.get c=some o):=fun c o hc=>by
  rw [aC.cn] at hc;split at hc
  ·rename_i e; simp at hc; exact .inl ⟨e,hc.symm⟩
  ·rename_i e; exact .inr ⟨e,hc⟩
 have hA:∀ c v,(A.put b (.lR (.ts T .any N es acc))).get c=some (.arr v)->c≠b/\A.get c=some (.arr v):=fun c v hc=>by
  rcases mi c _ hc with ⟨_,e⟩ | e
  ·simp at e
  ·exact e
 have aqb:∀ y,AR (A.put b (.lR (.ts T .any N es acc))) E y->AR A E y/\y≠x:=fun y ⟨c,v,L,M,h1,h2⟩=>by
  obtain ⟨h3,h4⟩:=hA c v h1;refine ⟨⟨c,v,L,M,h4,h2⟩,fun e=>h3 ?_⟩;subst e;exact h.ar.inj c b v _ y L M _ _ h4 hb h2 hx
 have Ov:∀ g,AF (A.put b (.lR (.ts T .any N es acc))) E B g->AF A E B g:=fun g ⟨c,v,y,L,M,cs,e,own,k,h1,h2,h3⟩=>⟨c,v,y,L,M,cs,e,own,k,(hA c v h1).2,h2,h3⟩
 refine ⟨⟨fun c sJ ca hc=>?_,fun c top sz hc=>?_,fun y r hy=>?_,fun c y hc=>?_,h.inj,?_,h.ow,h.qD,fun c o hc=>?_,h.jc,fun y r hy=>?_,h.mL,h.fresh,h.mem,?_⟩,hle,aX _,fun _ _ _ _=>rfl,fun _ _ e=>.inl e,fun y r e=>?_,fun _ _ e=>.inl e,fun _ _ _ _=>rfl,fun y q=>.inl (aqb y q).1,fun g q=>.inl (Ov g q),fun _ _ q=>.inl q,fun y q=>.inl (q.imp (fun q=>(aqb y q).1) fun ⟨g,q1,q2⟩=>⟨g,Ov g q1,q2⟩),qF fun _ _=>rfl⟩
 ·rcases mi c _ hc with ⟨_,e⟩ | ⟨_,e⟩
  ·simp at e
  ·obtain ⟨y,d,h1,h2,h3⟩:=h.row c sJ ca e
   exact ⟨y,d,h1,h2,h3.mono hle⟩
 ·rcases mi c _ hc with ⟨_,e⟩ | ⟨_,e⟩
  ·simp at e
  ·exact h.bm c top sz e
 ·rcases MX y r hy with e | ⟨rfl,rfl⟩
  ·exact h.z y r e
  ·exact lC
 ·have hc:E.κ c=some y:=hc
  cases hz:(E.ir x ⟨cs,bq P T,true,bV⟩).z y with
  | none=>rfl
  | some r=>
   rcases MX y r hz with e | ⟨rfl,_⟩
   ·rw [h.apart c y hc] at e; simp at e
   ·exact absurd hc ((h.ar.z y vI).2 c)
 ·exact h.lT.put (.inl fun t s=>by simp)
 ·rw [aC.wC]
  rcases mi c _ hc with ⟨e,_⟩ | ⟨_,e⟩
  ·rw [e]; exact h.live b _ hb
  ·exact h.live c o e
 ·rcases MX y r hy with e | ⟨rfl,_⟩
  ·exact h.qX y r e
  ·exact h.Nh vI
 ·refine ⟨fun c v hc=>?_,fun c v hc=>?_,fun y q=>?_,fun c d v u y L M L' M' h1 h2 h3 h4=>h.ar.inj c d v u y L M L' M' (hA c v h1).2 (hA d u h2).2 h3 h4,fun c d v u y w L M L' M' sJ e own g k ck e' tP k' h1 h2 h3 h4=>h.ar.zj c d v u y w L M L' M' sJ e own g k ck e' tP k' (hA c v h1).2 (hA d u h2).2 h3 h4,h.ar.dis,h.ar.ow,h.ar.jc,fun c v y L M sJ e own g k h1 h2 h3=>?_,fun c v hc=>h.ar.nk c v (hA c v hc).2⟩
  ·exact (h.ar.arr c v (hA c v hc).2).mono hle rfl fun _ _ _ _=>rfl
  ·rcases mi c _ hc with ⟨e,e2⟩ | ⟨_,e⟩
   ·simp at e2
    subst e2;exact ⟨T,N,es,acc,rfl,ht,gI,.inr ⟨x,⟨cs,bq P T,true,bV⟩,bF,by rw [e]; exact hx,hzx,rfl,UD.mono hle,hl⟩⟩
   ·exact (h.ar.lR c v e).mono hle rfl
  ·obtain ⟨q1,q2⟩:=aqb y q
   refine ⟨?_,(h.ar.z y q1).2⟩;simp only [Env.ir];rw [aB q2];exact (h.ar.z y q1).1
  ·obtain ⟨eU,h1⟩:=hA c v h1
   obtain ⟨q1,q2,q3⟩:=h.ar.xG c v y L M sJ e own g k h1 h2 h3;refine ⟨q1,q2,fun z hz hzy=>?_⟩;obtain ⟨q4,q5,q6⟩:=q3 z hz hzy;refine ⟨?_,fun q=>q5 (aqb z q).1,q6⟩;simp only [Env.ir];rw [aB]
   ·exact q4
   ·intro e2
    subst e2;exact q5 vI
 ·rcases MX y r e with e | ⟨rfl,_⟩
  ·exact .inl e
  ·exact .inr (.inl vI)
theorem eT.avK {A:aC} {B:St} {b:Nat} {T:TypeId} {m:Mk} {N:Nat} {es:List KV} {acc:Nat->KV} (h:gU P E A B) (hb:A.get b=some (.arr (.ts T m N es acc))) (cm:aac P E b (.ts T m N es acc)) (ve:E.α b=none):eT P E A B E (A.put b (.lR (.ts T m N es acc))) B:=by
 have mi:∀ c o,(A.put b (.lR (.ts T m N es acc))).get c=some o->(c=b/\o = .lR (.ts T m N es acc))\/A.get c=some o:=fun c o hc=>by
  rw [aC.cn] at hc;split at hc
  ·rename_i e; simp at hc; exact .inl ⟨e,hc.symm⟩
  ·exact .inr hc
 have hA:∀ c v,(A.put b (.lR (.ts T m N es acc))).get c=some (.arr v)->A.get c=some (.arr v):=fun c v hc=>by
  rcases mi c _ hc with ⟨_,e⟩ | e
  ·simp at e
  ·exact e
 have vI:∀ y,AR (A.put b (.lR (.ts T m N es acc))) E y->AR A E y:=fun y ⟨c,v,L,M,h1,h2⟩=>⟨c,v,L,M,hA c v h1,h2⟩
 have Ov:∀ g,AF (A.put b (.lR (.ts T m N es acc))) E B g->AF A E B g:=fun g ⟨c,v,y,L,M,cs,e,own,k,h1,h2,h3⟩=>⟨c,v,y,L,M,cs,e,own,k,hA c v h1,h2,h3⟩
 have _:=ve;refine ⟨⟨fun c sJ ca hc=>?_,fun c top sz hc=>?_,h.z,h.apart,h.inj,?_,h.ow,h.qD,fun c o hc=>?_,h.jc,h.qX,h.mL,h.fresh,h.mem,?_⟩,Env.le_refl _,aX _,fun _ _ _ _=>rfl,fun _ _ e=>.inl e,fun y r e=>.inl e,fun _ _ e=>.inl e,fun _ _ _ _=>rfl,fun y q=>.inl (vI y q),fun g q=>.inl (Ov g q),fun _ _ q=>.inl q,fun y q=>.inl (q.imp (vI y) fun ⟨g,q1,q2⟩=>⟨g,Ov g q1,q2⟩),qF fun _ _=>rfl⟩
 ·rcases mi c _ hc with ⟨_,e⟩ | e
  ·simp at e
  ·exact h.row c sJ ca e
 ·rcases mi c _ hc with ⟨_,e⟩ | e
  ·simp at e
  ·exact h.bm c top sz e
 ·exact h.lT.put (.inl fun t s=>by simp)
 ·rw [aC.wC]
  rcases mi c _ hc with ⟨e,_⟩ | e
  ·rw [e]; exact h.live b _ hb
  ·exact h.live c o e
 ·refine ⟨fun c v hc=>h.ar.arr c v (hA c v hc),fun c v hc=>?_,fun y q=>h.ar.z y (vI y q),fun c d v u y L M L' M' h1 h2 h3 h4=>h.ar.inj c d v u y L M L' M' (hA c v h1) (hA d u h2) h3 h4,fun c d v u y w L M L' M' sJ e own g k ck e' tP k' h1 h2 h3 h4=>h.ar.zj c d v u y w L M L' M' sJ e own g k ck e' tP k' (hA c v h1) (hA d u h2) h3 h4,h.ar.dis,h.ar.ow,h.ar.jc,fun c v y L M sJ e own g k h1 h2 h3=>?_,fun c v hc=>h.ar.nk c v (hA c v hc)⟩
  ·rcases mi c _ hc with ⟨e,e2⟩ | e
   ·simp at e2; rw [e2,e]; exact cm
   ·exact h.ar.lR c v e
  ·obtain ⟨q1,q2,q3⟩:=h.ar.xG c v y L M sJ e own g k (hA c v h1) h2 h3
   exact ⟨q1,q2,fun z hz hzy=>⟨(q3 z hz hzy).1,fun q=>(q3 z hz hzy).2.1 (vI z q),(q3 z hz hzy).2.2⟩⟩
theorem acr {T:TypeId} {m:Mk} {b o n N:Nat} {es:List KV} {acc:Nat->KV} {u:Value} {A:aC} {B:St} (h:gU P E A B) (hv:VK P E (.al T b o n) u) (ha:A.get b=some (.lR (.ts T m N es acc))) :
  VK P E (.ts T .any n ((es.drop o).take n) (fun i=>acc (o+i))) u:=by
 obtain ⟨T2,N2,tM,hJ,e,ht,gI,Ce⟩:=h.ar.lR b _ ha;simp only [KV.ts.injEq] at e;obtain ⟨rfl,rfl,rfl,rfl,rfl⟩:=e;simp only [VK];rcases hv.Bj with ⟨rfl,rfl,rfl⟩ | ⟨x,L,N0,c,h1,rfl,h3,h4,h5⟩
 ·exact ⟨⟨by simp,fun i hi=>by omega,rfl⟩,[],by simpa using bp.nil,none,0,rfl,aX _,.inl ⟨rfl,rfl⟩,trivial⟩
 ·rcases Ce with ⟨_,e⟩ | ⟨x2,r,bF,e,h6,h6',h7,h8⟩
  ·rw [h1] at e; simp at e
  rw [h1] at e;simp only [dE,gF] at e;obtain ⟨rfl,rfl,rfl⟩:=e;have aoP:((es.drop o).take n).length=n:=by rw [pt,List.length_drop,<- ht.len]; omega
  refine ⟨⟨aoP.symm,fun i hi=>?_,s6 fun i x hi=>?_⟩,(bF.drop o).take n,(h7.drop o).take n,_,c,rfl,h3,.inr ⟨x,o * bq P T,r,rfl,h6,h6',?_⟩,trivial⟩
  ·rw [ht.acc (o+i) (by omega),iQ,iQ,rf,aW hi,rK]
  ·rw [rf] at hi
   split at hi
   ·rw [rK] at hi; exact lD ht.typed hi
   ·simp at hi
  ·have:=(h8.drop o).take n
   rw [bk] at this;exact this
theorem ad4 {A:aC} {B:St} {v:KV} {u:Value} (h:gU P E A B) (hv:VK P E v u):∃ E',eT P E A B E' (agE A v).2 B/\VK P E' (agE A v).1 u:=by
 unfold agE;split
 ·rename_i T b o n
  split
  ·rename_i T' m N es acc hb
   cases ht:Nat.beq T T' with
   | false=>exact ⟨E,.refl h,.wM⟩
   | true=>
    have:=bo ht;subst this;rw [ai];have cm:=h.ar.arr b _ hb;obtain ⟨T2,N2,tM,hJ,e,PO,gI,Ce⟩:=cm;simp only [KV.ts.injEq] at e;obtain ⟨rfl,rfl,rfl,rfl,rfl⟩:=e;rcases Ce with ⟨h1,h2⟩ | ⟨x,cs,bV,bF,h2,h3,h4,h5⟩
    ·have jL:=eT.avK h hb ⟨_,_,_,_,rfl,PO,gI,.inl ⟨h1,h2⟩⟩ h2
     exact ⟨E,jL,acr jL.kW hv ((aC.cn _ _ _ _).trans (aW rfl))⟩
    ·have jL:=eT.lR h hb h2 h3 PO rfl gI h4 h5
     exact ⟨_,jL,acr jL.kW (hv.mono jL.le) ((aC.cn _ _ _ _).trans (aW rfl))⟩
  ·rename_i T' m N es acc hb
   cases ht:Nat.beq T T' with
   | false=>exact ⟨E,.refl h,.wM⟩
   | true=>
    have:=bo ht;subst this;rw [ai];exact ⟨E,.refl h,acr h hv hb⟩
  ·exact ⟨E,.refl h,.wM⟩
 ·exact ⟨E,.refl h,hv⟩
theorem bf.map {α β:Type} {r:KR α} {f:α->β} {v:β} (h:bf (r.map f) v):∃ u,bf r u/\f u=v:=by
 cases r with
 | no=>exact h.elim
 | ok u=>exact ⟨u,rfl,h⟩
 | nF c u=>exact ⟨u,⟨h.1,rfl⟩,h.2⟩
 | br c x y=>
  rcases h with ⟨h1,h2⟩ | ⟨h1,h2⟩
  ·obtain ⟨u,h3,h4⟩:=bf.map (r:=x) h2; exact ⟨u,.inl ⟨h1,h3⟩,h4⟩
  ·obtain ⟨u,h3,h4⟩:=bf.map (r:=y) h2; exact ⟨u,.inr ⟨h1,h3⟩,h4⟩
theorem aal {B:St} : ∀ {vs:List KV} {us:List Value} {E:Env} {A:aC},gU P E A B->bp P E vs us->∃ E',eT P E A B E' (acf A vs).2 B/\bp P E' (acf A vs).1 us
 | [],us,E,A,h,hv=>⟨E,.refl h,hv⟩
 | v::vs,us,E,A,h,hv=>by
  obtain ⟨u,us',rfl,h1,h2⟩:=hv.cons_inv;obtain ⟨E1,h3,h4⟩:=ad4 h h1;obtain ⟨E2,h5,h6⟩:=aal h3.kW (h2.mono h3.le);exact ⟨E2,h3.aqa h5,.cons (h4.mono h5.le) h6⟩
theorem amY {A:aC} {B:St} {v:KV} {u:Value} (h:gU P E A B) (hv:VK P E v u):∃ E',eT P E A B E' (ajU A v).2 B/\VK P E' (ajU A v).1 u:=by
 unfold ajU;split
 ·rename_i cs
  obtain ⟨l,rfl,h1⟩:=hv.pC;obtain ⟨E1,h2,h3⟩:=aal h h1;exact ⟨E1,h2,.tI h3⟩
 ·exact ad4 h hv
theorem RH:∀ (A:aC) (vs:List KV),(B7 A vs).1.length=vs.length
 | _,[]=>rfl
 | A,v::vs=>by simp [B7,RH]
theorem Ni {B:St} : ∀ {vs:List KV} {us:List Value} {E:Env} {A:aC},gU P E A B->bp P E vs us->∃ E',eT P E A B E' (B7 A vs).2 B/\bp P E' (B7 A vs).1 us
 | [],us,E,A,h,hv=>⟨E,.refl h,hv⟩
 | v::vs,us,E,A,h,hv=>by
  obtain ⟨u,us',rfl,h1,h2⟩:=hv.cons_inv;obtain ⟨E1,h3,h4⟩:=amY h h1;obtain ⟨E2,h5,h6⟩:=Ni h3.kW (h2.mono h3.le);exact ⟨E2,h3.aqa h5,.cons (h4.mono h5.le) h6⟩
end Go.K
end
section
namespace Go.K
open Go Go.aE
variable {P:Program}
theorem dQ {o:Oper} : Ou P o .bad:=trivial
theorem aq3 (P:Program) (cfg:fW) (o:Oper):Ou P o (cf P cfg o.op):=by
 cases ho:o.op with
 | move x=>exact lift_pure (by rw [ho]; rfl) amG
 | assign x=>exact lift_pure (by rw [ho]; rfl) aqT
 | pick c a b=>exact lift_pure (by rw [ho]; rfl) asm
 | alloc t=>
  show Ou P o (tv P t);unfold tv;split
  ·rename_i z hz
   cases hc:(flat z&&z.cells.toList.all scalar&&jv (iU z).cells) with
   | false=>exact dQ
   | true=>
    simp only [aD] at hc;exact Lr (by rw [ho]; rfl) (aqY hz hc.1.1 hc.1.2 hc.2)
  ·exact dQ
 | box t x=>exact Lr (by rw [ho]; rfl) aul
 | build t parts=>
  show Ou P o (xQ P t (parts.toList.map (·.1)) (parts.toList.map (·.2)));have bg:compile P o.op=Pe P t (parts.toList.map (·.1)) (parts.toList.map (·.2)):=by rw [ho]; rfl
  unfold xQ;unfold Pe at bg;split
  ·rename_i z fields hz hu
   rw [hz,hu] at bg;simp only at bg;split
   ·rename_i l hl
    rw [hl] at bg;cases hc:(flat z&&jv (iU z).cells) with
    | false=>exact dQ
    | true=>
     simp only [aD] at hc;exact lift_pure bg (ajX hc.1 hc.2)
   ·exact dQ
  ·rename_i z len e hz hu
   rw [hz,hu] at bg;simp only at bg;split
   ·rename_i n hn
    rw [hn] at bg;cases hc:(flat z&&jv (iU z).cells) with
    | false=>exact dQ
    | true=>
     simp only [aD] at hc;exact lift_pure bg (ajX hc.1 hc.2)
   ·exact dQ
  ·exact dQ
 | buildSlice t len parts=>
  show Ou P o (n6 P t len (parts.toList.map (·.1)) (parts.toList.map (·.2)));have bg:compile P o.op=zP P t len (parts.toList.map (·.1)) (parts.toList.map (·.2)):=by rw [ho]; rfl
  unfold n6;unfold zP at bg;split
  ·rename_i e hu
   rw [hu] at bg;simp only at bg;split
   ·rename_i i z hi hz
    have gI:size? P e=some i.size:=by simp [size?,hi]
    rw [gI,hz] at bg;simp only at bg;cases hc:(Nat.ble (len * i.size) 16777216&&Nat.beq z.cells.size i.size&&Nat.ble 1 i.size&&flat z&&Nat.beq (bw P e).ks.length i.size&&KX len (parts.toList.map (·.1))) with
    | false=>exact dQ
    | true=>
     simp only [aD] at hc;obtain ⟨⟨⟨⟨⟨h1,h2⟩,h3⟩,h4⟩,h5⟩,h6⟩:=hc;rw [h1,h2,h3,h4] at bg;cases Rp (bw P e).ks with
     | true=>exact aj0 bg (ai6 (bo h5) (gD h3) (bo h2) h6)
     | false=>
      cases h7:jv (iU z).cells with
      | true=>exact Lr bg (ak8 h7)
      | false=>exact dQ
   ·exact dQ
  ·exact dQ
 | load t a=>exact RA (by rw [ho]; rfl) amN
 | store t a x=>exact acm (by rw [ho]; rfl) aq1
 | nilCheck x=>exact lift_pure (by rw [ho]; rfl) aui
 | binOp op t x y yt=>exact lift_pure (by rw [ho]; rfl) auj
 | unOp op t x=>exact lift_pure (by rw [ho]; rfl) avD
 | convert src dst x=>
  show Ou P o (sI P src dst x);have bg:compile P o.op=Ip P src dst x:=by rw [ho]; rfl
  unfold sI;unfold Ip at bg;split
  ·rename_i k k' hs hd
   rw [hs,hd] at bg;exact lift_pure bg (aqX hd hs)
  ·rename_i hs hd
   rw [hs,hd] at bg;exact lift_pure bg aqW
  ·rename_i e hs hd
   rw [hs,hd] at bg;simp only at bg;cases hb:isByte P e with
   | false=>exact dQ
   | true=>rw [hb] at bg; exact RA bg alb
  ·rename_i e hs hd
   rw [hs,hd] at bg;simp only at bg;cases hb:isByte P e with
   | false=>exact dQ
   | true=>rw [hb] at bg; exact aoH bg (alc hb)
  ·exact dQ
 | makeFunc fn first cap=>
  show Ou P o (cond (CQ fn) .bad (.pure (Rs fn first.size) (first.toList++cap.toList)));cases hy:CQ fn with
  | true=>exact dQ
  | false=>
   have hn:KT fn=true:=by cases fn <;> first | rfl | simp [CQ] at hy
   exact lift_pure (by rw [ho]; show cond (KT fn) _ _=_; rw [hn]; rfl) ak6
 | fieldAddr s x f=>
  show Ou P o (pF P s x f);have bg:compile P o.op=CJ P s x f:=by rw [ho]; rfl
  unfold pF;unfold CJ at bg;split
  ·rename_i fd hf
   rw [hf] at bg;simp only at bg;split
   ·rename_i m hm
    rw [hm] at bg;exact lift_pure bg (ai3 rfl)
   ·exact dQ
  ·exact dQ
 | field t x f=>
  show Ou P o (xS P t x f);have bg:compile P o.op=Pk P t x f:=by rw [ho]; rfl
  unfold xS;unfold Pk at bg;split
  ·rename_i fd hf
   rw [hf] at bg;exact lift_pure bg aqU
  ·exact dQ
 | indexAddr t x ix=>
  show Ou P o (pG P t x ix);have bg:compile P o.op=CL P t x ix:=by rw [ho]; rfl
  unfold pG;unfold CL at bg;split
  ·rename_i len e hu
   rw [hu] at bg;simp only at bg;split
   ·rename_i n hn
    rw [hn] at bg;exact lift_pure bg ak3
   ·exact dQ
  ·rename_i e hu
   rw [hu] at bg;simp only at bg;split
   ·rename_i n hn
    rw [hn] at bg;exact lift_pure bg (amI rfl)
   ·exact dQ
  ·exact dQ
 | index t x ix=>
  show Ou P o (xT P t x ix);have bg:compile P o.op=Pl P t x ix:=by rw [ho]; rfl
  unfold xT;unfold Pl at bg;split
  ·rename_i len e hu
   rw [hu] at bg;simp only at bg;split
   ·rename_i n hn
    rw [hn] at bg;exact lift_pure bg ak4
   ·exact dQ
  ·rename_i hu
   rw [hu] at bg;exact lift_pure bg ak5
  ·exact dQ
 | extract t i=>exact lift_pure (by rw [ho]; rfl) amJ
 | slice t x lo hi mx=>
  show Ou P o (xU P t x lo hi mx);have bg:compile P o.op=Ph P t x lo hi mx:=by rw [ho]; rfl
  unfold xU;unfold Ph at bg;split
  ·rename_i e hu
   rw [hu] at bg;simp only at bg;split
   ·rename_i n hn
    rw [hn] at bg;simp only at bg;cases hc:(Nat.ble 1 n&&mx.isNone) with
    | false=>exact dQ
    | true=>
     simp only [aD] at hc;rw [hc.1] at bg;have hmx:mx=none:=Option.isNone_iff_eq_none.1 hc.2;subst hmx;simp only [ai,hH,pr,Option.isSome_none] at bg;exact RA bg (amQ (gD hc.1))
   ·exact dQ
  ·rename_i len e hu
   rw [hu] at bg;simp only at bg;split
   ·rename_i n hn
    rw [hn] at bg;simp only at bg;cases hc:(Nat.ble 1 n&&mx.isNone) with
    | false=>exact dQ
    | true=>
     simp only [aD] at hc;rw [hc.1] at bg;have hmx:mx=none:=Option.isNone_iff_eq_none.1 hc.2;subst hmx;simp only [ai,hH,pr,Option.isSome_none] at bg;exact RA bg ak9
   ·exact dQ
  ·rename_i hu
   rw [hu] at bg;simp only at bg;cases hc:mx.isNone with
   | false=>exact dQ
   | true=>rw [hc] at bg; exact lift_pure bg ala
  ·exact dQ
 | makeSlice t l c=>
  show Ou P o (zW P cfg.x.mt t l c);have bg:compile P o.op=CI P t l c:=by rw [ho]; rfl
  unfold zW;unfold CI at bg;split
  ·rename_i e hu
   rw [hu] at bg;simp only at bg;split
   ·rename_i i hi
    rw [hi] at bg;simp only at bg;split
    ·rename_i z hz
     rw [hz] at bg;simp only at bg;cases hmz:cfg.x.mt (e+1000000) with
     | true=>
      rw [ai];cases hc:(Nat.ble 1 i.size&&Nat.ble 1 i.bytes&&Nat.beq z.cells.size i.size&&flat z&&z.cells.toList.all scalar&&Nat.beq (bw P e).ks.length i.size&&cG (bw P e) (ib (bw P e) (iU z))) with
      | false=>exact dQ
      | true=>
       simp only [aD] at hc;obtain ⟨⟨⟨⟨⟨⟨h1,h2⟩,h3⟩,h4⟩,h5⟩,h6⟩,h7⟩:=hc;rw [h1,h2,h3,h4,h5] at bg;exact aj0 bg (aq2 (bo h6) (gD h1) (bo h3) h7)
     | false=>
     rw [aw];cases hmt:cfg.x.mt e with
     | true=>
      rw [ai];cases hc:(Nat.ble 1 i.size&&Nat.ble 1 i.bytes&&Nat.beq z.cells.size i.size&&flat z&&z.cells.toList.all scalar&&Nat.beq (bw P e).ks.length i.size&&cG (bw P e) (ib (bw P e) (iU z))) with
      | false=>exact dQ
      | true=>
       simp only [aD] at hc;obtain ⟨⟨⟨⟨⟨⟨h1,h2⟩,h3⟩,h4⟩,h5⟩,h6⟩,h7⟩:=hc;rw [h1,h2,h3,h4,h5] at bg;exact Lr bg (amU (bo h6) (gD h1) (bo h3) h7)
     | false=>
     rw [aw];cases hc:(Nat.ble 1 i.size&&Nat.ble 1 i.bytes&&Nat.beq z.cells.size i.size&&flat z&&z.cells.toList.all scalar&&jv (iU z).cells) with
     | false=>exact dQ
     | true=>
      simp only [aD] at hc;obtain ⟨⟨⟨⟨⟨h1,h2⟩,h3⟩,h4⟩,h5⟩,h6⟩:=hc;rw [h1,h2,h3,h4,h5] at bg;exact Lr bg (ai4 h6)
    ·exact dQ
   ·exact dQ
  ·exact dQ
 | call c=>
  show Ou P o (oE P cfg c);unfold oE;split
  ·split
   ·cases cfg.amy _ <;> trivial
   ·trivial
  ·trivial
  ·rename_i b hb
   obtain ⟨callee,args,argTypes⟩:=c;simp only at hb;subst hb;have bg:compile P o.op=M5 P b argTypes.toList args.toList:=by rw [ho]; rfl
   unfold E8;unfold M5 at bg;split
   ·
    simp only at bg;unfold agD;unfold afM at bg;split
    ·rename_i t ht
     rw [ht] at bg;simp only at bg;split
     ·rename_i e hu
      rw [hu] at bg;exact lift_pure bg aqV
     ·rename_i hu
      rw [hu] at bg;exact lift_pure bg aoF
     ·exact dQ
    ·exact dQ
   ·simp only at bg
    exact lift_pure (f:=Py false) bg agS
   ·simp only at bg
    exact lift_pure (f:=Py true) bg agS
   ·
    simp only at bg;unfold Nb;unfold Rb at bg;split
    ·rename_i t u ht
     rw [ht] at bg;simp only at bg;split
     ·rename_i e eu hu huu
      rw [hu] at bg;simp only at bg;split
      ·rename_i i hi
       rw [hi] at bg;simp only at bg;split
       ·rename_i z hz
        rw [hz] at bg;simp only at bg;cases hc:(Nat.ble 1 i.size&&Nat.beq z.cells.size i.size&&Nat.beq (bw P e).ks.length i.size) with
        | false=>exact dQ
        | true=>
         simp only [aD] at hc;have awv:Ra P u=true:=by unfold Ra; rw [huu]
         rw [hc.1.1,hc.1.2,awv] at bg;exact acm bg (amX (bo hc.2) (gD hc.1.1))
       ·exact dQ
      ·exact dQ
     ·exact dQ
    ·exact dQ
   ·
    simp only at bg;show Ou P o (Wt P argTypes.toList args.toList);unfold Wt;unfold ZO at bg;split
    ·rename_i t u ht
     rw [ht] at bg;simp only at bg;split
     ·rename_i e eu hu huu
      rw [hu] at bg;simp only at bg;split
      ·rename_i n hn
       rw [hn] at bg;simp only at bg;cases hc:(Nat.ble 1 n&&Nat.beq (bw P e).ks.length n) with
       | false=>exact dQ
       | true=>
        simp only [aD] at hc;rw [hc.1] at bg;exact acm bg (asx (bo hc.2) (gD hc.1))
      ·exact dQ
     ·exact dQ
    ·exact dQ
   ·trivial
  ·trivial
 | _=>trivial
end Go.K
end
section
namespace Go.K
open Go Go.aE
variable {P:Program} {E:Env}
theorem wO (t:bN):∀ xs,om t xs=xs.map (nG t)
 | []=>rfl
 | x::xs=>by rw [om,wO t xs]; rfl
structure nQ (P:Program) (E:Env) (ρ:a9) (t:bN) (N:Nat) (a:Act):Prop where
 size:a.tmps.size=N
 val:∀ i,VC P E ρ ((t.get i).getD .bJ) (a.tmps.getD i undef)
 none:∀ i,N<=i->t.get i=Option.none
theorem nQ.ev {ρ:a9} {t:bN} {N:Nat} {a:Act} (h:nQ P E ρ t N a) (x:Operand):VC P E ρ (nG t x) (a.eval x):=by
 cases x with
 | tmp i=>exact h.val i
 | const v=>
  simp only [nG,Act.eval];cases hf:flat v with
  | true=>exact ⟨v,.iU v,VR.of_flat hf⟩
  | false=>exact .bJ
 | global g=>exact .bJ
 | func f=>exact ⟨.func (.func f) ⟨[]⟩ ⟨[]⟩,.amF .nil .nil,VR.afO (l:=[]) (m:=[]) (.func f) rfl .nil .nil⟩
theorem nQ.mono {E' : Env} {ρ ba:a9} {t:bN} {N:Nat} {a:Act} (h:nQ P E ρ t N a) (k:E.le E') (m:ρ.le ba):nQ P E' ba t N a:=⟨h.size,fun i=>(h.val i).mono k m,h.none⟩
theorem nQ.put {ρ:a9} {t:bN} {N:Nat} {a:Act} {dst:Option Tmp} {v:KV} {v' : Value} (h:nQ P E ρ t N a) (hd:∀ d,dst=some d->d < N) (hv:VC P E ρ v v'):nQ P E ρ (tN t dst v) N (a.put dst v'):=by
 cases dst with
 | none=>exact h
 | some d=>
  have hd:=hd d rfl;refine ⟨by simp [Act.put,h.size],fun i=>?_,fun i hi=>?_⟩
  ·simp only [tN,Trie.sm,Act.put]
   by_cases e:i=d
   ·subst e
    have:i < a.tmps.size:=by rw [h.size]; exact hd
    simp [jh,this,hv]
   ·have:=h.val i
    simp only [aB e];simpa [jh,Array.getElem?_setIfInBounds_ne (Ne.symm e)] using this
  ·simp only [tN,Trie.sm]
   have eU:i≠d:=fun e=>absurd hi (by rw [e]; exact Nat.not_le_of_lt hd);rw [aB eU];exact h.none i hi
theorem nQ.same {ρ:a9} {t t' : bN} {N:Nat} {a:Act} (h:nQ P E ρ t N a) (hs:∀ i,t'.get i=t.get i):nQ P E ρ t' N a:=
 ⟨h.size,fun i=>by rw [hs]; exact h.val i,fun i hi=>by rw [hs]; exact h.none i hi⟩
theorem Iy {v:KV} {b:Bool} (h:zc v = .bool b):v = .bool b:=by cases v <;> simp [zc] at h; rw [h]
theorem ag9 {v:KV} (h:zc v = .jd):∃ l,v = .jd l:=by cases v <;> simp [zc] at h; exact ⟨_,rfl⟩
theorem RI {t:bN} {d:Tmp} {b:Bool} (h:zc ((t.get d).getD .bJ) = .bool b):∀ i,(Trie.set (.bool b) t d).get i=t.get i:=by
 intro i;have:=Iy h;rw [Trie.sm];split
 ·rename_i e
  subst e;cases ht:t.get i with
  | none=>rw [ht] at this; simp at this
  | some v=>rw [ht] at this; simp at this; rw [this]
 ·rfl
theorem VC.hO {ρ:a9} {b:Bool} {v:Value} (h:VC P E ρ (.bool b) v):v = .bool b:=by
 obtain ⟨u,h1,h2⟩:=h;have:=h1.hO; subst this;exact h2.hO
theorem ale {R:Type} {ρ:a9} {t:bN} {N:Nat} {a:Act} {all:List Oper} {o:Oper} {j:Nat} {want:Bool} {yes no:bN->Option R} {r:R} (hg:o.guard=some (j,want)) (ht:nQ P E ρ t N a)
  (h:amz t ((all[j]?).bind (·.dst)) want yes no=some r) :
  ∃ t',(∀ i,t'.get i=t.get i)/\((Region.wanted o (yielded ⟨all⟩ a.tmps)=true/\yes t' = some r)\/(Region.wanted o (yielded ⟨all⟩ a.tmps)=false/\no t' = some r)):=by
 unfold amz at h;cases hd:(all[j]?).bind (·.dst) with
 | none=>rw [hd] at h; exact absurd h (by simp)
 | some d=>
  rw [hd] at h;have hw:∀ u,a.tmps[d]? = some u->Region.wanted o (yielded ⟨all⟩ a.tmps)=(match u with
    | .bool b=>b==want
    | _=>false):=by
   intro u hu;unfold Region.wanted;rw [hg];simp only;unfold yielded;have e:(⟨all⟩:Array Oper)[j]? = all[j]?:=by simp
   rw [e,hd];simp only [gE,hu];cases u <;> rfl
  have CT:=ht.val d;have h:BK.rec (motive:=fun _=>Option R)
   (fun b=>Bool.rec (motive:=fun _=>Option R)
    (Bool.rec (motive:=fun _=>Option R) (yes (t.set (.bool false) d)) (no (t.set (.bool false) d)) want)
    (Bool.rec (motive:=fun _=>Option R) (no (t.set (.bool true) d)) (yes (t.set (.bool true) d)) want) b)
   (no t) none (zc ((t.get d).getD .bJ))=some r:=h
  cases hb:zc ((t.get d).getD .bJ) with
  | no=>rw [hb] at h; exact absurd h (by simp)
  | jd=>
   rw [hb] at h;obtain ⟨l,hl⟩:=ag9 hb;rw [hl] at CT;obtain ⟨u,h1,h2⟩:=CT;obtain ⟨m,rfl,_⟩:=h1.Uv;obtain ⟨m',h3,_⟩:=h2.YB;refine ⟨t,fun _=>rfl,.inr ⟨?_,h⟩⟩;cases hc:a.tmps[d]? with
   | none=>
    unfold Region.wanted;rw [hg];simp only;unfold yielded;have e:(⟨all⟩:Array Oper)[j]? = all[j]?:=by simp
    rw [e,hd];simp [hc]
   | some u=>
    have:u = .tuple m':=by rw [<- h3]; simp [jh,hc]
    rw [hw u hc,this]
  | bool b=>
   rw [hb] at h;have hbv:=Iy hb;rw [hbv] at CT;have hcv:=CT.hO;have hc:a.tmps[d]? = some (.bool b):=by
    cases hc:a.tmps[d]? with
    | none=>simp [jh,hc,undef] at hcv
    | some u=>have:u = .bool b:=by rw [<- hcv]; simp [jh,hc]
              rw [this]
   have hwd:=hw _ hc;refine ⟨t.set (.bool b) d,RI hb,?_⟩;cases b <;> cases want
   ·exact .inl ⟨hwd,h⟩
   ·exact .inr ⟨hwd,h⟩
   ·exact .inr ⟨hwd,h⟩
   ·exact .inl ⟨hwd,h⟩
def Je (P:Program) (E:Env) (ρ:a9) (l:List KV) (l' : List Value):Prop:=∃ m,bp P E l m/\eK ρ m l'
def PQ (P : Program) (g : FuncId) : Prop := Nat.blt g yB = true ∧ ∃ fn, P.funcs[g]? = some fn ∧ fn.body.isSome = true ∧ (fn.name == "runtime.NumGoroutine") = false
def PR {R:Type} (P:Program) (bL:qC R):Prop:=
 ∀ f args A k r,bL f args A k=some r->PQ P f/\∀ (E:Env) (B:St) (ρ:a9) (base:Nat) (w:World) (mN:List Value),Je P E ρ args mN->KJ P E A B ρ base w->
  Calls P f mN.toArray w fun e w'=>∃ v v' E' A' B' ba,e = .returned v'/\VC P E' ba v v'/\Ev P base E A B ρ w E' A' B' ba w'/\k v A' = some r
def a7 (P:Program) (g:FuncId) (F:List KV->KR KV):Prop:=
 ∀ args v,bf (F (normArgs P (gp P g) args)) v->args.length=(gp P g).length->PQ P g/\∀ (E:Env) (A:aC) (B:St) (ρ:a9) (base:Nat) (w:World) (mN:List Value),Je P E ρ args mN->KJ P E A B ρ base w->
  Calls P g mN.toArray w fun e w'=>∃ v' E' B' ba,e = .returned v'/\VC P E' ba v v'/\Ev P base E A B ρ w E' A B' ba w'
def vZ (P:Program) (pc:FuncId->Option (List KV->KR KV)):Prop:=∀ g F,pc g=some F->a7 P g F
theorem alf {o:Oper} {f:Operand} {args:List Operand} (bg:compile P o.op = .call f args) {ρ:a9} {t:bN} {N:Nat} {a:Act} (ht:nQ P E ρ t N a) {g:FuncId} {vs:List KV} (hc:Ln (om t args) (nG t f)=some (g,vs)) (hg:PQ P g) :
  ∃ cP,Je P E ρ vs cP/\∀ w,(execOp a.eval o).run P w = .ok (.enter g cP.toArray) w:=by
 have cm:=u7 P o;rw [bg] at cm;obtain ⟨em,h1,h2⟩:=cI (xs:=f::args) (ev:=nG t) (da:=a.eval) fun x _=>ht.ev x;obtain ⟨y,ys,e,h3,h4⟩:=h1.cons_inv;simp only [List.map_cons,List.cons.injEq] at e;obtain ⟨rfl,rfl⟩:=e;have hv:∃ us,zQ (args.map em) (em f)=some (g,us)/\bp P E vs us:=by
  unfold Ln at hc;split at hc
  ·rename_i g' first cap e
   simp only [dE,gF] at hc;obtain ⟨rfl,rfl⟩:=hc;rw [e] at h3;obtain ⟨l,m,e2,h5,h6⟩:=h3.Nf;rw [e2];refine ⟨l++args.map em++m,by simp only [zQ]; rw [hg.1]; rfl,?_⟩;rw [wO];exact (h5.append h4).append h6
  ·simp at hc
 obtain ⟨us,h5,h6⟩:=hv;obtain ⟨cP,h7,h8⟩:=cm.2 ρ em a.eval g us h2 hg.1 h5 hg.2;exact ⟨cP,⟨us,h6,h7⟩,h8⟩
def eB:vd->Bool
 | .call _ _=>false
 | .GD _ _ _=>false
 | .Lm _ _ _=>false
 | _=>true
theorem fe {c:Bool} {x:vd} (h:eB x=true):eB (cond c x .bad)=true:=by
 cases c with
 | false=>rfl
 | true=>exact h
theorem GM (mt:TypeId->Bool) (b:Builtin) (ts:List TypeId) (args:List Operand):eB (E8 P mt b ts args)=true:=by
 unfold E8 agD Nb Wt
 repeat' split
 all_goals first | rfl | exact fe rfl
theorem DG (mt:TypeId->Bool) (t:TypeId) (l c:Operand):eB (zW P mt t l c)=true:=by
 unfold zW;split
 ·rename_i e he
  split
  ·split
   ·cases mt (e+1000000)
    ·cases mt e <;> exact fe rfl
    ·exact fe rfl
   ·rfl
  ·rfl
 ·rfl
theorem ad5 {cfg:fW} {op:Op} {f:Operand} {args:List Operand} (h:cf P cfg op = .call f args):compile P op = .call f args:=by
 have key:eB (cf P cfg op)=true->compile P op = .call f args:=fun hn=>by rw [h] at hn; simp [eB] at hn
 cases op with
 | call c=>
  have h:oE P cfg c = .call f args:=h;show EP P c=_;unfold oE at h;unfold EP;split at h
  ·rename_i g hc
   split at h
   ·cases hz:cfg.amy g <;> rw [hz] at h <;> simp at h
   ·simp at h; obtain ⟨rfl,rfl⟩:=h; rw [hc]
  ·rename_i f' eU hc; simp at h; obtain ⟨rfl,rfl⟩:=h; rw [hc]
  ·rename_i b hc
   have:=GM (P:=P) cfg.x.mt b c.argTypes.toList c.args.toList;rw [h] at this;simp [eB] at this
  ·simp at h
 | alloc t=>exact key (by show eB (tv P t)=true; unfold tv; split <;> first | rfl | exact fe rfl)
 | build t ps=>exact key (by show eB (xQ P t _ _)=true; unfold xQ; (repeat' split); all_goals first | rfl | exact fe rfl)
 | buildSlice t n ps=>exact key (by show eB (n6 P t n _ _)=true; unfold n6; (repeat' split); all_goals first | rfl | exact fe (by cases Rp _ <;> first | rfl | exact fe rfl))
 | convert s d x=>exact key (by show eB (sI P s d x)=true; unfold sI; (repeat' split); all_goals first | rfl | exact fe rfl)
 | makeFunc fn a b=>exact key (by show eB (cond (CQ fn) .bad _)=true; cases CQ fn <;> rfl)
 | fieldAddr s x i=>exact key (by show eB (pF P s x i)=true; unfold pF; (repeat' split); all_goals rfl)
 | field s x i=>exact key (by show eB (xS P s x i)=true; unfold xS; (repeat' split); all_goals rfl)
 | indexAddr s x i=>exact key (by show eB (pG P s x i)=true; unfold pG; (repeat' split); all_goals rfl)
 | index s x i=>exact key (by show eB (xT P s x i)=true; unfold xT; (repeat' split); all_goals rfl)
 | slice t x lo hi mx=>exact key (by show eB (xU P t x lo hi mx)=true; unfold xU; (repeat' split); all_goals first | rfl | exact fe rfl)
 | makeSlice t l c=>exact key (DG _ t l c)
 | _=>exact key rfl
theorem alg {cfg:fW} {op:Op} {g:FuncId} {F:List KV->KR KV} {args:List Operand} (h:cf P cfg op = .GD g F args):compile P op = .call (.func g) args/\∃ F0,cfg.pc g=some F0/\F=fun vs=>cond (Nat.beq vs.length (gp P g).length) (F0 (normArgs P (gp P g) vs)) .no:=by
 have key:eB (cf P cfg op)=true->compile P op = .call (.func g) args/\∃ F0,cfg.pc g=some F0/\F=fun vs=>cond (Nat.beq vs.length (gp P g).length) (F0 (normArgs P (gp P g) vs)) .no:=fun hn=>by rw [h] at hn; simp [eB] at hn
 cases op with
 | call c=>
  have h:oE P cfg c = .GD g F args:=h;show EP P c=_/\_;unfold oE at h;unfold EP;split at h
  ·rename_i g' hc
   split at h
   ·rename_i F0 hF
    cases hz:cfg.amy g' with
    | true=>rw [hz] at h; simp at h
    | false=>
     rw [hz] at h;simp at h; obtain ⟨rfl,rfl,rfl⟩:=h; rw [hc];exact ⟨rfl,F0,hF,rfl⟩
   ·simp at h
  ·simp at h
  ·rename_i b hc
   have:=GM (P:=P) cfg.x.mt b c.argTypes.toList c.args.toList;rw [h] at this;simp [eB] at this
  ·simp at h
 | alloc t=>exact key (by show eB (tv P t)=true; unfold tv; split <;> first | rfl | exact fe rfl)
 | build t ps=>exact key (by show eB (xQ P t _ _)=true; unfold xQ; (repeat' split); all_goals first | rfl | exact fe rfl)
 | buildSlice t n ps=>exact key (by show eB (n6 P t n _ _)=true; unfold n6; (repeat' split); all_goals first | rfl | exact fe (by cases Rp _ <;> first | rfl | exact fe rfl))
 | convert s d x=>exact key (by show eB (sI P s d x)=true; unfold sI; (repeat' split); all_goals first | rfl | exact fe rfl)
 | makeFunc fn a b=>exact key (by show eB (cond (CQ fn) .bad _)=true; cases CQ fn <;> rfl)
 | fieldAddr s x i=>exact key (by show eB (pF P s x i)=true; unfold pF; (repeat' split); all_goals rfl)
 | field s x i=>exact key (by show eB (xS P s x i)=true; unfold xS; (repeat' split); all_goals rfl)
 | indexAddr s x i=>exact key (by show eB (pG P s x i)=true; unfold pG; (repeat' split); all_goals rfl)
 | index s x i=>exact key (by show eB (xT P s x i)=true; unfold xT; (repeat' split); all_goals rfl)
 | slice t x lo hi mx=>exact key (by show eB (xU P t x lo hi mx)=true; unfold xU; (repeat' split); all_goals first | rfl | exact fe rfl)
 | makeSlice t l c=>exact key (DG _ t l c)
 | _=>exact key rfl
theorem alh {cfg:fW} {op:Op} {g:FuncId} {F:List KV->KR KV} {args:List Operand} (h:cf P cfg op = .Lm g F args):compile P op = .call (.func g) args/\∃ F0,cfg.pc g=some F0/\F=fun vs=>cond (Nat.beq vs.length (gp P g).length) (F0 (normArgs P (gp P g) vs)) .no:=by
 have key:eB (cf P cfg op)=true->compile P op = .call (.func g) args/\∃ F0,cfg.pc g=some F0/\F=fun vs=>cond (Nat.beq vs.length (gp P g).length) (F0 (normArgs P (gp P g) vs)) .no:=fun hn=>by rw [h] at hn; simp [eB] at hn
 cases op with
 | call c=>
  have h:oE P cfg c = .Lm g F args:=h;show EP P c=_/\_;unfold oE at h;unfold EP;split at h
  ·rename_i g' hc
   split at h
   ·rename_i F0 hF
    cases hz:cfg.amy g' with
    | false=>rw [hz] at h; simp at h
    | true=>
     rw [hz] at h;simp at h; obtain ⟨rfl,rfl,rfl⟩:=h; rw [hc];exact ⟨rfl,F0,hF,rfl⟩
   ·simp at h
  ·simp at h
  ·rename_i b hc
   have:=GM (P:=P) cfg.x.mt b c.argTypes.toList c.args.toList;rw [h] at this;simp [eB] at this
  ·simp at h
 | alloc t=>exact key (by show eB (tv P t)=true; unfold tv; split <;> first | rfl | exact fe rfl)
 | build t ps=>exact key (by show eB (xQ P t _ _)=true; unfold xQ; (repeat' split); all_goals first | rfl | exact fe rfl)
 | buildSlice t n ps=>exact key (by show eB (n6 P t n _ _)=true; unfold n6; (repeat' split); all_goals first | rfl | exact fe (by cases Rp _ <;> first | rfl | exact fe rfl))
 | convert s d x=>exact key (by show eB (sI P s d x)=true; unfold sI; (repeat' split); all_goals first | rfl | exact fe rfl)
 | makeFunc fn a b=>exact key (by show eB (cond (CQ fn) .bad _)=true; cases CQ fn <;> rfl)
 | fieldAddr s x i=>exact key (by show eB (pF P s x i)=true; unfold pF; (repeat' split); all_goals rfl)
 | field s x i=>exact key (by show eB (xS P s x i)=true; unfold xS; (repeat' split); all_goals rfl)
 | indexAddr s x i=>exact key (by show eB (pG P s x i)=true; unfold pG; (repeat' split); all_goals rfl)
 | index s x i=>exact key (by show eB (xT P s x i)=true; unfold xT; (repeat' split); all_goals rfl)
 | slice t x lo hi mx=>exact key (by show eB (xU P t x lo hi mx)=true; unfold xU; (repeat' split); all_goals first | rfl | exact fe rfl)
 | makeSlice t l c=>exact key (DG _ t l c)
 | _=>exact key rfl
noncomputable def zl (ins:vd) (t:bN) (A:aC):KR (KV×aC):=
 match ins with
 | .pure f xs=>(f (om t xs)).map fun v=>(v,A)
 | .read f xs=>(f A (om t xs)).map fun v=>(v,A)
 | .act f xs=>f A (om t xs)
 | .look f xs=>(f (om t xs)).map fun v=>(v,A)
 | .GD _ f xs=>(f (om t xs)).map fun v=>(v,A)
 | .Lm _ f xs=>(f (B7 A (om t xs)).1).map fun v=>(v,(B7 A (om t xs)).2)
 | .call _ _=>.no
 | .bad=>.no
theorem bf.Fe {α β:Type} {r:KR α} {f:α->β} {u:α} (h:bf r u):bf (r.map f) (f u):=by
 cases r with
 | no=>exact h.elim
 | ok x=>have h:x=u:=h; subst h; exact rfl
 | nF c x=>obtain ⟨h1,rfl⟩:=h; exact ⟨h1,rfl⟩
 | br c x y=>exact h.imp (fun h=>⟨h.1,bf.Fe (r:=x) h.2⟩) (fun h=>⟨h.1,bf.Fe (r:=y) h.2⟩)
theorem Nj {R:Type} {bL:qC R} {t:bN} {A:aC} {k:KV->aC->Option R} {ins:vd} {r:R} (hn:∀ f args,ins≠.call f args) (h:Ut bL t A k ins=some r):∃ v A',bf (zl ins t A) (v,A')/\k v A' = some r:=by
 cases ins with
 | pure f xs=>obtain ⟨v,h1,h2⟩:=KR.Ef h; exact ⟨v,A,h1.Fe,h2⟩
 | read f xs=>obtain ⟨v,h1,h2⟩:=KR.Ef h; exact ⟨v,A,h1.Fe,h2⟩
 | act f xs=>obtain ⟨v,h1,h2⟩:=KR.Ef h; exact ⟨v.1,v.2,h1,h2⟩
 | look f xs=>obtain ⟨v,h1,h2⟩:=KR.Ef h; exact ⟨v,A,h1.Fe,h2⟩
 | GD g f xs=>obtain ⟨v,h1,h2⟩:=KR.Ef h; exact ⟨v,A,h1.Fe,h2⟩
 | Lm g f xs=>obtain ⟨v,h1,h2⟩:=KR.Ef h; exact ⟨v,(B7 A (om t xs)).2,h1.Fe (f:=fun v=>(v,(B7 A (om t xs)).2)),h2⟩
 | call f args=>exact absurd rfl (hn f args)
 | bad=>exact absurd h (by simp [Ut])
theorem ad6 {cfg:fW} (je:vZ P cfg.pc) {o:Oper} {g:FuncId} {xs:List Operand} (bg:compile P o.op = .call (.func g) xs) {F0:List KV->KR KV} (hF0:cfg.pc g=some F0) {t:bN} {vs0:List KV} {v:KV}
  (hf:bf (F0 (normArgs P (gp P g) vs0)) v) (hlen:vs0.length=(gp P g).length) {E:Env} {ρ:a9} {a:Act} (hv:∀ x∈xs,VC P E ρ (nG t x) (a.eval x)) {A A1:aC} {B:St} {base:Nat} {w:World}
  (aww:∀ us,bp P E (xs.map (nG t)) us->∃ E1,Ev P base E A B ρ w E1 A1 B ρ w/\bp P E1 vs0 us) {next:Act->World->Prop} {Q:Exit->Act->World->Prop}
  (hk:∀ E' B' ba v' w',VC P E' ba v v'->Ev P base E A B ρ w E' A1 B' ba w'->next (a.put o.dst v') w'):o.upon P a next Q ((execOp a.eval o).run P w):=by
 obtain ⟨hg,qe⟩:=je g F0 hF0 _ _ hf hlen;have ad7:=u7 P o;rw [bg] at ad7;obtain ⟨em,h3,h4⟩:=cI (xs:=xs) hv
 let em2:Operand->Value:=fun x=>match x with
  | .func f=>.func (.func f) #[] #[]
  | x=>em x
 have e3:∀ x∈xs,VK P E (nG t x) (em2 x)/\VR ρ (em2 x) (a.eval x):=by
  intro x hx;have key:∀ (l:List Operand),bp P E (l.map (nG t)) (l.map em)->x∈l->VK P E (nG t x) (em x):=by
   intro l
   induction l with
   | nil=>intro _ h; simp at h
   | cons y l ih=>
    intro h hm;obtain ⟨z,zs,e,q1,q2⟩:=h.cons_inv;simp only [List.map_cons,List.cons.injEq] at e;obtain ⟨rfl,rfl⟩:=e;rcases ff.1 hm with rfl | hm
    ·exact q1
    ·exact ih q2 hm
  cases x with
  | func f=>exact ⟨.amF .nil .nil,VR.afO (l:=[]) (m:=[]) (.func f) rfl .nil .nil⟩
  | tmp i=>exact ⟨key xs h3 hx,h4 _ hx⟩
  | const c=>exact ⟨key xs h3 hx,h4 _ hx⟩
  | global q=>exact ⟨key xs h3 hx,h4 _ hx⟩
 have e4:bp P E (xs.map (nG t)) (xs.map em2):=by
  have:∀ (l:List Operand),(∀ x∈l,VK P E (nG t x) (em2 x))->bp P E (l.map (nG t)) (l.map em2):=by
   intro l
   induction l with
   | nil=>intro _; exact .nil
   | cons y l ih=>intro h; exact .cons (h y (by simp)) (ih fun z hz=>h z (by simp [hz]))
  exact this xs fun x hx=>(e3 x hx).1
 obtain ⟨cP,h5,h6⟩:=ad7.2 ρ em2 a.eval g (xs.map em2) (fun x hx=>by
   rcases ff.1 hx with rfl | hx
   ·exact VR.afO (l:=[]) (m:=[]) (.func g) rfl .nil .nil
   ·exact (e3 x hx).2) hg.1 (by simp only [em2,zQ]; rw [hg.1]; simp) hg.2
 rw [h6 w];obtain ⟨E1,q1,q2⟩:=aww _ e4;refine (qe E1 A1 B ρ base w cP ⟨xs.map em2,q2,h5⟩ q1.kj).mono ?_;rintro e w' ⟨v',E',B',ba,rfl,h7,h8⟩;exact hk E' B' ba v' w' h7 (q1.trans h8)
theorem RJ {cfg:fW} (je:vZ P cfg.pc) {o:Oper} {t:bN} {A A' : aC} {v:KV} {base:Nat} {B:St} {ρ:a9} {a:Act} {w:World} {next:Act->World->Prop} {Q:Exit->Act->World->Prop}
  (h:bf (zl (cf P cfg o.op) t A) (v,A')) (hv:∀ x∈afU (cf P cfg o.op),VC P E ρ (nG t x) (a.eval x)) (hj:KJ P E A B ρ base w)
  (hk:∀ E' B' ba v' w',VC P E' ba v v'->Ev P base E A B ρ w E' A' B' ba w'->next (a.put o.dst v') w'):o.wp P a w next Q:=by
 have cm:=aq3 P cfg o;have aqc:=@alg P cfg o.op;have aqd:=@alh P cfg o.op;generalize cf P cfg o.op=ins at h cm hv aqc aqd;unfold Oper.wp;cases ins with
 | pure f xs=>
  obtain ⟨u,h1,h2⟩:=bf.map h;simp only [gF] at h2;obtain ⟨rfl,rfl⟩:=h2;rw [wO] at h1;obtain ⟨v',h3,h4⟩:=cm E ρ (nG t) a.eval u hv h1;rw [h4 w];exact hk E B ρ v' w h3 (.refl hj.k hj.s)
 | read f xs=>
  obtain ⟨u,h1,h2⟩:=bf.map h;simp only [gF] at h2;obtain ⟨rfl,rfl⟩:=h2;rw [wO] at h1;obtain ⟨v',h3,h4⟩:=cm E A B ρ base w (nG t) a.eval u hj hv h1;rw [h4];exact hk E B ρ v' w h3 (.refl hj.k hj.s)
 | act f xs=>
  have h:bf (f A (om t xs)) (v,A'):=h;rw [wO] at h;obtain ⟨E',B',ba,v',nx,w',h1,h2,h3,h4⟩:=cm E A A' B ρ base w (nG t) a.eval v hj hv h;rw [h1];have hd:=hk E' B' ba v' w' h3 h4;cases nx with
  | value u=>have:u=v':=h2; subst this; exact hd
  | skip=>have:v' = undef:=h2; subst this; exact hd
  | _=>exact h2.elim
 | look f xs=>
  obtain ⟨u,h1,h2⟩:=bf.map h;simp only [gF] at h2;obtain ⟨rfl,rfl⟩:=h2;rw [wO] at h1;obtain ⟨E',B',ba,v',nx,w',h3,h4,h5,h6⟩:=cm E A B ρ base w (nG t) a.eval u hj hv h1;rw [h3];have hd:=hk E' B' ba v' w' h5 h6;cases nx with
  | value u=>have:u=v':=h4; subst this; exact hd
  | skip=>have:v' = undef:=h4; subst this; exact hd
  | _=>exact h4.elim
 | GD g f xs=>
  obtain ⟨u,h1,h2⟩:=bf.map h;simp only [gF] at h2;obtain ⟨rfl,rfl⟩:=h2;obtain ⟨bg,F0,hF0,rfl⟩:=aqc rfl;obtain ⟨hlen,hf⟩:=bf.cond h1;exact ad6 je bg hF0 hf (bo hlen) hv (fun us q=>⟨E,.refl hj.k hj.s,by rw [wO]; exact q⟩) hk
 | Lm g f xs=>
  obtain ⟨u,h1,h2⟩:=bf.map h;simp only [gF] at h2;obtain ⟨rfl,rfl⟩:=h2;obtain ⟨bg,F0,hF0,rfl⟩:=aqd rfl;obtain ⟨hlen,hf⟩:=bf.cond h1;refine ad6 je bg hF0 hf (bo hlen) hv (fun us q=>?_) hk;obtain ⟨E1,p1,p2⟩:=Ni hj.k q;rw [wO];exact ⟨E1,p1.ev (.refl hj.s),p2⟩
 | call f args=>exact h.elim
 | bad=>exact h.elim
end Go.K
end
section
namespace Go.K
open Go Go.aE
variable {P:Program} {E:Env}
theorem ad8 {R:Type} {cfg:fW} {bL:qC R} (je:vZ P cfg.pc) (zH:PR P bL) {o:Oper} {t:bN} {A:aC} {k:KV->aC->Option R} {r:R} {N base:Nat} {B:St} {ρ:a9} {a:Act} {w:World} {next:Act->World->Prop} {Q:Exit->Act->World->Prop}
  (h:Ut bL t A k (cf P cfg o.op)=some r) (ht:nQ P E ρ t N a) (hj:KJ P E A B ρ base w)
  (hk:∀ E' A' B' ba v v' w',k v A' = some r->VC P E' ba v v'->Ev P base E A B ρ w E' A' B' ba w'->next (a.put o.dst v') w'):o.wp P a w next Q:=by
 by_cases hc:∃ f args,cf P cfg o.op = .call f args
 ·obtain ⟨f,args,hc⟩:=hc
  rw [hc] at h;have h:Option.rec (motive:=fun _=>Option R) none (fun p=>bL p.1 p.2 A k) (Ln (om t args) (nG t f))=some r:=h;cases amq:Ln (om t args) (nG t f) with
  | none=>rw [amq] at h; exact absurd h (by simp)
  | some p=>
   obtain ⟨g,vs⟩:=p;rw [amq] at h;have h:bL g vs A k=some r:=h;obtain ⟨hg,qe⟩:=zH g vs A k r h;obtain ⟨cP,h1,h2⟩:=alf (ad5 hc) ht amq hg;unfold Oper.wp;rw [h2 w];refine (qe E B ρ base w cP h1 hj).mono ?_;rintro e w' ⟨v,v',E',A',B',ba,rfl,h3,h4,h5⟩;exact hk E' A' B' ba v v' w' h5 h3 h4
 ·obtain ⟨v,A',h1,h2⟩:=Nj (fun f args e=>hc ⟨f,args,e⟩) h
  exact RJ je h1 (fun x _=>ht.ev x) hj fun E' B' ba v' w' h3 h4=>hk E' A' B' ba v v' w' h2 h3 h4
theorem amZ {R:Type} {cfg:fW} {bL:qC R} {all:List Oper} {o:Oper} {k:bN->aC->Option R} {t:bN} {A:aC} {r:R} {N:Nat} {ρ:a9} {a:Act} (ht:nQ P E ρ t N a) (h:DD P cfg bL all o k t A=some r) :
  ∃ t1,(∀ i,t1.get i=t.get i)/\((Region.wanted o (yielded ⟨all⟩ a.tmps)=true/\Ut bL t1 A (fun v A=>k (tN t1 o.dst v) A) (cf P cfg o.op)=some r)\/
   (Region.wanted o (yielded ⟨all⟩ a.tmps)=false/\k (tN t1 o.dst wk) A=some r)):=by
 unfold DD at h;cases hg:o.guard with
 | none=>
  rw [hg] at h;refine ⟨t,fun _=>rfl,.inl ⟨?_,h⟩⟩;unfold Region.wanted;rw [hg]
 | some p=>
  obtain ⟨j,want⟩:=p;rw [hg] at h;exact ale hg ht h
theorem UG {R:Type} {cfg:fW} {bL:qC R} (je:vZ P cfg.pc) (zH:PR P bL) {N base:Nat} {Q:Exit->Act->World->Prop} {all:List Oper} (hd:all.all (Oe N)=true) {k:bN->aC->Option R} {r:R} :
  ∀ (os:List Oper) (j:Nat) (t:bN) (E:Env) (A:aC) (B:St) (ρ:a9) (a:Act) (w:World),all.drop j=os->xF P cfg bL all k os t A=some r->nQ P E ρ t N a->KJ P E A B ρ base w->
   (∀ t' E' A' B' ba a' w',k t' A' = some r->nQ P E' ba t' N a'->a'.defers=a.defers->Ev P base E A B ρ w E' A' B' ba w'->Q .normal a' w')->wpOps P ⟨all⟩ Q (List.range' j os.length) a w
 | [],j,t,E,A,B,ρ,a,w,_,h,ht,hj,hq=>hq t E A B ρ a w h ht rfl (.refl hj.k hj.s)
 | o::os,j,t,E,A,B,ρ,a,w,hk,h,ht,hj,hq=>by
  have ho:(⟨all⟩:Array Oper)[j]? = some o:=by
   have:(all.drop j)[0]? = some o:=by rw [hk]; rfl
   rw [rK] at this;simpa using this
  have Cc:all.drop (j+1)=os:=by rw [<- List.drop_drop,hk]; rfl
  have Lv:∀ d,o.dst=some d->d < N:=by
   intro d e;have hm:o∈all:=ji (by simpa using ho);have:=im.1 hd o hm;unfold Oe at this;rw [e] at this;simp only at this;rw [bX] at this;exact this
  rw [Kh,List.range'_succ];simp only [wpOps,ho];have h:DD P cfg bL all o (xF P cfg bL all k os) t A=some r:=h;obtain ⟨t1,wF,h⟩:=amZ ht h;have Cf:=ht.same wF;rcases h with ⟨hw,h⟩ | ⟨hw,h⟩
  ·rw [hw]
   refine .inl (ad8 je zH h Cf hj fun E' A' B' ba v v' w' h1 h2 h3=>?_);refine UG je zH hd os (j+1) _ E' A' B' ba _ w' Cc h1 ((Cf.mono h3.le (h3.gX.le hj.s)).put Lv h2) h3.kj fun t' PS A'' RK zS a'' Po h4 h5 h6 h7=>?_;exact hq t' PS A'' RK zS a'' Po h4 h5 (by rw [h6,put_defers]) (h3.trans h7)
  ·rw [hw]
   refine UG je zH hd os (j+1) _ E A B ρ _ w Cc h (Cf.put Lv .undef) hj fun t' PS A'' RK zS a'' Po h4 h5 h6 h7=>?_;exact hq t' PS A'' RK zS a'' Po h4 h5 (by rw [h6,put_defers]) h7
abbrev Out:=Bool×KV×aC
inductive Run (P:Program) (cfg:fW) (all:List Oper):List Oper->bN->aC->List Out->bN->aC->Prop where
 | nil {t:bN} {A:aC} : Run P cfg all [] t A [] t A
 | cons {o:Oper} {os:List Oper} {t t1 t' : bN} {A A1 A' : aC} {wd:Bool} {v:KV} {L:List Out}
   (same:∀ i,t1.get i=t.get i)
   (want:(o.guard=none/\wd=true)\/∃ j want d,o.guard=some (j,want)/\(all[j]?).bind (·.dst)=some d/\((∃ b,t.get d=some (.bool b)/\wd=(b==want))\/(∃ l,t.get d=some (.jd l)/\wd=false)))
   (yes:wd=true->bf (zl (cf P cfg o.op) t1 A) (v,A1)) (no:wd=false->v=wk/\A1=A)
   (rest:Run P cfg all os (tN t1 o.dst v) A1 L t' A'):Run P cfg all (o::os) t A ((wd,v,A1)::L) t' A'
theorem RL {R:Type} {t:bN} {d:Option Tmp} {want:Bool} {yes no:bN->Option R} {r:R} (h:amz t d want yes no=some r) :
  ∃ d',d=some d'/\((∃ b t',t.get d' = some (.bool b)/\(∀ i,t'.get i=t.get i)/\((b==want)=true/\yes t' = some r\/(b==want)=false/\no t' = some r))\/∃ l,t.get d' = some (.jd l)/\no t=some r):=by
 unfold amz at h;cases d with
 | none=>exact absurd h (by simp)
 | some d=>
  refine ⟨d,rfl,?_⟩;have h:BK.rec (motive:=fun _=>Option R)
   (fun b=>Bool.rec (motive:=fun _=>Option R)
    (Bool.rec (motive:=fun _=>Option R) (yes (t.set (.bool false) d)) (no (t.set (.bool false) d)) want)
    (Bool.rec (motive:=fun _=>Option R) (no (t.set (.bool true) d)) (yes (t.set (.bool true) d)) want) b)
   (no t) none (zc ((t.get d).getD .bJ))=some r:=h
  have qu:∀ v,(t.get d).getD .bJ=v->v≠.bJ->t.get d=some v:=by
   intro v e eU;cases hg:t.get d with
   | none=>rw [hg] at e; exact absurd e.symm eU
   | some u=>rw [hg] at e; simp at e; rw [e]
  cases hb:zc ((t.get d).getD .bJ) with
  | no=>rw [hb] at h; exact absurd h (by simp)
  | jd=>
   rw [hb] at h;obtain ⟨l,hl⟩:=ag9 hb;exact .inr ⟨l,qu _ hl (by simp),h⟩
  | bool b=>
   rw [hb] at h;refine .inl ⟨b,t.set (.bool b) d,qu _ (Iy hb) (by simp),RI hb,?_⟩;cases b <;> cases want
   ·exact .inl ⟨rfl,h⟩
   ·exact .inr ⟨rfl,h⟩
   ·exact .inr ⟨rfl,h⟩
   ·exact .inl ⟨rfl,h⟩
theorem aam {R:Type} {cfg:fW} {bL:qC R} {all:List Oper} {k:bN->aC->Option R} {r:R} : ∀ {os:List Oper} {t:bN} {A:aC},(∀ o∈os,∀ f args,cf P cfg o.op≠.call f args)->xF P cfg bL all k os t A=some r->
  ∃ L t' A',Run P cfg all os t A L t' A'/\k t' A' = some r
 | [],t,A,_,h=>⟨[],t,A,.nil,h⟩
 | o::os,t,A,hn,h=>by
  have h:DD P cfg bL all o (xF P cfg bL all k os) t A=some r:=h;have Rm:=fun q hq=>hn q (wh o hq);unfold DD at h;cases hg:o.guard with
  | none=>
   rw [hg] at h;obtain ⟨v,A1,h1,h2⟩:=Nj (hn o (by simp)) h;obtain ⟨L,t',A',h3,h4⟩:=aam Rm h2;exact ⟨_,t',A',.cons (fun _=>rfl) (.inl ⟨hg,rfl⟩) (fun _=>h1) (fun e=>by simp at e) h3,h4⟩
  | some p=>
   obtain ⟨j,want⟩:=p;rw [hg] at h;obtain ⟨d,hd,h⟩:=RL h;rcases h with ⟨b,t1,h1,h2,h3⟩ | ⟨l,h1,h2⟩
   ·rcases h3 with ⟨h3,h4⟩ | ⟨h3,h4⟩
    ·obtain ⟨v,A1,h5,h6⟩:=Nj (hn o (by simp)) h4
     obtain ⟨L,t',A',h7,h8⟩:=aam Rm h6;exact ⟨_,t',A',.cons h2 (.inr ⟨j,want,d,hg,hd,.inl ⟨b,h1,h3.symm⟩⟩) (fun _=>h5) (fun e=>by simp at e) h7,h8⟩
    ·obtain ⟨L,t',A',h7,h8⟩:=aam Rm h4
     exact ⟨_,t',A',.cons h2 (.inr ⟨j,want,d,hg,hd,.inl ⟨b,h1,h3.symm⟩⟩) (fun e=>by simp at e) (fun _=>⟨rfl,rfl⟩) h7,h8⟩
   ·obtain ⟨L,t',A',h7,h8⟩:=aam Rm h2
    exact ⟨_,t',A',.cons (fun _=>rfl) (.inr ⟨j,want,d,hg,hd,.inr ⟨l,h1,rfl⟩⟩) (fun e=>by simp at e) (fun _=>⟨rfl,rfl⟩) h7,h8⟩
noncomputable def turns (P:Program) (cfg:fW) (o:Oper) (x:Out):Bool:=x.1&&Nat.ble 3 (ef (cf P cfg o.op))
noncomputable def j9 (S:Nat->Bool):List Oper->List Out->Nat->bN->bN
 | o::os,x::L,i,t=>j9 S os L (i+1) (cond (S i) (tN t o.dst x.2.1) t)
 | _,_,_,t=>t
noncomputable def qx (P:Program) (cfg:fW) (S:Nat->Bool):List Oper->List Out->Nat->aC->aC
 | o::os,x::L,i,A=>qx P cfg S os L (i+1) (cond (S i&&turns P cfg o x) x.2.2 A)
 | _,_,_,A=>A
theorem wP (t:bN) (dst:Option Tmp) (v:KV) (x:Tmp):(tN t dst v).get x=if dst=some x then some v else t.get x:=by
 cases dst with
 | none=>rfl
 | some d=>
  simp only [tN,Trie.sm,dE];by_cases h:x=d
  ·rw [aW h,aW h.symm]
  ·rw [aB h,aB (Ne.symm h)]
theorem GN (S:Nat->Bool):∀ (os:List Oper) (L:List Out) (k:Nat) (t:bN),j9 S os L (k+1) t=j9 (fun i=>S (i+1)) os L k t
 | [],L,k,t=>by cases L <;> rfl
 | o::os,[],k,t=>rfl
 | o::os,x::L,k,t=>by simp only [j9]; exact GN S os L (k+1) _
theorem YP {cfg:fW} (S:Nat->Bool):∀ (os:List Oper) (L:List Out) (k:Nat) (A:aC),qx P cfg S os L (k+1) A=qx P cfg (fun i=>S (i+1)) os L k A
 | [],L,k,t=>by cases L <;> rfl
 | o::os,[],k,t=>rfl
 | o::os,x::L,k,t=>by simp only [qx]; exact YP S os L (k+1) _
theorem oH {S S' : Nat->Bool} {y:Tmp} : ∀ {os:List Oper} {L:List Out} {k:Nat} {t t' : bN},t.get y=t'.get y->(∀ i o,os[i]? = some o->o.dst=some y->S (k+i)=S' (k+i))->(j9 S os L k t).get y=(j9 S' os L k t').get y
 | [],L,k,t,t',h,_=>by cases L <;> exact h
 | o::os,[],k,t,t',h,_=>h
 | o::os,x::L,k,t,t',h,hs=>by
  simp only [j9];refine oH ?_ fun i o' ho hd=>by have:=hs (i+1) o' (by simpa using ho) hd; rwa [show k+(i+1)=k+1+i by omega] at this
  by_cases hd:o.dst=some y
  ·have:=hs 0 o rfl hd
   rw [Db] at this;rw [this];cases S' k with
   | true=>simp only [ai,wP,aW hd]
   | false=>exact h
  ·have e:∀ (b:Bool) (u:bN),(cond b (tN u o.dst x.2.1) u).get y=u.get y:=by
    intro b u;cases b with
    | true=>rw [ai,wP,aB hd]
    | false=>rfl
   rw [e,e]; exact h
theorem aha {S:Nat->Bool} {y:Tmp} : ∀ {os:List Oper} {L:List Out} {k i:Nat} {t:bN} {o:Oper} {x:Out},os[i]? = some o->L[i]? = some x->o.dst=some y->(∀ j q,os[j]? = some q->q.dst=some y->i < j->S (k+j)=false)->
  (j9 (cW S (k+i)) os L k t).get y=some x.2.1
 | [],L,k,i,t,o,x,ho,_,_,_=>by simp at ho
 | q::os,[],k,i,t,o,x,_,hx,_,_=>by simp at hx
 | q::os,u::L,k,0,t,o,x,ho,hx,hd,hs=>by
  simp at ho hx;subst ho hx;simp only [j9,Db];have hk:cW S k k=true:=by simp [cW]
  rw [hk,ai];have:=oH (S:=cW S k) (S':=fun _=>false) (y:=y) (os:=os) (L:=L) (k:=k+1) (t:=tN t q.dst u.2.1) (t':=tN t q.dst u.2.1) rfl (fun j q' hq hqd=>by
   have h1:=hs (j+1) q' (by simpa using hq) hqd (by omega);rw [show k+(j+1)=k+1+j by omega] at h1;simp only [cW,h1,Bool.false_or];cases hb:Nat.beq (k+1+j) k with
   | false=>rfl
   | true=>have:=bo hb; omega)
  rw [this];have Jf:∀ (os:List Oper) (L:List Out) (k:Nat) (t:bN),j9 (fun _=>false) os L k t=t:=by
   intro os
   induction os with
   | nil=>intro L k t; cases L <;> rfl
   | cons o os ih=>intro L k t; cases L with
    | nil=>rfl
    | cons x L=>simp only [j9,aw]; exact ih L _ t
  rw [Jf,wP,aW hd]
 | q::os,u::L,k,i+1,t,o,x,ho,hx,hd,hs=>by
  simp only [j9];rw [show k+(i+1)=k+1+i by omega];exact aha (by simpa using ho) (by simpa using hx) hd fun j q' hq hqd bu=>by
   have:=hs (j+1) q' (by simpa using hq) hqd (by omega);rwa [show k+(j+1)=k+1+j by omega] at this
theorem Nk {cfg:fW} {S S' : Nat->Bool} : ∀ {os:List Oper} {L:List Out} {k:Nat} {A:aC},(∀ i o x,os[i]? = some o->L[i]? = some x->turns P cfg o x=true->S (k+i)=S' (k+i))->qx P cfg S os L k A=qx P cfg S' os L k A
 | [],L,k,A,_=>by cases L <;> rfl
 | o::os,[],k,A,_=>rfl
 | o::os,x::L,k,A,h=>by
  simp only [qx];have h0:(S k&&turns P cfg o x)=(S' k&&turns P cfg o x):=by
   cases ht:turns P cfg o x with
   | false=>simp
   | true=>have:=h 0 o x rfl rfl ht; rw [Db] at this; rw [this]
  rw [h0];exact Nk fun i o' x' ho hx ht=>by have:=h (i+1) o' x' (by simpa using ho) (by simpa using hx) ht; rwa [show k+(i+1)=k+1+i by omega] at this
def RM (all:List Oper) (o:Oper) (t:bN) (wd:Bool):Prop:=(o.guard=none/\wd=true)\/∃ j want d,o.guard=some (j,want)/\(all[j]?).bind (·.dst)=some d/\((∃ b,t.get d=some (.bool b)/\wd=(b==want))\/(∃ l,t.get d=some (.jd l)/\wd=false))
theorem GP {cfg:fW} {o:Oper} {t:bN} {A A1:aC} {v:KV} (h:bf (zl (cf P cfg o.op) t A) (v,A1)) (hk:Nat.ble 3 (ef (cf P cfg o.op))=false):A1=A:=by
 generalize cf P cfg o.op=ins at h hk;cases ins with
 | pure f xs=>obtain ⟨u,_,h2⟩:=bf.map h; simp at h2; exact h2.2.symm
 | read f xs=>obtain ⟨u,_,h2⟩:=bf.map h; simp at h2; exact h2.2.symm
 | act f xs=>exact absurd hk (by simp [ef])
 | look f xs=>obtain ⟨u,_,h2⟩:=bf.map h; simp at h2; exact h2.2.symm
 | GD g f xs=>obtain ⟨u,_,h2⟩:=bf.map h; simp at h2; exact h2.2.symm
 | Lm g f xs=>exact absurd hk (by simp [ef])
 | call f xs=>exact h.elim
 | bad=>exact h.elim
theorem Run.at {cfg:fW} {all:List Oper} : ∀ {os:List Oper} {t t' : bN} {A A' : aC} {L:List Out},Run P cfg all os t A L t' A'->
  L.length=os.length/\(∀ y,t'.get y=(j9 (fun _=>true) os L 0 t).get y)/\A' = qx P cfg (fun _=>true) os L 0 A/\
  ∀ i o x,os[i]? = some o->L[i]? = some x->∃ t1,(∀ y,t1.get y=(j9 (fun j=>Nat.blt j i) os L 0 t).get y)/\RM all o t1 x.1/\(x.1=true->bf (zl (cf P cfg o.op) t1 (qx P cfg (fun j=>Nat.blt j i) os L 0 A)) (x.2.1,x.2.2))/\(x.1=false->x.2.1=wk)
 | _,_,_,_,_,_,.nil=>⟨rfl,fun _=>rfl,rfl,fun i o x ho=>by simp at ho⟩
 | o::os,t,t',A,A',(wd,v,A1)::L,.cons (t1:=t1) same want yes no rest=>by
  obtain ⟨h1,h2,h3,h4⟩:=rest.at;have hA1:cond (turns P cfg o (wd,v,A1)) A1 A=A1:=by
   cases ht:turns P cfg o (wd,v,A1) with
   | true=>rfl
   | false=>
    rw [aw];cases wd with
    | false=>exact (no rfl).2.symm
    | true=>exact (GP (yes rfl) (by simpa [turns] using ht)).symm
  have ad9:∀ y,(tN t1 o.dst v).get y=(tN t o.dst v).get y:=fun y=>by rw [wP,wP,same]
  refine ⟨by simp [h1],fun y=>?_,?_,fun i q x hq hx=>?_⟩
  ·rw [h2 y]
   simp only [j9,ai];rw [GN];exact oH (ad9 y) fun _ _ _ _=>rfl
  ·rw [h3]
   simp only [qx,M0];rw [YP,hA1]
  ·cases i with
   | zero=>
    simp at hq hx;subst hq hx;have e0:∀ (os:List Oper) (L:List Out) (k:Nat) (t:bN),j9 (fun j=>Nat.blt j 0) os L k t=t:=by
     intro os
     induction os with
     | nil=>intro L k t; cases L <;> rfl
     | cons o os ih=>intro L k t; cases L with
      | nil=>rfl
      | cons x L=>simp only [j9]; exact ih L _ t
    have e1:∀ (os:List Oper) (L:List Out) (k:Nat) (A:aC),qx P cfg (fun j=>Nat.blt j 0) os L k A=A:=by
     intro os
     induction os with
     | nil=>intro L k t; cases L <;> rfl
     | cons o os ih=>intro L k t; cases L with
      | nil=>rfl
      | cons x L=>simp only [qx]; exact ih L _ t
    refine ⟨t1,fun y=>by rw [e0]; exact same y,?_,fun e=>by rw [e1]; exact yes e,fun e=>(no e).1⟩;rcases want with h | ⟨j,wt,d,e2,e3,e4⟩
    ·exact .inl h
    ·exact .inr ⟨j,wt,d,e2,e3,by rw [same]; exact e4⟩
   | succ i=>
    obtain ⟨t2,h5,h6,h7,h8⟩:=h4 i q x (by simpa using hq) (by simpa using hx);have hsh:(fun j=>Nat.blt (j+1) (i+1))=fun j=>Nat.blt j i:=by
     funext j;cases hb:Nat.blt j i with
     | true=>rw [bX] at hb ⊢; omega
     | false=>
      cases hc:Nat.blt (j+1) (i+1) with
      | false=>rfl
      | true=>rw [bX] at hc; rw [show Nat.blt j i=true from by rw [bX]; omega] at hb; simp at hb
    have h01:Nat.blt 0 (i+1)=true:=by rw [bX]; omega
    have jL:qx P cfg (fun j=>Nat.blt j (i+1)) (o::os) ((wd,v,A1)::L) 0 A=qx P cfg (fun j=>Nat.blt j i) os L 0 A1:=by
     simp only [qx,h01,M0];rw [YP,hA1,hsh]
    refine ⟨t2,fun y=>?_,h6,fun e=>by rw [jL]; exact h7 e,h8⟩;rw [h5 y];simp only [j9,h01,ai];rw [GN,hsh];exact oH (ad9 y) fun _ _ _ _=>rfl
end Go.K
end
