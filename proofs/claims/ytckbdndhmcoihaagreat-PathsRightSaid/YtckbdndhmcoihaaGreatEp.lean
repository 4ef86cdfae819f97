/- Part of the proof of PathsRight: the machine, shown to be the model's, and plain models. No conditions. -/
import Derived.Test.YtckbdndhmcoihaaGreatDp
set_option linter.unusedSimpArgs false
set_option linter.unusedVariables false
section
namespace Go.K
open Go Go.az
variable {P:Program} {E:Env}
theorem dJ {α β:Type} : ∀ {s:Sem α} {f:α->Sem β} {a:α},cu P s=some a->cu P (s >>= f)=cu P (f a)
 | .pure x,f,a,h=>by simp [cu] at h; subst h; rfl
 | .program k,f,a,h=>by
  have:=dJ (s:=k P) (f:=f) (a:=a) (by simpa [cu] using h);exact this
 | .mark m k,f,a,h=>by
  have:=dJ (s:=k) (f:=f) (a:=a) (by simpa [cu] using h);exact this
 | .load ..,_,_,h | .store ..,_,_,h | .new ..,_,_,h | .shape ..,_,_,h | .freeze ..,_,_,h | .frozen ..,_,_,h | .getObj ..,_,_,h
 | .setObj ..,_,_,h | .choose ..,_,_,h | .sys ..,_,_,h | .halt ..,_,_,h=>by simp [cu] at h
theorem BL {α β:Type} {init stop:β} {B:α->β->Sem (ForInStep β)} {g:α->Bool} : ∀ {l:List α},(∀ x∈l,cu P (B x init)=some (if g x=true then .yield init else .done stop))->
  cu P (forIn l init B)=some (if l.all g=true then init else stop)
 | [],_=>rfl
 | x::l,h=>by
  have hx:=h x (by simp);rw [List.forIn_cons,dJ hx];cases hg:g x with
  | true=>
   simp only [if_true];rw [BL fun y hy=>h y (by simp [hy])];simp [hg]
  | false=>simp [hg]; rfl
theorem tE {t:TypeId} {d:TypeDesc} (h:P.underlying t=some d):cu P (underlying t)=some d:=by
 simp [underlying,program,Bind.bind,Sem.bind,cu,h,Pure.pure]
theorem OY {t:TypeId} {i:TypeInfo} (h:P.info? t=some i):cu P (typeInfo t)=some i:=by
 simp [typeInfo,program,Bind.bind,Sem.bind,cu,h,Pure.pure]
theorem bT {α:Type} (a:α):cu P (pure a)=some a:=rfl
theorem Hc {t:TypeId} {i:TypeInfo} (h:P.info? t=some i):cu P (sizeOf t)=some i.size:=by
 unfold sizeOf;rw [dJ (OY h)];rfl
theorem U0 {n:Nat} {t:TypeId} {L:Lay} (h:lay P n t=some L):∃ d,P.underlying t=some d/\L.agg=Ty d/\(L.agg=false->L.ks.length=1):=by
 cases n with
 | zero=>simp [lay] at h
 | succ n=>
  simp only [lay] at h;split at h <;> rename_i hu
  ·simp at h; subst h; exact ⟨_,hu,rfl,fun _=>rfl⟩
  ·simp at h; subst h; exact ⟨_,hu,rfl,fun _=>rfl⟩
  ·simp at h; subst h; exact ⟨_,hu,rfl,fun _=>rfl⟩
  ·simp at h; subst h; exact ⟨_,hu,rfl,fun _=>rfl⟩
  ·obtain ⟨ks,_,rfl⟩:=aU.1 h; exact ⟨_,hu,rfl,fun h=>by simp at h⟩
  ·obtain ⟨ks,_,rfl⟩:=aU.1 h; exact ⟨_,hu,rfl,fun h=>by simp at h⟩
  ·rename_i d h1 h2 h3 h4 h5 h6
   simp at h; subst h;refine ⟨_,hu,?_,fun _=>rfl⟩;cases d <;> first | rfl | simp_all
  ·simp at h
def wx (agg:Bool) (l:List Value):Value:=cond agg (.agg ⟨l⟩) (l.headD undef)
theorem Lw {n:Nat} {t:TypeId} {L:Lay} {i:TypeInfo} {cs:Array Value} {off:Nat} (h:lay P n t=some L) (hi:P.info? t=some i) (hs:i.size=L.ks.length) (hl:off+L.ks.length<=cs.size) :
  cu P (part t cs off)=some (wx L.agg ((cs.toList.drop off).take L.ks.length)):=by
 obtain ⟨d,hu,ha,h1⟩:=U0 h;have anE:cu P (isAgg t)=some (Ty d):=by
  unfold isAgg;rw [dJ (tE hu)];cases d <;> rfl
 unfold part;rw [dJ anE];cases hd:Ty d with
 | true=>
  rw [hd] at ha;simp only [if_true];rw [dJ (Hc hi)];simp only [bT,ha,wx,ah,hs];congr 2;apply Array.ext';simp
 | false=>
  rw [hd] at ha;have h1:=h1 ha;have aJ:off < cs.size:=by omega
  simp only [CN,if_false];rw [Array.getElem?_eq_getElem aJ];simp only [bT,ha,wx,ay,h1];congr 1;have:cs.toList.drop off=cs.toList[off]::cs.toList.drop (off+1):=List.drop_eq_getElem_cons (by simpa using aJ);rw [this];simp
theorem OZ:∀ {xs ys:List KV} {b:Bool},pY xs ys=some b->xs.length=ys.length
 | [],[],_,_=>rfl
 | [],_::_,_,h=>by simp [pY] at h
 | _::_,[],_,h=>by simp [pY] at h
 | x::xs,y::ys,b,h=>by
  simp only [pY] at h;split at h
  ·rename_i h2; simp [OZ h2]
  ·simp at h
theorem vC:∀ (n:Nat) {xs ys:List KV} {b:Bool},pY xs ys=some b->∃ b1 b2,pY (xs.take n) (ys.take n)=some b1/\pY (xs.drop n) (ys.drop n)=some b2/\b=(b1&&b2)
 | 0,xs,ys,b,h=>⟨true,b,by simp [pY],by simpa using h,by simp⟩
 | n+1,[],[],b,h=>by simp [pY] at h; subst h; exact ⟨true,true,by simp [pY],by simp [pY],rfl⟩
 | n+1,[],_::_,b,h=>by simp [pY] at h
 | n+1,_::_,[],b,h=>by simp [pY] at h
 | n+1,x::xs,y::ys,b,h=>by
  simp only [pY] at h;split at h
  ·rename_i a c h1 h2
   simp at h;obtain ⟨b1,b2,h3,h4,h5⟩:=vC n h2;refine ⟨a&&b1,b2,by simp [pY,h1,h3],by simpa using h4,?_⟩;rw [<- h,h5,Bool.and_assoc]
  ·simp at h
def x9 (xs ys:List KV) (off n:Nat):Bool:=(pY ((xs.drop off).take n) ((ys.drop off).take n)).getD false
theorem Ya {xs ys:List KV} {b:Bool} (h:pY xs ys=some b) (off n:Nat):pY ((xs.drop off).take n) ((ys.drop off).take n)=some (x9 xs ys off n):=by
 obtain ⟨_,_,_,h2,_⟩:=vC off h;obtain ⟨b1,_,h3,_,_⟩:=vC n h2;unfold x9;rw [h3]; rfl
theorem qO:∀ {a b:List CK} {xs:List KV},au (a++b) xs=true->au a (xs.take a.length)=true/\au b (xs.drop a.length)=true
 | [],b,xs,h=>by simpa [au] using h
 | c::a,b,[],h=>by simp [au] at h
 | c::a,b,x::xs,h=>by
  simp only [List.cons_append,au,aj] at h;obtain ⟨h1,h2⟩:=qO h.2;simp [au,h.1,h1,h2]
theorem nX:∀ {a:List CK} {xs:List KV},au a xs=true->xs.length=a.length
 | [],[],_=>rfl
 | [],_::_,h=>by simp [au] at h
 | _::_,[],h=>by simp [au] at h
 | c::a,x::xs,h=>by
  simp only [au,aj] at h;simp [nX h.2]
theorem U1 {lf:TypeId->Option Lay} {xs ys:List KV} {b:Bool} (he:pY xs ys=some b):∀ {fs:List Field} {off:Nat} {ks:List CK},Iw lf fs off=some ks->au ks (xs.drop off)=true->au ks (ys.drop off)=true->off+ks.length=xs.length->
  (∀ f∈fs,∃ L,lf f.type=some L/\f.offset+L.ks.length<=xs.length/\au L.ks ((xs.drop f.offset).take L.ks.length)=true/\au L.ks ((ys.drop f.offset).take L.ks.length)=true)/\
  pY (xs.drop off) (ys.drop off)=some (fs.all fun f=>x9 xs ys f.offset (((lf f.type).map (·.ks.length)).getD 0))
 | [],off,ks,h,_,_,hl=>by
  simp [Iw] at h;subst h;have h1:xs.drop off = []:=by simp at hl; simp; omega
  have h2:ys.drop off = []:=by have:=OZ he; simp at hl; simp; omega
  refine ⟨by simp,?_⟩;rw [h1,h2]; rfl
 | f::fs,off,ks,h,hk,pd,hl=>by
  simp only [Iw] at h;obtain ⟨Hb,h⟩:=Gf h;have Hb:=aD Hb;obtain ⟨L,h1,h⟩:=aO.1 h;obtain ⟨r,h2,rfl⟩:=aU.1 h;obtain ⟨k1,k2⟩:=qO hk;obtain ⟨k1',ZE⟩:=qO pd;rw [List.drop_drop] at k2 ZE;simp only [gd] at hl;obtain ⟨h3,h4⟩:=U1 he h2 k2 ZE (by omega);refine ⟨fun g hg=>?_,?_⟩
  ·rcases bd.1 hg with rfl | hg
   ·exact ⟨L,h1,by omega,by rw [Hb]; exact k1,by rw [Hb]; exact k1'⟩
   ·exact h3 g hg
  ·obtain ⟨_,_,_,h5,_⟩:=vC off he
   obtain ⟨c1,c2,h6,h7,h8⟩:=vC L.ks.length h5;rw [List.drop_drop,List.drop_drop] at h7;rw [h4] at h7;simp at h7;have h9:=Ya he off L.ks.length;rw [h6] at h9;simp at h9;rw [h5,h8];simp only [List.all_cons,h1,Option.map_some,iB,Hb,<- h9];rw [<- h7]
theorem uw {α:Type} (l:List α):∀ n,(cN l n).length=n * l.length
 | 0=>by simp [cN]
 | n+1=>by rw [cN,gd,uw l n,Nat.succ_mul]; omega
theorem U2 {xs ys:List KV} {l:List CK} : ∀ {len off:Nat} {b:Bool},pY (xs.drop off) (ys.drop off)=some b->au (cN l len) (xs.drop off)=true->au (cN l len) (ys.drop off)=true->
  (∀ i,i < len->au l ((xs.drop (off+i * l.length)).take l.length)=true/\au l ((ys.drop (off+i * l.length)).take l.length)=true)/\
  pY (xs.drop off) (ys.drop off)=some ((List.range' 0 len).all fun i=>x9 xs ys (off+i * l.length) l.length)
 | 0,off,b,h,hk,pd=>by
  have h1:xs.drop off = []:=by have:=nX hk; simp only [cN,Fz] at this; exact lE.1 this
  have h2:ys.drop off = []:=by have:=nX pd; simp only [cN,Fz] at this; exact lE.1 this
  refine ⟨fun i hi=>by omega,?_⟩;rw [h1,h2]; rfl
 | len+1,off,b,h,hk,pd=>by
  obtain ⟨c1,c2,h1,h2,h3⟩:=vC l.length h;rw [List.drop_drop,List.drop_drop] at h2;obtain ⟨k1,k2⟩:=qO (a:=l) (b:=cN l len) hk;obtain ⟨k1',ZE⟩:=qO (a:=l) (b:=cN l len) pd;rw [List.drop_drop] at k2 ZE;obtain ⟨h5,h4⟩:=U2 (len:=len) (off:=off+l.length) h2 k2 ZE;refine ⟨fun i hi=>?_,?_⟩
  ·cases i with
   | zero=>simpa using ⟨k1,k1'⟩
   | succ i=>
    have:=h5 i (by omega);rwa [show off+l.length+i * l.length=off+(i+1) * l.length by rw [Nat.succ_mul]; omega] at this
  rw [h2] at h4;simp at h4;have hw:x9 xs ys off l.length=c1:=by unfold x9; rw [h1]; rfl
  rw [h,h3];rw [List.range'_succ];simp only [List.all_cons,Nat.zero_mul,p7,hw,bG];congr 2;rw [h4];have:List.range' 1 len=(List.range' 0 len).map (1 + ·):=by rw [List.map_add_range']
  rw [this,List.all_map];apply congrArg (fun f=>List.all (List.range' 0 len) f);funext i;simp only [Function.comp];congr 1;rw [Nat.add_mul]; omega
theorem IJ:∀ (n d:Nat) (t:TypeId) (L:Lay) (cx cy:List KV) (xs ys:List Value) (b:Bool),Ao P n t=true->lay P n t=some L->n<=d->aK P E cx xs->aK P E cy ys->au L.ks cx=true->au L.ks cy=true->
  pY cx cy=some b->cu P (Op.equalIn d t (wx L.agg xs) (wx L.agg ys))=some b
 | 0,_,_,_,_,_,_,_,_,h,_,_,_,_,_,_,_=>by simp [Ao] at h
 | n+1,0,_,_,_,_,_,_,_,_,_,h,_,_,_,_,_=>by omega
 | n+1,d+1,t,L,cx,cy,xs,ys,b,h,hL,hd,hx,hy,Zm,hky,he=>by
  have hl:=nX Zm;have hly:=nX hky;have hlx' : xs.length=L.ks.length:=by rw [hx.length,hl]
  have hly' : ys.length=L.ks.length:=by rw [hy.length,hly]
  have afD:∀ s,Ao P n s=true->∃ i l,P.info? s=some i/\lay P n s=some l/\i.size=l.ks.length:=by
   intro s hs;cases n with
   | zero=>simp [Ao] at hs
   | succ n=>
    simp only [Ao,aj] at hs;have h1:=hs.1;split at h1
    ·rename_i i l e1 e2
     exact ⟨i,l,e1,e2,aD h1⟩
    ·simp at h1
  have alB:∀ (s:TypeId) (l:Lay) (i:TypeInfo) (off:Nat),Ao P n s=true->lay P n s=some l->P.info? s=some i->i.size=l.ks.length->off+l.ks.length<=cx.length->
    au l.ks ((cx.drop off).take l.ks.length)=true->au l.ks ((cy.drop off).take l.ks.length)=true->
    (do
     let u <- part s ⟨xs⟩ off
     let v <- part s ⟨ys⟩ off
     Op.equalIn d s u v:Sem Bool)=(do
     let u <- part s ⟨xs⟩ off
     let v <- part s ⟨ys⟩ off
     Op.equalIn d s u v)/\cu P (part s ⟨xs⟩ off)=some (wx l.agg ((xs.drop off).take l.ks.length))/\cu P (part s ⟨ys⟩ off)=some (wx l.agg ((ys.drop off).take l.ks.length))/\
    cu P (Op.equalIn d s (wx l.agg ((xs.drop off).take l.ks.length)) (wx l.agg ((ys.drop off).take l.ks.length)))=some (x9 cx cy off l.ks.length):=by
   intro s l i off h1 h2 h3 h4 h5 h6 h7;refine ⟨rfl,?_,?_,?_⟩
   ·exact Lw h2 h3 h4 (by simp; omega)
   ·exact Lw h2 h3 h4 (by simp; omega)
   ·exact IJ n d s l _ _ _ _ _ h1 h2 (by omega) ((hx.drop off).take _) ((hy.drop off).take _) h6 h7 (Ya he off _)
  simp only [Ao,aj] at h;have h2:=h.2;obtain ⟨dd,hu,ha,h1⟩:=U0 hL;rw [hu] at h2;unfold Op.equalIn;rw [dJ (tE hu)];simp only [lay,hu] at hL;have abB:∀ c,L.ks = [c]->∃ x y u v,cx = [x]/\cy = [y]/\xs = [u]/\ys = [v]/\VK P E x u/\VK P E y v/\eqK x y=some b/\kindOk c x=true/\kindOk c y=true:=by
   intro c hc;rw [hc] at hl hly Zm hky
   match cx,cy,hl,hly with
   | [x],[y],_,_=>
    obtain ⟨u,rfl,h2⟩:=hx.dD;obtain ⟨v,rfl,h3⟩:=hy.dD;refine ⟨x,y,u,v,rfl,rfl,rfl,rfl,h2,h3,?_,by simpa [au] using Zm,by simpa [au] using hky⟩;simp only [pY] at he;split at he
    ·rename_i a c h4 h5
     simp at h5;subst h5;simpa [h4] using he
    ·simp at he
  cases dd with
  | int k=>
   simp at hL;subst hL;obtain ⟨x,y,u,v,rfl,rfl,rfl,rfl,h3,h4,h5,h6,h7⟩:=abB _ rfl;cases x <;> simp [kindOk] at h6;cases y <;> simp [kindOk] at h7;subst h6 h7;have:=h3.bQ; subst this;have:=h4.bQ; subst this;simp [eqK] at h5;subst h5;simp [wx,bT]
  | bool=>
   simp at hL;subst hL;obtain ⟨x,y,u,v,rfl,rfl,rfl,rfl,h3,h4,h5,h6,h7⟩:=abB _ rfl;cases x <;> simp [kindOk] at h6;cases y <;> simp [kindOk] at h7;have:=h3.dr; subst this;have:=h4.dr; subst this;simp [eqK] at h5;subst h5;simp [wx,bT]
  | string=>
   simp at hL;subst hL;obtain ⟨x,y,u,v,rfl,rfl,rfl,rfl,h3,h4,h5,h6,h7⟩:=abB _ rfl;cases x <;> simp [kindOk] at h6;cases y <;> simp [kindOk] at h7;have:=h3.pj; subst this;have:=h4.pj; subst this;simp [eqK] at h5;subst h5;simp [wx,bT]
  | struct fs=>
   simp only [aU] at hL;obtain ⟨ks,nu,rfl⟩:=hL;simp only [aj,iy] at h2;obtain ⟨h3,h4⟩:=U1 he nu (by simpa using Zm) (by simpa using hky) (by simpa using hl.symm);simp only [List.drop_zero] at h4;rw [he] at h4;simp only [aR] at h4;simp only [wx,ah];rw [dJ (a:=P) (by simp [program,cu])];simp only [h2.1,CN,if_false];rw [<- Array.forIn_toList];rw [dJ (BL (g:=fun f=>x9 cx cy f.offset (((lay P n f.type).map (·.ks.length)).getD 0)) (stop:=(some false,())) fun f hf=>?_)]
   ·rw [h4]
    cases (fs.toList.all fun f=>x9 cx cy f.offset (((lay P n f.type).map (·.ks.length)).getD 0)) <;> rfl
   ·have h5:=dU.1 h2.2 f hf
    simp only [aj,iy,beq_eq_false_iff_ne] at h5;rw [ax h5.1];obtain ⟨l,h6,h7,h8,h9⟩:=h3 f hf;obtain ⟨i,l',e1,e2,e3⟩:=afD _ h5.2;rw [h6] at e2;simp at e2;subst e2;obtain ⟨_,w1,w2,w3⟩:=alB _ l i f.offset h5.2 h6 e1 e3 h7 h8 h9;rw [dJ w1,dJ w2,dJ w3];simp only [h6,Option.map_some,iB];cases x9 cx cy f.offset l.ks.length <;> rfl
  | array len e=>
   simp only [aU] at hL;obtain ⟨l,Ez,rfl⟩:=hL;obtain ⟨h3,h4⟩:=U2 (xs:=cx) (ys:=cy) (l:=l.ks) (len:=len) (off:=0) (by simpa using he) (by simpa using Zm) (by simpa using hky);simp only [List.drop_zero,bG] at h3 h4;rw [he] at h4;simp only [aR] at h4;obtain ⟨i,l',e1,e2,e3⟩:=afD _ h2;rw [Ez] at e2;simp at e2;subst e2;simp only [wx,ah];rw [dJ (Hc e1)];rw [Std.Legacy.Range.forIn_eq_forIn_range'];rw [show List.range' [:len].start [:len].size [:len].step=List.range' 0 len from by simp [Std.Legacy.Range.size]];rw [dJ (BL (g:=fun i=>x9 cx cy (i * l.ks.length) l.ks.length) (stop:=(some false,())) fun j hj=>?_)]
   ·rw [h4]
    cases ((List.range' 0 len).all fun i=>x9 cx cy (i * l.ks.length) l.ks.length) <;> rfl
   ·have Uq:j < len:=by simpa using hj
    obtain ⟨k1,k2⟩:=h3 j Uq;have hle:j * l.ks.length+l.ks.length<=cx.length:=by
     rw [hl];simp only [uw];rw [<- Nat.succ_mul];exact Nat.mul_le_mul_right _ Uq
    obtain ⟨_,w1,w2,w3⟩:=alB _ l i (j * l.ks.length) h2 Ez e1 e3 hle k1 k2;rw [e3];rw [dJ w1,dJ w2,dJ w3];cases x9 cx cy (j * l.ks.length) l.ks.length <;> rfl
  | _=>simp at h2
theorem IK:∀ {ks:List CK} {cs:List KV} {l:List Value},au ks cs=true->aK P E cs l->(∀ t,CK.slice t ∉ ks)->nQ l=true
 | [],[],l,_,h,_=>by rw [h.bA]; rfl
 | [],_::_,_,h,_,_=>by simp [au] at h
 | _::_,[],_,h,_,_=>by simp [au] at h
 | c::ks,v::cs,l,h,hv,hn=>by
  obtain ⟨y,ys,rfl,h1,h2⟩:=hv.cons_inv;simp only [au,aj] at h;have:=IK h.2 h2 (fun t ht=>hn t (by simp [ht]));simp only [nQ,this,yD];cases c with
  | int k=>cases v <;> simp [kindOk] at h; have:=h1.bQ; subst this; rfl
  | bool=>cases v <;> simp [kindOk] at h; have:=h1.dr; subst this; rfl
  | str=>cases v <;> simp [kindOk] at h; have:=h1.pj; subst this; rfl
  | slice t=>exact absurd (by simp) (hn t)
  | other=>cases v <;> simp [kindOk] at h
theorem IL:∀ (n:Nat) (t:TypeId) (L:Lay),Ao P n t=true->lay P n t=some L->∀ u,CK.slice u ∉ L.ks
 | 0,_,_,h,_,_=>by simp [Ao] at h
 | n+1,t,L,h,hL,u=>by
  simp only [Ao,aj] at h;have h2:=h.2;obtain ⟨dd,hu,_,_⟩:=U0 hL;rw [hu] at h2;simp only [lay,hu] at hL;cases dd with
  | int k=>simp at hL; subst hL; simp
  | bool=>simp at hL; subst hL; simp
  | string=>simp at hL; subst hL; simp
  | struct fs=>
   simp only [aU] at hL;obtain ⟨ks,nu,rfl⟩:=hL;simp only [aj,dU] at h2;have key:∀ (l:List Field) (off:Nat) (ks:List CK),Iw (lay P n) l off=some ks->(∀ f∈l,Ao P n f.type=true)->CK.slice u ∉ ks:=by
    intro l
    induction l with
    | nil=>intro off ks h _; simp [Iw] at h; subst h; simp
    | cons f l ih=>
     intro off ks h hf;simp only [Iw] at h;obtain ⟨_,h⟩:=Gf h;obtain ⟨L',h5,h⟩:=aO.1 h;obtain ⟨r,h6,rfl⟩:=aU.1 h;rw [eX];rintro (h7 | h7)
     ·exact IL n _ _ (hf f (by simp)) h5 u h7
     ·exact ih _ _ h6 (fun g hg=>hf g (by simp [hg])) h7
   exact key _ _ _ nu fun f hf=>(h2.2 f hf).2
  | array len e=>
   simp only [aU] at hL;obtain ⟨l,Ez,rfl⟩:=hL;have:=IL n e l h2 Ez u;have key:∀ m,CK.slice u ∉ cN l.ks m:=by
    intro m
    induction m with
    | zero=>simp [cN]
    | succ m ih=>simp only [cN,eX,not_or]; exact ⟨this,ih⟩
   exact key _
  | _=>simp at h2
theorem adV {t:TypeId} (h:Ao P 12 t=true):lay P 12 t=some (aH P t):=by
 simp only [Ao,aj] at h;have h1:=h.1;unfold aH;split at h1
 ·rename_i i l e1 e2; rw [e2]; rfl
 ·simp at h1
theorem U3 {t:TypeId} {x y:KV} {b:Bool} {lit:Bool} {u v:Value} (hx:VK P E x u) (hy:VK P E y v) (h:afq P t x y=some b):kT P t lit u v=some b:=by
 unfold afq at h;split at h
 ·rename_i xs ys
  obtain ⟨hc,h⟩:=Gf h;simp only [aj,iy] at hc;obtain ⟨⟨⟨⟨ha,h1⟩,h2⟩,h3⟩,h4⟩:=hc;obtain ⟨l,rfl,hl⟩:=hx.jr;obtain ⟨m,rfl,hm⟩:=hy.jr;have hL:=adV h1;have hns:=IL 12 t _ h1 hL;have hfx:flat (.agg ⟨l⟩)=true:=IK h3 hl hns;have hfy:flat (.agg ⟨m⟩)=true:=IK h4 hm hns;have hs:=IJ 12 Op.maxDepth t (aH P t) xs ys l m b h1 hL (by unfold Op.maxDepth; omega) hl hm h3 h4 h;rw [ha] at hs;have hs:cu P (Op.equal t (.agg ⟨l⟩) (.agg ⟨m⟩))=some b:=hs;unfold kT;simp only [gf,ui,h2,Bool.not_false,cY,ah];unfold TY;split <;> simp_all
 ·rename_i a c
  split at h
  ·rename_i hu
   simp at h;subst h;have:=hx.dr; subst this;have:=hy.dr; subst this;have:cu P (Op.equal t (.bool a) (.bool c))=some (a==c):=by
    unfold Op.equal Op.maxDepth Op.equalIn;rw [dJ (tE hu)];rfl
   unfold kT;simp only [gf,ui,cY,ah];unfold TY;split <;> simp_all [flat]
  ·simp at h
 ·split at h
  ·rename_i e hu
   simp at h;subst h;have:=hx.mw; subst this;have:=hy.mw; subst this;simp [kT,gf,ui,TY,hu]
  ·simp at h
 ·rename_i T m n es acc
  split at h
  ·rename_i e hu
   cases hn:Nat.beq n 0 with
   | true=>rw [hn] at h; simp at h
   | false=>
    rw [hn] at h;simp at h;subst h;have:=hy.mw; subst this;obtain ⟨_,aP,_,a,cap,rfl,_,hb,_⟩:=hx.jz;rcases hb with ⟨_,h0⟩ | ⟨b,off,r,rfl,_⟩
    ·subst h0; simp at hn
    ·simp [kT,gf,ui,TY,hu]
  ·simp at h
 ·rename_i T m n es acc
  split at h
  ·rename_i e hu
   cases hn:Nat.beq n 0 with
   | true=>rw [hn] at h; simp at h
   | false=>
    rw [hn] at h;simp at h;subst h;have:=hx.mw; subst this;obtain ⟨_,aP,_,a,cap,rfl,_,hb,_⟩:=hy.jz;rcases hb with ⟨_,h0⟩ | ⟨b,off,r,rfl,_⟩
    ·subst h0; simp at hn
    ·simp [kT,gf,ui,TY,hu]
  ·simp at h
 ·split at h
  ·rename_i e hu
   simp at h;subst h;have:=hx.Ki; subst this;have:=hy.Ki; subst this;simp [kT,gf,ui,TY,hu]
  ·simp at h
 ·split at h
  ·rename_i e hu
   simp at h;subst h;have:=hy.Ki; subst this;obtain ⟨x,_,rfl⟩:=hx.fX;simp [kT,gf,ui,TY,hu]
  ·simp at h
 ·split at h
  ·rename_i e hu
   simp at h;subst h;have:=hx.Ki; subst this;obtain ⟨x,_,rfl⟩:=hy.fX;simp [kT,gf,ui,TY,hu]
  ·simp at h
 ·simp at h
theorem akK {op:BinOp} {t:TypeId} {lit:Bool} : r8 P (aiR P op t) (nM P op t lit):=by
 intro E vs us w h hg;unfold aiR at hg;split at hg
 ·rename_i j a k b
  obtain ⟨x,y,rfl,h1,h2⟩:=h.iZ;have:=h1.bQ; subst this;have:=h2.bQ; subst this;cases hs:abm op with
  | true=>
   rw [hs,ah] at hg;cases op <;> simp [abm] at hs
   ·obtain ⟨hc,rfl⟩:=aA.iH hg
    simp only [iy,decide_eq_false_iff_not] at hc;exact ⟨_,by simp [nM,binOp,Op.shift,hc,bT],.mkInt⟩
   ·obtain ⟨hc,rfl⟩:=aA.iH hg
    simp only [iy,decide_eq_false_iff_not] at hc;exact ⟨_,by simp [nM,binOp,Op.shift,hc,bT],.mkInt⟩
  | false=>
   rw [hs,ay] at hg;obtain ⟨Tg,hz⟩:=hg.cond;clear hg;simp only [jP] at Tg;subst Tg;cases op with
   | shl=>simp [abm] at hs
   | shr=>simp [abm] at hs
   | quo=>
    obtain ⟨hc,rfl⟩:=aA.iH hz;simp only [iy,decide_eq_false_iff_not] at hc;exact ⟨_,by simp [nM,binOp,Op.intDiv,hc,bT],.mkInt⟩
   | rem=>
    obtain ⟨hc,rfl⟩:=aA.iH hz;simp only [iy,decide_eq_false_iff_not] at hc;exact ⟨_,by simp [nM,binOp,Op.intDiv,hc,bT],.mkInt⟩
   | add=>have hz:KV.int _ _=w:=hz; subst hz; exact ⟨_,by simp [nM,binOp,Op.intArith,bT],.mkInt⟩
   | sub=>have hz:KV.int _ _=w:=hz; subst hz; exact ⟨_,by simp [nM,binOp,Op.intArith,bT],.mkInt⟩
   | mul=>have hz:KV.int _ _=w:=hz; subst hz; exact ⟨_,by simp [nM,binOp,Op.intArith,bT],.mkInt⟩
   | and=>have hz:KV.int _ _=w:=hz; subst hz; exact ⟨_,by simp [nM,binOp,Op.intBits,bT],.mkInt⟩
   | or=>have hz:KV.int _ _=w:=hz; subst hz; exact ⟨_,by simp [nM,binOp,Op.intBits,bT],.mkInt⟩
   | xor=>have hz:KV.int _ _=w:=hz; subst hz; exact ⟨_,by simp [nM,binOp,Op.intBits,bT],.mkInt⟩
   | andNot=>have hz:KV.int _ _=w:=hz; subst hz; exact ⟨_,by simp [nM,binOp,Op.intBits,bT],.mkInt⟩
   | eql=>have hz:KV.bool _=w:=hz; subst hz; exact ⟨_,by simp [nM,binOp,Op.intCmp,bT],.nH⟩
   | neq=>have hz:KV.bool _=w:=hz; subst hz; exact ⟨_,by simp [nM,binOp,Op.intCmp,bT],.nH⟩
   | lss=>have hz:KV.bool _=w:=hz; subst hz; exact ⟨_,by simp [nM,binOp,Op.intCmp,bT],.nH⟩
   | leq=>have hz:KV.bool _=w:=hz; subst hz; exact ⟨_,by simp [nM,binOp,Op.intCmp,bT],.nH⟩
   | gtr=>have hz:KV.bool _=w:=hz; subst hz; exact ⟨_,by simp [nM,binOp,Op.intCmp,bT],.nH⟩
   | geq=>have hz:KV.bool _=w:=hz; subst hz; exact ⟨_,by simp [nM,binOp,Op.intCmp,bT],.nH⟩
 ·rename_i a b
  obtain ⟨x,y,rfl,h1,h2⟩:=h.iZ;have:=h1.pj; subst this;have:=h2.pj; subst this;split at hg
  ·have hg:KV.bool _=w:=hg; subst hg; exact ⟨_,by simp [nM,binOp,Op.stringOp,bT],.nH⟩
  ·have hg:KV.bool _=w:=hg; subst hg; exact ⟨_,by simp [nM,binOp,Op.stringOp,bT],.nH⟩
  ·have hg:KV.bool _=w:=hg; subst hg; exact ⟨_,by simp [nM,binOp,Op.stringOp,bT],.nH⟩
  ·obtain ⟨hc,rfl⟩:=aA.iH hg
   have hc:=cM hc;have hn : ¬ (((a.size+b.size:Nat):Int) > IntKind.i64.max):=by
    have:IntKind.i64.max=9223372036854775807:=by decide
    rw [this]; omega
   refine ⟨.string (a++b),?_,.mkStr⟩;simp only [nM,binOp,Op.stringOp];rw [ae hn];rfl
  ·exact hg.elim
 ·rename_i T m n es acc
  obtain ⟨u,v,rfl,h1,h2⟩:=h.iZ;have key:afr P t=true->Nat.blt 0 n=true->kT P t lit u v=some false:=by
   intro hs hn;refine U3 h1 h2 ?_;unfold afq;unfold afr at hs;have hb:Nat.beq n 0=false:=by
    cases n with
    | zero=>simp at hn
    | succ n=>rfl
   split at hs
   ·simp only [hb,ay]
   ·simp at hs
  split at hg
  ·obtain ⟨hs,hg⟩:=hg.cond
   obtain ⟨hc,rfl⟩:=aA.iH hg;refine ⟨.bool false,?_,.nH⟩;have:=key hs hc;unfold nM;split
   ·rename_i e; simp at e; obtain ⟨rfl,rfl⟩:=e; simp [kT,gf] at this
   ·rename_i e; simp at e; obtain ⟨rfl,rfl⟩:=e; simp [kT,gf] at this
   ·rename_i e; simp at e; obtain ⟨rfl,rfl⟩:=e; simp [this]
   ·rename_i e; exact absurd rfl (e _ _)
  ·obtain ⟨hs,hg⟩:=hg.cond
   obtain ⟨hc,rfl⟩:=aA.iH hg;refine ⟨.bool true,?_,.nH⟩;have:=key hs hc;unfold nM;split
   ·rename_i e; simp at e; obtain ⟨rfl,rfl⟩:=e; simp [kT,gf] at this
   ·rename_i e; simp at e; obtain ⟨rfl,rfl⟩:=e; simp [kT,gf] at this
   ·rename_i e; simp at e; obtain ⟨rfl,rfl⟩:=e; simp [this]
   ·rename_i e; exact absurd rfl (e _ _)
  ·exact hg.elim
 ·rename_i x y Qz Uv
  obtain ⟨u,v,rfl,h1,h2⟩:=h.iZ;split at hg
  ·rename_i b he
   have hg:KV.bool b=w:=hg;subst hg;have:=U3 (lit:=lit) h1 h2 he;refine ⟨.bool b,?_,.nH⟩;unfold nM;split
   ·rename_i e; simp at e; obtain ⟨rfl,rfl⟩:=e; simp [kT,gf] at this
   ·rename_i e; simp at e; obtain ⟨rfl,rfl⟩:=e; simp [kT,gf] at this
   ·rename_i e; simp at e; obtain ⟨rfl,rfl⟩:=e; simp [this]
   ·rename_i e; exact absurd rfl (e _ _)
  ·rename_i b he
   have hg:KV.bool (!b)=w:=hg;subst hg;have:=U3 (lit:=lit) h1 h2 he;refine ⟨.bool !b,?_,.nH⟩;unfold nM;split
   ·rename_i e; simp at e; obtain ⟨rfl,rfl⟩:=e; simp [kT,gf] at this
   ·rename_i e; simp at e; obtain ⟨rfl,rfl⟩:=e; simp [kT,gf] at this
   ·rename_i e; simp at e; obtain ⟨rfl,rfl⟩:=e; simp [this]
   ·rename_i e; exact absurd rfl (e _ _)
  ·exact hg.elim
 ·exact hg.elim
theorem amt {op:UnOp} : r8 P (kUn op) (fUn P op):=by
 intro E vs us w h hg;unfold kUn at hg;split at hg
 ·rename_i b
  obtain ⟨y,rfl,h1⟩:=h.dD;have:=h1.dr; subst this;split at hg
  ·have hg:KV.bool (!b)=w:=hg
   subst hg;exact ⟨_,by simp [fUn,Op.unary,bT],.nH⟩
  ·exact hg.elim
 ·rename_i k n
  obtain ⟨y,rfl,h1⟩:=h.dD;have:=h1.bQ; subst this;split at hg
  ·have hg:KV.int _ _=w:=hg
   subst hg;exact ⟨.int k (k.wrap (0 - n)),by simp [fUn,Op.unary,Op.intArith,bT],.mkInt⟩
  ·have hg:KV.int _ _=w:=hg
   subst hg;exact ⟨_,by simp [fUn,Op.unary,Op.intBits,bT],.mkInt⟩
  ·exact hg.elim
 ·exact hg.elim
theorem U4 {mx:Bool} : r8 P (EO mx) (FE P fun vs=>cond mx (Builtin.max_ #[] 0 ⟨vs⟩) (Builtin.min_ #[] 0 ⟨vs⟩)):=by
 intro E vs us w h hg;unfold EO at hg;split at hg
 ·rename_i j a k b
  obtain ⟨x,y,rfl,h1,h2⟩:=h.iZ;have:=h1.bQ; subst this;have:=h2.bQ; subst this;obtain ⟨Tg,hz⟩:=hg.cond;clear hg;simp only [jP] at Tg;subst Tg;have hz:KV.int _ _=w:=hz;subst hz;refine ⟨_,?_,.mkInt⟩;cases mx
  ·simp [FE,nQ,flat,Builtin.min_,Builtin.min2,bT]
   omega
  ·simp [FE,nQ,flat,Builtin.max_,Builtin.max2,bT]
   omega
 ·rename_i j a k b l c
  obtain ⟨x,y,z,rfl,h1,h2,h3⟩:=h.ML;have:=h1.bQ; subst this;have:=h2.bQ; subst this;have:=h3.bQ; subst this;obtain ⟨Tg,hz⟩:=hg.cond;clear hg;simp only [aj,jP] at Tg;obtain ⟨rfl,rfl⟩:=Tg;have hz:KV.int _ _=w:=hz;subst hz;refine ⟨_,?_,.mkInt⟩;cases mx
  ·show some (Value.int j (if c < (if b < a then b else a) then c else (if b < a then b else a)))=some (Value.int j (min (min a b) c))
   congr 2;split <;> split at * <;> omega
  ·show some (Value.int j (if c > (if b > a then b else a) then c else (if b > a then b else a)))=some (Value.int j (max (max a b) c))
   congr 2;split <;> split at * <;> omega
 ·exact hg.elim
end Go.K
end
section
namespace Go.K
open Go Go.az
variable {P:Program} {E:Env}
theorem AR.of {E' : Env} {A A' : ai} {x:Nat} (oS:∀ b,E'.α b=E.α b) (ha:∀ b v,A'.get b=some (.arr v)->A.get b=some (.arr v)) (h:AR A' E' x):AR A E x:=by
 obtain ⟨b,v,L,N,h1,h2⟩:=h;exact ⟨b,v,L,N,ha _ _ h1,by rw [<- oS]; exact h2⟩
theorem AF.of {E' : Env} {A A' : ai} {B B' : St} {g:Nat} (oS:∀ b,E'.α b=E.α b) (ha:∀ b v,A'.get b=some (.arr v)->A.get b=some (.arr v)) (hB:∀ x,AR A E x->B'.get x=B.get x) (h:AF A' E' B' g):AF A E B g:=by
 obtain ⟨b,v,x,L,N,cs,e,own,k,h1,h2,h3⟩:=h;have HC:E.α b=some (x,L,N):=by rw [<- oS]; exact h2
 exact ⟨b,v,x,L,N,cs,e,own,k,ha _ _ h1,HC,by rw [<- hB x ⟨b,v,L,N,ha _ _ h1,HC⟩]; exact h3⟩
theorem AT.of {E' : Env} {A A' : ai} {B B' : St} {y:Nat} (oS:∀ b,E'.α b=E.α b) (ha:∀ b v,A'.get b=some (.arr v)->A.get b=some (.arr v)) (hB:∀ x,AR A E x->B'.get x=B.get x) (hm:∀ g,AF A E B g->B'.members g=B.members g) (h:AT A' E' B' y):AT A E B y:=by
 rcases h with h | ⟨g,h1,h2⟩
 ·exact .inl (h.of oS ha)
 ·have:=h1.of oS ha hB
  exact .inr ⟨g,this,by rw [<- hm g this]; exact h2⟩
theorem ln {B B' : St} (h:∀ x,x < B.next->B'.get x=B.get x):∀ y,y < B.next->∀ cs e own aZ,B'.get y=some (.row cs e own aZ)->∃ mI,B.get y=some (.row mI e own aZ)/\mI.length=cs.length:=
 fun y hy cs _ _ _ q=>⟨cs,by rw [<- h y hy]; exact q,rfl⟩
theorem abC {B:St} {o:aY} : ∀ x,x < B.next->(B.new o).get x=B.get x:=fun x hx=>by rw [St.cV,ae (by omega)]
theorem Ge.dj {E' : Env} {A A' : ai} {B B' : St} (h:Ge P E A B) (hle:E.le E') (oS:∀ b,E'.α b=E.α b) (ha:∀ b v,A'.get b=some (.arr v)->A.get b=some (.arr v)) (hf:∀ b v,A'.get b=some (.iG v)->A.get b=some (.iG v))
  (hn:A.next<=A'.next) (DG:B.next<=B'.next) (hB:∀ x,AR A E x->B'.get x=B.get x) (hz:∀ b r,E'.z b=some r->E.z b=some r\/B.next<=b) (MO:∀ b x,E'.κ b=some x->E.κ b=some x\/(A.next<=b/\B.next<=x))
  (CI:∀ b g,E'.φ b=some g->(∃ c,E.φ c=some g)\/B.next<=g) (hm:∀ g,AF A E B g->B'.members g=B.members g) (mem:∀ g x,x∈B.members g->x < B.next):Ge P E' A' B' where
 arr b v hb:=(h.arr b v (ha _ _ hb)).mono hle (oS b) fun x L N e=>hB x ⟨b,v,L,N,ha _ _ hb,e⟩
 iG b v hb:=(h.iG b v (hf _ _ hb)).mono hle (oS b)
 z x hx:=by
  have hx':=AR.of oS ha hx;obtain ⟨b,v,L,N,h1,h2⟩:=hx';have aJ:=h.eB _ _ _ _ h2;obtain ⟨h3,h4⟩:=h.z x (AR.of oS ha hx);refine ⟨?_,fun c e=>?_⟩
  ·cases hz' : E'.z x with
   | none=>rfl
   | some r=>
    rcases hz x r hz' with e | e
    ·rw [h3] at e; simp at e
    ·omega
  ·rcases MO c x e with e | ⟨_,e⟩
   ·exact h4 c e
   ·omega
 inj b c v u x L N L' N' h1 h2 h3 h4:=h.inj b c v u x L N L' N' (ha _ _ h1) (ha _ _ h2) (by rw [<- oS]; exact h3) (by rw [<- oS]; exact h4)
 rD b c v u x y L N L' N' cs e own g k bX e' nN k' h1 h2 h3 h4 h5 h6:=by
  rw [oS] at h3 h4;rw [hB x ⟨b,v,L,N,ha _ _ h1,h3⟩] at h5;rw [hB y ⟨c,u,L',N',ha _ _ h2,h4⟩] at h6;exact h.rD b c v u x y L N L' N' cs e own g k bX e' nN k' (ha _ _ h1) (ha _ _ h2) h3 h4 h5 h6
 Xg b x e:=by
  rw [oS];rcases MO b x e with e | ⟨e,_⟩
  ·exact h.Xg b x e
  ·cases hb:E.α b with
   | none=>rfl
   | some p=>have:=h.fT b p hb; omega
 nk b v hb:=by
  obtain ⟨h1,h2⟩:=h.nk b v (ha _ _ hb);refine ⟨dG h1 hn,?_⟩;cases e:E'.κ b with
  | none=>rfl
  | some x=>
   rcases MO b x e with e | ⟨e,_⟩
   ·rw [h2] at e; simp at e
   ·omega
 fT b p e:=by rw [oS] at e; have:=h.fT b p e; omega
 eB b x L N e:=by rw [oS] at e; have:=h.eB b x L N e; omega
 p0 b v x L N cs e own g k h1 h2 h3:=by
  rw [oS] at h2;have hA:=ha _ _ h1;rw [hB x ⟨b,v,L,N,hA,h2⟩] at h3;obtain ⟨h4,h5,h6⟩:=h.p0 b v x L N cs e own g k hA h2 h3;refine ⟨by omega,fun f e=>?_,fun y hy bx=>?_⟩
  ·rcases CI f g e with ⟨c,e⟩ | e
   ·exact h5 c e
   ·omega
  ·rw [hm g ⟨b,v,x,L,N,cs,_,own,k,hA,h2,h3⟩] at hy
   have aJ:=mem g y hy;obtain ⟨h7,h8,h9⟩:=h6 y hy bx;refine ⟨?_,fun q=>h8 (AR.of oS ha q),fun c e=>?_⟩
   ·cases hz' : E'.z y with
    | none=>rfl
    | some r=>
     rcases hz y r hz' with e | e
     ·rw [h7] at e; simp at e
     ·omega
   ·rcases MO c y e with e | ⟨_,e⟩
    ·exact h9 c e
    ·omega
theorem du.C7 {A:ai} {B:St} (h:du P E A B) {x:Nat} (q:AR A E x):x < B.next:=by
 obtain ⟨b,v,L,N,_,h2⟩:=q;exact h.ar.eB _ _ _ _ h2
structure cF (P:Program) (E:Env) (A:ai) (B:St) (E' : Env) (A' : ai) (B' : St):Prop where
 dI:du P E' A' B'
 le:E.le E'
 next:A.next<=A'.next
 dj:∀ x,x < B.next->(∀ b,E.κ b≠some x)->¬ AT A E B x->B'.get x=B.get x
 new:∀ b x,E'.κ b=some x->E.κ b=some x\/B.next<=x
 qN:∀ b r,E'.z b=some r->E.z b=some r\/AR A E b\/B.next<=b
 pk:∀ b g,E'.φ b=some g->E.φ b=some g\/B.next<=g
 nw:∀ g,g < B.next->(∀ b,E.φ b≠some g)->¬ AF A E B g->B'.members g=B.members g
 jR:∀ x,AR A' E' x->AR A E x\/B.next<=x
 j6:∀ g,AF A' E' B' g->AF A E B g\/B.next<=g
 rJ:∀ g y,y∈B'.members g->y∈B.members g\/B.next<=y
 lU:∀ y,AT A' E' B' y->AT A E B y\/B.next<=y
 rows:∀ y,y < B.next->∀ cs e own aZ,B'.get y=some (.row cs e own aZ)->∃ mI,B.get y=some (.row mI e own aZ)/\mI.length=cs.length
theorem cF.ev {base:Nat} {E' : Env} {A A' : ai} {B B' : St} {ρ ak:Ren} {w w' : World} (h:cF P E A B E' A' B') (g:cp base ρ B w ak B' w'):Ev P base E A B ρ w E' A' B' ak w':=
 ⟨h.dI,g,h.le,h.next,h.dj,h.new,h.qN,fun b g e=>(h.pk b g e).imp (fun e=>⟨b,e⟩) id,h.nw,h.jR,h.j6,h.rJ,h.lU,h.rows⟩
def BM (P:Program) (o:Oper):oW->Prop
 | .pure f xs=>∀ (E:Env) (ρ:Ren) (ev:Operand->KV) (cj:Operand->Value) (v:KV),(∀ x∈xs,VC P E ρ (ev x) (cj x))->aA (f (xs.map ev)) v->∃ v',VC P E ρ v v'/\∀ w,(execOp cj o).run P w = .ok (.value v') w
 | .read f xs=>∀ (E:Env) (A:ai) (B:St) (ρ:Ren) (base:Nat) (w:World) (ev:Operand->KV) (cj:Operand->Value) (v:KV),KJ P E A B ρ base w->(∀ x∈xs,VC P E ρ (ev x) (cj x))->aA (f A (xs.map ev)) v->
   ∃ v',VC P E ρ v v'/\(execOp cj o).run P w = .ok (.value v') w
 | .look f xs=>∀ (E:Env) (A:ai) (B:St) (ρ:Ren) (base:Nat) (w:World) (ev:Operand->KV) (cj:Operand->Value) (v:KV),KJ P E A B ρ base w->(∀ x∈xs,VC P E ρ (ev x) (cj x))->aA (f (xs.map ev)) v->
   ∃ E' B' ak v' nx w',(execOp cj o).run P w = .ok nx w'/\adC v' nx/\VC P E' ak v v'/\Ev P base E A B ρ w E' A B' ak w'
 | .act f xs=>∀ (E:Env) (A A' : ai) (B:St) (ρ:Ren) (base:Nat) (w:World) (ev:Operand->KV) (cj:Operand->Value) (v:KV),KJ P E A B ρ base w->(∀ x∈xs,VC P E ρ (ev x) (cj x))->aA (f A (xs.map ev)) (v,A')->
   ∃ E' B' ak v' nx w',(execOp cj o).run P w = .ok nx w'/\adC v' nx/\VC P E' ak v v'/\Ev P base E A B ρ w E' A' B' ak w'
 | _=>True
theorem ZF {ρ:Ren} {ev:Operand->KV} {cj:Operand->Value} {xs:List Operand} (h:∀ x∈xs,VC P E ρ (ev x) (cj x)) :
  ∃ em:Operand->Value,aK P E (xs.map ev) (xs.map em)/\qK ρ em cj xs:=by
 classical
 refine ⟨fun x=>if hx:VC P E ρ (ev x) (cj x) then hx.choose else undef,?_,?_⟩
 ·induction xs with
  | nil=>exact .nil
  | cons x xs ih=>
   refine .cons ?_ (ih fun y hy=>h y (by simp [hy]));have hx:=h x (by simp);simp only [dif_pos hx];exact hx.choose_spec.1
 ·intro x hx
  have hx:=h x hx;simp only [dif_pos hx];exact hx.choose_spec.2
theorem lift_pure {o:Oper} {f:FP} {g:List Value->Option Value} {xs:List Operand} (hc:compile P o.op = .pure g xs) (hs:r8 P f g):BM P o (.pure f xs):=by
 intro E ρ ev cj v hv hg;obtain ⟨em,h1,h2⟩:=ZF hv;obtain ⟨u,h3,h4⟩:=hs E _ _ v h1 hg;have bM:=nb P o;rw [hc] at bM;obtain ⟨v',h5,h6⟩:=bM ρ em cj u h2 h3;exact ⟨v',⟨u,h4,h5⟩,h6⟩
def abD (P:Program) (f:FR) (g:St->List Value->Option Value):Prop:=
 ∀ (E:Env) (A:ai) (B:St) (vs:List KV) (us:List Value) (v:KV),du P E A B->aK P E vs us->aA (f A vs) v->∃ u,g B us=some u/\VK P E v u
theorem Gg {o:Oper} {f:FR} {g:St->List Value->Option Value} {xs:List Operand} (hc:compile P o.op = .read g xs) (hs:abD P f g):BM P o (.read f xs):=by
 intro E A B ρ base w ev cj v hj hv hg;obtain ⟨em,h1,h2⟩:=ZF hv;obtain ⟨u,h3,h4⟩:=hs E A B _ _ v hj.k h1 hg;have bM:=nb P o;rw [hc] at bM;obtain ⟨v',h5,h6⟩:=bM ρ B base w em cj u hj.s.rel h2 h3;exact ⟨v',⟨u,h4,h5⟩,h6⟩
def afE (P:Program) (f:FA) (g:St->List Value->Option (Value×St)):Prop:=
 ∀ (E:Env) (A A' : ai) (B:St) (vs:List KV) (us:List Value) (v:KV),du P E A B->aK P E vs us->aA (f A vs) (v,A')->∃ u B' E',g B us=some (u,B')/\VK P E' v u/\cF P E A B E' A' B'
theorem Q2 {o:Oper} {f:FA} {g:St->List Value->Option (Value×St)} {xs:List Operand} (hc:compile P o.op = .act g xs) (hs:afE P f g):BM P o (.act f xs):=by
 intro E A A' B ρ base w ev cj v hj hv hg;obtain ⟨em,h1,h2⟩:=ZF hv;obtain ⟨u,B',E',h3,h4,h5⟩:=hs E A A' B _ _ v hj.k h1 hg;have bM:=nb P o;rw [hc] at bM;obtain ⟨ak,v',nx,w',h6,h7,h8,h9⟩:=bM ρ B B' base w em cj u hj.s h2 h3;exact ⟨E',B',ak,v',nx,w',h6,h7,⟨u,h4,h8⟩,h5.ev h9⟩
def alC (P:Program) (f:FP) (g:St->List Value->Option (Value×St)):Prop:=
 ∀ (E:Env) (A:ai) (B:St) (vs:List KV) (us:List Value) (v:KV),du P E A B->aK P E vs us->aA (f vs) v->∃ u B' E',g B us=some (u,B')/\VK P E' v u/\cF P E A B E' A B'
theorem adW {o:Oper} {f:FP} {g:St->List Value->Option (Value×St)} {xs:List Operand} (hc:compile P o.op = .act g xs) (hs:alC P f g):BM P o (.look f xs):=by
 intro E A B ρ base w ev cj v hj hv hg;obtain ⟨em,h1,h2⟩:=ZF hv;obtain ⟨u,B',E',h3,h4,h5⟩:=hs E A B _ _ v hj.k h1 hg;have bM:=nb P o;rw [hc] at bM;obtain ⟨ak,v',nx,w',h6,h7,h8,h9⟩:=bM ρ B B' base w em cj u hj.s h2 h3;exact ⟨E',B',ak,v',nx,w',h6,h7,⟨u,h4,h8⟩,h5.ev h9⟩
theorem Yb {o:Oper} {g:List Value->Option (aY×(Nat->Value))} {xs:List Operand} (hc:compile P o.op = .make g xs) {ρ:Ren} {B:St} {base:Nat} {w:World} {em cj:Operand->Value} {obj:aY} {mk:Nat->Value} (hs:iu ρ B base w)
  (h2:qK ρ em cj xs) (h3:g (xs.map em)=some (obj,mk)):∃ ak v' w',(execOp cj o).run P w = .ok (.value v') w'/\VR ak (mk B.next) v'/\cp base ρ B w ak (B.new obj) w':=by
 have bM:=nb P o;rw [hc] at bM;obtain ⟨c,mk',h4,h5,h6⟩:=bM ρ em cj obj mk h2 h3;exact ⟨_,_,_,h5 w,h6 _ _ _ (Ren.dk _ _ _),h4.gD hs⟩
def U5 (P:Program) (f:FA) (g:List Value->Option (aY×(Nat->Value))):Prop:=
 ∀ (E:Env) (A A' : ai) (B:St) (vs:List KV) (us:List Value) (v:KV),du P E A B->aK P E vs us->aA (f A vs) (v,A')->∃ obj mk E',g us=some (obj,mk)/\VK P E' v (mk B.next)/\cF P E A B E' A' (B.new obj)
theorem ya {o:Oper} {f:FA} {g:List Value->Option (aY×(Nat->Value))} {xs:List Operand} (hc:compile P o.op = .make g xs) (hs:U5 P f g):BM P o (.act f xs):=by
 intro E A A' B ρ base w ev cj v hj hv hg;obtain ⟨em,h1,h2⟩:=ZF hv;obtain ⟨obj,mk,E',h3,h4,h5⟩:=hs E A A' B _ _ v hj.k h1 hg;obtain ⟨ak,v',w',h6,h7,h8⟩:=Yb hc hj.s h2 h3;exact ⟨E',B.new obj,ak,v',_,w',h6,rfl,⟨_,h4,h7⟩,h5.ev h8⟩
def aiX (P:Program) (f:FP) (g:List Value->Option (aY×(Nat->Value))):Prop:=
 ∀ (E:Env) (A:ai) (B:St) (vs:List KV) (us:List Value) (v:KV),du P E A B->aK P E vs us->aA (f vs) v->∃ obj mk E',g us=some (obj,mk)/\VK P E' v (mk B.next)/\cF P E A B E' A (B.new obj)
theorem Yc {o:Oper} {f:FP} {g:List Value->Option (aY×(Nat->Value))} {xs:List Operand} (hc:compile P o.op = .make g xs) (hs:aiX P f g):BM P o (.look f xs):=by
 intro E A B ρ base w ev cj v hj hv hg;obtain ⟨em,h1,h2⟩:=ZF hv;obtain ⟨obj,mk,E',h3,h4,h5⟩:=hs E A B _ _ v hj.k h1 hg;obtain ⟨ak,v',w',h6,h7,h8⟩:=Yb hc hj.s h2 h3;exact ⟨E',B.new obj,ak,v',_,w',h6,rfl,⟨_,h4,h7⟩,h5.ev h8⟩
def Env.wy (E:Env) (b x:Nat):Env:={ E with κ:=fun c=>if c=b then some x else E.κ c }
def Env.dW (E:Env) (b:Nat) (r:abt):Env:={ E with z:=fun c=>if c=b then some r else E.z c }
def Env.pn (E:Env) (b g:Nat):Env:={ E with φ:=fun c=>if c=b then some g else E.φ c }
theorem cF.newRow {A:ai} {B:St} {cs:List KV} {bX:List Value} {aQ:Nat} (h:du P E A B) (hv:aK P E cs bX):cF P E A B (E.wy A.next B.next) (A.new (.row cs aQ)) (B.new (.row bX aQ true none)):=by
 have hle:E.le (E.wy A.next B.next):=⟨fun _ _ e=>e,fun b x e=>by
  have:=h.fT b x e;simp only [Env.wy]; rw [ae (by omega)]; exact e,fun _ _ e=>e,fun _ _ e=>e⟩
 have hA:∀ (b:Nat) (v:KV),(A.new (.row cs aQ)).get b=some (.arr v)->A.get b=some (.arr v):=fun b v hb=>by
  rw [ai.cV] at hb;split at hb
  ·simp at hb
  ·exact hb
 have O0:∀ (b:Nat) (v:KV),(A.new (.row cs aQ)).get b=some (.iG v)->A.get b=some (.iG v):=fun b v hb=>by
  rw [ai.cV] at hb;split at hb
  ·simp at hb
  ·exact hb
 have DS:∀ x,AR A E x->(B.new (.row bX aQ true none)).get x=B.get x:=fun x q=>by have:=h.C7 q; rw [St.cV,ae (by omega)]
 refine ⟨⟨?_,?_,?_,?_,?_,?_,?_,?_,?_,?_,?_,?_,?_,?_,h.ar.dj hle (fun _=>rfl) hA O0 (by simp) (by simp) DS (fun _ _ e=>.inl e) (fun b x e=>?_) (fun b g e=>.inl ⟨b,e⟩) (fun _ _=>by simp) h.mem⟩,hle,by simp,?_,?_,fun _ _ e=>.inl e,fun _ _ e=>.inl e,fun _ _ _ _=>by simp,fun _ q=>.inl (q.of (fun _=>rfl) hA),fun _ q=>.inl (q.of (fun _=>rfl) hA DS),fun _ _ q=>.inl (by simpa using q),fun _ q=>.inl (q.of (fun _=>rfl) hA DS fun _ _=>by simp),ln abC⟩
 ·intro b mI U6 hb
  rw [ai.cV] at hb;split at hb
  ·rename_i e
   simp at hb;obtain ⟨rfl,rfl⟩:=hb;exact ⟨B.next,bX,by simp [Env.wy,e],by simp,hv.mono hle⟩
  ·obtain ⟨x,c,h1,h2,h3⟩:=h.row b mI U6 hb
   have:=h.eB b x h1;exact ⟨x,c,hle.κ _ _ h1,by rw [St.cV,ae (by omega)]; exact h2,h3.mono hle⟩
 ·intro b top DT hb
  rw [ai.cV] at hb;split at hb
  ·simp at hb
  ·rcases h.aF b top DT hb with h1 | ⟨g,h1,hp0,h2⟩
   ·exact .inl h1
   ·refine .inr ⟨g,h1,hp0,fun x hx c e own f k hg=>?_⟩
    rw [St.cV] at hg;split at hg
    ·simp at hg
    ·exact h2 x (by simpa using hx) c e own f k hg
 ·intro b r hb
  have:=h.lT b r hb;rw [St.cV,ae (by omega)];exact h.z b r hb
 ·intro b x hb
  simp only [Env.wy] at hb ⊢;split at hb
  ·simp at hb
   subst hb;cases hz:E.z B.next with
   | none=>rfl
   | some r=>have:=h.lT _ r hz; omega
  ·exact h.apart b x hb
 ·intro b c x hb hc
  simp only [Env.wy] at hb hc;split at hb <;> split at hc
  ·omega
  ·simp at hb; subst hb; have:=h.eB c _ hc; omega
  ·simp at hc; subst hc; have:=h.eB b _ hb; omega
  ·exact h.inj b c x hb hc
 ·exact C6.new (E:=E.wy A.next B.next) (fun x y g a b c d e f hx hy=>h.iA x y g a b c d e f hx hy) (.inl fun _ _=>by simp)
 ·intro b x hb
  simp only [Env.wy] at hb;rw [ai.cv];split at hb
  ·omega
  ·have:=h.fT b x hb; omega
 ·intro b g hb; have:=h.ll b g hb; rw [ai.cv]; omega
 ·intro b o hb
  rw [ai.cV] at hb;rw [ai.cv];split at hb
  ·omega
  ·have:=h.live b o hb; omega
 ·intro b x hb
  simp only [Env.wy] at hb;rw [St.cv];split at hb
  ·simp at hb; omega
  ·have:=h.eB b x hb; omega
 ·intro b r hb; have:=h.lT b r hb; rw [St.cv]; omega
 ·intro b g hb; have:=h.iQ b g hb; rw [St.cv]; omega
 ·intro g hg; rw [St.cv] at hg; rw [St.jX]; exact h.fresh g (by omega)
 ·intro g x hx; rw [St.jX] at hx; rw [St.cv]; have:=h.mem g x hx; omega
 ·simp only [Env.wy] at e
  split at e
  ·simp at e; exact .inr (by omega)
  ·exact .inl e
 ·intro x hx _ _; rw [St.cV,ae (by omega)]
 ·intro b x hb
  simp only [Env.wy] at hb;split at hb
  ·simp at hb; exact .inr (by omega)
  ·exact .inl hb
theorem cF.U7 {A:ai} {B:St} {bX:List Value} {aQ:Nat} (h:du P E A B):cF P E A B (E.dW B.next ⟨bX,aQ,true,none⟩) A (B.new (.row bX aQ true none)):=by
 have hle:E.le (E.dW B.next ⟨bX,aQ,true,none⟩):=⟨fun _ _ e=>e,fun _ _ e=>e,fun b r e=>by
  have:=h.lT b r e;simp only [Env.dW]; rw [ae (by omega)]; exact e,fun _ _ e=>e⟩
 have DS:∀ x,AR A E x->(B.new (.row bX aQ true none)).get x=B.get x:=fun x q=>by have:=h.C7 q; rw [St.cV,ae (by omega)]
 have IM:∀ b r,(E.dW B.next ⟨bX,aQ,true,none⟩).z b=some r->E.z b=some r\/B.next<=b:=fun b r e=>by
  simp only [Env.dW] at e;split at e
  ·exact .inr (by omega)
  ·exact .inl e
 refine ⟨⟨?_,?_,?_,?_,?_,?_,?_,?_,?_,?_,?_,?_,?_,?_,h.ar.dj hle (fun _=>rfl) (fun _ _ e=>e) (fun _ _ e=>e) (ao _) (by simp) DS IM (fun _ _ e=>.inl e) (fun b g e=>.inl ⟨b,e⟩) (fun _ _=>by simp) h.mem⟩,hle,ao _,?_,?_,fun b r e=>(IM b r e).imp id .inr,fun _ _ e=>.inl e,fun _ _ _ _=>by simp,fun _ q=>.inl q,fun _ q=>.inl (q.of (fun _=>rfl) (fun _ _ e=>e) DS),fun _ _ q=>.inl (by simpa using q),fun _ q=>.inl (q.of (fun _=>rfl) (fun _ _ e=>e) DS fun _ _=>by simp),ln abC⟩
 ·intro b mI U6 hb
  obtain ⟨x,c,h1,h2,h3⟩:=h.row b mI U6 hb;have:=h.eB b x h1;exact ⟨x,c,hle.κ _ _ h1,by rw [St.cV,ae (by omega)]; exact h2,h3.mono hle⟩
 ·intro b top DT hb
  rcases h.aF b top DT hb with h1 | ⟨g,h1,hp0,h2⟩
  ·exact .inl h1
  ·refine .inr ⟨g,h1,hp0,fun x hx c e own f k hg=>?_⟩
   rw [St.cV] at hg;split at hg
   ·simp at hg
   ·exact h2 x (by simpa using hx) c e own f k hg
 ·intro b r hb
  simp only [Env.dW] at hb;split at hb
  ·rename_i e
   simp at hb;subst hb e;simp
  ·have:=h.lT b r hb
   rw [St.cV,ae (by omega)];exact h.z b r hb
 ·intro b x hb
  have:=h.eB b x hb;simp only [Env.dW];rw [ae (by omega)];exact h.apart b x hb
 ·exact h.inj
 ·exact h.iA
 ·exact h.fT
 ·exact h.ll
 ·exact h.live
 ·intro b x hb; have:=h.eB b x hb; rw [St.cv]; omega
 ·intro b r hb
  simp only [Env.dW] at hb;rw [St.cv];split at hb
  ·omega
  ·have:=h.lT b r hb; omega
 ·intro b g hb; have:=h.iQ b g hb; rw [St.cv]; omega
 ·intro g hg; rw [St.cv] at hg; rw [St.jX]; exact h.fresh g (by omega)
 ·intro g x hx; rw [St.jX] at hx; rw [St.cv]; have:=h.mem g x hx; omega
 ·intro x hx _ _; rw [St.cV,ae (by omega)]
 ·intro b x hb; exact .inl hb
theorem cF.putRow {A:ai} {B:St} {b x aQ:Nat} {cs:List KV} {bX:List Value} (h:du P E A B) (hb:∃ mI e,A.get b=some (.row mI e)) (hx:E.κ b=some x) (hold:∃ mI,B.get x=some (.row mI aQ true none)/\mI.length=bX.length) (hv:aK P E cs bX):cF P E A B E (A.put b (.row cs aQ)) (B.put x (.row bX aQ true none)):=by
 have hA:∀ (c:Nat) (v:KV),(A.put b (.row cs aQ)).get c=some (.arr v)->A.get c=some (.arr v):=fun c v hb=>by
  rw [ai.bZ] at hb;split at hb
  ·simp at hb
  ·exact hb
 have O0:∀ (c:Nat) (v:KV),(A.put b (.row cs aQ)).get c=some (.iG v)->A.get c=some (.iG v):=fun c v hb=>by
  rw [ai.bZ] at hb;split at hb
  ·simp at hb
  ·exact hb
 have DS:∀ y,AR A E y->(B.put x (.row bX aQ true none)).get y=B.get y:=fun y q=>by
  rw [St.bZ,ae];intro e;subst e;exact (h.ar.z _ q).2 b hx
 refine ⟨⟨?_,?_,?_,h.apart,h.inj,h.iA.put (.inl fun _ _=>by simp),h.fT,h.ll,?_,h.eB,h.lT,h.iQ,?_,?_,h.ar.dj (Env.le_refl _) (fun _=>rfl) hA O0 (ao _) (ao _) DS (fun _ _ e=>.inl e) (fun _ _ e=>.inl e) (fun b g e=>.inl ⟨b,e⟩) (fun _ _=>by simp) h.mem⟩,Env.le_refl _,ao _,?_,fun _ _ e=>.inl e,fun _ _ e=>.inl e,fun _ _ e=>.inl e,fun _ _ _ _=>by simp,fun _ q=>.inl (q.of (fun _=>rfl) hA),fun _ q=>.inl (q.of (fun _=>rfl) hA DS),fun _ _ q=>.inl (by simpa using q),fun _ q=>.inl (q.of (fun _=>rfl) hA DS fun _ _=>by simp),fun y _ c e own aZ q=>by
  rw [St.bZ] at q;split at q
  ·rename_i e2
   simp at q;obtain ⟨rfl,rfl,rfl,rfl⟩:=q;obtain ⟨c0,h1,h2⟩:=hold;exact ⟨c0,by rw [e2]; exact h1,h2⟩
  ·exact ⟨c,q,rfl⟩⟩
 ·intro c mI U6 hc
  rw [ai.bZ] at hc;split at hc
  ·rename_i e
   simp at hc;obtain ⟨rfl,rfl⟩:=hc;exact ⟨x,bX,by rw [e]; exact hx,by simp,hv⟩
  ·rename_i bx
   obtain ⟨y,d,h1,h2,h3⟩:=h.row c mI U6 hc;refine ⟨y,d,h1,?_,h3⟩;rw [St.bZ,ae (fun e=>bx (h.inj c b x (by rw [<- e]; exact h1) hx))];exact h2
 ·intro c top DT hc
  rw [ai.bZ] at hc;split at hc
  ·simp at hc
  ·rcases h.aF c top DT hc with h1 | ⟨g,h1,hp0,h2⟩
   ·exact .inl h1
   ·refine .inr ⟨g,h1,hp0,fun y hy d e own f k hg=>?_⟩
    rw [St.bZ] at hg;split at hg
    ·simp at hg
    ·exact h2 y (by simpa using hy) d e own f k hg
 ·intro c r hc
  rw [St.bZ,ae]
  ·exact h.z c r hc
  ·intro e
   have:=h.apart b x hx;rw [<- e,hc] at this;simp at this
 ·intro c o hc
  rw [ai.bZ] at hc;rw [ai.o9];split at hc
  ·rename_i e
   obtain ⟨mI,e0,hb⟩:=hb;rw [e]; exact h.live b _ hb
  ·exact h.live c o hc
 ·intro g hg; rw [St.FQ]; exact h.fresh g hg
 ·intro g y hy; rw [St.FQ] at hy; exact h.mem g y hy
 ·intro y hy hn _
  rw [St.bZ,ae (fun e=>hn b (by rw [e]; exact hx))]
theorem akL {n:Nat} : U5 P (abl n) (XI n):=by
 intro E A A' B vs us v h hv hg;unfold abl at hg;split at hg
 ·rename_i x
  obtain ⟨y,rfl,h1⟩:=hv.dD;obtain ⟨ho,hg⟩:=hg.cond;have hg:(KV.ptr A.next 0,A.new (.row x.cells n))=(v,A'):=hg;simp only [bH] at hg;obtain ⟨rfl,rfl⟩:=hg;have hc:=h1.cells (yL ho);have yY:y.cells.toList.all scalar=true:=dU.2 (hc.scalar ho);exact ⟨NU n y,HS,E.wy A.next B.next,by simp [XI,yY],.v8 (by simp [Env.wy]),cF.newRow h hc⟩
 ·exact hg.elim
theorem ahd {t:TypeId} {z:Value} (hz:uK P t=some z) (hf:flat z=true) (yY:z.cells.toList.all scalar=true) (ho:ji (fw z).cells=true):U5 P (Sb (uL P t) (fw z).cells) (NV P t):=by
 intro E A A' B vs us v h hv hg;have hg:(KV.ptr A.next 0,A.new (.row (fw z).cells (uL P t)))=(v,A'):=hg;simp only [bH] at hg;obtain ⟨rfl,rfl⟩:=hg;exact ⟨NU (uL P t) z,HS,E.wy A.next B.next,by simp only [NV,hz,cD,hf,yY,cY,ah],.v8 (by simp [Env.wy]),cF.newRow h (Gc ho)⟩
theorem IP {cs:List KV} {l:List Value} (h:aK P E cs l):∀ n,aK P E (cN cs n) (eK l n)
 | 0=>.nil
 | n+1=>aK.append h (IP h n)
theorem Xi {n b:Nat} {z:Value} (ho:ji (fw z).cells=true):U5 P (IA n b (fw z).cells) (yV n b z):=by
 intro E A A' B vs us v h hv hg;unfold IA at hg;split at hg
 ·rename_i k l k' c
  obtain ⟨x,y,rfl,h1,h2⟩:=hv.iZ;have:=h1.bQ; subst this;have:=h2.bQ; subst this;obtain ⟨hc,hg⟩:=aA.iH hg;simp only [bH] at hg;obtain ⟨rfl,rfl⟩:=hg;simp only [aj,jP] at hc;obtain ⟨⟨h3,h4⟩,h5⟩:=hc;obtain ⟨l',rfl⟩:=Int.eq_ofNat_of_zero_le h3;obtain ⟨c',rfl⟩:=Int.eq_ofNat_of_zero_le (Int.le_trans h3 h4);have h6:Nat.ble l' c' = true:=Nat.ble_eq_true_of_le (by omega);refine ⟨.row (eK z.cells.toList c') n true none,fun k=>.slice (some ⟨k,0,none⟩) l' c',E.wy A.next B.next,?_,.afC (by simp [Env.wy]),cF.newRow h (IP (Gc ho) c')⟩;have h5:Nat.ble (b * c') 281474976710656=true:=h5;show cond (Nat.ble l' c'&&Nat.ble (b * c') 281474976710656) _ _=_;rw [h6,h5];rfl
 ·exact hg.elim
theorem du.rowAt {A:ai} {B:St} (h:du P E A B) {b x:Nat} {cs:List KV} (hr:rowAt A b=some cs) (hx:E.κ b=some x):∃ bX aQ,B.get x=some (.row bX aQ true none)/\aK P E cs bX:=by
 unfold K.rowAt at hr;split at hr
 ·rename_i c e hg
  simp at hr;subst hr;obtain ⟨y,d,h1,h2,h3⟩:=h.row _ _ _ hg;rw [hx] at h1;simp at h1;subst h1;exact ⟨d,_,h2,h3⟩
 ·simp at hr
theorem IQ (e:KV):∀ (cs:List CK) (k:Nat),(leaves e cs k).length=cs.length
 | [],_=>rfl
 | c::cs,k=>by simp [leaves,IQ e cs]
theorem ZG {c:CK} {v:KV} (h:kindOk c v=true):leaf c v=v:=by
 cases c with
 | int k=>cases v <;> simp [kindOk] at h; subst h; rfl
 | bool=>cases v <;> simp [kindOk] at h; rfl
 | str=>cases v <;> simp [kindOk] at h; rfl
 | slice t=>
  cases v <;> simp [kindOk] at h;rename_i T m n es acc;cases m <;> simp at h;subst h;rfl
 | other=>cases v <;> simp [kindOk] at h
theorem wz:∀ {ks:List CK} {cs:List KV} {i:Nat} {c:CK},au ks cs=true->ks[i]? = some c->∃ v,cs[i]? = some v/\kindOk c v=true
 | [],_,i,c,_,h=>by simp at h
 | _::_,[],_,_,h,_=>by simp [au] at h
 | k::ks,v::cs,0,c,h,e=>by
  simp only [au,aj] at h;simp at e;subst e;exact ⟨v,rfl,h.1⟩
 | k::ks,v::cs,i+1,c,h,e=>by
  simp only [au,aj] at h;obtain ⟨u,h1,h2⟩:=wz (i:=i) h.2 (by simpa using e);exact ⟨u,by simpa using h1,h2⟩
theorem fD:∀ {l:Lay} {es:List KV} {i:Nat} {e:KV},dp l es=true->es[i]? = some e->ca l e=true
 | l,[],i,e,_,h=>by simp at h
 | l,x::es,0,e,h,he=>by
  simp only [dp,aj] at h;simp at he;subst he;exact h.1
 | l,x::es,i+1,e,h,he=>by
  simp only [dp,aj] at h;exact fD h.2 (by simpa using he)
theorem fp {l:Lay} {e:KV} (h:ca l e=true):au l.ks e.cells=true/\rG e=true:=by
 cases e <;> simp [ca] at h <;> first | exact ⟨h.2,rfl⟩ | skip
 obtain ⟨h1,h2⟩:=h;cases hk:l.ks with
 | nil=>rw [hk] at h2; simp [au] at h2
 | cons c cs=>rw [hk] at h2; cases c <;> simp [au,kindOk] at h2
theorem MP {e:KV} {ks:List CK} (hk:au ks e.cells=true):∀ {cs:List CK} {k:Nat},(∀ m c,cs[m]? = some c->ks[k+m]? = some c)->leaves e cs k=(e.cells.drop k).take cs.length
 | [],k,_=>by simp [leaves]
 | c::cs,k,h=>by
  obtain ⟨v,h1,h2⟩:=wz hk (by simpa using h 0 c rfl);have aJ:k < e.cells.length:=(cw.1 h1).1;have ih:=MP hk (cs:=cs) (k:=k+1) (fun m d hm=>by have:=h (m+1) d (by simpa using hm); rwa [show k+(m+1)=k+1+m by omega] at this);simp only [leaves];have e1:e.cells.getD k .bz=v:=by simp [List.getD,h1]
  rw [e1,ZG h2];rw [show Nat.succ k=k+1 from rfl,ih,List.drop_eq_getElem_cons aJ];have e2:e.cells[k] = v:=by
   have:=cl aJ;rw [this] at h1;simpa using h1
  simp [e2]
theorem du.DN {A:ai} {B:St} (h:du P E A B) {b x L N' : Nat} {v:KV} (hr:DN A b=some v) (hx:E.α b=some (x,L,N')) :
  ∃ T N es acc,v = .ts T .any N es acc/\fP P T N es acc/\1<=aI P T/\∃ cs e own aZ aP,N' = N/\B.get x=some (.row cs e own aZ)/\aK P E es aP/\mK (aI P T) 0 cs aP/\L=cs.length/\e=aI P T:=by
 unfold K.DN at hr;split at hr
 ·rename_i u hg
  simp at hr; subst hr;obtain ⟨T,N,es,acc,h1,h2,h3,h4⟩:=h.ar.arr b _ hg;refine ⟨T,N,es,acc,h1,h2,h3,?_⟩;rcases h4 with ⟨_,h5⟩ | ⟨y,cs,aZ,aP,h4,h5,h6,h7⟩
  ·rw [hx] at h5; simp at h5
  ·rw [hx] at h4
   simp only [aR,bH] at h4;obtain ⟨rfl,rfl,rfl⟩:=h4;exact ⟨cs,_,_,aZ,aP,rfl,h5,h6,h7,rfl,rfl⟩
 ·rename_i u hg
  simp at hr; subst hr;obtain ⟨T,N,es,acc,h1,h2,h3,h4⟩:=h.ar.iG b _ hg;refine ⟨T,N,es,acc,h1,h2,h3,?_⟩;rcases h4 with ⟨_,h5⟩ | ⟨y,r,aP,h4,h5,h6,h7,h8⟩
  ·rw [hx] at h5; simp at h5
  ·rw [hx] at h4
   simp only [aR,bH] at h4;obtain ⟨rfl,rfl,rfl⟩:=h4;exact ⟨r.cs,_,_,_,aP,rfl,h.z _ _ h5,h7,h8,rfl,h6⟩
 ·simp at hr
theorem U8 {t T Tc:TypeId} {k x base aQ:Nat} {own:Bool} {aZ:Option (Nat×Nat)} {e:KV} {u:Value} {cs:List Value} {B:St} (hz:B.get x=some (.row cs aQ own aZ)) (hc:TC P t Tc=true) (hw:TF P T Tc k) (wA:ca (aH P T) e=true)
  (h7:VK P E e u) (cT:u.cells.size=aI P T) (la:∀ (m:Nat) (y:Value),u.cells[m]? = some y->cs[base+m]? = some y):∃ w,zB P t B [.pointer (some ⟨x,base+k,none⟩)] = some w/\VK P E (HH (aH P t).agg (leaves e (aH P t).ks k)) w:=by
 simp only [TC,aj,jP] at hc;obtain ⟨⟨⟨⟨hTc,hpl⟩,ha⟩,hn⟩,alD⟩:=hc;have:=aD hTc;subst this;obtain ⟨akM,akN⟩:=fp wA;have U9:=MP akM (cs:=(aH P Tc).ks) (k:=k) hw.is;rw [U9];have AD:=h7.cells akN;have hlen:e.cells.length=aI P T:=by have:=AD.length; simp at this; omega
 have jG:(aH P Tc).ks.length<=e.cells.length - k:=by
  have:=congrArg List.length U9;rw [IQ] at this;simp at this;omega
 have dC:∀ m,m < (aH P Tc).ks.length->cs[base+k+m]? = u.cells.toList[k+m]?:=by
  intro m hm;have aJ:k+m < u.cells.size:=by omega
  have:=la (k+m) u.cells[k+m] (by simp [aJ]);rw [show base+(k+m)=base+k+m by omega] at this;rw [this];simp [aJ]
 have Va:takeN (aH P Tc).ks.length (zA (base+k) cs)=some ((u.cells.toList.drop k).take (aH P Tc).ks.length):=by
  have hle:(aH P Tc).ks.length<=(cs.drop (base+k)).length:=by
   cases Ez:(aH P Tc).ks.length with
   | zero=>omega
   | succ q=>
    have:=dC q (by omega);have aJ:k+q < u.cells.toList.length:=by simp; omega
    rw [cl aJ] at this;have:=(cw.1 this).1;simp;omega
  rw [nV,EW hle];congr 1;apply List.ext_getElem?;intro m;rw [kS,kS];split
  ·rename_i hm
   rw [lF,lF];exact dC m hm
  ·rfl
 have hrel:aK P E (e.cells.drop k |>.take (aH P Tc).ks.length) ((u.cells.toList.drop k).take (aH P Tc).ks.length):=(AD.drop k).take _;cases uM:(aH P Tc).agg with
 | true=>
  rw [uM] at ha;refine ⟨.agg ⟨(u.cells.toList.drop k).take (aH P Tc).ks.length⟩,?_,.ns hrel⟩;simp [zB,loadAt,ha,hn,St.nP,bI,qZ,hz,Va]
 | false=>
  rw [uM] at ha;have AG:(aH P Tc).ks.length=1:=by
   rw [uM] at alD;exact aD (by simpa using alD)
  rw [AG] at Va hrel;have aJ:k < e.cells.length:=by omega
  rw [AG];rw [List.drop_eq_getElem_cons aJ] at hrel ⊢;simp only [List.take_succ_cons,List.take_zero] at hrel ⊢;obtain ⟨w,h8,h9⟩:=hrel.dD;refine ⟨w,?_,h9⟩;simp [zB,loadAt,ha,St.nP,bI,qZ,hz,Va,h8]
theorem abE {t:TypeId} : abD P (QO P t) (zB P t):=by
 intro E A B vs us v h hv hg;unfold QO at hg;split at hg
 ·rename_i b off
  obtain ⟨y,rfl,h1⟩:=hv.dD;obtain ⟨x,hx,rfl⟩:=h1.fX;split at hg
  ·rename_i ag n ha hn
   split at hg
   ·rename_i l hl
    obtain ⟨cs,h2,h3⟩:=aO.1 hl;obtain ⟨bX,aQ,h4,h5⟩:=h.rowAt h2 hx;obtain ⟨r,h6,h7,_⟩:=h5.r6 h3;cases ag with
    | true=>
     have hg:KV.agg l=v:=hg;subst hg;refine ⟨.agg ⟨r⟩,?_,.ns h7⟩;simp [zB,loadAt,ha,hn,St.nP,bI,qZ,h4,h6]
    | false=>
     rw [ay] at hg;split at hg
     ·rename_i u
      have hg:u=v:=hg;subst hg;obtain ⟨w,rfl,h8⟩:=h7.dD;have hlen:n=1:=by
       obtain ⟨e,hle⟩:=Kg h3;have:=congrArg List.length e;rw [ju,Nat.min_eq_left hle] at this;simpa using this.symm
      subst hlen;exact ⟨w,by simp [zB,loadAt,ha,St.nP,bI,qZ,h4,h6],h8⟩
     ·exact hg.elim
   ·exact hg.elim
  ·exact hg.elim
 ·rename_i T Tc i k es acc
  obtain ⟨y,rfl,h1⟩:=hv.dD;obtain ⟨hc,hg⟩:=hg.cond;have hg:HH (aH P t).agg (leaves (acc i) (aH P t).ks k)=v:=hg;subst hg;obtain ⟨ht,aP,h2,hi,hw,b,off,r,rfl,h4,h5⟩:=h1.Gb;have anF:=ht.acc i hi;have hei:es[i]? = some (acc i):=by rw [anF]; simp [List.getD,hi]
  obtain ⟨u,h6,h7⟩:=h2.get hei;obtain ⟨cT,la⟩:=h5 i u h6;exact U8 (h.z b r h4) hc hw (fD ht.typed hei) h7 cT la
 ·rename_i T Tc b i k
  obtain ⟨y,rfl,h1⟩:=hv.dD;split at hg
  ·rename_i T' m N es acc hA
   obtain ⟨hc,hg⟩:=hg.cond;have hg:HH (aH P t).agg (leaves (acc i) (aH P t).ks k)=v:=hg;subst hg;simp only [aj] at hc;have:=aD hc.1;subst this;obtain ⟨x,L,N',h2,hw,hi,rfl⟩:=h1.C5;obtain ⟨T2,N2,mu,fa,vN,ht,h1s,cs,e,own,aZ,aP,h3,h4,h5,h6,_⟩:=h.DN hA h2;simp only [KV.ts.injEq] at vN;obtain ⟨rfl,rfl,rfl,rfl,rfl⟩:=vN;have aJ:i < es.length:=by rw [<- ht.len,<- h3]; exact hi
   have hei:es[i]? = some (acc i):=by rw [ht.acc i (by rw [ht.len]; exact aJ)]; simp [List.getD,aJ]
   obtain ⟨u,h7,h8⟩:=h5.get hei;obtain ⟨cT,la⟩:=h6 i u h7;rw [bG] at la;exact U8 h4 hc.2 hw (fD ht.typed hei) h8 cT la
  ·exact hg.elim
 ·exact hg.elim
end Go.K
end
section
namespace Go.K
open Go Go.az
variable {P:Program} {E:Env}
theorem VK.aiY {T:TypeId} {m:Mk} {n:Nat} {es:List KV} {acc:Nat->KV} {u:Value} (h:VK P E (.ts T m n es acc) u):VK P E (.ts T .any n es acc) u:=by
 obtain ⟨ht,aP,h1,a,cap,rfl,h2,h3,_⟩:=h.jz;simp only [VK];exact ⟨ht,aP,h1,a,cap,rfl,h2,h3,trivial⟩
theorem VK.adX {T:TypeId} {acc:Nat->KV} : VK P E (.ts T .any 0 [] acc) (.slice none 0 0):=by
 simp only [VK];exact ⟨⟨rfl,fun i h=>by omega,rfl⟩,[],.nil,none,0,rfl,ao _,.inl ⟨rfl,rfl⟩,trivial⟩
theorem VK.amu {b:Bool} {v:KV} {u:Value} (h:VK P E v u):VK P E (cond b v .bz) u:=by
 cases b with
 | false=>exact .qo
 | true=>exact h
theorem VK.kP {c:CK} {v:KV} {u:Value} (h:VK P E v u):VK P E (kP c v) u:=by
 unfold K.kP;split
 ·have:=h.mw; subst this; exact .adX
 ·rename_i t t' m n es acc
  cases hb:Nat.beq t t' with
  | false=>exact .qo
  | true=>
   have:=aD hb;subst this;exact h.aiY
 ·exact VK.amu h
theorem aK.wm:∀ {ks:List CK} {cs:List KV} {l:List Value},aK P E cs l->cs.length=ks.length->aK P E (wm ks cs) l
 | [],[],l,h,_=>h
 | [],_::_,_,_,e=>by simp at e
 | _::_,[],_,_,e=>by simp at e
 | c::ks,v::cs,l,h,e=>by
  obtain ⟨y,ys,rfl,h1,h2⟩:=h.cons_inv;exact .cons h1.kP (aK.wm h2 (by simpa using e))
theorem VK.dv {l:Lay} {v:KV} {u:Value} (h:VK P E v u):VK P E (dv l v) u:=by
 unfold K.dv;split
 ·rename_i cs
  obtain ⟨m,rfl,h1⟩:=h.jr;cases hb:(l.agg&&Nat.beq cs.length l.ks.length) with
  | false=>exact .qo
  | true=>
   simp only [aj] at hb;exact .ns (h1.wm (aD hb.2))
 ·cases l.agg with
  | true=>exact .qo
  | false=>
   rw [ay];split
   ·exact h.kP
   ·exact .qo
theorem O1 (d:Nat) (v:KV):bU P (d+1) v=(match v with
 | .ts t _ n _ acc=>.ts t .any n ((List.range n).map fun i=>gW P (bU P d) t (acc i)) (fun i=>gW P (bU P d) t (acc i))
 | v=>v):=rfl
theorem Xj (d:Nat) {c:CK} {v:KV} (h:kindOk c v=true):kindOk c (bU P d v)=true:=by
 cases d with
 | zero=>exact h
 | succ d=>
  rw [O1];split
  ·rename_i t m n es acc
   cases c <;> simp [kindOk] at h;cases m <;> simp at h;simp [kindOk,h]
  ·exact h
theorem BN (d:Nat):∀ {ks:List CK} {cs:List KV},au ks cs=true->au ks (cs.map (bU P d))=true
 | [],[],_=>rfl
 | [],_::_,h=>by simp [au] at h
 | _::_,[],h=>by simp [au] at h
 | c::ks,v::cs,h=>by
  simp only [au,aj] at h;simp only [List.map_cons,au,aj];exact ⟨Xj d h.1,BN d h.2⟩
theorem ou:∀ {ks:List CK} {vs:List KV},au ks vs=true->vs.length=ks.length
 | [],[],_=>rfl
 | [],_::_,h=>by simp [au] at h
 | _::_,[],h=>by simp [au] at h
 | k::ks,v::vs,h=>by
  simp only [au,aj] at h;simp [ou h.2]
theorem lV {l:Lay} : ∀ {es:List KV},(∀ (i:Nat) e,es[i]? = some e->ca l e=true)->dp l es=true
 | [],_=>rfl
 | e::es,h=>by
  simp only [dp,aj];exact ⟨h 0 e rfl,lV fun i x hx=>h (i+1) x (by simpa using hx)⟩
theorem Gh {l:Lay} {v:KV} (h:ca l v=true):leaves v l.ks 0=v.cells/\au l.ks v.cells=true/\(v=HH l.agg v.cells):=by
 have hk:au l.ks v.cells=true/\(v=HH l.agg v.cells):=by
  by_cases ha:∃ cs,v = .agg cs
  ·obtain ⟨cs,rfl⟩:=ha
   simp only [ca,aj] at h;refine ⟨h.2,?_⟩;rw [h.1]; rfl
  ·have h1:(!l.agg&&au l.ks [v])=true:=by
    cases v <;> first | exact h | exact absurd ⟨_,rfl⟩ ha | simp [ca] at h
   have hc:v.cells = [v]:=by cases v <;> first | rfl | exact absurd ⟨_,rfl⟩ ha
   simp only [aj,iy] at h1;rw [hc,h1.1];exact ⟨h1.2,rfl⟩
 refine ⟨?_,hk.1,hk.2⟩;rw [MP (e:=v) (ks:=l.ks) hk.1 (fun m c e=>by rw [bG]; exact e)];show (v.cells.drop 0).take l.ks.length=v.cells;rw [List.drop_zero,<- ou hk.1,List.take_length]
theorem Vb {l:Lay} {cs:List KV} {v:KV} (h:ca l v=true) (hk:au l.ks cs=true) (hlen:cs.length=v.cells.length):ca l (HH l.agg cs)=true:=by
 by_cases ha:∃ ds,v = .agg ds
 ·obtain ⟨ds,rfl⟩:=ha
  simp only [ca,aj] at h;rw [h.1];show (l.agg&&au l.ks cs)=true;rw [h.1,hk]; rfl
 ·have h1:(!l.agg&&au l.ks [v])=true:=by
   cases v <;> first | exact h | exact absurd ⟨_,rfl⟩ ha | simp [ca] at h
  have hc:v.cells = [v]:=by cases v <;> first | rfl | exact absurd ⟨_,rfl⟩ ha
  simp only [aj,iy] at h1;rw [hc] at hlen
  match cs,hlen with
  | [c],_=>
   rw [h1.1];show ca l c=true;have abB:one c=true:=by
    cases nu:l.ks with
    | nil=>rw [nu] at hk; simp [au] at hk
    | cons a aow=>rw [nu] at hk; simp only [au,aj] at hk; cases a <;> cases c <;> first | rfl | simp [kindOk] at hk
   cases c <;> first | (simp [one] at abB; done) | (simp only [ca,h1.1,Bool.not_false,uh]; exact hk)
mutual
theorem VK.bU:∀ (d:Nat) {v:KV} {u:Value},VK P E v u->VK P E (K.bU P d v) u
 | 0,_,_,h=>h
 | d+1,v,u,h=>by
  rw [O1];split
  ·rename_i t m n es acc
   obtain ⟨ht,aP,h1,a,cap,rfl,h2,h3,_⟩:=h.jz;simp only [VK];have wA:∀ i,i < n->∃ e e',es[i]? = some e/\aP[i]? = some e'/\acc i=e/\ca (aH P t) e=true/\VK P E e e':=by
    intro i hi;have hl:i < es.length:=by rw [<- ht.len]; exact hi
    have e1:=cl hl;obtain ⟨e',e2,e3⟩:=h1.get e1;exact ⟨_,e',e1,e2,by rw [ht.acc i hi,eN,e1]; rfl,fD ht.typed e1,e3⟩
   have hlen:aP.length=n:=by rw [h1.length,ht.len]
   refine ⟨⟨by simp,fun i hi=>?_,?_⟩,aP,?_,a,cap,rfl,h2,h3,trivial⟩
   ·rw [eN,mf,List.getElem?_range hi]; rfl
   ·refine lV fun i e he=>?_
    rw [mf] at he;by_cases hi:i < n
    ·rw [List.getElem?_range hi] at he
     simp only [Option.map_some,aR] at he;obtain ⟨x,x',_,_,q3,q4,_⟩:=wA i hi;rw [<- he,q3,gW];obtain ⟨r1,r2,_⟩:=Gh q4;rw [r1];exact Vb q4 (BN d r2) (by simp)
    ·rw [List.getElem?_eq_none (by simp; omega)] at he; simp at he
   ·refine aK.Oa (by simp [hlen]) fun i e e' he he'=>?_
    rw [mf] at he;by_cases hi:i < n
    ·rw [List.getElem?_range hi] at he
     simp only [Option.map_some,aR] at he;obtain ⟨x,x',_,q2,q3,q4,q5⟩:=wA i hi;rw [he'] at q2;simp only [aR] at q2;subst q2;rw [<- he,q3];exact VK.gW d q4 q5
    ·rw [List.getElem?_eq_none (by simp; omega)] at he; simp at he
  ·exact h
theorem VK.gW (d:Nat) {t:TypeId} {v:KV} {u:Value} (hk:ca (aH P t) v=true) (h:VK P E v u):VK P E (K.gW P (K.bU P d) t v) u:=by
 obtain ⟨r1,r2,r3⟩:=Gh hk;rw [K.gW,r1];by_cases ha:∃ cs,v = .agg cs
 ·obtain ⟨cs,rfl⟩:=ha
  obtain ⟨l,rfl,h1⟩:=h.jr;have uM:(aH P t).agg=true:=by simp only [ca,aj] at hk; exact hk.1
  rw [uM];exact .ns (aK.abF d h1)
 ·have hc:v.cells = [v]:=by cases v <;> first | rfl | exact absurd ⟨_,rfl⟩ ha
  have uM:(aH P t).agg=false:=by
   cases v <;> first | (simp only [ca,aj,iy] at hk; exact hk.1) | exact absurd ⟨_,rfl⟩ ha | simp [ca] at hk
  rw [uM,hc];exact VK.bU d h
theorem aK.abF (d:Nat):∀ {cs:List KV} {l:List Value},aK P E cs l->aK P E (cs.map (K.bU P d)) l
 | [],l,h=>h
 | c::cs,l,h=>by
  obtain ⟨y,ys,rfl,h1,h2⟩:=h.cons_inv;exact .cons (VK.bU d h1) (aK.abF d h2)
end
theorem abG {c:CK} {v:KV} (h:kindOk c v=true):one v=true:=by
 cases c <;> cases v <;> simp [kindOk] at h <;> rfl
theorem AO:∀ {ks:List CK} {cs:List KV},au ks cs=true->ji cs=true
 | [],[],_=>rfl
 | [],_::_,h=>by simp [au] at h
 | _::_,[],h=>by simp [au] at h
 | c::ks,v::cs,h=>by
  simp only [au,aj] at h;simp [ji,abG h.1,AO h.2]
def bj:List Value->List Value
 | []=>[]
 | v::vs=>v.cells.toList++bj vs
theorem fQ {n:Nat} : ∀ {es:List Value},(∀ v∈es,v.cells.size=n)->(bj es).length=es.length * n
 | [],_=>by simp [bj]
 | v::es,h=>by
  simp only [bj,gd,lG];rw [fQ fun u hu=>h u (by simp [hu])];have:=h v (by simp);simp only [Array.length_toList,this,Nat.succ_mul];omega
theorem jI {n:Nat} : ∀ {es:List Value},(∀ v∈es,v.cells.size=n)->mK n 0 (bj es) es
 | [],_,i,x,h=>by simp at h
 | v::es,hs,i,x,h=>by
  have hv:=hs v (by simp);cases i with
  | zero=>
   simp at h;subst h;refine ⟨hv,fun k y hy=>?_⟩;simp only [bj,Nat.zero_mul,bG];have aJ:k < v.cells.size:=(jg.1 hy).1;rw [nE (by simpa using aJ)];simpa using hy
  | succ i=>
   obtain ⟨h1,h2⟩:=jI (es:=es) (fun u hu=>hs u (by simp [hu])) i x (by simpa using h);refine ⟨h1,fun k y hy=>?_⟩;have:=h2 k y hy;simp only [bj];rw [o3 (by simp [hv,Nat.succ_mul]; omega)];rw [<- this];congr 1;simp [hv,Nat.succ_mul];omega
theorem tZ:∀ (a b:List Value),bj (a++b)=bj a++bj b
 | [],b=>rfl
 | v::a,b=>by simp [bj,tZ a b]
theorem ua:∀ {es:List Value},(∀ v∈es,∀ c∈v.cells.toList,scalar c=true)->∀ c∈bj es,scalar c=true
 | [],_,c,h=>by simp [bj] at h
 | v::es,hs,c,h=>by
  simp only [bj,eX] at h;rcases h with h | h
  ·exact hs v (by simp) c h
  ·exact ua (fun u hu=>hs u (by simp [hu])) c h
theorem Sh {n:Nat} : ∀ {es:List Value} {i:Nat} {v:Value},(∀ u∈es,u.cells.size=n)->v.cells.size=n->i < es.length->eY (i * n) (bj es) v.cells.toList=some (bj (es.set i v))
 | [],i,v,_,_,h=>by simp at h
 | u::es,0,v,hs,hv,_=>by
  simp only [Nat.zero_mul,bj,List.set_cons_zero];have key:∀ (a b r:List Value),a.length=b.length->eY 0 (a++r) b=some (b++r):=by
   intro a
   induction a with
   | nil=>intro b r h; cases b <;> simp_all [uI]
   | cons x a ih=>
    intro b r h;cases b with
    | nil=>simp at h
    | cons y b=>rw [List.cons_append,uJ,ih b r (by simpa using h)]; rfl
  exact key _ _ _ (by simp [hs u (by simp),hv])
 | u::es,i+1,v,hs,hv,h=>by
  have ih:=Sh (es:=es) (i:=i) (fun w hw=>hs w (by simp [hw])) hv (by simpa using h);simp only [bj,List.set_cons_succ];have key:∀ (a r vs q:List Value) (m:Nat),eY m r vs=some q->eY (a.length+m) (a++r) vs=some (a++q):=by
   intro a
   induction a with
   | nil=>intro r vs q m h; simpa using h
   | cons x a ih=>
    intro r vs q m h;rw [lG,show a.length+1+m=(a.length+m)+1 by omega,List.cons_append,np,ih r vs q m h];rfl
  have:=key u.cells.toList _ _ _ _ ih;rw [show u.cells.toList.length+i * n=(i+1) * n by simp [hs u (by simp),Nat.succ_mul]; omega] at this;exact this
def nS (es:List Value):List (Nat×Value)->List Value
 | []=>es
 | (i,v)::rest=>nS (es.set i v) rest
theorem DU:∀ (ps:List (Nat×Value)) (es:List Value),(nS es ps).length=es.length
 | [],_=>rfl
 | p::ps,es=>by simp [nS,DU ps]
theorem MQ {n:Nat} (hn:1<=n):∀ {ps:List (Nat×Value)} {es:List Value},(∀ u∈es,u.cells.size=n)->(∀ p∈ps,p.2.cells.size=n/\p.1 < es.length)->
  vU (vv n) (bj es) ps=some (bj (nS es ps))/\∀ u∈nS es ps,u.cells.size=n
 | [],es,hs,_=>⟨rfl,hs⟩
 | (i,v)::ps,es,hs,hp=>by
  obtain ⟨h1,h2⟩:=hp (i,v) (by simp);have h3:=Sh hs h1 h2;have Bw:∀ u∈es.set i v,u.cells.size=n:=by
   intro u hu;rcases List.mem_or_eq_of_mem_set hu with h | h
   ·exact hs u h
   ·subst h; exact h1
  obtain ⟨h4,h5⟩:=MQ hn (ps:=ps) Bw (fun p hq=>by have:=hp p (by simp [hq]); simpa using this);refine ⟨?_,h5⟩;simp only [vU,vv];have e1:Nat.beq v.cells.size n=true:=by rw [h1]; simp
  have e2:Nat.ble 1 n=true:=Nat.ble_eq_true_of_le hn;rw [e1,e2];simp only [cY,ah,h3,cD];exact h4
theorem MR {v:KV} {u:Value} (h:VK P E v u):∀ {es:List KV} {aP:List Value} (i:Nat),aK P E es aP->aK P E (setAt es i v) (aP.set i u)
 | [],aP,i,q=>by rw [q.bA]; cases i <;> exact .nil
 | x::es,aP,0,q=>by
  obtain ⟨y,ys,rfl,h1,h2⟩:=q.cons_inv;exact .cons h h2
 | x::es,aP,i+1,q=>by
  obtain ⟨y,ys,rfl,h1,h2⟩:=q.cons_inv;exact .cons h1 (MR h i h2)
theorem MS {l:Lay} : ∀ {is:List Nat} {vs:List KV} {us:List Value} {es:List KV} {aP:List Value},aK P E vs us->aK P E es aP->aK P E (zL es ((tz is vs).map fun p=>(p.1,dv l p.2))) (nS aP (zipIdx is us))
 | [],vs,us,es,aP,_,h=>by simpa [tz,zipIdx,zL,nS] using h
 | i::is,[],us,es,aP,hv,h=>by rw [hv.bA]; simpa [tz,zipIdx,zL,nS] using h
 | i::is,v::vs,us,es,aP,hv,h=>by
  obtain ⟨y,ys,rfl,h1,h2⟩:=hv.cons_inv;simp only [tz,zipIdx,List.map_cons,zL,nS];exact MS h2 (MR h1.dv i h)
theorem yM:∀ (es:List KV) (i:Nat) (v:KV),(setAt es i v).length=es.length
 | [],0,_=>rfl
 | [],_+1,_=>rfl
 | _::_,0,_=>rfl
 | e::es,i+1,v=>by simp [setAt,yM es i v]
theorem DV:∀ (ps:List (Nat×KV)) (es:List KV),(zL es ps).length=es.length
 | [],_=>rfl
 | p::ps,es=>by simp [zL,DV ps,yM]
theorem ZH {n:Nat} : ∀ {is:List Nat} (us:List Value),xZ n is=true->∀ p∈zipIdx is us,p.1 < n/\p.2∈us
 | [],us,_,p,h=>by simp [zipIdx] at h
 | i::is,[],_,p,h=>by simp [zipIdx] at h
 | i::is,u::us,h,p,hp=>by
  simp only [xZ,aj,b7] at h;simp only [zipIdx,bd] at hp;rcases hp with rfl | hp
  ·exact ⟨h.1,by simp⟩
  ·obtain ⟨h1,h2⟩:=ZH us h.2 p hp
   exact ⟨h1,by simp [h2]⟩
theorem wB (z:Value):∀ n,eK z.cells.toList n=bj (List.replicate n z)
 | 0=>rfl
 | n+1=>by simp [eK,List.replicate_succ,bj,wB z n]
theorem Gi {z:KV} {u:Value} (h:VK P E z u):∀ n,aK P E (cN [z] n) (List.replicate n u)
 | 0=>.nil
 | n+1=>by simpa [cN,List.replicate_succ] using aK.cons h (Gi h n)
theorem j7 {l:Lay} : ∀ {es:List KV} {aP:List Value},dp l es=true->aK P E es aP->∀ u∈aP,u.cells.size=l.ks.length/\∀ c∈u.cells.toList,scalar c=true
 | [],aP,_,h,u,hu=>by rw [h.bA] at hu; simp at hu
 | e::es,aP,wA,h,u,hu=>by
  obtain ⟨y,ys,rfl,h1,h2⟩:=h.cons_inv;simp only [dp,aj] at wA;rcases bd.1 hu with rfl | hu
  ·obtain ⟨k1,k2⟩:=fp wA.1
   have hc:=h1.cells k2;refine ⟨?_,hc.scalar (AO k1)⟩;have:=hc.length;have:=nX k1;simp at *;omega
  ·exact j7 wA.2 h2 u hu
theorem Q3 {l:Lay} : ∀ {vs:List KV} {us:List Value},aK P E vs us->aK P E (vs.map (dv l)) us
 | [],_,h=>h
 | v::vs,us,h=>by
  obtain ⟨y,ys,rfl,h1,h2⟩:=h.cons_inv;exact .cons h1.dv (Q3 h2)
theorem Xk {e:TypeId} {n len:Nat} {z:Value} {is:List Nat} (hn:(aH P e).ks.length=n) (h1n:1<=n) (hz:z.cells.size=n) (hb:xZ len is=true) :
  aiX P (Ix (aH P e) e (dv (aH P e) (fw z)) len is) (oi n z len is):=by
 intro E A B vs us v h hv hg;unfold Ix at hg;obtain ⟨hc,hg⟩:=aA.cond hg;simp only [aj] at hc;obtain ⟨⟨hk,Ug⟩,wA⟩:=hc;have hg:KV.ts e .exact len _ _=v:=hg;subst hg;have IU:VK P E (dv (aH P e) (fw z)) z:=(VK.fw z).dv;have hrel:=MS (l:=aH P e) (is:=is) hv (Gi IU len);have hlen:(zL (cN [dv (aH P e) (fw z)] len) ((tz is vs).map fun p=>(p.1,dv (aH P e) p.2))).length=len:=by
  rw [DV,uw]; simp
 have ZI:∀ p∈zipIdx is us,p.2.cells.size=n/\p.1 < (List.replicate len z).length:=by
  intro p hp;obtain ⟨h5,h6⟩:=ZH us hb p hp;have hm:aK P E (vs.map (dv (aH P e))) us:=Q3 hv;exact ⟨by rw [<- hn]; exact (j7 Ug hm p.2 h6).1,by simpa using h5⟩
 obtain ⟨h3,h4⟩:=MQ h1n (ps:=zipIdx is us) (es:=List.replicate len z) (fun u hu=>by rw [(List.mem_replicate.1 hu).2]; exact hz) ZI;have uq:=j7 wA hrel;have gU:(bj (nS (List.replicate len z) (zipIdx is us))).all scalar=true:=dU.2 (ua fun u hu=>(uq u hu).2);refine ⟨.row (bj (nS (List.replicate len z) (zipIdx is us))) n true none,fun b=>.slice (some ⟨b,0,none⟩) len len,E.dW B.next ⟨_,n,true,none⟩,?_,?_,cF.U7 h⟩
 ·unfold oi
  rw [wB,h3];simp only [cD];rw [gU,BI hv hk];rfl
 ·have adY:=hrel.mono (cF.U7 (bX:=bj (nS (List.replicate len z) (zipIdx is us))) (aQ:=n) h).le
  have iK:(nS (List.replicate len z) (zipIdx is us)).length=len:=by rw [DU]; simp
  simp only [VK];refine ⟨⟨hlen.symm,fun i _=>rfl,wA⟩,_,adY,some ⟨B.next,0,none⟩,len,rfl,ao _,.inr ⟨B.next,0,⟨bj (nS (List.replicate len z) (zipIdx is us)),n,true,none⟩,rfl,by simp [Env.dW],hn.symm,?_⟩,rfl,fun b off hb=>?_⟩
  ·have:=jI h4
   unfold aI;rw [hn];exact this
  ·simp at hb
   obtain ⟨rfl,rfl⟩:=hb;refine ⟨⟨bj (nS (List.replicate len z) (zipIdx is us)),n,true,none⟩,by simp [Env.dW],rfl,rfl,?_⟩;simp only [aI,hn];rw [fQ h4,iK];omega
theorem ZJ {n len:Nat} {z:Value} {is:List Nat} (ho:ji (fw z).cells=true):U5 P (MB n (fw z).cells len is) (oi n z len is):=by
 intro E A A' B vs us v h hv hg;unfold MB at hg;split at hg
 ·rename_i cs hf
  obtain ⟨hk,hg⟩:=aA.cond hg;simp only [aj] at hk;have hg:(KV.sl A.next 0 len len,A.new (.row cs n))=(v,A'):=hg;simp only [bH] at hg;obtain ⟨rfl,rfl⟩:=hg;obtain ⟨h2,h3⟩:=UX is hv;obtain ⟨r',e,hr⟩:=UW h2 h3 (fun p hp=>by have:=UY is vs p hp; exact dU.1 hk.1 _ this) (IP (Gc (P:=P) (E:=E) ho) len) hf;refine ⟨.row r' n true none,fun b=>.slice (some ⟨b,0,none⟩) len len,E.wy A.next B.next,?_,.afC (by simp [Env.wy]),cF.newRow h hr⟩;unfold oi;rw [e];simp only [cD];rw [BI hv hk.1,dU.2 (hr.scalar hk.2)];rfl
 ·exact hg.elim
theorem zi {m cap:Nat} {lo hi:Bool} {r:List KV} {r' : List Value} {x y:Int} (h:Lv m lo hi r=some (x,y)) (hr:aK P E r r') (h0:0<=x) (h1:x<=y) (h2:y<=(m:Int)) (hc:m<=cap) :
  pV m cap lo hi false r' = some (x.toNat,y.toNat,cap):=by
 obtain ⟨x',rfl⟩:=Int.eq_ofNat_of_zero_le h0;obtain ⟨y',rfl⟩:=Int.eq_ofNat_of_zero_le (Int.le_trans h0 h1);have hb:∀ (k:IntKind) (i n:Nat),i<=n->SZ n (.int k (i:Int))=some i:=by
  intro k i n h;show ir (.ofNat i) (Nat.succ n)=some i;exact mQ (by omega)
 match r,h with
 | [],h=>
  rw [hr.bA];cases lo <;> cases hi <;> simp [Lv] at h;obtain ⟨h3,h4⟩:=h;simp [pV];omega
 | [.int k a],h=>
  obtain ⟨u,rfl,h3⟩:=hr.dD;have:=h3.bQ; subst this;cases lo <;> cases hi <;> simp [Lv] at h
  ·obtain ⟨h4,rfl⟩:=h
   simp only [pV];rw [hb k y' cap (by omega)];simp;omega
  ·obtain ⟨rfl,h4⟩:=h
   simp only [pV];rw [hb k x' m (by omega)];simp;omega
 | [.int k a,.int k' c],h=>
  obtain ⟨u,v,rfl,h3,h4⟩:=hr.iZ;have:=h3.bQ; subst this;have:=h4.bQ; subst this;cases lo <;> cases hi <;> simp [Lv] at h;obtain ⟨rfl,rfl⟩:=h;simp only [pV];rw [hb k' y' cap (by omega)];simp only [cD];rw [hb k x' y' (by omega)];simp
theorem Lx {l:Lay} : ∀ {es:List KV} (n:Nat),dp l es=true->dp l (es.drop n)=true
 | es,0,h=>by simpa using h
 | [],n+1,_=>rfl
 | e::es,n+1,h=>by
  simp only [dp,aj] at h;simpa using Lx n h.2
theorem Ly {l:Lay} : ∀ {es:List KV} (n:Nat),dp l es=true->dp l (es.take n)=true
 | es,0,h=>rfl
 | [],n+1,_=>rfl
 | e::es,n+1,h=>by
  simp only [dp,aj] at h;simp [dp,h.1,Ly n h.2]
theorem Hd {l:Lay} : ∀ {es fs:List KV},dp l es=true->dp l fs=true->dp l (es++fs)=true
 | [],fs,_,h=>h
 | e::es,fs,h,k=>by
  simp only [dp,aj] at h;simp [dp,h.1,Hd h.2 k]
theorem mK.part {sz off x k:Nat} {cs es:List Value} (h:mK sz off cs es):mK sz (off+x * sz) cs ((es.drop x).take k):=by
 intro i v hv;rw [kS] at hv;split at hv
 ·rw [lF] at hv
  obtain ⟨h1,h2⟩:=h (x+i) v hv;refine ⟨h1,fun j y hj=>?_⟩;rw [<- h2 j y hj];congr 1;rw [Nat.add_mul];omega
 ·simp at hv
theorem Q4 {es:List KV} {i:Nat} (h:i < es.length):es[i]? = some (es.getD i .bz):=by simp [List.getD,h]
theorem abH {n:Nat} {lo hi:Bool} (_:1<=n):abD P (QQ P n lo hi) (o8 n lo hi false):=by
 intro E A B vs us v h hv hg;unfold QQ at hg;split at hg
 ·rename_i T mk m es acc r
  split at hg
  ·rename_i x y hb
   obtain ⟨cT,hg⟩:=hg.cond;have cT:=aD cT;obtain ⟨hc,rfl⟩:=aA.iH hg;simp only [aj,jP] at hc;obtain ⟨⟨h0,h1⟩,h2⟩:=hc;obtain ⟨u,r',rfl,h3,h4⟩:=hv.cons_inv;obtain ⟨ht,aP,h5,a,cap,rfl,h6,h7,_⟩:=h3.jz;have DG:=zi hb h4 h0 h1 h2 h6;have hlen:=ht.len;have hle:((es.drop x.toNat).take (y.toNat - x.toNat)).length=y.toNat - x.toNat:=by simp; omega
   have hT:fP P T (y.toNat - x.toNat) ((es.drop x.toNat).take (y.toNat - x.toNat)) (fun i=>acc (x.toNat+i)):=by
    refine ⟨hle.symm,fun i hi=>?_,Ly _ (Lx _ ht.typed)⟩;rw [ht.acc _ (by omega)];simp only [List.getD];rw [kS,ax hi,lF]
   rcases h7 with ⟨rfl,hm⟩ | ⟨b,off,rr,rfl,h8,h9,qg⟩
   ·refine ⟨.slice none (y.toNat - x.toNat) (cap - x.toNat),by simp [o8,DG],?_⟩
    simp only [VK];exact ⟨hT,_,(h5.drop _).take _,none,_,rfl,by omega,.inl ⟨rfl,by omega⟩,trivial⟩
   ·have dC:=h.z b rr h8
    have Ol:rr.aQ=n:=by rw [h9]; exact cT
    refine ⟨.slice (some ⟨b,off+x.toNat * n,none⟩) (y.toNat - x.toNat) (cap - x.toNat),?_,?_⟩
    ·simp [o8,DG,bI,sH,dC,Ol]
    ·simp only [VK]
     refine ⟨hT,_,(h5.drop _).take _,_,_,rfl,by omega,.inr ⟨b,off+x.toNat * n,rr,rfl,h8,h9,?_⟩,trivial⟩;have:aI P T=n:=cT;rw [this] at qg ⊢;exact qg.part
  ·exact hg.elim
 ·rename_i b o len cap r
  split at hg
  ·rename_i cs aQ dC
   split at hg
   ·rename_i x y hb
    obtain ⟨cT,hg⟩:=hg.cond;have cT:=aD cT;obtain ⟨hc,rfl⟩:=aA.iH hg;simp only [aj,jP] at hc;obtain ⟨⟨⟨h0,h1⟩,h2⟩,h6⟩:=hc;obtain ⟨u,r',rfl,h3,h4⟩:=hv.cons_inv;obtain ⟨z,hz,rfl⟩:=h3.Kh;have DG:=zi hb h4 h0 h1 h2 h6;obtain ⟨z',bX,e1,e2,_⟩:=h.row b cs aQ dC;rw [hz] at e1;simp at e1;subst e1;refine ⟨.slice (some ⟨z,o+x.toNat * n,none⟩) (y.toNat - x.toNat) (cap - x.toNat),?_,.afC hz⟩;simp [o8,DG,bI,sH,e2,cT]
   ·exact hg.elim
  ·exact hg.elim
 ·rename_i T b o m r
  split at hg
  ·rename_i T' mk N es acc hA
   split at hg
   ·rename_i x y hb
    obtain ⟨cT,hg⟩:=hg.cond;obtain ⟨hc,rfl⟩:=aA.iH hg;simp only [aj] at cT;have hT:=aD cT.2;have alE:aI P T=n:=aD cT.1;subst hT;simp only [aj,jP] at hc;obtain ⟨⟨h0,h1⟩,h2⟩:=hc;obtain ⟨u,r',rfl,h3,h4⟩:=hv.cons_inv;rcases h3.rI with ⟨rfl,rfl,rfl⟩ | ⟨z,L,N',c,e1,rfl,e2,e3,e4⟩
    ·have DG:=zi hb h4 h0 h1 h2 (ao _)
     have WU:x.toNat=0:=by omega
     have hy0:y.toNat=0:=by omega
     refine ⟨.slice none (y.toNat - x.toNat) (0 - x.toNat),by simp [o8,DG],.IE (.inl ⟨by omega,by omega,by rw [WU,hy0]⟩)⟩
    ·have DG:=zi hb h4 h0 h1 h2 e2
     obtain ⟨T2,N2,mu,fa,vN,_,_,cs,e,own,aZ,aP,_,h5,_,_,_,h7⟩:=h.DN hA e1;simp only [KV.ts.injEq] at vN;obtain ⟨rfl,_⟩:=vN;refine ⟨.slice (some ⟨z,o * aI P T+x.toNat * n,none⟩) (y.toNat - x.toNat) (c - x.toNat),?_,.IE (.inr ⟨z,L,N',c - x.toNat,e1,?_,by omega,by omega,?_⟩)⟩
     ·simp [o8,DG,bI,sH,h5,h7,alE]
     ·simp only [Value.slice.injEq,aR,Addr.mk.injEq,and_true,true_and]
      rw [alE,Nat.add_mul]
     ·rw [<- e4]
      congr 1;omega
   ·exact hg.elim
  ·exact hg.elim
 ·exact hg.elim
theorem ZK {len n:Nat} {lo hi:Bool} : abD P (MF len n lo hi) (FF len n lo hi false):=by
 intro E A B vs us v h hv hg;unfold MF at hg;split at hg
 ·rename_i b o r
  split at hg
  ·rename_i cs aQ dC
   split at hg
   ·rename_i x y hb
    obtain ⟨cT,hg⟩:=hg.cond;simp only [aj] at cT;have rK:=aD cT.1;have hsz2:=cM cT.2;obtain ⟨hc,rfl⟩:=aA.iH hg;simp only [aj,jP] at hc;obtain ⟨⟨h0,h1⟩,h2⟩:=hc;obtain ⟨u,r',rfl,h3,h4⟩:=hv.cons_inv;obtain ⟨z,hz,rfl⟩:=h3.fX;have DG:=zi hb h4 h0 h1 h2 (ao _);obtain ⟨z',bX,e1,e2,e3⟩:=h.row b cs aQ dC;rw [hz] at e1;simp at e1;subst e1;have hlen:=e3.length;refine ⟨.slice (some ⟨z,o+x.toNat * n,none⟩) (y.toNat - x.toNat) (len - x.toNat),?_,.afC hz⟩;have qf:Nat.ble (o+len * n) bX.length=true:=Nat.ble_eq_true_of_le (by omega);simp [FF,DG,bI,sH,rowLen,e2,rK,qf]
    try omega
   ·exact hg.elim
  ·exact hg.elim
 ·exact hg.elim
theorem ZL {lo hi:Bool} : r8 P (MG lo hi) (Bp lo hi):=by
 intro E vs us v hv hg;unfold MG at hg;split at hg
 ·rename_i s r
  split at hg
  ·rename_i x y hb
   obtain ⟨hc,rfl⟩:=aA.iH hg;simp only [aj,jP] at hc;obtain ⟨⟨h0,h1⟩,h2⟩:=hc;obtain ⟨u,r',rfl,h3,h4⟩:=hv.cons_inv;have:=h3.pj; subst this;have DG:=zi hb h4 h0 h1 h2 (ao _);exact ⟨_,by simp [Bp,DG],.mkStr⟩
  ·exact hg.elim
 ·exact hg.elim
theorem ZM:abD P (fun _=>F6) Bs:=by
 intro E A B vs us v h hv hg;have hg:aA (F6 vs) v:=hg;unfold F6 at hg;split at hg
 ·obtain ⟨u,rfl,h1⟩:=hv.dD
  have:=h1.mw; subst this;have hg:KV.str ⟨⟨[]⟩⟩=v:=hg;subst hg;exact ⟨_,rfl,.mkStr⟩
 ·rename_i T mk m es acc _
  obtain ⟨u,rfl,h1⟩:=hv.dD;obtain ⟨hc,rfl⟩:=aA.iH hg;obtain ⟨ht,aP,h5,a,cap,rfl,h6,h7,_⟩:=h1.jz;have hlen:=ht.len;rcases h7 with ⟨rfl,hm⟩ | ⟨b,off,rr,rfl,h8,h9,qg⟩
  ·have:es = []:=lE.1 (by omega)
   subst this;exact ⟨_,rfl,.mkStr⟩
  ·have dC:=h.z b rr h8
   have tX:∀ (i:Nat) (w:Value),aP[i]? = some w->∃ e,es[i]? = some e/\w = .int .u8 (byteOf e).toNat/\w.cells.size=1:=by
    intro i w hw;have hi:i < es.length:=by rw [<- h5.length]; exact (cw.1 hw).1
    obtain ⟨w',e1,e2⟩:=h5.get (Q4 hi);rw [hw] at e1;simp at e1;subst e1;have mr:=dU.1 hc _ (eS (Q4 hi));refine ⟨_,Q4 hi,?_⟩
    revert e2 mr
    generalize es.getD i .bz=e;intro e2 mr;cases e <;> simp [afu] at mr;rename_i k q;cases k <;> simp at mr;have:=e2.bQ; subst this;refine ⟨?_,rfl⟩;simp only [byteOf,Value.int.injEq,true_and];obtain ⟨p,rfl⟩:=Int.eq_ofNat_of_zero_le mr.1;have hp:p < 256:=by omega
    simp [UInt8.toNat_ofNat',Nat.mod_eq_of_lt hp]
   have anG:aP=es.map fun e=>.int .u8 (byteOf e).toNat:=by
    apply List.ext_getElem?;intro i;cases hw:aP[i]? with
    | none=>
     have:es.length<=i:=by rw [<- h5.length]; exact NS.1 hw
     simp [this]
    | some w=>
     obtain ⟨e,e1,e2,_⟩:=tX i w hw;simp [e1,e2]
   have rK:∀ i w,aP[i]? = some w->aI P T=1:=fun i w hw=>by
    obtain ⟨_,_,_,Vc⟩:=tX i w hw;rw [<- (qg i w hw).1]; exact Vc
   have zH:B.nP ⟨b,off,none⟩ m=some aP:=by
    simp only [St.nP,bI,Option.isNone_none,ah,qZ,dC,cD];have iJ:aP.length=m:=by rw [h5.length]; exact hlen.symm
    have la:∀ i,i < m->rr.cs[off+i]? = aP[i]?:=by
     intro i hi;have KK:i < aP.length:=by omega
     have hw:aP[i]? = some aP[i]:=cl KK;have h1':=rK i _ hw;obtain ⟨h12,h13⟩:=qg i _ hw;obtain ⟨e,e1,e2,_⟩:=tX i _ hw;have:=h13 0 aP[i] (by rw [e2]; rfl);rw [h1'] at this;rw [hw,<- this];congr 1;omega
    have hle:m<=(rr.cs.drop off).length:=by
     cases hm0:m with
     | zero=>omega
     | succ q=>
      have:=la q (by omega);have hq:q < aP.length:=by omega
      rw [cl hq] at this;have:=(cw.1 this).1;simp;omega
    rw [nV,EW hle];congr 1;apply List.ext_getElem?;intro i;rw [kS];split
    ·rename_i hi
     rw [lF];exact la i hi
    ·rename_i hi
     exact (NS.2 (by omega)).symm
   have FY:∀ (l:List KV),CP (l.map fun e=>.int .u8 (byteOf e).toNat)=some (l.map byteOf):=by
    intro l
    induction l with
    | nil=>rfl
    | cons e l ih=>
     have hb:=(byteOf e).toNat_lt;show cond (Nat.blt (byteOf e).toNat 256) ((CP (l.map fun e=>.int .u8 (byteOf e).toNat)).map (UInt8.ofNat (byteOf e).toNat::·)) none=_;have:Nat.blt (byteOf e).toNat 256=true:=by rw [b7]; omega
     rw [this,ah,ih];simp
   refine ⟨.string ⟨⟨es.map byteOf⟩⟩,?_,.mkStr⟩;simp only [Bs,zH,cD];rw [anG,FY];rfl
 ·exact hg.elim
theorem Vd {b lo hi:Nat} : ∀ {L:List Nat} {B:St},(∀ x∈L,nm (B.get x) lo hi=false)->B.kill b lo hi L=B
 | [],B,_=>rfl
 | x::L,B,h=>by
  simp only [St.kill];rw [h x (by simp),Bool.and_false,ay];exact Vd fun y hy=>h y (by simp [hy])
theorem cF.afF {A:ai} {B:St} (sz:Nat) (h:du P E A B):cF P E A B E (A.new (.aF 0 sz)) B:=by
 have hn:E.φ A.next=none:=by
  cases CI:E.φ A.next with
  | none=>rfl
  | some g=>have:=h.ll _ g CI; omega
 have hA:∀ (b:Nat) (v:KV),(A.new (.aF 0 sz)).get b=some (.arr v)->A.get b=some (.arr v):=fun b v hb=>by
  rw [ai.cV] at hb;split at hb
  ·simp at hb
  ·exact hb
 have O0:∀ (b:Nat) (v:KV),(A.new (.aF 0 sz)).get b=some (.iG v)->A.get b=some (.iG v):=fun b v hb=>by
  rw [ai.cV] at hb;split at hb
  ·simp at hb
  ·exact hb
 refine ⟨⟨?_,?_,h.z,h.apart,h.inj,h.iA.new (.inr hn),fun b x e=>?_,fun b g e=>?_,?_,h.eB,h.lT,h.iQ,h.fresh,h.mem,h.ar.dj (Env.le_refl _) (fun _=>rfl) hA O0 (by simp) (ao _) (fun _ _=>rfl) (fun _ _ e=>.inl e) (fun _ _ e=>.inl e) (fun b g e=>.inl ⟨b,e⟩) (fun _ _=>rfl) h.mem⟩,Env.le_refl _,by simp,fun _ _ _ _=>rfl,fun _ _ e=>.inl e,fun _ _ e=>.inl e,fun _ _ e=>.inl e,fun _ _ _ _=>rfl,fun _ q=>.inl (q.of (fun _=>rfl) hA),fun _ q=>.inl (q.of (fun _=>rfl) hA fun _ _=>rfl),fun _ _ q=>.inl q,fun _ q=>.inl (q.of (fun _=>rfl) hA (fun _ _=>rfl) fun _ _=>rfl),ln fun _ _=>rfl⟩
 ·intro b cs aQ hb
  rw [ai.cV] at hb;split at hb
  ·simp at hb
  ·exact h.row b cs aQ hb
 ·intro b top DT hb
  rw [ai.cV] at hb;split at hb
  ·rename_i e
   simp at hb;refine .inl ⟨hb.1.symm,?_⟩;cases CI:E.φ b with
   | none=>rfl
   | some g=>have:=h.ll b g CI; omega
  ·exact h.aF b top DT hb
 ·have:=h.fT b x e; rw [ai.cv]; omega
 ·have:=h.ll b g e; rw [ai.cv]; omega
 ·intro b o hb
  rw [ai.cV] at hb;rw [ai.cv];split at hb
  ·omega
  ·have:=h.live b o hb; omega
theorem cF.grow {A:ai} {B:St} {f g top Lz sz:Nat} {c:List Value} (h:du P E A B) (hA:A.get f=some (.aF top sz)) (hf:(E.φ f=none/\g=B.next)\/E.φ f=some g) (hc:c.length=Lz * sz) (ht:top<=Lz) (Aj:0 < Lz) :
  cF P E A B ((E.dW B.next ⟨c,sz,true,some (g,0)⟩).pn f g) (A.put f (.aF Lz sz)) (B.grow g 0 c sz):=by
 have fv:∀ x,(B.grow g 0 c sz).get x=if x=B.next then some (.row c sz true (some (g,0))) else B.get x:=fun x=>by simp [St.grow]
 have kx:∀ q,(B.grow g 0 c sz).members q=if q=g then B.next::B.members g else B.members q:=fun q=>by simp [St.grow,St.yG]
 have fU:(B.grow g 0 c sz).next=B.next+1:=rfl;have hlef:=h.live f _ hA;have hle:E.le ((E.dW B.next ⟨c,sz,true,some (g,0)⟩).pn f g):=by
  refine ⟨fun _ _ e=>e,fun _ _ e=>e,fun b r e=>?_,fun b q e=>?_⟩
  ·have:=h.lT b r e
   simp only [Env.pn,Env.dW]; rw [ae (by omega)]; exact e
  ·simp only [Env.pn,Env.dW]
   split
   ·rename_i e2
    subst e2;rcases hf with ⟨h1,_⟩ | h1
    ·rw [h1] at e; simp at e
    ·rw [h1] at e; exact e
   ·exact e
 have hg:g<=B.next:=by
  rcases hf with ⟨_,h1⟩ | h1
  ·omega
  ·have:=h.iQ f g h1; omega
 generalize hB' : B.grow g 0 c sz=B' at fv kx fU;have O2:∀ (b:Nat) (v:KV),(A.put f (.aF Lz sz)).get b=some (.arr v)->A.get b=some (.arr v):=fun b v hb=>by
  rw [ai.bZ] at hb;split at hb
  ·simp at hb
  ·exact hb
 have O0:∀ (b:Nat) (v:KV),(A.put f (.aF Lz sz)).get b=some (.iG v)->A.get b=some (.iG v):=fun b v hb=>by
  rw [ai.bZ] at hb;split at hb
  ·simp at hb
  ·exact hb
 have DS:∀ x,x < B.next->B'.get x=B.get x:=fun x hx=>by rw [fv,ae (by omega)]
 have IM:∀ b r,((E.dW B.next ⟨c,sz,true,some (g,0)⟩).pn f g).z b=some r->E.z b=some r\/B.next<=b:=fun b r e=>by
  simp only [Env.pn,Env.dW] at e;split at e
  ·exact .inr (by omega)
  ·exact .inl e
 have alF:∀ b q,((E.dW B.next ⟨c,sz,true,some (g,0)⟩).pn f g).φ b=some q->E.φ b=some q\/B.next<=q:=fun b q e=>by
  simp only [Env.pn,Env.dW] at e;split at e
  ·rename_i e2
   simp at e;subst e e2;rcases hf with ⟨_,h1⟩ | h1
   ·exact .inr (by omega)
   ·exact .inl h1
  ·exact .inl e
 have KN:∀ q,AF A E B q->B'.members q=B.members q:=fun q hq=>by
  rw [kx,ae];intro e2;subst e2;obtain ⟨b,v,x,L,N,cs,e,own,k,h1,h2,h3⟩:=hq;obtain ⟨h4,h5,_⟩:=h.ar.p0 b v x L N cs e own q k h1 h2 h3;rcases hf with ⟨_,h1⟩ | h1
  ·omega
  ·exact h5 f h1
 have adZ:∀ q y,y∈B'.members q->y∈B.members q\/B.next<=y:=fun q y hy=>by
  rw [kx] at hy;split at hy
  ·rename_i e2
   subst e2;rcases bd.1 hy with hy | hy
   ·exact .inr (by omega)
   ·exact .inl hy
  ·exact .inl hy
 refine ⟨⟨?_,?_,?_,?_,?_,?_,?_,?_,?_,?_,?_,?_,?_,?_,h.ar.dj hle (fun _=>rfl) O2 O0 (ao _) (by omega) (fun x q=>DS x (h.C7 q)) IM (fun _ _ e=>.inl e) (fun b q e=>(alF b q e).imp (fun e=>⟨b,e⟩) id) KN h.mem⟩,hle,ao _,?_,fun b x e=>.inl e,fun b r e=>(IM b r e).imp id .inr,alF,fun q hq hn _=>by
  rw [kx,ae];intro e2;subst e2;rcases hf with ⟨_,h1⟩ | h1
  ·omega
  ·exact hn f h1,fun _ q=>.inl (q.of (fun _=>rfl) O2),fun _ q=>.inl (q.of (fun _=>rfl) O2 fun x q=>DS x (h.C7 q)),adZ,fun _ q=>.inl (q.of (fun _=>rfl) O2 (fun x q=>DS x (h.C7 q)) KN),ln DS⟩
 ·intro b cs aQ hb
  rw [ai.bZ] at hb;split at hb
  ·simp at hb
  ·obtain ⟨x,c2,h1,h2,h3⟩:=h.row b cs aQ hb
   have:=h.eB b x h1;exact ⟨x,c2,h1,by rw [fv,ae (by omega)]; exact h2,h3.mono hle⟩
 ·intro b t DT hb
  rw [ai.bZ] at hb;split at hb
  ·rename_i e
   simp at hb;obtain ⟨rfl,rfl⟩:=hb;subst e;refine .inr ⟨g,by simp [Env.pn],Aj,fun x hx cs e own q k hr=>?_⟩;rw [fv] at hr;rw [kx,ax rfl] at hx;split at hr
   ·simp at hr
    obtain ⟨rfl,rfl,_,_,rfl⟩:=hr;exact ⟨rfl,Nat.le_of_eq hc⟩
   ·rename_i bx
    rcases bd.1 hx with hx | hx
    ·exact absurd hx bx
    ·rcases hf with ⟨_,h1⟩ | h1
     ·rw [h1,h.fresh _ (ao _)] at hx; simp at hx
     ·rcases h.aF b top sz hA with ⟨_,h2⟩ | ⟨g2,h2,_,h3⟩
      ·rw [h1] at h2; simp at h2
      ·rw [h1] at h2
       simp at h2;subst h2;obtain ⟨h4,h5⟩:=h3 x hx cs e own q k hr;exact ⟨h4,dA h5 (Nat.mul_le_mul_right _ ht)⟩
  ·rename_i HI
   rcases h.aF b t DT hb with ⟨h1,h2⟩ | ⟨g2,h2,hp2,h3⟩
   ·exact .inl ⟨h1,by simp only [Env.pn,Env.dW]; rw [ae HI]; exact h2⟩
   ·have bx:g2≠g:=by
     intro e;subst e;rcases hf with ⟨_,h1⟩ | h1
     ·have:=h.iQ b g2 h2; omega
     ·exact HI (h.iA b f g2 _ _ _ _ hb hA h2 h1)
    refine .inr ⟨g2,by simp only [Env.pn,Env.dW]; rw [ae HI]; exact h2,hp2,fun x hx cs e own q k hr=>?_⟩;rw [kx,ae bx] at hx;have:=h.mem g2 x hx;rw [fv,ae (by omega)] at hr;exact h3 x hx cs e own q k hr
 ·intro b r hb
  simp only [Env.pn,Env.dW] at hb;rw [fv];split at hb
  ·rename_i e; simp at hb; subst hb; rw [ax e]
  ·rename_i e; rw [ae e]; exact h.z b r hb
 ·intro b x hb
  have hb:E.κ b=some x:=hb;have:=h.eB b x hb;simp only [Env.pn,Env.dW];rw [ae (by omega)];exact h.apart b x hb
 ·exact h.inj
 ·intro b d q tb sb td sd lb ld hb hd
  simp only [Env.pn,Env.dW] at hb hd;rw [ai.bZ] at lb ld;have key:∀ d t s,d≠f->A.get d=some (.aF t s)->E.φ d≠some g:=by
   intro d t s hd hl e;rcases hf with ⟨_,h1⟩ | h1
   ·have:=h.iQ d g e; omega
   ·exact hd (h.iA d f g _ _ _ _ hl hA e h1)
  by_cases e1:b=f <;> by_cases e2:d=f
  ·omega
  ·rw [ax e1] at hb; rw [ae e2] at hd ld; simp at hb; subst hb; exact absurd hd (key d _ _ e2 ld)
  ·rw [ax e2] at hd; rw [ae e1] at hb lb; simp at hd; subst hd; exact absurd hb (key b _ _ e1 lb)
  ·rw [ae e1] at hb lb; rw [ae e2] at hd ld; exact h.iA b d q _ _ _ _ lb ld hb hd
 ·exact h.fT
 ·intro b q hb
  simp only [Env.pn,Env.dW] at hb;rw [ai.o9];split at hb
  ·omega
  ·exact h.ll b q hb
 ·intro b o hb
  rw [ai.bZ] at hb;rw [ai.o9];split at hb
  ·omega
  ·exact h.live b o hb
 ·intro b x hb; have:=h.eB b x hb; omega
 ·intro b r hb
  simp only [Env.pn,Env.dW] at hb;rw [fU];split at hb
  ·omega
  ·have:=h.lT b r hb; omega
 ·intro b q hb
  simp only [Env.pn,Env.dW] at hb;rw [fU];split at hb
  ·simp at hb; omega
  ·have:=h.iQ b q hb; omega
 ·intro q hq
  rw [fU] at hq;rw [kx,ae (by omega)];exact h.fresh q (by omega)
 ·intro q x hx
  rw [fU];rw [kx] at hx;split at hx
  ·rcases bd.1 hx with hx | hx
   ·omega
   ·have:=h.mem g x hx; omega
  ·have:=h.mem q x hx; omega
 ·intro x hx _ _; rw [fv,ae (by omega)]
end Go.K
end
section
namespace Go.K
open Go Go.az
variable {P:Program} {E:Env}
def mkE (agg:Bool) (m:List Value):Value:=cond agg (.agg ⟨m⟩) (m.headD .nilIface)
theorem Ve {agg:Bool} {m:List Value} (hs:∀ v∈m,scalar v=true) (h:agg=true\/m.length=1):(mkE agg m).cells.toList=m:=by
 cases agg with
 | true=>rfl
 | false=>
  rcases h with h | h
  ·simp at h
  ·match m,h with
   | [v],_=>
    have:=hs v (by simp);show v.cells.toList = [v];cases v <;> first | rfl | simp [scalar] at this
theorem Q5 {l:Lay} {ks:List KV} (h:au l.ks ks=true) (ha:l.agg=true\/l.ks.length=1):ca l (HH l.agg ks)=true:=by
 obtain ⟨agg,cs⟩:=l;cases agg with
 | true=>simpa [HH,ca] using h
 | false=>
  simp at ha
  match cs,ha,ks,h with
  | [c],_,[v],h=>
   have hk:kindOk c v=true:=by simpa [au] using h
   show ca ⟨false,[c]⟩ v=true;cases v with
   | agg cs=>cases c <;> simp [kindOk] at hk
   | ng cs=>cases c <;> simp [kindOk] at hk
   | _=>simpa [ca] using h
  | [c],_,[],h=>simp [au] at h
  | [c],_,_::_::_,h=>simp [au] at h
theorem Vf {E:Env} {ks:List KV} {m:List Value} {agg:Bool} (h:aK P E ks m) (ha:agg=true\/m.length=1):VK P E (HH agg ks) (mkE agg m):=by
 cases agg with
 | true=>exact .ns h
 | false=>
  rcases ha with ha | ha
  ·simp at ha
  ·match m,ha,ks,h with
   | [v],_,ks,h=>
    have hl:=h.length
    match ks,hl,h with
    | [k],_,h=>
     obtain ⟨y,ys,e,h1,_⟩:=h.cons_inv;simp at e;rw [e.1];exact h1
theorem Gj {α:Type} : ∀ {n:Nat} {l vs r:List α},jx n l vs=some r->
  r.length=l.length/\(vs≠[]->n+vs.length<=l.length)/\∀ (i:Nat),r[i]? = if n<=i/\i < n+vs.length then vs[i - n]? else l[i]?
 | 0,l,[],r,h=>by simp [jx] at h; subst h; simp
 | 0,[],_::_,r,h=>by simp [jx] at h
 | 0,x::l,v::vs,r,h=>by
  simp only [jx,aU] at h;obtain ⟨q,hq,rfl⟩:=h;obtain ⟨h1,h2,h3⟩:=Gj hq;refine ⟨by simp [h1],?_,fun i=>?_⟩
  ·intro _
   cases vs with
   | nil=>simp
   | cons u us=>have:=h2 (by simp); simp at this ⊢; omega
  ·cases i with
   | zero=>simp
   | succ i=>simp [h3 i]
 | n+1,[],[],r,h=>by simp [jx] at h; subst h; simp
 | n+1,[],_::_,r,h=>by simp [jx] at h
 | n+1,x::l,vs,r,h=>by
  simp only [jx,aU] at h;obtain ⟨q,hq,rfl⟩:=h;obtain ⟨h1,h2,h3⟩:=Gj hq;refine ⟨by simp [h1],?_,fun i=>?_⟩
  ·intro bx
   have:=h2 bx;simp at this ⊢;omega
  ·cases i with
   | zero=>simp
   | succ i=>
    simp only [Fy,h3 i];by_cases hc:n<=i/\i < n+vs.length
    ·rw [ax hc,ax (by omega),show i+1 - (n+1)=i - n by omega]
    ·rw [ae hc,ae (by omega)]
theorem MT (v:KV):∀ (es:List KV) (i j:Nat),(setAt es i v).getD j .bz=if j=i/\i < es.length then v else es.getD j .bz
 | [],0,j=>by simp [setAt]
 | [],_+1,j=>by simp [setAt]
 | e::es,0,0=>by simp [setAt]
 | e::es,0,j+1=>by simp [setAt]
 | e::es,i+1,0=>by simp [setAt]
 | e::es,i+1,j+1=>by
  have:=MT v es i j;simp only [setAt,List.getD_cons_succ,lG];rw [this];by_cases h:j=i/\i < es.length
  ·rw [ax h,ax ⟨by omega,by omega⟩]
  ·rw [ae h,ae (by omega)]
theorem wC:∀ (n:Nat) (l vs:List Value),n+vs.length<=l.length->∃ r,eY n l vs=some r
 | 0,l,[],_=>⟨l,rfl⟩
 | 0,[],_::_,h=>by simp at h
 | 0,x::l,v::vs,h=>by
  obtain ⟨r,hr⟩:=wC 0 l vs (by simp at h ⊢; omega);exact ⟨v::r,by rw [uJ,hr]; rfl⟩
 | n+1,[],[],_=>⟨[],rfl⟩
 | n+1,[],_::_,h=>by simp at h
 | n+1,x::l,vs,h=>by
  obtain ⟨r,hr⟩:=wC n l vs (by simp at h ⊢; omega);exact ⟨x::r,by rw [np,hr]; rfl⟩
theorem Si:∀ {ks:List CK} {cs:List KV},cs.length=ks.length->(∀ (i:Nat) c v,ks[i]? = some c->cs[i]? = some v->kindOk c v=true)->au ks cs=true
 | [],[],_,_=>rfl
 | [],_::_,h,_=>by simp at h
 | _::_,[],h,_=>by simp at h
 | c::ks,v::cs,h,k=>by
  simp only [au,aj];exact ⟨k 0 c v rfl rfl,Si (by simpa using h) fun i d u e1 e2=>k (i+1) d u (by simpa using e1) (by simpa using e2)⟩
theorem ad0 {l:Lay} {e:KV} (h:ca l e=true):l.agg=true\/e.cells.length=1:=by
 by_cases ha:∃ cs,e = .agg cs
 ·obtain ⟨cs,rfl⟩:=ha
  simp only [ca,aj] at h;exact .inl h.1
 ·have hc:e.cells = [e]:=by cases e <;> first | rfl | exact absurd ⟨_,rfl⟩ ha
  rw [hc];exact .inr rfl
theorem ahe {T t:TypeId} {k:Nat} {e vn e2:KV} {u w:Value} (hw:TF P T t k) (wA:ca (aH P T) e=true) (hu:VK P E e u) (hvn:ca (aH P t) vn=true) (hvw:VK P E vn w) (h:putCells P T k e vn.cells=some e2) :
  ∃ u2,VK P E e2 u2/\ca (aH P T) e2=true/\u2.cells.size=aI P T/\e2.cells.length=e.cells.length/\(∀ m,u2.cells.toList[m]? = if k<=m/\m < k+w.cells.toList.length then w.cells.toList[m - k]? else u.cells.toList[m]?)/\(w.cells.toList≠[]->k+w.cells.toList.length<=aI P T):=by
 unfold putCells at h;obtain ⟨l1,l2,_⟩:=Gh wA;rw [l1] at h;obtain ⟨iv,h1,rfl⟩:=aU.1 h;obtain ⟨ot,KL⟩:=fp wA;obtain ⟨zD,Mo⟩:=fp hvn;have hcu:=hu.cells KL;have hcw:=hvw.cells Mo;obtain ⟨r,h2,h3⟩:=aK.jx h1 hcu hcw;obtain ⟨s1,s2,s3⟩:=fB h2;obtain ⟨q1,q2,q3⟩:=Gj h1;have zG:e.cells.length=aI P T:=ou ot;have uM:=ad0 wA;have hlr:r.length=e.cells.length:=by rw [s1,hcu.length]
 have nu:au (aH P T).ks iv=true:=by
  refine Si (by rw [q1]; exact zG) fun i c v e1 e3=>?_;rw [q3 i] at e3;split at e3
  ·rename_i hc
   obtain ⟨x,MU,hx2⟩:∃ d,(aH P t).ks[i - k]? = some d/\d=c:=by
    have aJ:i - k < (aH P t).ks.length:=by rw [<- ou zD]; omega
    refine ⟨_,cl aJ,?_⟩;have:=hw.is (i - k) _ (cl aJ);rw [show k+(i - k)=i by omega,e1] at this;simpa using this.symm
   subst hx2;obtain ⟨v',h4,h5⟩:=wz zD MU;rw [e3] at h4;simp at h4; subst h4;exact h5
  ·obtain ⟨v',h4,h5⟩:=wz ot e1
   rw [e3] at h4;simp at h4; subst h4;exact h5
 have alG:ca (aH P T) (HH (aH P T).agg iv)=true:=Q5 nu (by
  rcases uM with h | h
  ·exact .inl h
  ·exact .inr (by rw [<- ou ot]; exact h))
 have yY:∀ v∈r,scalar v=true:=h3.scalar (AO nu);have uq:(mkE (aH P T).agg r).cells.toList=r:=Ve yY (uM.imp id fun h=>by rw [hlr]; exact h);refine ⟨mkE (aH P T).agg r,Vf h3 (uM.imp id fun h=>by rw [hlr]; exact h),alG,?_,?_,fun m=>?_,fun bx=>?_⟩
 ·rw [<- Array.length_toList,uq,hlr]; exact zG
 ·exact (ou (fp alG).1).trans zG.symm
 ·rw [uq]; exact s3 m
 ·have:=s2 bx
  rw [hcu.length] at this;omega
theorem ahf {sz i k:Nat} {cs:List Value} {aP:List Value} {u u2:Value} {wl:List Value} (hl:mK sz 0 cs aP) (hi:aP[i]? = some u) (hsu:u.cells.size=sz) (jG:wl≠[]->k+wl.length<=sz) (hg:∀ m,u2.cells.toList[m]? = if k<=m/\m < k+wl.length then wl[m - k]? else u.cells.toList[m]?) (iw:u2.cells.size=sz) :
  ∃ iv,eY (i * sz+k) cs wl=some iv/\mK sz 0 iv (aP.set i u2)/\iv.length=cs.length:=by
 have hex:∃ iv,eY (i * sz+k) cs wl=some iv:=by
  cases hwl:wl with
  | nil=>exact ⟨cs,H8 _ _⟩
  | cons a l=>
   have hf:=jG (by rw [hwl]; simp);rw [hwl] at hf;obtain ⟨_,hc⟩:=hl i u hi;have aJ:k+l.length < u.cells.size:=by rw [hsu]; simp at hf; omega
   have:=hc (k+l.length) u.cells[k+l.length] (by simp [aJ]);have hb:=(cw.1 this).1;exact wC _ _ _ (by simp; omega)
 obtain ⟨iv,h1⟩:=hex;obtain ⟨s1,s2,s3⟩:=fB h1;refine ⟨iv,h1,fun j x hx=>?_,s1⟩;rw [List.getElem?_set] at hx;split at hx
 ·rename_i e
  subst e;split at hx
  ·simp at hx; subst hx
   refine ⟨iw,fun m y hy=>?_⟩;have hy' : u2.cells.toList[m]? = some y:=by simpa using hy
   have hm:m < sz:=by rw [<- iw]; exact (jg.1 hy).1
   rw [hg m] at hy';rw [bG,s3];split at hy'
   ·rw [ax (by omega),show i * sz+m - (i * sz+k)=m - k by omega]; exact hy'
   ·rw [ae (by omega)]
    have:=(hl i u hi).2 m y (by simpa using hy');rwa [bG] at this
  ·simp at hx
 ·rename_i bx
  obtain ⟨h2,h3⟩:=hl j x hx;refine ⟨h2,fun m y hy=>?_⟩;have hm:m < sz:=by rw [<- h2]; exact (jg.1 hy).1
  rw [s3,ae]
  ·exact h3 m y hy
  ·rintro ⟨ha,hb⟩
   cases hwl:wl with
   | nil=>rw [hwl] at hb; simp at hb; omega
   | cons a l=>
    have hf:=jG (by rw [hwl]; simp);rcases Nat.lt_or_gt_of_ne bx with h | h
    ·have:(i+1) * sz<=j * sz:=Nat.mul_le_mul_right _ h
     rw [Nat.succ_mul] at this;omega
    ·have:(j+1) * sz<=i * sz:=Nat.mul_le_mul_right _ h
     rw [Nat.succ_mul] at this;omega
theorem ad1 {T:TypeId} {N i:Nat} {es:List KV} {acc:Nat->KV} {e:KV} (ht:fP P T N es acc) (hi:i < N) (he:ca (aH P T) e=true):fP P T N (setAt es i e) (uv acc i e) where
 len:=by rw [yM]; exact ht.len
 acc j hj:=by
  rw [MT];unfold uv;cases hb:Nat.beq j i with
  | true=>have:=aD hb; rw [ax ⟨this,by rw [<- ht.len]; exact hi⟩]; rfl
  | false=>rw [ae (fun h=>by rw [h.1,p8] at hb; simp at hb)]; exact ht.acc j hj
 typed:=lV fun j x hx=>by
  have hx' : x=(setAt es i e).getD j .bz:=by rw [eN,hx]; rfl
  rw [MT] at hx';split at hx'
  ·rw [hx']; exact he
  ·rename_i bx
   have aJ:j < es.length:=by rw [<- yM es i e]; exact (cw.1 hx).1
   exact fD ht.typed (i:=j) (by rw [hx',eN,cl aJ]; rfl)
theorem AP {B:St} {x y lo hi:Nat} {aZ:Option (Nat×Nat)} : (B.eF x aZ lo hi).get y=B.get y\/∃ g k,aZ=some (g,k)/\y∈B.members g/\y≠x/\(B.eF x aZ lo hi).get y=some .dead/\∃ cs e own f j,B.get y=some (.row cs e own (some (f,j))):=by
 cases aZ with
 | none=>exact .inl rfl
 | some p=>
  obtain ⟨g,k⟩:=p;simp only [St.eF,xQ];by_cases hc:y∈B.members g/\y≠x/\nm (B.get y) (k+lo) (k+hi)=true
  ·refine .inr ⟨g,k,rfl,hc.1,hc.2.1,by rw [ax hc],?_⟩
   have hs:=hc.2.2;unfold nm at hs;split at hs
   ·rename_i cs e own f j hy; exact ⟨cs,e,own,f,j,hy⟩
   ·simp at hs
  ·exact .inl (by rw [ae hc])
theorem EX {B:St} {x lo hi:Nat} {aZ:Option (Nat×Nat)} : (B.eF x aZ lo hi).members=B.members:=by
 cases aZ with
 | none=>rfl
 | some p=>simp [St.eF]
theorem LB {B:St} {x lo hi:Nat} {aZ:Option (Nat×Nat)} : (B.eF x aZ lo hi).next=B.next:=by
 cases aZ with
 | none=>rfl
 | some p=>simp [St.eF]
theorem cF.afG {A:ai} {B:St} {b x N lo hi:Nat} {T:TypeId} {es:List KV} {acc:Nat->KV} {aP cs mI:List Value} {aZ:Option (Nat×Nat)} (h:du P E A B) (hb:∃ v,A.get b=some (.arr v)) (hx:E.α b=some (x,mI.length,N))
  (dC:B.get x=some (.row mI (aI P T) true aZ)) (hlen:cs.length=mI.length) (cT:1<=aI P T) (ht:fP P T N es acc) (MV:aK P E es aP) (hl:mK (aI P T) 0 cs aP) :
  cF P E A B E (A.put b (.arr (.ts T .any N es acc))) ((B.put x (.row cs (aI P T) true aZ)).eF x aZ lo hi):=by
 obtain ⟨v0,hb⟩:=hb;have po:AR A E x:=⟨b,v0,_,_,hb,hx⟩
 have eR:((B.put x (.row cs (aI P T) true aZ)).eF x aZ lo hi).get x=some (.row cs (aI P T) true aZ):=by
  rcases AP (B:=B.put x (.row cs (aI P T) true aZ)) (x:=x) (y:=x) (lo:=lo) (hi:=hi) (aZ:=aZ) with e | ⟨g,k,_,_,h3,_⟩
  ·rw [e]; simp
  ·exact absurd rfl h3
 have hgy:∀ y,y≠x->((B.put x (.row cs (aI P T) true aZ)).eF x aZ lo hi).get y=B.get y\/(((B.put x (.row cs (aI P T) true aZ)).eF x aZ lo hi).get y=some .dead/\∃ g k,aZ=some (g,k)/\y∈B.members g):=by
  intro y hy;rcases AP (B:=B.put x (.row cs (aI P T) true aZ)) (x:=x) (y:=y) (lo:=lo) (hi:=hi) (aZ:=aZ) with e | ⟨g,k,h1,h2,_,h4,_⟩
  ·exact .inl (by rw [e,St.bZ,ae hy])
  ·exact .inr ⟨h4,g,k,h1,by simpa using h2⟩
 have kx:((B.put x (.row cs (aI P T) true aZ)).eF x aZ lo hi).members=B.members:=by rw [EX]; simp
 have fU:((B.put x (.row cs (aI P T) true aZ)).eF x aZ lo hi).next=B.next:=by rw [LB]; simp
 generalize (B.put x (.row cs (aI P T) true aZ)).eF x aZ lo hi=B' at eR hgy kx fU;have IV:∀ y,y≠x->(E.z y≠none\/AR A E y\/∃ c,E.κ c=some y)->B'.get y=B.get y:=by
  intro y hy hs;rcases hgy y hy with e | ⟨_,g,k,rfl,h2⟩
  ·exact e
  ·obtain ⟨_,_,h3⟩:=h.ar.p0 b v0 x _ _ _ _ _ g k hb hx dC
   obtain ⟨h4,h5,h6⟩:=h3 y h2 hy;rcases hs with hs | hs | ⟨c,hs⟩
   ·exact absurd h4 hs
   ·exact absurd hs h5
   ·exact absurd hs (h6 c)
 have hA:∀ (c:Nat) (v:KV),(A.put b (.arr (.ts T .any N es acc))).get c=some (.arr v)->∃ u,A.get c=some (.arr u):=fun c v hc=>by
  rw [ai.bZ] at hc;split at hc
  ·rename_i e; exact ⟨v0,by rw [e]; exact hb⟩
  ·exact ⟨v,hc⟩
 have IW:∀ y,AR (A.put b (.arr (.ts T .any N es acc))) E y->AR A E y:=fun y q=>by
  obtain ⟨c,v,L,M,h1,h2⟩:=q;obtain ⟨u,h1⟩:=hA c v h1;exact ⟨c,u,L,M,h1,h2⟩
 have Vg:∀ y,AR A E y->∀ ma e own LC,B'.get y=some (.row ma e own LC)->∃ iv,B.get y=some (.row iv e own LC)/\iv.length=ma.length:=fun y q ma e own LC hy=>by
  by_cases zj:y=x
  ·subst zj
   rw [eR] at hy;simp at hy;obtain ⟨rfl,rfl,rfl,rfl⟩:=hy;exact ⟨mI,dC,hlen.symm⟩
  ·rw [IV y zj (.inr (.inl q))] at hy
   exact ⟨ma,hy,rfl⟩
 have abI:∀ g,AF (A.put b (.arr (.ts T .any N es acc))) E B' g->AF A E B g:=fun g q=>by
  obtain ⟨c,v,y,L,M,ma,e,own,k,h1,h2,h3⟩:=q;obtain ⟨u,h1⟩:=hA c v h1;obtain ⟨iv,h3,_⟩:=Vg y ⟨c,u,L,M,h1,h2⟩ _ _ _ _ h3;exact ⟨c,u,y,L,M,iv,e,own,k,h1,h2,h3⟩
 refine ⟨⟨?_,?_,?_,h.apart,h.inj,h.iA.put (.inl fun _ _=>by simp),h.fT,h.ll,?_,fun b x e=>by rw [fU]; exact h.eB b x e,fun b r e=>by rw [fU]; exact h.lT b r e,fun b g e=>by rw [fU]; exact h.iQ b g e,fun g hg=>by rw [fU] at hg; rw [kx]; exact h.fresh g hg,fun g y hy=>by rw [kx] at hy; rw [fU]; exact h.mem g y hy,?_⟩,Env.le_refl _,ao _,?_,fun _ _ e=>.inl e,fun _ _ e=>.inl e,fun _ _ e=>.inl e,fun _ _ _ _=>by rw [kx],fun y q=>.inl (IW y q),fun g q=>.inl (abI g q),fun g y q=>.inl (by rw [kx] at q; exact q),fun y q=>.inl ?_,?_⟩
 ·intro c ma aQ hc
  rw [ai.bZ] at hc;split at hc
  ·simp at hc
  ·obtain ⟨y,c1,h1,h2,h3⟩:=h.row c ma aQ hc
   have hy:y≠x:=fun e=>(h.ar.z x po).2 c (by rw [<- e]; exact h1);exact ⟨y,c1,h1,by rw [IV y hy (.inr (.inr ⟨c,h1⟩))]; exact h2,h3⟩
 ·intro c top DT hc
  rw [ai.bZ] at hc;split at hc
  ·simp at hc
  ·rcases h.aF c top DT hc with h1 | ⟨g,h1,h2,h3⟩
   ·exact .inl h1
   ·refine .inr ⟨g,h1,h2,fun y hy ma e own f k hr=>?_⟩
    rw [kx] at hy;by_cases zj:y=x
    ·subst zj
     rw [eR] at hr;simp at hr;obtain ⟨rfl,_,_,rfl⟩:=hr;obtain ⟨h4,h5⟩:=h3 y hy mI _ _ f k dC;exact ⟨h4,by rw [hlen]; exact h5⟩
    ·rcases hgy y zj with e1 | ⟨e1,_⟩
     ·rw [e1] at hr; exact h3 y hy ma e own f k hr
     ·rw [e1] at hr; simp at hr
 ·intro y r hy
  have zj:y≠x:=fun e=>by have:=(h.ar.z x po).1; rw [<- e,hy] at this; simp at this
  rw [IV y zj (.inl (by rw [hy]; simp))];exact h.z y r hy
 ·intro c o hc
  rw [ai.bZ] at hc;split at hc
  ·rename_i e; rw [e]; exact h.live b _ hb
  ·exact h.live c o hc
 ·refine ⟨?_,?_,fun y q=>h.ar.z y (IW y q),?_,?_,h.ar.Xg,h.ar.fT,fun b x L N e=>by rw [fU]; exact h.ar.eB b x L N e,?_,fun c v hc=>?_⟩
  ·intro c v hc
   rw [ai.bZ] at hc;split at hc
   ·rename_i e
    simp at hc;subst hc e;exact ⟨T,N,es,acc,rfl,ht,cT,.inr ⟨x,cs,aZ,aP,by rw [hlen]; exact hx,eR,MV,hl⟩⟩
   ·rename_i bx
    refine (h.ar.arr c v hc).mono (Env.le_refl _) rfl fun y L M e=>?_;have zj:y≠x:=fun e2=>bx (h.ar.inj c b v v0 x _ _ _ _ hc hb (by rw [<- e2]; exact e) hx);exact IV y zj (.inr (.inl ⟨c,v,L,M,hc,e⟩))
  ·intro c v hc
   rw [ai.bZ] at hc;split at hc
   ·simp at hc
   ·exact h.ar.iG c v hc
  ·intro c d v u y L M L' M' h1 h2 h3 h4
   obtain ⟨v',h1⟩:=hA c v h1;obtain ⟨u',h2⟩:=hA d u h2;exact h.ar.inj c d v' u' y L M L' M' h1 h2 h3 h4
  ·intro c d v u y w L M L' M' ma e own g k iv e' nN k' h1 h2 h3 h4 h5 h6
   obtain ⟨v',h1⟩:=hA c v h1;obtain ⟨u',h2⟩:=hA d u h2;obtain ⟨_,h5,_⟩:=Vg y ⟨c,v',L,M,h1,h3⟩ _ _ _ _ h5;obtain ⟨_,h6,_⟩:=Vg w ⟨d,u',L',M',h2,h4⟩ _ _ _ _ h6;exact h.ar.rD c d v' u' y w L M L' M' _ e own g k _ e' nN k' h1 h2 h3 h4 h5 h6
  ·intro c v y L M ma e own g k h1 h2 h3
   obtain ⟨v',h1⟩:=hA c v h1;obtain ⟨_,h3,_⟩:=Vg y ⟨c,v',L,M,h1,h2⟩ _ _ _ _ h3;obtain ⟨h4,h5,h6⟩:=h.ar.p0 c v' y L M _ e own g k h1 h2 h3;refine ⟨by rw [fU]; exact h4,h5,fun z hz bx=>?_⟩;rw [kx] at hz;obtain ⟨h7,h8,h9⟩:=h6 z hz bx;exact ⟨h7,fun q=>h8 (IW z q),h9⟩
  ·rw [ai.bZ] at hc
   rw [ai.o9];split at hc
   ·rename_i e; rw [e]; exact h.ar.nk b _ hb
   ·exact h.ar.nk c v hc
 ·intro y hy hn ha
  by_cases zj:y=x
  ·subst zj; exact absurd (.inl po) ha
  ·rcases hgy y zj with e | ⟨_,g,k,rfl,h2⟩
   ·exact e
   ·exact absurd (.inr ⟨g,⟨b,v0,x,_,_,mI,_,_,k,hb,hx,dC⟩,h2⟩) ha
 ·rcases q with q | ⟨g,h1,h2⟩
  ·exact .inl (IW y q)
  ·exact .inr ⟨g,abI g h1,by rw [kx] at h2; exact h2⟩
 ·intro y hy ma e own LC hr
  by_cases zj:y=x
  ·exact Vg y (by rw [zj]; exact po) ma e own LC hr
  ·rcases hgy y zj with e1 | ⟨e1,_⟩
   ·exact ⟨ma,by rw [<- e1]; exact hr,rfl⟩
   ·rw [e1] at hr; simp at hr
theorem ahg {t:TypeId} : afE P (OS P t) (FC P t):=by
 intro E A A' B vs us v h hv hg;unfold OS at hg;split at hg
 ·rename_i b off x
  obtain ⟨y,z,rfl,h1,h2⟩:=hv.iZ;obtain ⟨c,hx,rfl⟩:=h1.fX;obtain ⟨hc,hg⟩:=hg.cond;simp only [aj,jP] at hc;obtain ⟨cT,ho⟩:=hc;split at hg
  ·rename_i cs aQ dC
   split at hg
   ·rename_i bX hw
    have hg:(uu,A.put b (.row bX aQ))=(v,A'):=hg;simp only [bH] at hg;obtain ⟨rfl,rfl⟩:=hg;obtain ⟨c',d,e1,e2,e3⟩:=h.row b cs aQ dC;rw [hx] at e1;simp at e1;subst e1;have AD:=h2.cells (yL ho);obtain ⟨r,e4,e5⟩:=aK.jx hw e3 AD;have gU:z.cells.toList.all scalar=true:=dU.2 (AD.scalar ho);have aiZ:some z.cells.size=size? P t:=by rw [<- cT,IG h2 (yL ho)]
    refine ⟨undef,B.put c (.row r aQ true none),E,?_,.undef,cF.putRow h ⟨_,_,dC⟩ hx ⟨d,e2,(fB e4).1.symm⟩ e5⟩;simp [FC,storeAt,aiZ,St.rE,bI,gU,e2,e4,St.eF]
   ·exact hg.elim
  ·exact hg.elim
 ·rename_i T Tc b i k x
  obtain ⟨y,z,rfl,h1,h2⟩:=hv.iZ;split at hg
  ·rename_i T' mk N es acc hA
   obtain ⟨hc,xX⟩:=hg.cond;clear hg;simp only [aj,jP] at hc;obtain ⟨⟨⟨hT,hTc⟩,wA⟩,cT⟩:=hc;have:=aD hT;subst this;have:=aD hTc;subst this;split at xX
   ·rename_i e2 he2
    have hg:(uu,A.put b (.arr (afp T N i es acc e2)))=(v,A'):=xX;simp only [bH] at hg;obtain ⟨rfl,rfl⟩:=hg;obtain ⟨c,L,N',h3,hw,hi,rfl⟩:=h1.C5;obtain ⟨T2,N2,mu,fa,vN,ht,h1s,rp⟩:=h.ar.arr b _ hA;simp only [KV.ts.injEq] at vN;obtain ⟨rfl,rfl,rfl,rfl,rfl⟩:=vN;rcases rp with ⟨_,h4⟩ | ⟨c',cs,aZ,aP,h4,h5,h6,h7⟩
    ·rw [h3] at h4; simp at h4
    rw [h3] at h4;simp only [aR,bH] at h4;obtain ⟨rfl,rfl,rfl⟩:=h4;have aJ:i < es.length:=by rw [<- ht.len]; exact hi
    have hei:es[i]? = some (acc i):=by rw [ht.acc i hi]; simp [List.getD,aJ]
    obtain ⟨u,h8,h9⟩:=h6.get hei;obtain ⟨hsu,la⟩:=h7 i u h8;rw [bG] at la;have hvn:=h2.dv (l:=aH P Tc);obtain ⟨u2,p1,p2,p3,p4,p5,p6⟩:=ahe (T:=T) (t:=Tc) hw (fD ht.typed hei) h9 wA hvn he2;obtain ⟨iv,w1,w2,w3⟩:=ahf h7 h8 hsu p6 p5 p3;have eU:=cF.afG (lo:=i * aI P T+k) (hi:=i * aI P T+k+z.cells.toList.length) h ⟨_,hA⟩ h3 h5 (fB w1).1 h1s (ad1 ht hi p2) (aP:=aP.set i u2) (MR p1 i h6) w2;obtain ⟨ot,KL⟩:=fp wA;have gU:z.cells.toList.all scalar=true:=dU.2 ((hvn.cells KL).scalar (AO ot));have Za:some z.cells.size=size? P Tc:=by
     rw [cT,<- ou ot];exact congrArg some (IG hvn KL)
    refine ⟨undef,_,E,?_,.undef,eU⟩;simp [FC,storeAt,Za,St.rE,bI,gU,h5,w1]
   ·exact xX.elim
  ·exact hg.elim
 ·exact hg.elim
end Go.K
end
section
namespace Go.K
open Go Go.az
variable {P:Program} {E:Env}
def Env.xB (E:Env) (b:Nat) (p:Nat×Nat×Nat):Env:={ E with α:=fun c=>if c=b then some p else E.α c }
theorem Env.ai0 {A:ai} {B:St} {p:Nat×Nat×Nat} (h:du P E A B):E.le (E.xB A.next p):=⟨fun b q e=>by
 have:=h.ar.fT b q e;simp only [Env.xB]; rw [ae (by omega)]; exact e,fun _ _ e=>e,fun _ _ e=>e,fun _ _ e=>e⟩
theorem Env.sR {b:Nat} {p:Nat×Nat×Nat} : (E.xB b p).α b=some p:=by simp [Env.xB]
theorem Env.EY {b c:Nat} {p:Nat×Nat×Nat} (h:c≠b):(E.xB b p).α c=E.α c:=by simp [Env.xB,h]
theorem cF.Gk {A A1:ai} {B B' : St} {X G:Nat->Prop} {y2 N2:Nat} {T:TypeId} {mu:List KV} {fa:Nat->KV} {y8 iv:List Value} {oq:Option (Nat×Nat)} (h:du P E A B)
  (qp:A1.next=A.next) (zM:∀ c o,A1.get c=some o->A.get c=some o\/(o = .dead/\c < A.next))
  (f1:∀ c v,A1.get c=some (.arr v)->∀ y L N,E.α c=some (y,L,N)->¬ X y/\∀ cs e own g k,B.get y=some (.row cs e own (some (g,k)))->¬ G g)
  (f2:∀ y,X y->AR A E y) (f3:∀ g,G g->AF A E B g/\g < B.next/\(∀ f,E.φ f≠some g)/\∀ y∈B.members g,¬ X y->E.z y=none/\¬ AR A E y/\∀ c,E.κ c≠some y)
  (n1:X y2\/B.next<=y2) (n1' : y2 < B'.next) (abJ:B'.get y2=some (.row iv (aI P T) true oq)) (n2:∀ g k,oq=some (g,k)->G g\/(B.next<=g/\g < B'.next))
  (b1:∀ y,y < B.next->¬ X y->B'.get y=B.get y\/(B'.get y=some .dead/\∃ g,G g/\y∈B.members g))
  (b2:∀ y,X y->∀ cs e own aZ,B'.get y=some (.row cs e own aZ)->∃ c,B.get y=some (.row c e own aZ)/\c.length=cs.length)
  (b3:∀ q y,y∈B'.members q->y∈B.members q\/(y=y2/\B.next<=y2/\∃ k,oq=some (q,k))) (b3' : ∀ q,(∀ k,oq≠some (q,k))->B'.members q=B.members q)
  (b4:B.next<=B'.next) (b4' : ∀ g,B'.next<=g->B'.members g = []) (anH:∀ g y,y∈B'.members g->y < B'.next)
  (cT:1<=aI P T) (ht:fP P T N2 mu fa) (MV:aK P E mu y8) (hl:mK (aI P T) 0 iv y8) :
  cF P E A B (E.xB A.next (y2,iv.length,N2)) (A1.new (.arr (.ts T .any N2 mu fa))) B':=by
 have hle:=Env.ai0 (p:=(y2,iv.length,N2)) h;have ai1:E.α A.next=none:=by
  cases hq:E.α A.next with
  | none=>rfl
  | some p=>have:=h.ar.fT _ p hq; omega
 have hXlt:∀ y,X y->y < B.next:=fun y hy=>h.C7 (f2 y hy);have IV:∀ y,y < B.next->¬ X y->(E.z y≠none\/AR A E y\/∃ c,E.κ c=some y)->B'.get y=B.get y:=by
  intro y aJ hy hs;rcases b1 y aJ hy with e | ⟨_,g,hg,h2⟩
  ·exact e
  ·obtain ⟨_,_,_,h3⟩:=f3 g hg
   obtain ⟨h4,h5,h6⟩:=h3 y h2 hy;rcases hs with hs | hs | ⟨c,hs⟩
   ·exact absurd h4 hs
   ·exact absurd hs h5
   ·exact absurd hs (h6 c)
 have hXz:∀ y,X y->E.z y=none/\∀ c,E.κ c≠some y:=fun y hy=>h.ar.z y (f2 y hy);have fY:∀ c o,(A1.new (.arr (.ts T .any N2 mu fa))).get c=some o->(c=A.next/\o = .arr (.ts T .any N2 mu fa))\/(c≠A.next/\A1.get c=some o):=fun c o hc=>by
  rw [ai.cV,qp] at hc;split at hc
  ·rename_i e; simp at hc; exact .inl ⟨e,hc.symm⟩
  ·rename_i e; exact .inr ⟨e,hc⟩
 have hold:∀ c o,A1.get c=some o->o≠.dead->A.get c=some o:=fun c o hc hd=>by
  rcases zM c o hc with e | ⟨e,_⟩
  ·exact e
  ·exact absurd e hd
 have iL:∀ c v,(A1.new (.arr (.ts T .any N2 mu fa))).get c=some (.arr v)->(c=A.next/\v = .ts T .any N2 mu fa/\(E.xB A.next (y2,iv.length,N2)).α c=some (y2,iv.length,N2))\/(c≠A.next/\A1.get c=some (.arr v)/\A.get c=some (.arr v)/\(E.xB A.next (y2,iv.length,N2)).α c=E.α c):=fun c v hc=>by
  rcases fY c _ hc with ⟨e,e2⟩ | ⟨e,e2⟩
  ·simp at e2
   exact .inl ⟨e,e2,by rw [e]; exact Env.sR⟩
  ·exact .inr ⟨e,e2,hold c _ e2 (by simp),Env.EY e⟩
 have AQ:∀ c v y L N,A1.get c=some (.arr v)->E.α c=some (y,L,N)->AR A E y/\¬ X y/\y < B.next/\B'.get y=B.get y:=fun c v y L N h1 h2=>by
  have h3:AR A E y:=⟨c,v,L,N,hold c _ h1 (by simp),h2⟩
  obtain ⟨h4,_⟩:=f1 c v h1 y L N h2;have h5:=h.C7 h3;exact ⟨h3,h4,h5,IV y h5 h4 (.inr (.inl h3))⟩
 have IW:∀ y,AR (A1.new (.arr (.ts T .any N2 mu fa))) (E.xB A.next (y2,iv.length,N2)) y->y=y2\/(AR A E y/\¬ X y):=fun y q=>by
  obtain ⟨c,v,L,M,h1,h2⟩:=q;rcases iL c v h1 with ⟨_,_,e⟩ | ⟨_,e1,e2,e⟩
  ·rw [e] at h2; simp at h2; exact .inl h2.1.symm
  ·rw [e] at h2
   obtain ⟨h3,h4,_⟩:=AQ c v y L M e1 h2;exact .inr ⟨h3,h4⟩
 have ai2:∀ y,y=y2->AR A E y\/B.next<=y:=fun y e=>by
  subst e;exact n1.imp (f2 y) id
 have abI:∀ g,AF (A1.new (.arr (.ts T .any N2 mu fa))) (E.xB A.next (y2,iv.length,N2)) B' g->(∃ k,oq=some (g,k))\/(AF A E B g/\¬ G g/\g < B.next):=fun g q=>by
  obtain ⟨c,v,y,L,M,ma,e,own,k,h1,h2,h3⟩:=q;rcases iL c v h1 with ⟨_,_,e⟩ | ⟨_,e1,e2,e⟩
  ·rw [e] at h2
   simp at h2;rw [<- h2.1,abJ] at h3;simp at h3;exact .inl ⟨k,h3.2.2.2⟩
  ·rw [e] at h2
   obtain ⟨_,_,_,h4⟩:=AQ c v y L M e1 h2;rw [h4] at h3;refine .inr ⟨⟨c,v,y,L,M,ma,_,own,k,e2,h2,h3⟩,(f1 c v e1 y L M h2).2 _ _ _ _ _ h3,(h.ar.p0 c v y L M _ _ _ g k e2 h2 h3).1⟩
 have alH:∀ g,(∃ k,oq=some (g,k))->AF A E B g\/B.next<=g:=fun g ⟨k,e⟩=>by
  rcases n2 g k e with hg | ⟨hg,_⟩
  ·exact .inl (f3 g hg).1
  ·exact .inr hg
 refine ⟨⟨?_,?_,?_,h.apart,h.inj,?_,fun b x e=>by rw [ai.cv,qp]; have:=h.fT b x e; omega,fun b g e=>by rw [ai.cv,qp]; have:=h.ll b g e; omega,?_,fun b x e=>by have:=h.eB b x e; omega,fun b r e=>by have:=h.lT b r e; omega,fun b g e=>by have:=h.iQ b g e; omega,b4',anH,?_⟩,hle,by rw [ai.cv,qp]; omega,?_,fun _ _ e=>.inl e,fun _ _ e=>.inl e,fun _ _ e=>.inl e,?_,fun y q=>?_,fun g q=>?_,fun g y q=>?_,fun y q=>?_,?_⟩
 ·intro c ma aQ hc
  rcases fY c _ hc with ⟨_,e⟩ | ⟨_,e⟩
  ·simp at e
  ·obtain ⟨y,c1,h1,h2,h3⟩:=h.row c ma aQ (hold c _ e (by simp))
   have hy : ¬ X y:=fun e=>(hXz y e).2 c h1;exact ⟨y,c1,h1,by rw [IV y (h.eB c y h1) hy (.inr (.inr ⟨c,h1⟩))]; exact h2,h3.mono hle⟩
 ·intro c top DT hc
  rcases fY c _ hc with ⟨_,e⟩ | ⟨_,e⟩
  ·simp at e
  ·rcases h.aF c top DT (hold c _ e (by simp)) with h1 | ⟨g,h1,h2,h3⟩
   ·exact .inl h1
   ·refine .inr ⟨g,h1,h2,fun y hy ma e own f k hr=>?_⟩
    have hgG:∀ k,oq≠some (g,k):=fun k e=>by
     rcases n2 g k e with hg | ⟨hg,_⟩
     ·exact (f3 g hg).2.2.1 c h1
     ·have:=h.iQ c g h1; omega
    rw [b3' g hgG] at hy;have aJ:=h.mem g y hy;by_cases zj:X y
    ·obtain ⟨c0,h4,h5⟩:=b2 y zj _ _ _ _ hr
     obtain ⟨h6,h7⟩:=h3 y hy c0 _ _ f k h4;exact ⟨h6,by rw [<- h5]; exact h7⟩
    ·rcases b1 y aJ zj with e1 | ⟨e1,_⟩
     ·rw [e1] at hr; exact h3 y hy ma _ own f k hr
     ·rw [e1] at hr; simp at hr
 ·intro y r hy
  have hy:E.z y=some r:=hy;have zj : ¬ X y:=fun e=>by have:=(hXz y e).1; rw [hy] at this; simp at this
  rw [IV y (h.lT y r hy) zj (.inl (by rw [hy]; simp))];exact h.z y r hy
 ·intro b c g tb sb tc sc hb hc e1 e2
  rcases fY b _ hb with ⟨_,e⟩ | ⟨_,hb⟩
  ·simp at e
  rcases fY c _ hc with ⟨_,e⟩ | ⟨_,hc⟩
  ·simp at e
  exact h.iA b c g _ _ _ _ (hold b _ hb (by simp)) (hold c _ hc (by simp)) e1 e2
 ·intro c o hc
  rw [ai.cv,qp];rcases fY c _ hc with ⟨e,_⟩ | ⟨_,e⟩
  ·omega
  ·rcases zM c o e with e | ⟨_,e⟩
   ·have:=h.live c o e; omega
   ·omega
 ·refine ⟨?_,?_,?_,?_,?_,?_,?_,?_,?_,?_⟩
  ·intro c v hc
   rcases iL c v hc with ⟨_,rfl,e⟩ | ⟨_,e1,e2,e⟩
   ·exact ⟨T,N2,mu,fa,rfl,ht,cT,.inr ⟨y2,iv,oq,y8,e,abJ,MV.mono hle,hl⟩⟩
   ·exact (h.ar.arr c v e2).mono hle e fun y L M hy=>(AQ c v y L M e1 hy).2.2.2
  ·intro c v hc
   rcases fY c _ hc with ⟨_,e⟩ | ⟨bx,e⟩
   ·simp at e
   ·exact (h.ar.iG c v (hold c _ e (by simp))).mono hle (Env.EY bx)
  ·intro y q
   rcases IW y q with e | ⟨e,_⟩
   ·subst e
    rcases n1 with hx | hx
    ·exact hXz y hx
    ·refine ⟨?_,fun c e=>by have:=h.eB c y e; omega⟩
     cases hz:E.z y with
     | none=>exact hz
     | some r=>have:=h.lT y r hz; omega
   ·exact h.ar.z y e
  ·intro c d v u y L M L' M' h1 h2 h3 h4
   rcases iL c v h1 with ⟨e1,_,e⟩ | ⟨_,p1,p2,e⟩ <;> rcases iL d u h2 with ⟨e2,_,e'⟩ | ⟨_,q1,q2,e'⟩
   ·omega
   ·rw [e] at h3; rw [e'] at h4
    simp at h3;obtain ⟨_,h5,h6,_⟩:=AQ d u y L' M' q1 h4;rw [<- h3.1] at h5 h6;rcases n1 with hx | hx
    ·exact absurd hx h5
    ·omega
   ·rw [e] at h3; rw [e'] at h4
    simp at h4;obtain ⟨_,h5,h6,_⟩:=AQ c v y L M p1 h3;rw [<- h4.1] at h5 h6;rcases n1 with hx | hx
    ·exact absurd hx h5
    ·omega
   ·rw [e] at h3; rw [e'] at h4
    exact h.ar.inj c d v u y L M L' M' p2 q2 h3 h4
  ·intro c d v u y w L M L' M' ma e own g k cs3 e' nN k' h1 h2 h3 h4 h5 h6
   have BO:∀ {c v y L M ma e own k k2},A1.get c=some (.arr v)->E.α c=some (y,L,M)->B'.get y=some (.row ma e own (some (g,k)))->oq=some (g,k2)->False:=by
    intro c v y L M ma e own k k2 q1 q2 q3 q4;obtain ⟨r1,r2,r3,r4⟩:=AQ c v y L M q1 q2;rw [r4] at q3;rcases n2 g k2 q4 with hg | ⟨hg,_⟩
    ·exact (f1 c v q1 y L M q2).2 _ _ _ _ _ q3 hg
    ·have:=(h.ar.p0 c v y L M _ _ _ g k (hold c _ q1 (by simp)) q2 q3).1; omega
   rcases iL c v h1 with ⟨e1,_,ea⟩ | ⟨_,p1,p2,ea⟩ <;> rcases iL d u h2 with ⟨e2,_,eb⟩ | ⟨_,q1,q2,eb⟩
   ·omega
   ·rw [ea] at h3; rw [eb] at h4
    simp at h3;rw [<- h3.1,abJ] at h5;simp at h5;exact (BO q1 h4 h6 h5.2.2.2).elim
   ·rw [ea] at h3; rw [eb] at h4
    simp at h4;rw [<- h4.1,abJ] at h6;simp at h6;exact (BO p1 h3 h5 h6.2.2.2).elim
   ·rw [ea] at h3; rw [eb] at h4
    rw [(AQ c v y L M p1 h3).2.2.2] at h5;rw [(AQ d u w L' M' q1 h4).2.2.2] at h6;exact h.ar.rD c d v u y w L M L' M' _ _ _ g k _ _ _ k' p2 q2 h3 h4 h5 h6
  ·intro b x e
   have hb:=h.fT b x e;rw [Env.EY (by omega)];exact h.ar.Xg b x e
  ·intro b p e
   rw [ai.cv,qp];by_cases hb:b=A.next
   ·omega
   ·rw [Env.EY hb] at e; have:=h.ar.fT b p e; omega
  ·intro b x L N e
   by_cases hb:b=A.next
   ·subst hb; rw [Env.sR] at e; simp at e; omega
   ·rw [Env.EY hb] at e; have:=h.ar.eB b x L N e; omega
  ·intro c v y L M ma e own g k h1 h2 h3
   rcases iL c v h1 with ⟨_,_,ea⟩ | ⟨_,p1,p2,ea⟩
   ·rw [ea] at h2
    simp at h2;obtain ⟨rfl,_⟩:=h2;rw [abJ] at h3;simp at h3;have hk:=h3.2.2.2;refine ⟨?_,fun f e=>?_,fun z hz bx=>?_⟩
    ·rcases n2 g k hk with hg | ⟨_,hg⟩
     ·have:=(f3 g hg).2.1; omega
     ·exact hg
    ·rcases n2 g k hk with hg | ⟨hg,_⟩
     ·exact (f3 g hg).2.2.1 f e
     ·have:=h.iQ f g e; omega
    ·rcases b3 g z hz with hz | ⟨e,_⟩
     ·rcases n2 g k hk with hg | ⟨hg,_⟩
      ·by_cases afH:X z
       ·exact ⟨(hXz z afH).1,fun q=>by
         rcases IW z q with e | ⟨_,e⟩
         ·exact bx e
         ·exact e afH,(hXz z afH).2⟩
       ·obtain ⟨h7,h8,h9⟩:=(f3 g hg).2.2.2 z hz afH
        refine ⟨h7,fun q=>?_,h9⟩;rcases IW z q with e | ⟨e,_⟩
        ·exact bx e
        ·exact h8 e
      ·rw [h.fresh g hg] at hz; simp at hz
     ·exact absurd e bx
   ·rw [ea] at h2
    obtain ⟨r1,r2,r3,r4⟩:=AQ c v y L M p1 h2;rw [r4] at h3;obtain ⟨h4,h5,h6⟩:=h.ar.p0 c v y L M _ _ _ g k p2 h2 h3;refine ⟨by omega,h5,fun z hz bx=>?_⟩;have hnG:=(f1 c v p1 y L M h2).2 _ _ _ _ _ h3;rw [b3' g (fun k e=>by
     rcases n2 g k e with hg | ⟨hg,_⟩
     ·exact hnG hg
     ·omega)] at hz
    obtain ⟨h7,h8,h9⟩:=h6 z hz bx;refine ⟨h7,fun q=>?_,h9⟩;rcases IW z q with e | ⟨e,_⟩
    ·subst e
     rcases n1 with hx | hx
     ·exact h8 (f2 z hx)
     ·have:=h.mem g z hz; omega
    ·exact h8 e
  ·intro c v hc
   rw [ai.cv,qp];rcases iL c v hc with ⟨e1,_,_⟩ | ⟨_,_,e2,_⟩
   ·subst e1
    refine ⟨AB _,?_⟩;show E.κ A.next=none;cases hk:E.κ A.next with
    | none=>rfl
    | some x=>have:=h.fT _ x hk; omega
   ·obtain ⟨q1,q2⟩:=h.ar.nk c v e2
    exact ⟨by omega,q2⟩
 ·intro y hy hn ha
  by_cases zj:X y
  ·exact absurd (.inl (f2 y zj)) ha
  ·rcases b1 y hy zj with e | ⟨_,g,hg,h2⟩
   ·exact e
   ·exact absurd (.inr ⟨g,(f3 g hg).1,h2⟩) ha
 ·intro g hg hn ha
  refine b3' g fun k e=>?_;rcases n2 g k e with DI | ⟨DI,_⟩
  ·exact ha (f3 g DI).1
  ·omega
 ·rcases IW y q with e | ⟨e,_⟩
  ·exact ai2 y e
  ·exact .inl e
 ·rcases abI g q with e | ⟨e,_⟩
  ·exact alH g e
  ·exact .inl e
 ·rcases b3 g y q with e | ⟨e,e2,_⟩
  ·exact .inl e
  ·exact .inr (by omega)
 ·rcases q with q | ⟨g,h1,h2⟩
  ·rcases IW y q with e | ⟨e,_⟩
   ·rcases ai2 y e with e | e
    ·exact .inl (.inl e)
    ·exact .inr e
   ·exact .inl (.inl e)
  ·rcases b3 g y h2 with e | ⟨e,e2,_⟩
   ·rcases abI g h1 with e1 | ⟨e1,_⟩
    ·rcases alH g e1 with e2 | e2
     ·exact .inl (.inr ⟨g,e2,e⟩)
     ·rw [h.fresh g e2] at e; simp at e
    ·exact .inl (.inr ⟨g,e1,e⟩)
   ·exact .inr (by omega)
 ·intro y hy ma e own LC hr
  by_cases zj:X y
  ·exact b2 y zj ma e own LC hr
  ·rcases b1 y hy zj with e1 | ⟨e1,_⟩
   ·exact ⟨ma,by rw [<- e1]; exact hr,rfl⟩
   ·rw [e1] at hr; simp at hr
end Go.K
end
section
namespace Go.K
open Go Go.az
variable {P:Program} {E:Env}
theorem cF.amv {A:ai} {B:St} {c:List Value} {n:Nat} (h:du P E A B):cF P E A B (E.dW B.next ⟨c,n,true,some (B.next,0)⟩) A (B.grow B.next 0 c n):=by
 have fv:∀ x,(B.grow B.next 0 c n).get x=if x=B.next then some (.row c n true (some (B.next,0))) else B.get x:=fun x=>by simp [St.grow]
 have kx:∀ q,(B.grow B.next 0 c n).members q=if q=B.next then B.next::B.members B.next else B.members q:=fun q=>by simp [St.grow,St.yG]
 have fU:(B.grow B.next 0 c n).next=B.next+1:=rfl;have hle:E.le (E.dW B.next ⟨c,n,true,some (B.next,0)⟩):=⟨fun _ _ e=>e,fun _ _ e=>e,fun b r e=>by
  have:=h.lT b r e;simp only [Env.dW]; rw [ae (by omega)]; exact e,fun _ _ e=>e⟩
 generalize B.grow B.next 0 c n=B' at fv kx fU;have DS:∀ x,x < B.next->B'.get x=B.get x:=fun x hx=>by rw [fv,ae (by omega)]
 have IM:∀ b r,(E.dW B.next ⟨c,n,true,some (B.next,0)⟩).z b=some r->E.z b=some r\/B.next<=b:=fun b r e=>by
  simp only [Env.dW] at e;split at e
  ·exact .inr (by omega)
  ·exact .inl e
 have KN:∀ q,AF A E B q->B'.members q=B.members q:=fun q hq=>by
  rw [kx,ae];intro e2;obtain ⟨b,v,x,L,N,cs,e,own,k,h1,h2,h3⟩:=hq;obtain ⟨h4,h5,_⟩:=h.ar.p0 b v x L N cs e own q k h1 h2 h3;omega
 have adZ:∀ q y,y∈B'.members q->y∈B.members q\/B.next<=y:=fun q y hy=>by
  rw [kx] at hy;split at hy
  ·rename_i e2
   subst e2;rcases bd.1 hy with hy | hy
   ·exact .inr (by omega)
   ·exact .inl hy
  ·exact .inl hy
 refine ⟨⟨?_,?_,?_,?_,h.inj,h.iA,h.fT,h.ll,h.live,?_,?_,?_,?_,?_,h.ar.dj hle (fun _=>rfl) (fun _ _ e=>e) (fun _ _ e=>e) (ao _) (by omega) (fun x q=>DS x (h.C7 q)) IM (fun _ _ e=>.inl e) (fun b q e=>.inl ⟨b,e⟩) KN h.mem⟩,hle,ao _,?_,fun b x e=>.inl e,fun b r e=>(IM b r e).imp id .inr,fun b q e=>.inl e,fun q hq hn _=>by rw [kx,ae (by omega)],fun _ q=>.inl q,fun _ q=>.inl (q.of (fun _=>rfl) (fun _ _ e=>e) fun x q=>DS x (h.C7 q)),adZ,fun _ q=>.inl (q.of (fun _=>rfl) (fun _ _ e=>e) (fun x q=>DS x (h.C7 q)) KN),ln DS⟩
 ·intro b mI U6 hb
  obtain ⟨x,d,h1,h2,h3⟩:=h.row b mI U6 hb;have:=h.eB b x h1;exact ⟨x,d,h1,by rw [fv,ae (by omega)]; exact h2,h3.mono hle⟩
 ·intro b top DT hb
  rcases h.aF b top DT hb with h1 | ⟨g,h1,hp0,h2⟩
  ·exact .inl h1
  ·have hg:=h.iQ b g h1
   refine .inr ⟨g,h1,hp0,fun x hx d e own f k hr=>?_⟩;rw [kx,ae (by omega)] at hx;have:=h.mem g x hx;rw [fv,ae (by omega)] at hr;exact h2 x hx d e own f k hr
 ·intro b r hb
  simp only [Env.dW] at hb;rw [fv];split at hb
  ·rename_i e; simp at hb; subst hb; rw [ax e]
  ·rename_i e; rw [ae e]; exact h.z b r hb
 ·intro b x hb
  have:=h.eB b x hb;simp only [Env.dW];rw [ae (by omega)];exact h.apart b x hb
 ·intro b x hb; have:=h.eB b x hb; omega
 ·intro b r hb
  simp only [Env.dW] at hb;rw [fU];split at hb
  ·omega
  ·have:=h.lT b r hb; omega
 ·intro b g hb; have:=h.iQ b g hb; omega
 ·intro g hg
  rw [fU] at hg;rw [kx,ae (by omega)];exact h.fresh g (by omega)
 ·intro g x hx
  rw [fU];rw [kx] at hx;split at hx
  ·rcases bd.1 hx with hx | hx
   ·omega
   ·have:=h.mem _ x hx; omega
  ·have:=h.mem g x hx; omega
 ·intro x hx _ _; rw [fv,ae (by omega)]
theorem cF.after {A A1 A2:ai} {B B2:St} {E2:Env} (h:cF P E A B E A1 B) (k:cF P E A1 B E2 A2 B2):cF P E A B E2 A2 B2 where
 dI:=k.dI
 le:=k.le
 next:=dA h.next k.next
 dj x hx hn ha:=k.dj x hx hn fun q=>(h.lU x q).elim ha fun e=>by omega
 new:=k.new
 qN b r e:=by
  rcases k.qN b r e with e | e | e
  ·exact .inl e
  ·exact .inr (h.jR b e)
  ·exact .inr (.inr e)
 pk:=k.pk
 nw g hg hn ha:=k.nw g hg hn fun q=>(h.j6 g q).elim ha fun e=>by omega
 jR x q:=(k.jR x q).elim (h.jR x) .inr
 j6 g q:=(k.j6 g q).elim (h.j6 g) .inr
 rJ:=k.rJ
 lU y q:=(k.lU y q).elim (h.lU y) .inr
 rows:=k.rows
theorem cF.afI {A:ai} {B:St} {f t:Nat} (sz:Nat) (h:du P E A B) {DT:Nat} (hA:A.get f=some (.aF t DT)) (CI:E.φ f=none):cF P E A B E (A.put f (.aF 0 sz)) B:=by
 have O2:∀ (b:Nat) (v:KV),(A.put f (.aF 0 sz)).get b=some (.arr v)->A.get b=some (.arr v):=fun b v hb=>by
  rw [ai.bZ] at hb;split at hb
  ·simp at hb
  ·exact hb
 have O0:∀ (b:Nat) (v:KV),(A.put f (.aF 0 sz)).get b=some (.iG v)->A.get b=some (.iG v):=fun b v hb=>by
  rw [ai.bZ] at hb;split at hb
  ·simp at hb
  ·exact hb
 refine ⟨⟨fun b cs aQ hb=>?_,fun b top DT hb=>?_,h.z,h.apart,h.inj,h.iA.put (.inr CI),h.fT,h.ll,fun b o hb=>?_,h.eB,h.lT,h.iQ,h.fresh,h.mem,h.ar.dj (Env.le_refl _) (fun _=>rfl) O2 O0 (ao _) (ao _) (fun _ _=>rfl) (fun _ _ e=>.inl e) (fun _ _ e=>.inl e) (fun b g e=>.inl ⟨b,e⟩) (fun _ _=>rfl) h.mem⟩,Env.le_refl _,ao _,fun _ _ _ _=>rfl,fun _ _ e=>.inl e,fun _ _ e=>.inl e,fun _ _ e=>.inl e,fun _ _ _ _=>rfl,fun _ q=>.inl (q.of (fun _=>rfl) O2),fun _ q=>.inl (q.of (fun _=>rfl) O2 fun _ _=>rfl),fun _ _ q=>.inl q,fun _ q=>.inl (q.of (fun _=>rfl) O2 (fun _ _=>rfl) fun _ _=>rfl),ln fun _ _=>rfl⟩
 ·rw [ai.bZ] at hb
  split at hb
  ·simp at hb
  ·exact h.row b cs aQ hb
 ·rw [ai.bZ] at hb
  split at hb
  ·rename_i e2; simp at hb; exact .inl ⟨hb.1.symm,by rw [e2]; exact CI⟩
  ·exact h.aF b top DT hb
 ·rw [ai.bZ] at hb
  split at hb
  ·rename_i e2; rw [e2]; exact h.live f _ hA
  ·exact h.live b o hb
theorem cF.ai3 {A:ai} {B:St} {f t sz:Nat} (h:du P E A B) (hA:A.get f=some (.aF t sz)):cF P E A B E (A.put f (.aF t sz)) B:=by
 have hg:∀ b,(A.put f (.aF t sz)).get b=A.get b:=fun b=>by
  rw [ai.bZ];split
  ·rename_i e; rw [e,hA]
  ·rfl
 have O2:∀ (b:Nat) (v:KV),(A.put f (.aF t sz)).get b=some (.arr v)->A.get b=some (.arr v):=fun b v hb=>by rwa [hg] at hb
 have O0:∀ (b:Nat) (v:KV),(A.put f (.aF t sz)).get b=some (.iG v)->A.get b=some (.iG v):=fun b v hb=>by rwa [hg] at hb
 refine ⟨⟨fun b cs aQ hb=>h.row b cs aQ (by rwa [hg] at hb),fun b top DT hb=>h.aF b top DT (by rwa [hg] at hb),h.z,h.apart,h.inj,fun b c g tb sb tc sc q1 q2=>h.iA b c g tb sb tc sc (by rwa [hg] at q1) (by rwa [hg] at q2),h.fT,h.ll,fun b o hb=>h.live b o (by rwa [hg] at hb),h.eB,h.lT,h.iQ,h.fresh,h.mem,h.ar.dj (Env.le_refl _) (fun _=>rfl) O2 O0 (ao _) (ao _) (fun _ _=>rfl) (fun _ _ e=>.inl e) (fun _ _ e=>.inl e) (fun b g e=>.inl ⟨b,e⟩) (fun _ _=>rfl) h.mem⟩,Env.le_refl _,ao _,fun _ _ _ _=>rfl,fun _ _ e=>.inl e,fun _ _ e=>.inl e,fun _ _ e=>.inl e,fun _ _ _ _=>rfl,fun _ q=>.inl (q.of (fun _=>rfl) O2),fun _ q=>.inl (q.of (fun _=>rfl) O2 fun _ _=>rfl),fun _ _ q=>.inl q,fun _ q=>.inl (q.of (fun _=>rfl) O2 (fun _ _=>rfl) fun _ _=>rfl),ln fun _ _=>rfl⟩
theorem ai4 {t:TypeId} (hu:P.underlying t=some (.int .u8)):aH P t=⟨false,[.int .u8]⟩:=by
 unfold aH;rw [lay,hu];rfl
theorem ZN {e:TypeId} (he:isByte P e=true):alC P (MC e) FJ:=by
 intro E A B vs us v h hv hg;unfold MC at hg;split at hg
 ·rename_i s
  obtain ⟨u,rfl,h1⟩:=hv.dD;have:=h1.pj; subst this;have hg:KV.ts e .any s.size _ _=v:=hg;subst hg;have hu:P.underlying e=some (.int .u8):=by
   unfold isByte at he;split at he
   ·assumption
   ·simp at he
  have Vh:aH P e=⟨false,[.int .u8]⟩:=ai4 hu;refine ⟨_,_,_,rfl,?_,cF.amv h⟩;simp only [VK];have cT:aI P e=1:=by unfold aI; rw [Vh]; rfl
  refine ⟨⟨by simp,fun i hi=>?_,?_⟩,jl s.data.toList,?_,some ⟨B.next,0,none⟩,s.size,rfl,ao _,.inr ⟨B.next,0,⟨jl s.data.toList,1,true,some (B.next,0)⟩,rfl,by simp [Env.dW],cT.symm,?_⟩,trivial⟩
  ·have KK:i < s.data.toList.length:=by simpa using hi
   simp only [List.getD,mf,cl KK,Option.map_some,iB]
  ·rw [Vh]
   induction s.data.toList with
   | nil=>rfl
   | cons b l ih=>simp [dp,ca,au,kindOk,ih]
  ·generalize E.dW B.next _=E'
   induction s.data.toList with
   | nil=>exact .nil
   | cons b l ih=>exact .cons .mkInt ih
  ·rw [cT]
   intro i x hx;obtain ⟨b,_,rfl⟩:∃ b,s.data.toList[i]? = some b/\x = .int .u8 b.toNat:=by
    simp only [jl,mf,aU] at hx;obtain ⟨b,h1,h2⟩:=hx;exact ⟨b,h1,h2.symm⟩
   refine ⟨rfl,fun k y hy=>?_⟩;have hk:k=0:=by
    have:=(jg.1 hy).1;simp [Value.cells] at this;exact this
   subst hk;simp [Value.cells] at hy;subst hy;simpa using hx
 ·exact hg.elim
theorem Gl {B:St} {b off n sz:Nat} {r:abt} {aP:List Value} (hr:B.get b=some (.row r.cs r.aQ r.own r.aZ)) (hl:mK sz off r.cs aP) (hn:aP.length=n) (cT:1<=sz) :
  B.nP ⟨b,off,none⟩ (n * sz)=some (bj aP):=by
 have hs:∀ v∈aP,v.cells.size=sz:=fun v hv=>by
  obtain ⟨i,hi⟩:=List.getElem?_of_mem hv;exact (hl i v hi).1
 have hlen:=fQ hs;have CG:=jI hs;have la:∀ j,j < n * sz->r.cs[off+j]? = (bj aP)[j]?:=by
  intro j hj;have hi:j / sz < aP.length:=by rw [hn]; exact Nat.div_lt_of_lt_mul (by rw [Nat.mul_comm]; exact hj)
  have hv:aP[j / sz]? = some aP[j / sz]:=cl hi;have hk:j % sz < aP[j / sz].cells.size:=by rw [hs _ (JU hi)]; exact Nat.mod_lt _ cT
  have hy:aP[j / sz].cells[j % sz]? = some (aP[j / sz].cells[j % sz]):=by simp [hk]
  have h1:=(hl _ _ hv).2 _ _ hy;have h2:=(CG _ _ hv).2 _ _ hy;have hj2:j / sz * sz+j % sz=j:=by rw [Nat.mul_comm]; exact Nat.div_add_mod j sz
  rw [nG,hj2] at h1;rw [bG,hj2] at h2;rw [h1,h2]
 simp only [St.nP,bI,Option.isNone_none,ah,qZ,hr,cD];rw [hn] at hlen;have hle:n * sz<=(r.cs.drop off).length:=by
  cases hm:n * sz with
  | zero=>omega
  | succ q=>
   have:=la q (by omega);rw [cl (show q < (bj aP).length by omega)] at this;have h7:=(cw.1 this).1;rw [List.length_drop];omega
 rw [nV,EW hle];congr 1;apply List.ext_getElem?;intro i;rw [kS];split
 ·rename_i hi
  rw [lF];exact la i hi
 ·exact (NS.2 (by omega)).symm
theorem Vi {T:TypeId} {m:Mk} {n:Nat} {es:List KV} {acc:Nat->KV} {u:Value} {A:ai} {B:St} (h:du P E A B) (hv:VK P E (.ts T m n es acc) u) (cT:1<=aI P T) :
  ∃ aP,aK P E es aP/\RS u=some n/\sI B (aI P T) n u=some (bj aP)/\(∀ v∈aP,v.cells.size=aI P T)/\aP.length=n/\es.length=n/\dp (aH P T) es=true:=by
 obtain ⟨ht,aP,h1,a,cap,rfl,h2,h3,_⟩:=hv.jz;have hlen:=ht.len;have iJ:aP.length=n:=by rw [h1.length]; exact hlen.symm
 have hs:=j7 ht.typed h1;refine ⟨aP,h1,rfl,?_,fun v hv=>(hs v hv).1,iJ,hlen.symm,ht.typed⟩;rcases h3 with ⟨rfl,h0⟩ | ⟨b,off,r,rfl,h4,h5,h6⟩
 ·have:aP = []:=lE.1 (by omega)
  subst this;simp [sI,h0,bj]
 ·exact Gl (h.z b r h4) h6 iJ cT
theorem fP.join {T:TypeId} {n m:Nat} {es fs:List KV} {f g:Nat->KV} (h:fP P T n es f) (k:fP P T m fs g):fP P T (n+m) (es++fs) (dV n f g) where
 len:=by rw [gd,<- h.len,<- k.len]
 acc i hi:=by
  unfold dV;by_cases hn:i < n
  ·have:Nat.blt i n=true:=by rw [b7]; exact hn
   rw [this,ah,h.acc i hn,eN,eN,nE (by rw [<- h.len]; exact hn)]
  ·have:Nat.blt i n=false:=by
    cases hb:Nat.blt i n with
    | false=>rfl
    | true=>rw [b7] at hb; omega
   rw [this,ay,k.acc (i - n) (by omega),eN,eN,o3 (by rw [<- h.len]; omega),<- h.len]
 typed:=Hd h.typed k.typed
theorem fP.none {T:TypeId} {g:Nat->KV} : fP P T 0 [] g:=⟨rfl,fun i h=>by omega,rfl⟩
structure Src (P:Program) (E:Env) (B:St) (T:TypeId) (n:Nat) (es:List KV) (acc:Nat->KV) (u:Value) (aP:List Value):Prop where
 tree:fP P T n es acc
 rel:aK P E es aP
 len:RS u=some n
 size:∀ v∈aP,v.cells.size=aI P T
 length:aP.length=n
 first:∀ k,k<=n->sI B (aI P T) k u=some (bj (aP.take k))
theorem Src.all {B:St} {T:TypeId} {n:Nat} {es:List KV} {acc:Nat->KV} {u:Value} {aP:List Value} (h:Src P E B T n es acc u aP):sI B (aI P T) n u=some (bj aP):=by
 rw [h.first n (ao _),List.take_of_length_le (Nat.le_of_eq h.length)]
theorem mK.take {sz off:Nat} {cs es:List Value} (h:mK sz off cs es) (k:Nat):mK sz off cs (es.take k):=fun i x hi=>h i x (by
 rw [kS] at hi;split at hi
 ·exact hi
 ·simp at hi)
theorem mK.drop {sz off:Nat} {cs es:List Value} (h:mK sz off cs es) (o:Nat):mK sz (off+o * sz) cs (es.drop o):=fun i x hi=>by
 rw [lF] at hi;obtain ⟨h1,h2⟩:=h (o+i) x hi;refine ⟨h1,fun k y hy=>?_⟩;rw [<- h2 k y hy,Nat.add_mul];congr 1;omega
theorem akO {T:TypeId} {m:Mk} {n:Nat} {es:List KV} {acc:Nat->KV} {u:Value} {A:ai} {B:St} (h:du P E A B) (hv:VK P E (.ts T m n es acc) u) (cT:1<=aI P T):∃ aP,Src P E B T n es acc u aP:=by
 obtain ⟨ht,aP,h1,a,cap,rfl,h2,h3,_⟩:=hv.jz;have iJ:aP.length=n:=by rw [h1.length]; exact ht.len.symm
 have hs:=j7 ht.typed h1;refine ⟨aP,ht,h1,rfl,fun v hv=>(hs v hv).1,iJ,fun k hk=>?_⟩;rcases h3 with ⟨rfl,h0⟩ | ⟨b,off,r,rfl,h4,h5,h6⟩
 ·have:aP = []:=lE.1 (by omega)
  subst this;have:k=0:=by omega
  subst this;simp [sI,bj]
 ·exact Gl (h.z b r h4) (h6.take k) (by rw [ju]; omega) cT
theorem akP {T:TypeId} {m:Mk} {b o n N:Nat} {es:List KV} {acc:Nat->KV} {u:Value} {A:ai} {B:St} (h:du P E A B) (hv:VK P E (.al T b o n) u) (ha:DN A b=some (.ts T m N es acc)) (cT:1<=aI P T) :
  ∃ aP,Src P E B T n ((es.drop o).take n) (fun i=>acc (o+i)) u aP:=by
 have row:∀ {x:Nat} {r:abt} {aP:List Value} {c:Nat},u = .slice (some ⟨x,o * aI P T,none⟩) n c->o+n<=N->fP P T N es acc->B.get x=some (.row r.cs r.aQ r.own r.aZ)->aK P E es aP->mK (aI P T) 0 r.cs aP->∃ aP,Src P E B T n ((es.drop o).take n) (fun i=>acc (o+i)) u aP:=by
  intro x r aP c hu hon ht hr MV hl;subst hu;have MW:aP.length=N:=by rw [MV.length]; exact ht.len.symm
  have ad2:((es.drop o).take n).length=n:=by rw [ju,List.length_drop,<- ht.len]; omega
  have ai5:((aP.drop o).take n).length=n:=by rw [ju,List.length_drop,MW]; omega
  have hs:=j7 ht.typed MV;refine ⟨(aP.drop o).take n,⟨ad2.symm,fun i hi=>?_,lV fun i x hi=>?_⟩,(MV.drop o).take n,rfl,fun v hv=>(hs v (List.mem_of_mem_drop (List.mem_of_mem_take hv))).1,ai5,fun k hk=>?_⟩
  ·rw [ht.acc (o+i) (by omega),eN,eN,kS,ax hi,lF]
  ·rw [kS] at hi
   split at hi
   ·rw [lF] at hi; exact fD ht.typed hi
   ·simp at hi
  ·have iK:=((hl.drop o).take n).take k
   rw [bG] at iK;exact Gl hr iK (by rw [ju,ai5]; omega) cT
 rcases hv.rI with ⟨rfl,rfl,rfl⟩ | ⟨x,L,N0,c,h1,h2,h3,h4,h5⟩
 ·refine ⟨[],⟨by simp,fun i hi=>by omega,rfl⟩,by simpa using aK.nil,rfl,by simp,rfl,fun k hk=>?_⟩
  have:k=0:=by omega
  subst this;simp [sI,bj]
 ·unfold DN at ha
  split at ha
  ·rename_i v hb
   simp only [aR] at ha;subst ha;obtain ⟨T2,N2,mu,fa,e,ht,_,rp⟩:=h.ar.arr b _ hb;simp only [KV.ts.injEq] at e;obtain ⟨rfl,rfl,rfl,rfl,rfl⟩:=e;rcases rp with ⟨_,e⟩ | ⟨x2,cs,aZ,aP,e,h6,h7,h8⟩
   ·rw [h1] at e; simp at e
   ·rw [h1] at e
    simp only [aR,bH] at e;obtain ⟨rfl,rfl,rfl⟩:=e;exact row (r:=⟨cs,aI P T,true,aZ⟩) h2 h4 ht h6 h7 h8
  ·rename_i v hb
   simp only [aR] at ha;subst ha;obtain ⟨T2,N2,mu,fa,e,ht,_,rp⟩:=h.ar.iG b _ hb;simp only [KV.ts.injEq] at e;obtain ⟨rfl,rfl,rfl,rfl,rfl⟩:=e;rcases rp with ⟨_,e⟩ | ⟨x2,r,aP,e,h6,h6',h7,h8⟩
   ·rw [h1] at e; simp at e
   ·rw [h1] at e
    simp only [aR,bH] at e;obtain ⟨rfl,rfl,rfl⟩:=e;exact row h2 h4 ht (h.z _ _ h6) h7 h8
  ·simp at ha
theorem afJ {A:ai} {B:St} {y:KV} {u:Value} {T:TypeId} {m:Mk} {n:Nat} {es:List KV} {acc:Nat->KV} (h:du P E A B) (hv:VK P E y u) (hs:Iz A y=some (.ts T m n es acc)) (cT:1<=aI P T):∃ aP,Src P E B T n es acc u aP:=by
 unfold Iz at hs;split at hs
 ·rename_i T' b o k
  unfold Zv at hs;split at hs
  ·rename_i T2 _ _ mu fa ha
   cases hb:Nat.beq T' T2 with
   | false=>rw [hb] at hs; simp at hs
   | true=>
    have:=aD hb;subst this;rw [hb,ah] at hs;simp only [aR,KV.ts.injEq] at hs;obtain ⟨rfl,rfl,rfl,rfl,rfl⟩:=hs;rw [Zu];exact akP h hv ha cT
  ·simp at hs
 ·simp only [aR,KV.ts.injEq] at hs
  obtain ⟨rfl,rfl,rfl,rfl,rfl⟩:=hs;exact akO h hv cT
 ·simp at hs
theorem ad3 {e n b:Nat} (hn:aI P e=n) (h1n:1<=n) {E:Env} {A A' : ai} {B:St} {x v:KV} {u w:Value} {e' : TypeId} {mk:Mk} {k:Nat} {new:List KV} {acc:Nat->KV} (h:du P E A B) (h1:VK P E x u)
  (Xl:Nat.beq e e' = true->∃ aP,Src P E B e' k new acc w aP) (hg:aA (Iy e n b A [x,.ts e' mk k new acc]) (v,A')):∃ r B' E',iC n b B [u,w] = some (r,B')/\VK P E' v r/\cF P E A B E' A' B':=by
 have rK:1<=aI P e:=by omega
 have put:∀ (E1:Env) (A1:ai) (m f k:Nat) (base new:List KV) (ab an:Nat->KV) (more:Bool) (A2:ai) (v:KV),aA (OT e n b m base ab A1 f k new an more) (v,A2)->
   (more=true/\Nat.ble ((m+k) * b) 140737488355328=true/\Nat.ble (m+k) 17592186044416=true)/\v = .ts e (.aF f) (m+k) (base++new) (dV m ab an)/\A2=A1.put f (.aF (m+k) n):=by
  intro E1 A1 m f k base new ab an more A2 v hp;obtain ⟨hc,hp⟩:=aA.iH hp;simp only [mv,aj] at hc;simp only [bH] at hp;exact ⟨⟨hc.1,hc.2.1,hc.2.2⟩,hp.1.symm,hp.2.symm⟩
 unfold Iy at hg;split at hg
 ·
  rename_i e9 mk9 k9 afK afL heq;simp only [List.cons.injEq,KV.ts.injEq,and_true] at heq;obtain ⟨rfl,rfl,rfl,rfl,rfl,rfl⟩:=heq;have:=h1.mw; subst this;obtain ⟨he,IU⟩:=hg.cond;clear hg;obtain ⟨bK,iw⟩:=Xl he;have:=aD he;subst this;obtain ⟨⟨_,uN,qf⟩,rfl,rfl⟩:=put E _ _ _ _ _ _ _ _ _ _ _ IU;have DJ:=iw.tree;have h3:=iw.rel;have h4:=iw.len;have h5:=iw.all;have h6:=iw.size;have h7:=iw.length;have h8:=DJ.len.symm;rw [hn] at h5 h6;have rX:=cF.afF n h;have hAf:(A.new (.aF 0 n)).get A.next=some (.aF 0 n):=by simp
  have CI:E.φ A.next=none:=by
   cases hq:E.φ A.next with
   | none=>rfl
   | some g=>have:=h.ll _ g hq; omega
  cases k with
  | zero=>
   have mh:new = []:=lE.1 h8;have MX:bK = []:=lE.1 h7;subst mh MX;refine ⟨.slice none 0 0,B,E,?_,?_,?_⟩
   ·simp only [iC,h4,cD]
    rw [h5];rfl
   ·simp only [VK]
    exact ⟨⟨rfl,fun i hi=>by omega,rfl⟩,[],.nil,none,0,rfl,ao _,.inl ⟨rfl,rfl⟩,rfl,.inl ⟨rfl,rfl⟩⟩
   ·exact rX.after (cF.afI n rX.dI hAf CI)
  | succ k=>
   have AU:=cF.grow (c:=bj bK) (top:=0) (Lz:=k+1) (sz:=n) (g:=B.next) (f:=A.next) rX.dI hAf (.inl ⟨CI,rfl⟩) (by rw [fQ h6,h7]) (by omega) (by omega);refine ⟨.slice (some ⟨B.next,0,none⟩) (k+1) (k+1),B.grow B.next 0 (bj bK) n,_,?_,?_,rX.after (by simpa using AU)⟩
   ·simp only [bG] at uN qf
    simp only [iC,h4,cD,bG];rw [show Nat.ble (k+1) 0=false from rfl,ay,uN,qf,h5];rfl
   ·simp only [VK,bG,List.nil_append]
    have MX:=h3.mono (Env.le_trans rX.le AU.le);have hl:=jI h6;refine ⟨by have:=fP.none (P:=P) (T:=e) (g:=mJ) |>.join DJ; simpa using this,bK,MX,_,_,rfl,ao _,.inr ⟨B.next,0,⟨bj bK,n,true,some (B.next,0)⟩,rfl,by simp [Env.pn,Env.dW],hn.symm,by rw [hn]; exact hl⟩,rfl,.inr ⟨B.next,⟨bj bK,n,true,some (B.next,0)⟩,B.next,rfl,by simp [Env.pn,Env.dW],rfl,by simp [Env.pn],rfl,?_⟩⟩;rw [hn];simp only;rw [fQ h6,h7]
 ·
  rename_i e1 m es alI e9 mk9 k9 afK afL heq;simp only [List.cons.injEq,KV.ts.injEq,and_true] at heq;obtain ⟨rfl,rfl,rfl,rfl,rfl,rfl⟩:=heq;obtain ⟨he,IU⟩:=hg.cond;clear hg;simp only [aj] at he;obtain ⟨bK,iw⟩:=Xl he.1;have:=aD he.1;subst this;have:=aD he.2;subst this;obtain ⟨⟨hk,uN,qf⟩,rfl,rfl⟩:=put E _ _ _ _ _ _ _ _ _ _ _ IU;have hk:0 < k:=by rwa [b7] at hk
  have AK:=h1.jz.1;have DJ:=iw.tree;have h3:=iw.rel;have h4:=iw.len;have h5:=iw.all;have h6:=iw.size;have h7:=iw.length;have h8:=DJ.len.symm;obtain ⟨jH,h3b,h4b,h5b,h6b,h7b,h8b,h9b⟩:=Vi h h1 rK;rw [hn] at h5 h6 h5b h6b;obtain ⟨_,aa9,pQ,a,cap,rfl,afe,Gm,UJ⟩:=h1.jz;obtain ⟨rfl,KN⟩:=UJ;have rX:=cF.afF n h;have hAf:(A.new (.aF 0 n)).get A.next=some (.aF 0 n):=by simp
  have CI:E.φ A.next=none:=by
   cases hq:E.φ A.next with
   | none=>rfl
   | some g=>have:=h.ll _ g hq; omega
  have hs:∀ v∈jH++bK,v.cells.size=n:=fun v hv=>by
   rcases eX.1 hv with hv | hv
   ·exact h6b v hv
   ·exact h6 v hv
  have hlen:(bj (jH++bK)).length=(cap+k) * n:=by rw [fQ hs,gd,h7b,h7]
  have AU:=cF.grow (c:=bj (jH++bK)) (top:=0) (Lz:=cap+k) (sz:=n) (g:=B.next) (f:=A.next) rX.dI hAf (.inl ⟨CI,rfl⟩) hlen (by omega) (by omega);refine ⟨.slice (some ⟨B.next,0,none⟩) (cap+k) (cap+k),B.grow B.next 0 (bj (jH++bK)) n,_,?_,?_,rX.after AU⟩
  ·simp only [iC,h4,cD]
   have hnb:Nat.ble (cap+k) cap=false:=by
    cases hq:Nat.ble (cap+k) cap with
    | false=>rfl
    | true=>have:=cM hq; omega
   rw [hnb,ay,uN,qf];rcases Gm with ⟨rfl,h0⟩ | ⟨b',off,r,rfl,hz,he2,iK⟩
   ·subst h0
    have:jH = []:=lE.1 h7b;subst this;simp only [nf,uh,cY];rw [show Nat.beq 0 0=true from rfl,ah,h5];simp [Bq]
   ·obtain ⟨r2,vO,ho,abK,xy⟩:=KN b' off rfl
    rw [hz] at vO;simp at vO;subst vO;have dC:=h.z b' r hz;have hex:nf B n cap (some ⟨b',off,none⟩)=true:=by
     simp only [nf,dC,abK];rw [hn] at xy;simp [xy]
    rw [hex];simp only [cY,ah,h5,cD];simp only [sI] at h5b;have Ol:Nat.beq r.aQ n=true:=by rw [he2,hn]; simp
    simp only [Bq,bI,Option.isNone_none,ah,h5b,cD,dC,Ol,abK,ho];rw [<- tZ]
  ·simp only [VK]
   have hrel:=(h3b.append h3).mono (Env.le_trans rX.le AU.le);have hl:=jI hs;refine ⟨AK.join DJ,jH++bK,hrel,_,_,rfl,ao _,.inr ⟨B.next,0,⟨bj (jH++bK),n,true,some (B.next,0)⟩,rfl,by simp [Env.pn,Env.dW],hn.symm,by rw [hn]; exact hl⟩,rfl,.inr ⟨B.next,⟨bj (jH++bK),n,true,some (B.next,0)⟩,B.next,rfl,by simp [Env.pn,Env.dW],rfl,by simp [Env.pn],rfl,?_⟩⟩;rw [hn];exact hlen
 ·
  rename_i e1 f m es alI e9 mk9 k9 afK afL heq;simp only [List.cons.injEq,KV.ts.injEq,and_true] at heq;obtain ⟨rfl,rfl,rfl,rfl,rfl,rfl⟩:=heq;split at hg
  ·rename_i top sz' Sj
   obtain ⟨he,IU⟩:=hg.cond;clear hg;simp only [aj] at he;obtain ⟨bK,iw⟩:=Xl he.1.1;have:=aD he.1.1;subst this;have:=aD he.1.2;subst this;have aiZ:=aD he.2;rw [aiZ] at Sj;obtain ⟨⟨MZ,uN,qf⟩,rfl,rfl⟩:=put E _ _ _ _ _ _ _ _ _ _ _ IU;have:=aD MZ;subst this;have AK:=h1.jz.1;have DJ:=iw.tree;have h3:=iw.rel;have h4:=iw.len;have h5:=iw.all;have h6:=iw.size;have h7:=iw.length;have h8:=DJ.len.symm;obtain ⟨jH,h3b,h4b,h5b,h6b,h7b,h8b,h9b⟩:=Vi h h1 rK;rw [hn] at h5 h6 h5b h6b;obtain ⟨_,aa9,pQ,a,cap,rfl,afe,Gm,UJ⟩:=h1.jz;obtain ⟨rfl,KN⟩:=UJ;have hs:∀ v∈jH++bK,v.cells.size=n:=fun v hv=>by
    rcases eX.1 hv with hv | hv
    ·exact h6b v hv
    ·exact h6 v hv
   have hlen:(bj (jH++bK)).length=(cap+k) * n:=by rw [fQ hs,gd,h7b,h7]
   have amw:=h3b.append h3;have hl:=jI hs;have fin:∀ (E2:Env) (x g:Nat),E.le E2->E2.z x=some ⟨bj (jH++bK),n,true,some (g,0)⟩->E2.φ f=some g->VK P E2 (.ts e (.aF f) (cap+k) (es++new) (dV cap alI acc)) (.slice (some ⟨x,0,none⟩) (cap+k) (cap+k)):=by
    intro E2 x g hle hzx anI;simp only [VK];refine ⟨AK.join DJ,jH++bK,amw.mono hle,_,_,rfl,ao _,.inr ⟨x,0,_,rfl,hzx,hn.symm,by rw [hn]; exact hl⟩,rfl,.inr ⟨x,_,g,rfl,hzx,rfl,anI,rfl,?_⟩⟩;rw [hn];exact hlen
   rcases KN with ⟨rfl,rfl⟩ | ⟨b',r,g,rfl,hz,ho,CI,abK,BA⟩
   ·
    have hold:es = []:=lE.1 h8b;have ZO:jH = []:=lE.1 h7b;subst hold ZO;have CI:E.φ f=none:=by
     rcases h.aF f 0 n Sj with ⟨_,HC⟩ | ⟨g2,_,HC,_⟩
     ·exact HC
     ·omega
    cases k with
    | zero=>
     have mh:new = []:=lE.1 h8;have MX:bK = []:=lE.1 h7;subst mh MX;refine ⟨.slice none 0 0,B,E,?_,?_,cF.afI n h Sj CI⟩
     ·simp only [iC,h4,cD]
      rw [h5];rfl
     ·simp only [VK]
      exact ⟨⟨rfl,fun i hi=>by omega,rfl⟩,[],.nil,none,0,rfl,ao _,.inl ⟨rfl,rfl⟩,rfl,.inl ⟨rfl,rfl⟩⟩
    | succ k=>
     have AU:=cF.grow (c:=bj ([]++bK)) (top:=0) (Lz:=0+(k+1)) (sz:=n) (g:=B.next) (f:=f) h Sj (.inl ⟨CI,rfl⟩) hlen (by omega) (by omega);refine ⟨.slice (some ⟨B.next,0,none⟩) (0+(k+1)) (0+(k+1)),B.grow B.next 0 (bj ([]++bK)) n,_,?_,fin _ B.next B.next AU.le (by simp [Env.pn,Env.dW]) (by simp [Env.pn]),AU⟩;simp only [bG] at uN qf;simp only [iC,h4,cD,bG,List.nil_append];rw [show Nat.ble (k+1) 0=false from rfl,ay,uN,qf,h5];rfl
   ·
    have hcap1:0 < cap:=by
     rcases Nat.eq_zero_or_pos cap with h0 | h0
     ·subst h0
      rcases h.aF f 0 n Sj with ⟨_,HC⟩ | ⟨g2,_,HC,_⟩
      ·rw [CI] at HC; simp at HC
      ·omega
     ·exact h0
    rcases Nat.eq_zero_or_pos k with oP | oP
    ·subst oP
     have mh:new = []:=lE.1 h8;have MX:bK = []:=lE.1 h7;subst mh MX;refine ⟨.slice (some ⟨b',0,none⟩) cap cap,B,E,?_,?_,cF.ai3 h Sj⟩
     ·simp only [iC,h4,cD]
      rw [show Nat.ble (cap+0) cap=true from Nat.ble_eq_true_of_le (ao _),ah,h5];rfl
     ·simp only [VK]
      exact ⟨AK.join DJ,aa9,by rw [og]; exact pQ,some ⟨b',0,none⟩,cap,rfl,ao _,Gm,rfl,.inr ⟨b',r,g,rfl,hz,ho,CI,abK,BA⟩⟩
    have amx:0 < cap+k/\0 < k:=⟨by omega,oP⟩
    have dC:=h.z b' r hz;rw [ho,abK] at dC;have Ol:r.aQ=n:=by
     rcases Gm with ⟨h0,_⟩ | ⟨b2,ai6,r2,e2,vO,he2,_⟩
     ·simp at h0
     ·simp at e2
      obtain ⟨rfl,rfl⟩:=e2;rw [hz] at vO;simp at vO;subst vO;rw [he2,hn]
    have amy:B.kill B.next (0+(0+cap * n)) (0+(0+cap * n)+(bj bK).length) (B.members g)=B:=by
     refine Vd fun y hy=>?_;rcases h.aF f cap n Sj with ⟨_,HC⟩ | ⟨g2,HC,_,ZP⟩
     ·rw [CI] at HC; simp at HC
     ·rw [CI] at HC
      simp at HC;subst HC;cases hy2:B.get y with
      | none=>rfl
      | some o=>cases o with
       | row iv e2 CU oq=>
        cases oq with
        | none=>rfl
        | some p=>
         obtain ⟨f2,k2⟩:=p;obtain ⟨rfl,alJ⟩:=ZP y hy iv e2 CU f2 k2 hy2;simp only [nm,meets,bG];have:Nat.blt (cap * n) iv.length=false:=by
          cases hq:Nat.blt (cap * n) iv.length with
          | false=>rfl
          | true=>rw [b7] at hq; omega
         rw [this,Bool.false_and]
       | _=>rfl
    have AU:=cF.grow (c:=bj (jH++bK)) (top:=cap) (Lz:=cap+k) (sz:=n) (g:=g) (f:=f) h Sj (.inr CI) hlen (by omega) amx.1;refine ⟨.slice (some ⟨B.next,0,none⟩) (cap+k) (cap+k),B.grow g 0 (bj (jH++bK)) n,_,?_,fin _ B.next g AU.le (by simp [Env.pn,Env.dW]) (by simp [Env.pn]),AU⟩;have hnb:Nat.ble (cap+k) cap=false:=by
     cases hq:Nat.ble (cap+k) cap with
     | false=>rfl
     | true=>have:=cM hq; omega
    have hex:nf B n cap (some ⟨b',0,none⟩)=true:=by simp only [nf,dC]
    simp only [iC,h4,cD,hnb,ay,uN,qf,hex,cY,ah,h5];simp only [sI] at h5b;have anJ:Nat.beq r.aQ n=true:=by rw [Ol]; simp
    simp only [Bq,bI,Option.isNone_none,ah,h5b,cD,dC,anJ,amy,<- tZ]
  ·exact hg.elim
 ·exact hg.elim
end Go.K
end
