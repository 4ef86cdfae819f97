/- Part of the proof of PathsWhole: the machine, shown to be the model's, and plain models. No conditions. -/
import Derived.Test.YtckbdndhmcoihaaGreatDq
set_option linter.unusedSimpArgs false
set_option linter.unusedVariables false
section
namespace Go.K
open Go Go.aA
variable {P:Program} {E:Env}
theorem dJ {α β:Type} : ∀ {s:Sem α} {f:α->Sem β} {a:α},cv P s=some a->cv P (s >>= f)=cv P (f a)
 | .pure x,f,a,h=>by simp [cv] at h; subst h; rfl
 | .program k,f,a,h=>by
  have:=dJ (s:=k P) (f:=f) (a:=a) (by simpa [cv] using h);exact this
 | .mark m k,f,a,h=>by
  have:=dJ (s:=k) (f:=f) (a:=a) (by simpa [cv] using h);exact this
 | .load ..,_,_,h | .store ..,_,_,h | .new ..,_,_,h | .shape ..,_,_,h | .freeze ..,_,_,h | .frozen ..,_,_,h | .getObj ..,_,_,h
 | .setObj ..,_,_,h | .choose ..,_,_,h | .sys ..,_,_,h | .halt ..,_,_,h=>by simp [cv] at h
theorem BT {α β:Type} {init stop:β} {B:α->β->Sem (ForInStep β)} {g:α->Bool} : ∀ {l:List α},(∀ x∈l,cv P (B x init)=some (if g x=true then .yield init else .done stop))->
  cv P (forIn l init B)=some (if l.all g=true then init else stop)
 | [],_=>rfl
 | x::l,h=>by
  have hx:=h x (by simp);rw [List.forIn_cons,dJ hx];cases hg:g x with
  | true=>
   simp only [if_true];rw [BT fun y hy=>h y (by simp [hy])];simp [hg]
  | false=>simp [hg]; rfl
theorem tH {t:TypeId} {d:TypeDesc} (h:P.underlying t=some d):cv P (underlying t)=some d:=by
 simp [underlying,program,Bind.bind,Sem.bind,cv,h,Pure.pure]
theorem OG {t:TypeId} {i:TypeInfo} (h:P.info? t=some i):cv P (typeInfo t)=some i:=by
 simp [typeInfo,program,Bind.bind,Sem.bind,cv,h,Pure.pure]
theorem bT {α:Type} (a:α):cv P (pure a)=some a:=rfl
theorem Hh {t:TypeId} {i:TypeInfo} (h:P.info? t=some i):cv P (sizeOf t)=some i.size:=by
 unfold sizeOf;rw [dJ (OG h)];rfl
theorem UB {n:Nat} {t:TypeId} {L:Lay} (h:lay P n t=some L):∃ d,P.underlying t=some d/\L.agg=Ta d/\(L.agg=false->L.ks.length=1):=by
 cases n with
 | zero=>simp [lay] at h
 | succ n=>
  simp only [lay] at h;split at h <;> rename_i hu
  ·simp at h; subst h; exact ⟨_,hu,rfl,fun _=>rfl⟩
  ·simp at h; subst h; exact ⟨_,hu,rfl,fun _=>rfl⟩
  ·simp at h; subst h; exact ⟨_,hu,rfl,fun _=>rfl⟩
  ·simp at h; subst h; exact ⟨_,hu,rfl,fun _=>rfl⟩
  ·obtain ⟨ks,_,rfl⟩:=aU.1 h; exact ⟨_,hu,rfl,fun h=>by simp at h⟩
  ·obtain ⟨ks,_,rfl⟩:=aU.1 h; exact ⟨_,hu,rfl,fun h=>by simp at h⟩
  ·rename_i d h1 h2 h3 h4 h5 h6
   simp at h; subst h;refine ⟨_,hu,?_,fun _=>rfl⟩;cases d <;> first | rfl | simp_all
  ·simp at h
def wK (agg:Bool) (l:List Value):Value:=cond agg (.agg ⟨l⟩) (l.headD undef)
theorem Lr {n:Nat} {t:TypeId} {L:Lay} {i:TypeInfo} {cs:Array Value} {off:Nat} (h:lay P n t=some L) (hi:P.info? t=some i) (hs:i.size=L.ks.length) (hl:off+L.ks.length<=cs.size) :
  cv P (part t cs off)=some (wK L.agg ((cs.toList.drop off).take L.ks.length)):=by
 obtain ⟨d,hu,ha,h1⟩:=UB h;have anh:cv P (isAgg t)=some (Ta d):=by
  unfold isAgg;rw [dJ (tH hu)];cases d <;> rfl
 unfold part;rw [dJ anh];cases hd:Ta d with
 | true=>
  rw [hd] at ha;simp only [if_true];rw [dJ (Hh hi)];simp only [bT,ha,wK,ah,hs];congr 2;apply Array.ext';simp
 | false=>
  rw [hd] at ha;have h1:=h1 ha;have aI:off < cs.size:=by omega
  simp only [CU,if_false];rw [Array.getElem?_eq_getElem aI];simp only [bT,ha,wK,ay,h1];congr 1;have:cs.toList.drop off=cs.toList[off]::cs.toList.drop (off+1):=List.drop_eq_getElem_cons (by simpa using aI);rw [this];simp
theorem OH:∀ {xs ys:List KV} {b:Bool},pZ xs ys=some b->xs.length=ys.length
 | [],[],_,_=>rfl
 | [],_::_,_,h=>by simp [pZ] at h
 | _::_,[],_,h=>by simp [pZ] at h
 | x::xs,y::ys,b,h=>by
  simp only [pZ] at h;split at h
  ·rename_i h2; simp [OH h2]
  ·simp at h
theorem vJ:∀ (n:Nat) {xs ys:List KV} {b:Bool},pZ xs ys=some b->∃ b1 b2,pZ (xs.take n) (ys.take n)=some b1/\pZ (xs.drop n) (ys.drop n)=some b2/\b=(b1&&b2)
 | 0,xs,ys,b,h=>⟨true,b,by simp [pZ],by simpa using h,by simp⟩
 | n+1,[],[],b,h=>by simp [pZ] at h; subst h; exact ⟨true,true,by simp [pZ],by simp [pZ],rfl⟩
 | n+1,[],_::_,b,h=>by simp [pZ] at h
 | n+1,_::_,[],b,h=>by simp [pZ] at h
 | n+1,x::xs,y::ys,b,h=>by
  simp only [pZ] at h;split at h
  ·rename_i a c h1 h2
   simp at h;obtain ⟨b1,b2,h3,h4,h5⟩:=vJ n h2;refine ⟨a&&b1,b2,by simp [pZ,h1,h3],by simpa using h4,?_⟩;rw [<- h,h5,Bool.and_assoc]
  ·simp at h
def yi (xs ys:List KV) (off n:Nat):Bool:=(pZ ((xs.drop off).take n) ((ys.drop off).take n)).getD false
theorem XR {xs ys:List KV} {b:Bool} (h:pZ xs ys=some b) (off n:Nat):pZ ((xs.drop off).take n) ((ys.drop off).take n)=some (yi xs ys off n):=by
 obtain ⟨_,_,_,h2,_⟩:=vJ off h;obtain ⟨b1,_,h3,_,_⟩:=vJ n h2;unfold yi;rw [h3]; rfl
theorem qO:∀ {a b:List CK} {xs:List KV},aq (a++b) xs=true->aq a (xs.take a.length)=true/\aq b (xs.drop a.length)=true
 | [],b,xs,h=>by simpa [aq] using h
 | c::a,b,[],h=>by simp [aq] at h
 | c::a,b,x::xs,h=>by
  simp only [List.cons_append,aq,aj] at h;obtain ⟨h1,h2⟩:=qO h.2;simp [aq,h.1,h1,h2]
theorem nU:∀ {a:List CK} {xs:List KV},aq a xs=true->xs.length=a.length
 | [],[],_=>rfl
 | [],_::_,h=>by simp [aq] at h
 | _::_,[],h=>by simp [aq] at h
 | c::a,x::xs,h=>by
  simp only [aq,aj] at h;simp [nU h.2]
theorem UC {lf:TypeId->Option Lay} {xs ys:List KV} {b:Bool} (he:pZ xs ys=some b):∀ {fs:List Field} {off:Nat} {ks:List CK},Iw lf fs off=some ks->aq ks (xs.drop off)=true->aq ks (ys.drop off)=true->off+ks.length=xs.length->
  (∀ f∈fs,∃ L,lf f.type=some L/\f.offset+L.ks.length<=xs.length/\aq L.ks ((xs.drop f.offset).take L.ks.length)=true/\aq L.ks ((ys.drop f.offset).take L.ks.length)=true)/\
  pZ (xs.drop off) (ys.drop off)=some (fs.all fun f=>yi xs ys f.offset (((lf f.type).map (·.ks.length)).getD 0))
 | [],off,ks,h,_,_,hl=>by
  simp [Iw] at h;subst h;have h1:xs.drop off = []:=by simp at hl; simp; omega
  have h2:ys.drop off = []:=by have:=OH he; simp at hl; simp; omega
  refine ⟨by simp,?_⟩;rw [h1,h2]; rfl
 | f::fs,off,ks,h,hk,pb,hl=>by
  simp only [Iw] at h;obtain ⟨Hg,h⟩:=Gr h;have Hg:=aE Hg;obtain ⟨L,h1,h⟩:=aO.1 h;obtain ⟨r,h2,rfl⟩:=aU.1 h;obtain ⟨k1,k2⟩:=qO hk;obtain ⟨Zn,Zo⟩:=qO pb;rw [List.drop_drop] at k2 Zo;simp only [fE] at hl;obtain ⟨h3,h4⟩:=UC he h2 k2 Zo (by omega);refine ⟨fun g hg=>?_,?_⟩
  ·rcases bd.1 hg with rfl | hg
   ·exact ⟨L,h1,by omega,by rw [Hg]; exact k1,by rw [Hg]; exact Zn⟩
   ·exact h3 g hg
  ·obtain ⟨_,_,_,h5,_⟩:=vJ off he
   obtain ⟨c1,c2,h6,h7,h8⟩:=vJ L.ks.length h5;rw [List.drop_drop,List.drop_drop] at h7;rw [h4] at h7;simp at h7;have h9:=XR he off L.ks.length;rw [h6] at h9;simp at h9;rw [h5,h8];simp only [List.all_cons,h1,Option.map_some,iD,Hg,<- h9];rw [<- h7]
theorem uE {α:Type} (l:List α):∀ n,(cM l n).length=n * l.length
 | 0=>by simp [cM]
 | n+1=>by rw [cM,fE,uE l n,Nat.succ_mul]; omega
theorem UD {xs ys:List KV} {l:List CK} : ∀ {len off:Nat} {b:Bool},pZ (xs.drop off) (ys.drop off)=some b->aq (cM l len) (xs.drop off)=true->aq (cM l len) (ys.drop off)=true->
  (∀ i,i < len->aq l ((xs.drop (off+i * l.length)).take l.length)=true/\aq l ((ys.drop (off+i * l.length)).take l.length)=true)/\
  pZ (xs.drop off) (ys.drop off)=some ((List.range' 0 len).all fun i=>yi xs ys (off+i * l.length) l.length)
 | 0,off,b,h,hk,pb=>by
  have h1:xs.drop off = []:=by have:=nU hk; simp only [cM,FL] at this; exact lD.1 this
  have h2:ys.drop off = []:=by have:=nU pb; simp only [cM,FL] at this; exact lD.1 this
  refine ⟨fun i hi=>by omega,?_⟩;rw [h1,h2]; rfl
 | len+1,off,b,h,hk,pb=>by
  obtain ⟨c1,c2,h1,h2,h3⟩:=vJ l.length h;rw [List.drop_drop,List.drop_drop] at h2;obtain ⟨k1,k2⟩:=qO (a:=l) (b:=cM l len) hk;obtain ⟨Zn,Zo⟩:=qO (a:=l) (b:=cM l len) pb;rw [List.drop_drop] at k2 Zo;obtain ⟨h5,h4⟩:=UD (len:=len) (off:=off+l.length) h2 k2 Zo;refine ⟨fun i hi=>?_,?_⟩
  ·cases i with
   | zero=>simpa using ⟨k1,Zn⟩
   | succ i=>
    have:=h5 i (by omega);rwa [show off+l.length+i * l.length=off+(i+1) * l.length by rw [Nat.succ_mul]; omega] at this
  rw [h2] at h4;simp at h4;have hw:yi xs ys off l.length=c1:=by unfold yi; rw [h1]; rfl
  rw [h,h3];rw [List.range'_succ];simp only [List.all_cons,Nat.zero_mul,p8,hw,bF];congr 2;rw [h4];have:List.range' 1 len=(List.range' 0 len).map (1 + ·):=by rw [List.map_add_range']
  rw [this,List.all_map];apply congrArg (fun f=>List.all (List.range' 0 len) f);funext i;simp only [Function.comp];congr 1;rw [Nat.add_mul]; omega
theorem IJ:∀ (n d:Nat) (t:TypeId) (L:Lay) (cx cy:List KV) (xs ys:List Value) (b:Bool),Av P n t=true->lay P n t=some L->n<=d->aK P E cx xs->aK P E cy ys->aq L.ks cx=true->aq L.ks cy=true->
  pZ cx cy=some b->cv P (Op.equalIn d t (wK L.agg xs) (wK L.agg ys))=some b
 | 0,_,_,_,_,_,_,_,_,h,_,_,_,_,_,_,_=>by simp [Av] at h
 | n+1,0,_,_,_,_,_,_,_,_,_,h,_,_,_,_,_=>by omega
 | n+1,d+1,t,L,cx,cy,xs,ys,b,h,hL,hd,hx,hy,Y4,hky,he=>by
  have hl:=nU Y4;have hly:=nU hky;have hlx' : xs.length=L.ks.length:=by rw [hx.length,hl]
  have hly' : ys.length=L.ks.length:=by rw [hy.length,hly]
  have afj:∀ s,Av P n s=true->∃ i l,P.info? s=some i/\lay P n s=some l/\i.size=l.ks.length:=by
   intro s hs;cases n with
   | zero=>simp [Av] at hs
   | succ n=>
    simp only [Av,aj] at hs;have h1:=hs.1;split at h1
    ·rename_i i l e1 e2
     exact ⟨i,l,e1,e2,aE h1⟩
    ·simp at h1
  have alh:∀ (s:TypeId) (l:Lay) (i:TypeInfo) (off:Nat),Av P n s=true->lay P n s=some l->P.info? s=some i->i.size=l.ks.length->off+l.ks.length<=cx.length->
    aq l.ks ((cx.drop off).take l.ks.length)=true->aq l.ks ((cy.drop off).take l.ks.length)=true->
    (do
     let u <- part s ⟨xs⟩ off
     let v <- part s ⟨ys⟩ off
     Op.equalIn d s u v:Sem Bool)=(do
     let u <- part s ⟨xs⟩ off
     let v <- part s ⟨ys⟩ off
     Op.equalIn d s u v)/\cv P (part s ⟨xs⟩ off)=some (wK l.agg ((xs.drop off).take l.ks.length))/\cv P (part s ⟨ys⟩ off)=some (wK l.agg ((ys.drop off).take l.ks.length))/\
    cv P (Op.equalIn d s (wK l.agg ((xs.drop off).take l.ks.length)) (wK l.agg ((ys.drop off).take l.ks.length)))=some (yi cx cy off l.ks.length):=by
   intro s l i off h1 h2 h3 h4 h5 h6 h7;refine ⟨rfl,?_,?_,?_⟩
   ·exact Lr h2 h3 h4 (by simp; omega)
   ·exact Lr h2 h3 h4 (by simp; omega)
   ·exact IJ n d s l _ _ _ _ _ h1 h2 (by omega) ((hx.drop off).take _) ((hy.drop off).take _) h6 h7 (XR he off _)
  simp only [Av,aj] at h;have h2:=h.2;obtain ⟨dd,hu,ha,h1⟩:=UB hL;rw [hu] at h2;unfold Op.equalIn;rw [dJ (tH hu)];simp only [lay,hu] at hL;have abm:∀ c,L.ks = [c]->∃ x y u v,cx = [x]/\cy = [y]/\xs = [u]/\ys = [v]/\VK P E x u/\VK P E y v/\eqK x y=some b/\kindOk c x=true/\kindOk c y=true:=by
   intro c hc;rw [hc] at hl hly Y4 hky
   match cx,cy,hl,hly with
   | [x],[y],_,_=>
    obtain ⟨u,rfl,h2⟩:=hx.dC;obtain ⟨v,rfl,h3⟩:=hy.dC;refine ⟨x,y,u,v,rfl,rfl,rfl,rfl,h2,h3,?_,by simpa [aq] using Y4,by simpa [aq] using hky⟩;simp only [pZ] at he;split at he
    ·rename_i a c h4 h5
     simp at h5;subst h5;simpa [h4] using he
    ·simp at he
  cases dd with
  | int k=>
   simp at hL;subst hL;obtain ⟨x,y,u,v,rfl,rfl,rfl,rfl,h3,h4,h5,h6,h7⟩:=abm _ rfl;cases x <;> simp [kindOk] at h6;cases y <;> simp [kindOk] at h7;subst h6 h7;have:=h3.bO; subst this;have:=h4.bO; subst this;simp [eqK] at h5;subst h5;simp [wK,bT]
  | bool=>
   simp at hL;subst hL;obtain ⟨x,y,u,v,rfl,rfl,rfl,rfl,h3,h4,h5,h6,h7⟩:=abm _ rfl;cases x <;> simp [kindOk] at h6;cases y <;> simp [kindOk] at h7;have:=h3.dq; subst this;have:=h4.dq; subst this;simp [eqK] at h5;subst h5;simp [wK,bT]
  | string=>
   simp at hL;subst hL;obtain ⟨x,y,u,v,rfl,rfl,rfl,rfl,h3,h4,h5,h6,h7⟩:=abm _ rfl;cases x <;> simp [kindOk] at h6;cases y <;> simp [kindOk] at h7;have:=h3.ph; subst this;have:=h4.ph; subst this;simp [eqK] at h5;subst h5;simp [wK,bT]
  | struct fs=>
   simp only [aU] at hL;obtain ⟨ks,oK,rfl⟩:=hL;simp only [aj,iA] at h2;obtain ⟨h3,h4⟩:=UC he oK (by simpa using Y4) (by simpa using hky) (by simpa using hl.symm);simp only [List.drop_zero] at h4;rw [he] at h4;simp only [aR] at h4;simp only [wK,ah];rw [dJ (a:=P) (by simp [program,cv])];simp only [h2.1,CU,if_false];rw [<- Array.forIn_toList];rw [dJ (BT (g:=fun f=>yi cx cy f.offset (((lay P n f.type).map (·.ks.length)).getD 0)) (stop:=(some false,())) fun f hf=>?_)]
   ·rw [h4]
    cases (fs.toList.all fun f=>yi cx cy f.offset (((lay P n f.type).map (·.ks.length)).getD 0)) <;> rfl
   ·have h5:=dS.1 h2.2 f hf
    simp only [aj,iA,beq_eq_false_iff_ne] at h5;rw [ax h5.1];obtain ⟨l,h6,h7,h8,h9⟩:=h3 f hf;obtain ⟨i,l',e1,e2,e3⟩:=afj _ h5.2;rw [h6] at e2;simp at e2;subst e2;obtain ⟨_,w1,w2,w3⟩:=alh _ l i f.offset h5.2 h6 e1 e3 h7 h8 h9;rw [dJ w1,dJ w2,dJ w3];simp only [h6,Option.map_some,iD];cases yi cx cy f.offset l.ks.length <;> rfl
  | array len e=>
   simp only [aU] at hL;obtain ⟨l,DM,rfl⟩:=hL;obtain ⟨h3,h4⟩:=UD (xs:=cx) (ys:=cy) (l:=l.ks) (len:=len) (off:=0) (by simpa using he) (by simpa using Y4) (by simpa using hky);simp only [List.drop_zero,bF] at h3 h4;rw [he] at h4;simp only [aR] at h4;obtain ⟨i,l',e1,e2,e3⟩:=afj _ h2;rw [DM] at e2;simp at e2;subst e2;simp only [wK,ah];rw [dJ (Hh e1)];rw [Std.Legacy.Range.forIn_eq_forIn_range'];rw [show List.range' [:len].start [:len].size [:len].step=List.range' 0 len from by simp [Std.Legacy.Range.size]];rw [dJ (BT (g:=fun i=>yi cx cy (i * l.ks.length) l.ks.length) (stop:=(some false,())) fun j hj=>?_)]
   ·rw [h4]
    cases ((List.range' 0 len).all fun i=>yi cx cy (i * l.ks.length) l.ks.length) <;> rfl
   ·have N8:j < len:=by simpa using hj
    obtain ⟨k1,k2⟩:=h3 j N8;have hle:j * l.ks.length+l.ks.length<=cx.length:=by
     rw [hl];simp only [uE];rw [<- Nat.succ_mul];exact Nat.mul_le_mul_right _ N8
    obtain ⟨_,w1,w2,w3⟩:=alh _ l i (j * l.ks.length) h2 DM e1 e3 hle k1 k2;rw [e3];rw [dJ w1,dJ w2,dJ w3];cases yi cx cy (j * l.ks.length) l.ks.length <;> rfl
  | _=>simp at h2
theorem IK:∀ {ks:List CK} {cs:List KV} {l:List Value},aq ks cs=true->aK P E cs l->(∀ t,CK.slice t ∉ ks)->nL l=true
 | [],[],l,_,h,_=>by rw [h.bz]; rfl
 | [],_::_,_,h,_,_=>by simp [aq] at h
 | _::_,[],_,h,_,_=>by simp [aq] at h
 | c::ks,v::cs,l,h,hv,hn=>by
  obtain ⟨y,ys,rfl,h1,h2⟩:=hv.cons_inv;simp only [aq,aj] at h;have:=IK h.2 h2 (fun t ht=>hn t (by simp [ht]));simp only [nL,this,yI];cases c with
  | int k=>cases v <;> simp [kindOk] at h; have:=h1.bO; subst this; rfl
  | bool=>cases v <;> simp [kindOk] at h; have:=h1.dq; subst this; rfl
  | str=>cases v <;> simp [kindOk] at h; have:=h1.ph; subst this; rfl
  | slice t=>exact absurd (by simp) (hn t)
  | other=>cases v <;> simp [kindOk] at h
theorem IL:∀ (n:Nat) (t:TypeId) (L:Lay),Av P n t=true->lay P n t=some L->∀ u,CK.slice u ∉ L.ks
 | 0,_,_,h,_,_=>by simp [Av] at h
 | n+1,t,L,h,hL,u=>by
  simp only [Av,aj] at h;have h2:=h.2;obtain ⟨dd,hu,_,_⟩:=UB hL;rw [hu] at h2;simp only [lay,hu] at hL;cases dd with
  | int k=>simp at hL; subst hL; simp
  | bool=>simp at hL; subst hL; simp
  | string=>simp at hL; subst hL; simp
  | struct fs=>
   simp only [aU] at hL;obtain ⟨ks,oK,rfl⟩:=hL;simp only [aj,dS] at h2;have key:∀ (l:List Field) (off:Nat) (ks:List CK),Iw (lay P n) l off=some ks->(∀ f∈l,Av P n f.type=true)->CK.slice u ∉ ks:=by
    intro l
    induction l with
    | nil=>intro off ks h _; simp [Iw] at h; subst h; simp
    | cons f l ih=>
     intro off ks h hf;simp only [Iw] at h;obtain ⟨_,h⟩:=Gr h;obtain ⟨L',h5,h⟩:=aO.1 h;obtain ⟨r,h6,rfl⟩:=aU.1 h;rw [eP];rintro (h7 | h7)
     ·exact IL n _ _ (hf f (by simp)) h5 u h7
     ·exact ih _ _ h6 (fun g hg=>hf g (by simp [hg])) h7
   exact key _ _ _ oK fun f hf=>(h2.2 f hf).2
  | array len e=>
   simp only [aU] at hL;obtain ⟨l,DM,rfl⟩:=hL;have:=IL n e l h2 DM u;have key:∀ m,CK.slice u ∉ cM l.ks m:=by
    intro m
    induction m with
    | zero=>simp [cM]
    | succ m ih=>simp only [cM,eP,not_or]; exact ⟨this,ih⟩
   exact key _
  | _=>simp at h2
theorem adC {t:TypeId} (h:Av P 12 t=true):lay P 12 t=some (aH P t):=by
 simp only [Av,aj] at h;have h1:=h.1;unfold aH;split at h1
 ·rename_i i l e1 e2; rw [e2]; rfl
 ·simp at h1
theorem UE {t:TypeId} {x y:KV} {b:Bool} {lit:Bool} {u v:Value} (hx:VK P E x u) (hy:VK P E y v) (h:ae6 P t x y=some b):kS P t lit u v=some b:=by
 unfold ae6 at h;split at h
 ·rename_i xs ys
  obtain ⟨hc,h⟩:=Gr h;simp only [aj,iA] at hc;obtain ⟨⟨⟨⟨ha,h1⟩,h2⟩,h3⟩,h4⟩:=hc;obtain ⟨l,rfl,hl⟩:=hx.ju;obtain ⟨m,rfl,hm⟩:=hy.ju;have hL:=adC h1;have hns:=IL 12 t _ h1 hL;have hfx:flat (.agg ⟨l⟩)=true:=IK h3 hl hns;have hfy:flat (.agg ⟨m⟩)=true:=IK h4 hm hns;have hs:=IJ 12 Op.maxDepth t (aH P t) xs ys l m b h1 hL (by unfold Op.maxDepth; omega) hl hm h3 h4 h;rw [ha] at hs;have hs:cv P (Op.equal t (.agg ⟨l⟩) (.agg ⟨m⟩))=some b:=hs;unfold kS;simp only [gp,uv,h2,Bool.not_false,cY,ah];unfold TB;split <;> simp_all
 ·rename_i a c
  split at h
  ·rename_i hu
   simp at h;subst h;have:=hx.dq; subst this;have:=hy.dq; subst this;have:cv P (Op.equal t (.bool a) (.bool c))=some (a==c):=by
    unfold Op.equal Op.maxDepth Op.equalIn;rw [dJ (tH hu)];rfl
   unfold kS;simp only [gp,uv,cY,ah];unfold TB;split <;> simp_all [flat]
  ·simp at h
 ·split at h
  ·rename_i e hu
   simp at h;subst h;have:=hx.mv; subst this;have:=hy.mv; subst this;simp [kS,gp,uv,TB,hu]
  ·simp at h
 ·rename_i T m n es acc
  split at h
  ·rename_i e hu
   cases hn:Nat.beq n 0 with
   | true=>rw [hn] at h; simp at h
   | false=>
    rw [hn] at h;simp at h;subst h;have:=hy.mv; subst this;obtain ⟨_,aP,_,a,cap,rfl,_,hb,_⟩:=hx.jC;rcases hb with ⟨_,h0⟩ | ⟨b,off,r,rfl,_⟩
    ·subst h0; simp at hn
    ·simp [kS,gp,uv,TB,hu]
  ·simp at h
 ·rename_i T m n es acc
  split at h
  ·rename_i e hu
   cases hn:Nat.beq n 0 with
   | true=>rw [hn] at h; simp at h
   | false=>
    rw [hn] at h;simp at h;subst h;have:=hx.mv; subst this;obtain ⟨_,aP,_,a,cap,rfl,_,hb,_⟩:=hy.jC;rcases hb with ⟨_,h0⟩ | ⟨b,off,r,rfl,_⟩
    ·subst h0; simp at hn
    ·simp [kS,gp,uv,TB,hu]
  ·simp at h
 ·split at h
  ·rename_i e hu
   simp at h;subst h;have:=hx.Kc; subst this;have:=hy.Kc; subst this;simp [kS,gp,uv,TB,hu]
  ·simp at h
 ·split at h
  ·rename_i e hu
   simp at h;subst h;have:=hy.Kc; subst this;obtain ⟨x,_,rfl⟩:=hx.gh;simp [kS,gp,uv,TB,hu]
  ·simp at h
 ·split at h
  ·rename_i e hu
   simp at h;subst h;have:=hx.Kc; subst this;obtain ⟨x,_,rfl⟩:=hy.gh;simp [kS,gp,uv,TB,hu]
  ·simp at h
 ·simp at h
theorem akt {op:BinOp} {t:TypeId} {lit:Bool} : r7 P (aiz P op t) (nI P op t lit):=by
 intro E vs us w h hg;unfold aiz at hg;split at hg
 ·rename_i j a k b
  obtain ⟨x,y,rfl,h1,h2⟩:=h.ja;have:=h1.bO; subst this;have:=h2.bO; subst this;cases hs:aa8 op with
  | true=>
   rw [hs,ah] at hg;cases op <;> simp [aa8] at hs
   ·obtain ⟨hc,rfl⟩:=az.iJ hg
    simp only [iA,decide_eq_false_iff_not] at hc;exact ⟨_,by simp [nI,binOp,Op.shift,hc,bT],.mkInt⟩
   ·obtain ⟨hc,rfl⟩:=az.iJ hg
    simp only [iA,decide_eq_false_iff_not] at hc;exact ⟨_,by simp [nI,binOp,Op.shift,hc,bT],.mkInt⟩
  | false=>
   rw [hs,ay] at hg;obtain ⟨SR,hz⟩:=hg.cond;clear hg;simp only [jR] at SR;subst SR;cases op with
   | shl=>simp [aa8] at hs
   | shr=>simp [aa8] at hs
   | quo=>
    obtain ⟨hc,rfl⟩:=az.iJ hz;simp only [iA,decide_eq_false_iff_not] at hc;exact ⟨_,by simp [nI,binOp,Op.intDiv,hc,bT],.mkInt⟩
   | rem=>
    obtain ⟨hc,rfl⟩:=az.iJ hz;simp only [iA,decide_eq_false_iff_not] at hc;exact ⟨_,by simp [nI,binOp,Op.intDiv,hc,bT],.mkInt⟩
   | add=>have hz:KV.int _ _=w:=hz; subst hz; exact ⟨_,by simp [nI,binOp,Op.intArith,bT],.mkInt⟩
   | sub=>have hz:KV.int _ _=w:=hz; subst hz; exact ⟨_,by simp [nI,binOp,Op.intArith,bT],.mkInt⟩
   | mul=>have hz:KV.int _ _=w:=hz; subst hz; exact ⟨_,by simp [nI,binOp,Op.intArith,bT],.mkInt⟩
   | and=>have hz:KV.int _ _=w:=hz; subst hz; exact ⟨_,by simp [nI,binOp,Op.intBits,bT],.mkInt⟩
   | or=>have hz:KV.int _ _=w:=hz; subst hz; exact ⟨_,by simp [nI,binOp,Op.intBits,bT],.mkInt⟩
   | xor=>have hz:KV.int _ _=w:=hz; subst hz; exact ⟨_,by simp [nI,binOp,Op.intBits,bT],.mkInt⟩
   | andNot=>have hz:KV.int _ _=w:=hz; subst hz; exact ⟨_,by simp [nI,binOp,Op.intBits,bT],.mkInt⟩
   | eql=>have hz:KV.bool _=w:=hz; subst hz; exact ⟨_,by simp [nI,binOp,Op.intCmp,bT],.nE⟩
   | neq=>have hz:KV.bool _=w:=hz; subst hz; exact ⟨_,by simp [nI,binOp,Op.intCmp,bT],.nE⟩
   | lss=>have hz:KV.bool _=w:=hz; subst hz; exact ⟨_,by simp [nI,binOp,Op.intCmp,bT],.nE⟩
   | leq=>have hz:KV.bool _=w:=hz; subst hz; exact ⟨_,by simp [nI,binOp,Op.intCmp,bT],.nE⟩
   | gtr=>have hz:KV.bool _=w:=hz; subst hz; exact ⟨_,by simp [nI,binOp,Op.intCmp,bT],.nE⟩
   | geq=>have hz:KV.bool _=w:=hz; subst hz; exact ⟨_,by simp [nI,binOp,Op.intCmp,bT],.nE⟩
 ·rename_i a b
  obtain ⟨x,y,rfl,h1,h2⟩:=h.ja;have:=h1.ph; subst this;have:=h2.ph; subst this;split at hg
  ·have hg:KV.bool _=w:=hg; subst hg; exact ⟨_,by simp [nI,binOp,Op.stringOp,bT],.nE⟩
  ·have hg:KV.bool _=w:=hg; subst hg; exact ⟨_,by simp [nI,binOp,Op.stringOp,bT],.nE⟩
  ·have hg:KV.bool _=w:=hg; subst hg; exact ⟨_,by simp [nI,binOp,Op.stringOp,bT],.nE⟩
  ·obtain ⟨hc,rfl⟩:=az.iJ hg
   have hc:=cL hc;have hn : ¬ (((a.size+b.size:Nat):Int) > IntKind.i64.max):=by
    have:IntKind.i64.max=9223372036854775807:=by decide
    rw [this]; omega
   refine ⟨.string (a++b),?_,.mkStr⟩;simp only [nI,binOp,Op.stringOp];rw [ae hn];rfl
  ·exact hg.elim
 ·rename_i T m n es acc
  obtain ⟨u,v,rfl,h1,h2⟩:=h.ja;have key:ae7 P t=true->Nat.blt 0 n=true->kS P t lit u v=some false:=by
   intro hs hn;refine UE h1 h2 ?_;unfold ae6;unfold ae7 at hs;have hb:Nat.beq n 0=false:=by
    cases n with
    | zero=>simp at hn
    | succ n=>rfl
   split at hs
   ·simp only [hb,ay]
   ·simp at hs
  split at hg
  ·obtain ⟨hs,hg⟩:=hg.cond
   obtain ⟨hc,rfl⟩:=az.iJ hg;refine ⟨.bool false,?_,.nE⟩;have:=key hs hc;unfold nI;split
   ·rename_i e; simp at e; obtain ⟨rfl,rfl⟩:=e; simp [kS,gp] at this
   ·rename_i e; simp at e; obtain ⟨rfl,rfl⟩:=e; simp [kS,gp] at this
   ·rename_i e; simp at e; obtain ⟨rfl,rfl⟩:=e; simp [this]
   ·rename_i e; exact absurd rfl (e _ _)
  ·obtain ⟨hs,hg⟩:=hg.cond
   obtain ⟨hc,rfl⟩:=az.iJ hg;refine ⟨.bool true,?_,.nE⟩;have:=key hs hc;unfold nI;split
   ·rename_i e; simp at e; obtain ⟨rfl,rfl⟩:=e; simp [kS,gp] at this
   ·rename_i e; simp at e; obtain ⟨rfl,rfl⟩:=e; simp [kS,gp] at this
   ·rename_i e; simp at e; obtain ⟨rfl,rfl⟩:=e; simp [this]
   ·rename_i e; exact absurd rfl (e _ _)
  ·exact hg.elim
 ·rename_i x y Qd T7
  obtain ⟨u,v,rfl,h1,h2⟩:=h.ja;split at hg
  ·rename_i b he
   have hg:KV.bool b=w:=hg;subst hg;have:=UE (lit:=lit) h1 h2 he;refine ⟨.bool b,?_,.nE⟩;unfold nI;split
   ·rename_i e; simp at e; obtain ⟨rfl,rfl⟩:=e; simp [kS,gp] at this
   ·rename_i e; simp at e; obtain ⟨rfl,rfl⟩:=e; simp [kS,gp] at this
   ·rename_i e; simp at e; obtain ⟨rfl,rfl⟩:=e; simp [this]
   ·rename_i e; exact absurd rfl (e _ _)
  ·rename_i b he
   have hg:KV.bool (!b)=w:=hg;subst hg;have:=UE (lit:=lit) h1 h2 he;refine ⟨.bool !b,?_,.nE⟩;unfold nI;split
   ·rename_i e; simp at e; obtain ⟨rfl,rfl⟩:=e; simp [kS,gp] at this
   ·rename_i e; simp at e; obtain ⟨rfl,rfl⟩:=e; simp [kS,gp] at this
   ·rename_i e; simp at e; obtain ⟨rfl,rfl⟩:=e; simp [this]
   ·rename_i e; exact absurd rfl (e _ _)
  ·exact hg.elim
 ·exact hg.elim
theorem amb {op:UnOp} : r7 P (kUn op) (fUn P op):=by
 intro E vs us w h hg;unfold kUn at hg;split at hg
 ·rename_i b
  obtain ⟨y,rfl,h1⟩:=h.dC;have:=h1.dq; subst this;split at hg
  ·have hg:KV.bool (!b)=w:=hg
   subst hg;exact ⟨_,by simp [fUn,Op.unary,bT],.nE⟩
  ·exact hg.elim
 ·rename_i k n
  obtain ⟨y,rfl,h1⟩:=h.dC;have:=h1.bO; subst this;split at hg
  ·have hg:KV.int _ _=w:=hg
   subst hg;exact ⟨.int k (k.wrap (0 - n)),by simp [fUn,Op.unary,Op.intArith,bT],.mkInt⟩
  ·have hg:KV.int _ _=w:=hg
   subst hg;exact ⟨_,by simp [fUn,Op.unary,Op.intBits,bT],.mkInt⟩
  ·exact hg.elim
 ·exact hg.elim
theorem UF {mx:Bool} : r7 P (EZ mx) (FT P fun vs=>cond mx (Builtin.max_ #[] 0 ⟨vs⟩) (Builtin.min_ #[] 0 ⟨vs⟩)):=by
 intro E vs us w h hg;unfold EZ at hg;split at hg
 ·rename_i j a k b
  obtain ⟨x,y,rfl,h1,h2⟩:=h.ja;have:=h1.bO; subst this;have:=h2.bO; subst this;obtain ⟨SR,hz⟩:=hg.cond;clear hg;simp only [jR] at SR;subst SR;have hz:KV.int _ _=w:=hz;subst hz;refine ⟨_,?_,.mkInt⟩;cases mx
  ·simp [FT,nL,flat,Builtin.min_,Builtin.min2,bT]
   omega
  ·simp [FT,nL,flat,Builtin.max_,Builtin.max2,bT]
   omega
 ·rename_i j a k b l c
  obtain ⟨x,y,z,rfl,h1,h2,h3⟩:=h.Mv;have:=h1.bO; subst this;have:=h2.bO; subst this;have:=h3.bO; subst this;obtain ⟨SR,hz⟩:=hg.cond;clear hg;simp only [aj,jR] at SR;obtain ⟨rfl,rfl⟩:=SR;have hz:KV.int _ _=w:=hz;subst hz;refine ⟨_,?_,.mkInt⟩;cases mx
  ·show some (Value.int j (if c < (if b < a then b else a) then c else (if b < a then b else a)))=some (Value.int j (min (min a b) c))
   congr 2;split <;> split at * <;> omega
  ·show some (Value.int j (if c > (if b > a then b else a) then c else (if b > a then b else a)))=some (Value.int j (max (max a b) c))
   congr 2;split <;> split at * <;> omega
 ·exact hg.elim
end Go.K
end
section
namespace Go.K
open Go Go.aA
variable {P:Program} {E:Env}
theorem AR.of {E' : Env} {A A' : ai} {x:Nat} (oM:∀ b,E'.α b=E.α b) (ha:∀ b v,A'.get b=some (.arr v)->A.get b=some (.arr v)) (h:AR A' E' x):AR A E x:=by
 obtain ⟨b,v,L,N,h1,h2⟩:=h;exact ⟨b,v,L,N,ha _ _ h1,by rw [<- oM]; exact h2⟩
theorem AF.of {E' : Env} {A A' : ai} {B B' : St} {g:Nat} (oM:∀ b,E'.α b=E.α b) (ha:∀ b v,A'.get b=some (.arr v)->A.get b=some (.arr v)) (hB:∀ x,AR A E x->B'.get x=B.get x) (h:AF A' E' B' g):AF A E B g:=by
 obtain ⟨b,v,x,L,N,cs,e,own,k,h1,h2,h3⟩:=h;have HD:E.α b=some (x,L,N):=by rw [<- oM]; exact h2
 exact ⟨b,v,x,L,N,cs,e,own,k,ha _ _ h1,HD,by rw [<- hB x ⟨b,v,L,N,ha _ _ h1,HD⟩]; exact h3⟩
theorem AT.of {E' : Env} {A A' : ai} {B B' : St} {y:Nat} (oM:∀ b,E'.α b=E.α b) (ha:∀ b v,A'.get b=some (.arr v)->A.get b=some (.arr v)) (hB:∀ x,AR A E x->B'.get x=B.get x) (hm:∀ g,AF A E B g->B'.members g=B.members g) (h:AT A' E' B' y):AT A E B y:=by
 rcases h with h | ⟨g,h1,h2⟩
 ·exact .inl (h.of oM ha)
 ·have:=h1.of oM ha hB
  exact .inr ⟨g,this,by rw [<- hm g this]; exact h2⟩
theorem ll {B B' : St} (h:∀ x,x < B.next->B'.get x=B.get x):∀ y,y < B.next->∀ cs e own aZ,B'.get y=some (.row cs e own aZ)->∃ mG,B.get y=some (.row mG e own aZ)/\mG.length=cs.length:=
 fun y hy cs _ _ _ q=>⟨cs,by rw [<- h y hy]; exact q,rfl⟩
theorem abn {B:St} {o:aY} : ∀ x,x < B.next->(B.new o).get x=B.get x:=fun x hx=>by rw [St.cV,ae (by omega)]
theorem Gq.di {E' : Env} {A A' : ai} {B B' : St} (h:Gq P E A B) (hle:E.le E') (oM:∀ b,E'.α b=E.α b) (ha:∀ b v,A'.get b=some (.arr v)->A.get b=some (.arr v)) (hf:∀ b v,A'.get b=some (.iI v)->A.get b=some (.iI v))
  (hn:A.next<=A'.next) (DN:B.next<=B'.next) (hB:∀ x,AR A E x->B'.get x=B.get x) (hz:∀ b r,E'.z b=some r->E.z b=some r\/B.next<=b) (Mz:∀ b x,E'.κ b=some x->E.κ b=some x\/(A.next<=b/\B.next<=x))
  (CQ:∀ b g,E'.φ b=some g->(∃ c,E.φ c=some g)\/B.next<=g) (hm:∀ g,AF A E B g->B'.members g=B.members g) (mem:∀ g x,x∈B.members g->x < B.next):Gq P E' A' B' where
 arr b v hb:=(h.arr b v (ha _ _ hb)).mono hle (oM b) fun x L N e=>hB x ⟨b,v,L,N,ha _ _ hb,e⟩
 iI b v hb:=(h.iI b v (hf _ _ hb)).mono hle (oM b)
 z x hx:=by
  have hx':=AR.of oM ha hx;obtain ⟨b,v,L,N,h1,h2⟩:=hx';have aI:=h.eD _ _ _ _ h2;obtain ⟨h3,h4⟩:=h.z x (AR.of oM ha hx);refine ⟨?_,fun c e=>?_⟩
  ·cases hz' : E'.z x with
   | none=>rfl
   | some r=>
    rcases hz x r hz' with e | e
    ·rw [h3] at e; simp at e
    ·omega
  ·rcases Mz c x e with e | ⟨_,e⟩
   ·exact h4 c e
   ·omega
 inj b c v u x L N L' N' h1 h2 h3 h4:=h.inj b c v u x L N L' N' (ha _ _ h1) (ha _ _ h2) (by rw [<- oM]; exact h3) (by rw [<- oM]; exact h4)
 rC b c v u x y L N L' N' cs e own g k b5 e' nJ k' h1 h2 h3 h4 h5 h6:=by
  rw [oM] at h3 h4;rw [hB x ⟨b,v,L,N,ha _ _ h1,h3⟩] at h5;rw [hB y ⟨c,u,L',N',ha _ _ h2,h4⟩] at h6;exact h.rC b c v u x y L N L' N' cs e own g k b5 e' nJ k' (ha _ _ h1) (ha _ _ h2) h3 h4 h5 h6
 WT b x e:=by
  rw [oM];rcases Mz b x e with e | ⟨e,_⟩
  ·exact h.WT b x e
  ·cases hb:E.α b with
   | none=>rfl
   | some p=>have:=h.fZ b p hb; omega
 nk b v hb:=by
  obtain ⟨h1,h2⟩:=h.nk b v (ha _ _ hb);refine ⟨dG h1 hn,?_⟩;cases e:E'.κ b with
  | none=>rfl
  | some x=>
   rcases Mz b x e with e | ⟨e,_⟩
   ·rw [h2] at e; simp at e
   ·omega
 fZ b p e:=by rw [oM] at e; have:=h.fZ b p e; omega
 eD b x L N e:=by rw [oM] at e; have:=h.eD b x L N e; omega
 p7 b v x L N cs e own g k h1 h2 h3:=by
  rw [oM] at h2;have hA:=ha _ _ h1;rw [hB x ⟨b,v,L,N,hA,h2⟩] at h3;obtain ⟨h4,h5,h6⟩:=h.p7 b v x L N cs e own g k hA h2 h3;refine ⟨by omega,fun f e=>?_,fun y hy bA=>?_⟩
  ·rcases CQ f g e with ⟨c,e⟩ | e
   ·exact h5 c e
   ·omega
  ·rw [hm g ⟨b,v,x,L,N,cs,_,own,k,hA,h2,h3⟩] at hy
   have aI:=mem g y hy;obtain ⟨h7,h8,h9⟩:=h6 y hy bA;refine ⟨?_,fun q=>h8 (AR.of oM ha q),fun c e=>?_⟩
   ·cases hz' : E'.z y with
    | none=>rfl
    | some r=>
     rcases hz y r hz' with e | e
     ·rw [h7] at e; simp at e
     ·omega
   ·rcases Mz c y e with e | ⟨_,e⟩
    ·exact h9 c e
    ·omega
theorem du.Df {A:ai} {B:St} (h:du P E A B) {x:Nat} (q:AR A E x):x < B.next:=by
 obtain ⟨b,v,L,N,_,h2⟩:=q;exact h.ar.eD _ _ _ _ h2
structure cE (P:Program) (E:Env) (A:ai) (B:St) (E' : Env) (A' : ai) (B' : St):Prop where
 dI:du P E' A' B'
 le:E.le E'
 next:A.next<=A'.next
 di:∀ x,x < B.next->(∀ b,E.κ b≠some x)->¬ AT A E B x->B'.get x=B.get x
 new:∀ b x,E'.κ b=some x->E.κ b=some x\/A.next<=b/\B.next<=x
 qN:∀ b r,E'.z b=some r->E.z b=some r\/AR A E b\/B.next<=b
 pj:∀ b g,E'.φ b=some g->E.φ b=some g\/B.next<=g
 nw:∀ g,g < B.next->(∀ b,E.φ b≠some g)->¬ AF A E B g->B'.members g=B.members g
 jT:∀ x,AR A' E' x->AR A E x\/B.next<=x
 j9:∀ g,AF A' E' B' g->AF A E B g\/B.next<=g
 rI:∀ g y,y∈B'.members g->y∈B.members g\/B.next<=y
 lU:∀ y,AT A' E' B' y->AT A E B y\/B.next<=y
 rows:∀ y,y < B.next->∀ cs e own aZ,B'.get y=some (.row cs e own aZ)->∃ mG,B.get y=some (.row mG e own aZ)/\mG.length=cs.length
theorem cE.ev {base:Nat} {E' : Env} {A A' : ai} {B B' : St} {ρ ak:Ren} {w w' : World} (h:cE P E A B E' A' B') (g:cq base ρ B w ak B' w'):Ev P base E A B ρ w E' A' B' ak w':=
 ⟨h.dI,g,h.le,h.next,h.di,h.new,h.qN,fun b g e=>(h.pj b g e).imp (fun e=>⟨b,e⟩) id,h.nw,h.jT,h.j9,h.rI,h.lU,h.rows⟩
def BU (P:Program) (o:Oper):oV->Prop
 | .pure f xs=>∀ (E:Env) (ρ:Ren) (ev:Operand->KV) (ck:Operand->Value) (v:KV),(∀ x∈xs,VC P E ρ (ev x) (ck x))->az (f (xs.map ev)) v->∃ v',VC P E ρ v v'/\∀ w,(execOp ck o).run P w = .ok (.value v') w
 | .read f xs=>∀ (E:Env) (A:ai) (B:St) (ρ:Ren) (base:Nat) (w:World) (ev:Operand->KV) (ck:Operand->Value) (v:KV),KJ P E A B ρ base w->(∀ x∈xs,VC P E ρ (ev x) (ck x))->az (f A (xs.map ev)) v->
   ∃ v',VC P E ρ v v'/\(execOp ck o).run P w = .ok (.value v') w
 | .look f xs=>∀ (E:Env) (A:ai) (B:St) (ρ:Ren) (base:Nat) (w:World) (ev:Operand->KV) (ck:Operand->Value) (v:KV),KJ P E A B ρ base w->(∀ x∈xs,VC P E ρ (ev x) (ck x))->az (f (xs.map ev)) v->
   ∃ E' B' ak v' nx w',(execOp ck o).run P w = .ok nx w'/\adj v' nx/\VC P E' ak v v'/\Ev P base E A B ρ w E' A B' ak w'
 | .act f xs=>∀ (E:Env) (A A' : ai) (B:St) (ρ:Ren) (base:Nat) (w:World) (ev:Operand->KV) (ck:Operand->Value) (v:KV),KJ P E A B ρ base w->(∀ x∈xs,VC P E ρ (ev x) (ck x))->az (f A (xs.map ev)) (v,A')->
   ∃ E' B' ak v' nx w',(execOp ck o).run P w = .ok nx w'/\adj v' nx/\VC P E' ak v v'/\Ev P base E A B ρ w E' A' B' ak w'
 | _=>True
theorem Zp {ρ:Ren} {ev:Operand->KV} {ck:Operand->Value} {xs:List Operand} (h:∀ x∈xs,VC P E ρ (ev x) (ck x)) :
  ∃ em:Operand->Value,aK P E (xs.map ev) (xs.map em)/\qK ρ em ck xs:=by
 classical
 refine ⟨fun x=>if hx:VC P E ρ (ev x) (ck x) then hx.choose else undef,?_,?_⟩
 ·induction xs with
  | nil=>exact .nil
  | cons x xs ih=>
   refine .cons ?_ (ih fun y hy=>h y (by simp [hy]));have hx:=h x (by simp);simp only [dif_pos hx];exact hx.choose_spec.1
 ·intro x hx
  have hx:=h x hx;simp only [dif_pos hx];exact hx.choose_spec.2
theorem lift_pure {o:Oper} {f:FP} {g:List Value->Option Value} {xs:List Operand} (hc:compile P o.op = .pure g xs) (hs:r7 P f g):BU P o (.pure f xs):=by
 intro E ρ ev ck v hv hg;obtain ⟨em,h1,h2⟩:=Zp hv;obtain ⟨u,h3,h4⟩:=hs E _ _ v h1 hg;have bL:=nf P o;rw [hc] at bL;obtain ⟨v',h5,h6⟩:=bL ρ em ck u h2 h3;exact ⟨v',⟨u,h4,h5⟩,h6⟩
def abo (P:Program) (f:FR) (g:St->List Value->Option Value):Prop:=
 ∀ (E:Env) (A:ai) (B:St) (vs:List KV) (us:List Value) (v:KV),du P E A B->aK P E vs us->az (f A vs) v->∃ u,g B us=some u/\VK P E v u
theorem Gs {o:Oper} {f:FR} {g:St->List Value->Option Value} {xs:List Operand} (hc:compile P o.op = .read g xs) (hs:abo P f g):BU P o (.read f xs):=by
 intro E A B ρ base w ev ck v hj hv hg;obtain ⟨em,h1,h2⟩:=Zp hv;obtain ⟨u,h3,h4⟩:=hs E A B _ _ v hj.k h1 hg;have bL:=nf P o;rw [hc] at bL;obtain ⟨v',h5,h6⟩:=bL ρ B base w em ck u hj.s.rel h2 h3;exact ⟨v',⟨u,h4,h5⟩,h6⟩
def afk (P:Program) (f:FA) (g:St->List Value->Option (Value×St)):Prop:=
 ∀ (E:Env) (A A' : ai) (B:St) (vs:List KV) (us:List Value) (v:KV),du P E A B->aK P E vs us->az (f A vs) (v,A')->∃ u B' E',g B us=some (u,B')/\VK P E' v u/\cE P E A B E' A' B'
theorem QG {o:Oper} {f:FA} {g:St->List Value->Option (Value×St)} {xs:List Operand} (hc:compile P o.op = .act g xs) (hs:afk P f g):BU P o (.act f xs):=by
 intro E A A' B ρ base w ev ck v hj hv hg;obtain ⟨em,h1,h2⟩:=Zp hv;obtain ⟨u,B',E',h3,h4,h5⟩:=hs E A A' B _ _ v hj.k h1 hg;have bL:=nf P o;rw [hc] at bL;obtain ⟨ak,v',nx,w',h6,h7,h8,h9⟩:=bL ρ B B' base w em ck u hj.s h2 h3;exact ⟨E',B',ak,v',nx,w',h6,h7,⟨u,h4,h8⟩,h5.ev h9⟩
def ali (P:Program) (f:FP) (g:St->List Value->Option (Value×St)):Prop:=
 ∀ (E:Env) (A:ai) (B:St) (vs:List KV) (us:List Value) (v:KV),du P E A B->aK P E vs us->az (f vs) v->∃ u B' E',g B us=some (u,B')/\VK P E' v u/\cE P E A B E' A B'
theorem adD {o:Oper} {f:FP} {g:St->List Value->Option (Value×St)} {xs:List Operand} (hc:compile P o.op = .act g xs) (hs:ali P f g):BU P o (.look f xs):=by
 intro E A B ρ base w ev ck v hj hv hg;obtain ⟨em,h1,h2⟩:=Zp hv;obtain ⟨u,B',E',h3,h4,h5⟩:=hs E A B _ _ v hj.k h1 hg;have bL:=nf P o;rw [hc] at bL;obtain ⟨ak,v',nx,w',h6,h7,h8,h9⟩:=bL ρ B B' base w em ck u hj.s h2 h3;exact ⟨E',B',ak,v',nx,w',h6,h7,⟨u,h4,h8⟩,h5.ev h9⟩
theorem XS {o:Oper} {g:List Value->Option (aY×(Nat->Value))} {xs:List Operand} (hc:compile P o.op = .make g xs) {ρ:Ren} {B:St} {base:Nat} {w:World} {em ck:Operand->Value} {obj:aY} {mk:Nat->Value} (hs:iv ρ B base w)
  (h2:qK ρ em ck xs) (h3:g (xs.map em)=some (obj,mk)):∃ ak v' w',(execOp ck o).run P w = .ok (.value v') w'/\VR ak (mk B.next) v'/\cq base ρ B w ak (B.new obj) w':=by
 have bL:=nf P o;rw [hc] at bL;obtain ⟨c,mk',h4,h5,h6⟩:=bL ρ em ck obj mk h2 h3;exact ⟨_,_,_,h5 w,h6 _ _ _ (Ren.dj _ _ _),h4.gG hs⟩
def UG (P:Program) (f:FA) (g:List Value->Option (aY×(Nat->Value))):Prop:=
 ∀ (E:Env) (A A' : ai) (B:St) (vs:List KV) (us:List Value) (v:KV),du P E A B->aK P E vs us->az (f A vs) (v,A')->∃ obj mk E',g us=some (obj,mk)/\VK P E' v (mk B.next)/\cE P E A B E' A' (B.new obj)
theorem yj {o:Oper} {f:FA} {g:List Value->Option (aY×(Nat->Value))} {xs:List Operand} (hc:compile P o.op = .make g xs) (hs:UG P f g):BU P o (.act f xs):=by
 intro E A A' B ρ base w ev ck v hj hv hg;obtain ⟨em,h1,h2⟩:=Zp hv;obtain ⟨obj,mk,E',h3,h4,h5⟩:=hs E A A' B _ _ v hj.k h1 hg;obtain ⟨ak,v',w',h6,h7,h8⟩:=XS hc hj.s h2 h3;exact ⟨E',B.new obj,ak,v',_,w',h6,rfl,⟨_,h4,h7⟩,h5.ev h8⟩
def aiF (P:Program) (f:FP) (g:List Value->Option (aY×(Nat->Value))):Prop:=
 ∀ (E:Env) (A:ai) (B:St) (vs:List KV) (us:List Value) (v:KV),du P E A B->aK P E vs us->az (f vs) v->∃ obj mk E',g us=some (obj,mk)/\VK P E' v (mk B.next)/\cE P E A B E' A (B.new obj)
theorem XT {o:Oper} {f:FP} {g:List Value->Option (aY×(Nat->Value))} {xs:List Operand} (hc:compile P o.op = .make g xs) (hs:aiF P f g):BU P o (.look f xs):=by
 intro E A B ρ base w ev ck v hj hv hg;obtain ⟨em,h1,h2⟩:=Zp hv;obtain ⟨obj,mk,E',h3,h4,h5⟩:=hs E A B _ _ v hj.k h1 hg;obtain ⟨ak,v',w',h6,h7,h8⟩:=XS hc hj.s h2 h3;exact ⟨E',B.new obj,ak,v',_,w',h6,rfl,⟨_,h4,h7⟩,h5.ev h8⟩
def Env.wL (E:Env) (b x:Nat):Env:={ E with κ:=fun c=>if c=b then some x else E.κ c }
def Env.dV (E:Env) (b:Nat) (r:abe):Env:={ E with z:=fun c=>if c=b then some r else E.z c }
def Env.pn (E:Env) (b g:Nat):Env:={ E with φ:=fun c=>if c=b then some g else E.φ c }
theorem cE.newRow {A:ai} {B:St} {cs:List KV} {b5:List Value} {aQ:Nat} (h:du P E A B) (hv:aK P E cs b5):cE P E A B (E.wL A.next B.next) (A.new (.row cs aQ)) (B.new (.row b5 aQ true none)):=by
 have hle:E.le (E.wL A.next B.next):=⟨fun _ _ e=>e,fun b x e=>by
  have:=h.fZ b x e;simp only [Env.wL]; rw [ae (by omega)]; exact e,fun _ _ e=>e,fun _ _ e=>e⟩
 have hA:∀ (b:Nat) (v:KV),(A.new (.row cs aQ)).get b=some (.arr v)->A.get b=some (.arr v):=fun b v hb=>by
  rw [ai.cV] at hb;split at hb
  ·simp at hb
  ·exact hb
 have OI:∀ (b:Nat) (v:KV),(A.new (.row cs aQ)).get b=some (.iI v)->A.get b=some (.iI v):=fun b v hb=>by
  rw [ai.cV] at hb;split at hb
  ·simp at hb
  ·exact hb
 have DZ:∀ x,AR A E x->(B.new (.row b5 aQ true none)).get x=B.get x:=fun x q=>by have:=h.Df q; rw [St.cV,ae (by omega)]
 refine ⟨⟨?_,?_,?_,?_,?_,?_,?_,?_,?_,?_,?_,?_,?_,?_,h.ar.di hle (fun _=>rfl) hA OI (by simp) (by simp) DZ (fun _ _ e=>.inl e) (fun b x e=>?_) (fun b g e=>.inl ⟨b,e⟩) (fun _ _=>by simp) h.mem⟩,hle,by simp,?_,?_,fun _ _ e=>.inl e,fun _ _ e=>.inl e,fun _ _ _ _=>by simp,fun _ q=>.inl (q.of (fun _=>rfl) hA),fun _ q=>.inl (q.of (fun _=>rfl) hA DZ),fun _ _ q=>.inl (by simpa using q),fun _ q=>.inl (q.of (fun _=>rfl) hA DZ fun _ _=>by simp),ll abn⟩
 ·intro b mG UH hb
  rw [ai.cV] at hb;split at hb
  ·rename_i e
   simp at hb;obtain ⟨rfl,rfl⟩:=hb;exact ⟨B.next,b5,by simp [Env.wL,e],by simp,hv.mono hle⟩
  ·obtain ⟨x,c,h1,h2,h3⟩:=h.row b mG UH hb
   have:=h.eD b x h1;exact ⟨x,c,hle.κ _ _ h1,by rw [St.cV,ae (by omega)]; exact h2,h3.mono hle⟩
 ·intro b top D0 hb
  rw [ai.cV] at hb;split at hb
  ·simp at hb
  ·rcases h.aF b top D0 hb with h1 | ⟨g,h1,hp0,h2⟩
   ·exact .inl h1
   ·refine .inr ⟨g,h1,hp0,fun x hx c e own f k hg=>?_⟩
    rw [St.cV] at hg;split at hg
    ·simp at hg
    ·exact h2 x (by simpa using hx) c e own f k hg
 ·intro b r hb
  have:=h.lT b r hb;rw [St.cV,ae (by omega)];exact h.z b r hb
 ·intro b x hb
  simp only [Env.wL] at hb ⊢;split at hb
  ·simp at hb
   subst hb;cases hz:E.z B.next with
   | none=>rfl
   | some r=>have:=h.lT _ r hz; omega
  ·exact h.apart b x hb
 ·intro b c x hb hc
  simp only [Env.wL] at hb hc;split at hb <;> split at hc
  ·omega
  ·simp at hb; subst hb; have:=h.eD c _ hc; omega
  ·simp at hc; subst hc; have:=h.eD b _ hb; omega
  ·exact h.inj b c x hb hc
 ·exact De.new (E:=E.wL A.next B.next) (fun x y g a b c d e f hx hy=>h.iB x y g a b c d e f hx hy) (.inl fun _ _=>by simp)
 ·intro b x hb
  simp only [Env.wL] at hb;rw [ai.cw];split at hb
  ·omega
  ·have:=h.fZ b x hb; omega
 ·intro b g hb; have:=h.lk b g hb; rw [ai.cw]; omega
 ·intro b o hb
  rw [ai.cV] at hb;rw [ai.cw];split at hb
  ·omega
  ·have:=h.live b o hb; omega
 ·intro b x hb
  simp only [Env.wL] at hb;rw [St.cw];split at hb
  ·simp at hb; omega
  ·have:=h.eD b x hb; omega
 ·intro b r hb; have:=h.lT b r hb; rw [St.cw]; omega
 ·intro b g hb; have:=h.iU b g hb; rw [St.cw]; omega
 ·intro g hg; rw [St.cw] at hg; rw [St.j3]; exact h.fresh g (by omega)
 ·intro g x hx; rw [St.j3] at hx; rw [St.cw]; have:=h.mem g x hx; omega
 ·simp only [Env.wL] at e
  split at e
  ·simp at e; exact .inr (by omega)
  ·exact .inl e
 ·intro x hx _ _; rw [St.cV,ae (by omega)]
 ·intro b x hb
  simp only [Env.wL] at hb;split at hb
  ·simp at hb; exact .inr (by omega)
  ·exact .inl hb
theorem cE.UI {A:ai} {B:St} {b5:List Value} {aQ:Nat} (h:du P E A B):cE P E A B (E.dV B.next ⟨b5,aQ,true,none⟩) A (B.new (.row b5 aQ true none)):=by
 have hle:E.le (E.dV B.next ⟨b5,aQ,true,none⟩):=⟨fun _ _ e=>e,fun _ _ e=>e,fun b r e=>by
  have:=h.lT b r e;simp only [Env.dV]; rw [ae (by omega)]; exact e,fun _ _ e=>e⟩
 have DZ:∀ x,AR A E x->(B.new (.row b5 aQ true none)).get x=B.get x:=fun x q=>by have:=h.Df q; rw [St.cV,ae (by omega)]
 have IM:∀ b r,(E.dV B.next ⟨b5,aQ,true,none⟩).z b=some r->E.z b=some r\/B.next<=b:=fun b r e=>by
  simp only [Env.dV] at e;split at e
  ·exact .inr (by omega)
  ·exact .inl e
 refine ⟨⟨?_,?_,?_,?_,?_,?_,?_,?_,?_,?_,?_,?_,?_,?_,h.ar.di hle (fun _=>rfl) (fun _ _ e=>e) (fun _ _ e=>e) (ao _) (by simp) DZ IM (fun _ _ e=>.inl e) (fun b g e=>.inl ⟨b,e⟩) (fun _ _=>by simp) h.mem⟩,hle,ao _,?_,?_,fun b r e=>(IM b r e).imp id .inr,fun _ _ e=>.inl e,fun _ _ _ _=>by simp,fun _ q=>.inl q,fun _ q=>.inl (q.of (fun _=>rfl) (fun _ _ e=>e) DZ),fun _ _ q=>.inl (by simpa using q),fun _ q=>.inl (q.of (fun _=>rfl) (fun _ _ e=>e) DZ fun _ _=>by simp),ll abn⟩
 ·intro b mG UH hb
  obtain ⟨x,c,h1,h2,h3⟩:=h.row b mG UH hb;have:=h.eD b x h1;exact ⟨x,c,hle.κ _ _ h1,by rw [St.cV,ae (by omega)]; exact h2,h3.mono hle⟩
 ·intro b top D0 hb
  rcases h.aF b top D0 hb with h1 | ⟨g,h1,hp0,h2⟩
  ·exact .inl h1
  ·refine .inr ⟨g,h1,hp0,fun x hx c e own f k hg=>?_⟩
   rw [St.cV] at hg;split at hg
   ·simp at hg
   ·exact h2 x (by simpa using hx) c e own f k hg
 ·intro b r hb
  simp only [Env.dV] at hb;split at hb
  ·rename_i e
   simp at hb;subst hb e;simp
  ·have:=h.lT b r hb
   rw [St.cV,ae (by omega)];exact h.z b r hb
 ·intro b x hb
  have:=h.eD b x hb;simp only [Env.dV];rw [ae (by omega)];exact h.apart b x hb
 ·exact h.inj
 ·exact h.iB
 ·exact h.fZ
 ·exact h.lk
 ·exact h.live
 ·intro b x hb; have:=h.eD b x hb; rw [St.cw]; omega
 ·intro b r hb
  simp only [Env.dV] at hb;rw [St.cw];split at hb
  ·omega
  ·have:=h.lT b r hb; omega
 ·intro b g hb; have:=h.iU b g hb; rw [St.cw]; omega
 ·intro g hg; rw [St.cw] at hg; rw [St.j3]; exact h.fresh g (by omega)
 ·intro g x hx; rw [St.j3] at hx; rw [St.cw]; have:=h.mem g x hx; omega
 ·intro x hx _ _; rw [St.cV,ae (by omega)]
 ·intro b x hb; exact .inl hb
theorem cE.putRow {A:ai} {B:St} {b x aQ:Nat} {cs:List KV} {b5:List Value} (h:du P E A B) (hb:∃ mG e,A.get b=some (.row mG e)) (hx:E.κ b=some x) (hold:∃ mG,B.get x=some (.row mG aQ true none)/\mG.length=b5.length) (hv:aK P E cs b5):cE P E A B E (A.put b (.row cs aQ)) (B.put x (.row b5 aQ true none)):=by
 have hA:∀ (c:Nat) (v:KV),(A.put b (.row cs aQ)).get c=some (.arr v)->A.get c=some (.arr v):=fun c v hb=>by
  rw [ai.b6] at hb;split at hb
  ·simp at hb
  ·exact hb
 have OI:∀ (c:Nat) (v:KV),(A.put b (.row cs aQ)).get c=some (.iI v)->A.get c=some (.iI v):=fun c v hb=>by
  rw [ai.b6] at hb;split at hb
  ·simp at hb
  ·exact hb
 have DZ:∀ y,AR A E y->(B.put x (.row b5 aQ true none)).get y=B.get y:=fun y q=>by
  rw [St.b6,ae];intro e;subst e;exact (h.ar.z _ q).2 b hx
 refine ⟨⟨?_,?_,?_,h.apart,h.inj,h.iB.put (.inl fun _ _=>by simp),h.fZ,h.lk,?_,h.eD,h.lT,h.iU,?_,?_,h.ar.di (Env.le_refl _) (fun _=>rfl) hA OI (ao _) (ao _) DZ (fun _ _ e=>.inl e) (fun _ _ e=>.inl e) (fun b g e=>.inl ⟨b,e⟩) (fun _ _=>by simp) h.mem⟩,Env.le_refl _,ao _,?_,fun _ _ e=>.inl e,fun _ _ e=>.inl e,fun _ _ e=>.inl e,fun _ _ _ _=>by simp,fun _ q=>.inl (q.of (fun _=>rfl) hA),fun _ q=>.inl (q.of (fun _=>rfl) hA DZ),fun _ _ q=>.inl (by simpa using q),fun _ q=>.inl (q.of (fun _=>rfl) hA DZ fun _ _=>by simp),fun y _ c e own aZ q=>by
  rw [St.b6] at q;split at q
  ·rename_i e2
   simp at q;obtain ⟨rfl,rfl,rfl,rfl⟩:=q;obtain ⟨c0,h1,h2⟩:=hold;exact ⟨c0,by rw [e2]; exact h1,h2⟩
  ·exact ⟨c,q,rfl⟩⟩
 ·intro c mG UH hc
  rw [ai.b6] at hc;split at hc
  ·rename_i e
   simp at hc;obtain ⟨rfl,rfl⟩:=hc;exact ⟨x,b5,by rw [e]; exact hx,by simp,hv⟩
  ·rename_i bA
   obtain ⟨y,d,h1,h2,h3⟩:=h.row c mG UH hc;refine ⟨y,d,h1,?_,h3⟩;rw [St.b6,ae (fun e=>bA (h.inj c b x (by rw [<- e]; exact h1) hx))];exact h2
 ·intro c top D0 hc
  rw [ai.b6] at hc;split at hc
  ·simp at hc
  ·rcases h.aF c top D0 hc with h1 | ⟨g,h1,hp0,h2⟩
   ·exact .inl h1
   ·refine .inr ⟨g,h1,hp0,fun y hy d e own f k hg=>?_⟩
    rw [St.b6] at hg;split at hg
    ·simp at hg
    ·exact h2 y (by simpa using hy) d e own f k hg
 ·intro c r hc
  rw [St.b6,ae]
  ·exact h.z c r hc
  ·intro e
   have:=h.apart b x hx;rw [<- e,hc] at this;simp at this
 ·intro c o hc
  rw [ai.b6] at hc;rw [ai.o8];split at hc
  ·rename_i e
   obtain ⟨mG,e0,hb⟩:=hb;rw [e]; exact h.live b _ hb
  ·exact h.live c o hc
 ·intro g hg; rw [St.F4]; exact h.fresh g hg
 ·intro g y hy; rw [St.F4] at hy; exact h.mem g y hy
 ·intro y hy hn _
  rw [St.b6,ae (fun e=>hn b (by rw [e]; exact hx))]
theorem aku {n:Nat} : UG P (aa7 n) (Xo n):=by
 intro E A A' B vs us v h hv hg;unfold aa7 at hg;split at hg
 ·rename_i x
  obtain ⟨y,rfl,h1⟩:=hv.dC;obtain ⟨ho,hg⟩:=hg.cond;have hg:(KV.ptr A.next 0,A.new (.row x.cells n))=(v,A'):=hg;simp only [bG] at hg;obtain ⟨rfl,rfl⟩:=hg;have hc:=h1.cells (yR ho);have y8:y.cells.toList.all scalar=true:=dS.2 (hc.scalar ho);exact ⟨NC n y,HS,E.wL A.next B.next,by simp [Xo,y8],.wx (by simp [Env.wL]),cE.newRow h hc⟩
 ·exact hg.elim
theorem agV {t:TypeId} {z:Value} (hz:tE P t=some z) (hf:flat z=true) (y8:z.cells.toList.all scalar=true) (ho:jk (fC z).cells=true):UG P (RM (uY P t) (fC z).cells) (ND P t):=by
 intro E A A' B vs us v h hv hg;have hg:(KV.ptr A.next 0,A.new (.row (fC z).cells (uY P t)))=(v,A'):=hg;simp only [bG] at hg;obtain ⟨rfl,rfl⟩:=hg;exact ⟨NC (uY P t) z,HS,E.wL A.next B.next,by simp only [ND,hz,cA,hf,y8,cY,ah],.wx (by simp [Env.wL]),cE.newRow h (Gp ho)⟩
theorem IP {cs:List KV} {l:List Value} (h:aK P E cs l):∀ n,aK P E (cM cs n) (eK l n)
 | 0=>.nil
 | n+1=>aK.append h (IP h n)
theorem WV {n b:Nat} {z:Value} (ho:jk (fC z).cells=true):UG P (IA n b (fC z).cells) (y4 n b z):=by
 intro E A A' B vs us v h hv hg;unfold IA at hg;split at hg
 ·rename_i k l k' c
  obtain ⟨x,y,rfl,h1,h2⟩:=hv.ja;have:=h1.bO; subst this;have:=h2.bO; subst this;obtain ⟨hc,hg⟩:=az.iJ hg;simp only [bG] at hg;obtain ⟨rfl,rfl⟩:=hg;simp only [aj,jR] at hc;obtain ⟨⟨h3,h4⟩,h5⟩:=hc;obtain ⟨l',rfl⟩:=Int.eq_ofNat_of_zero_le h3;obtain ⟨c',rfl⟩:=Int.eq_ofNat_of_zero_le (Int.le_trans h3 h4);have h6:Nat.ble l' c' = true:=Nat.ble_eq_true_of_le (by omega);refine ⟨.row (eK z.cells.toList c') n true none,fun k=>.slice (some ⟨k,0,none⟩) l' c',E.wL A.next B.next,?_,.afi (by simp [Env.wL]),cE.newRow h (IP (Gp ho) c')⟩;have h5:Nat.ble (b * c') 281474976710656=true:=h5;show cond (Nat.ble l' c'&&Nat.ble (b * c') 281474976710656) _ _=_;rw [h6,h5];rfl
 ·exact hg.elim
theorem du.rowAt {A:ai} {B:St} (h:du P E A B) {b x:Nat} {cs:List KV} (hr:rowAt A b=some cs) (hx:E.κ b=some x):∃ b5 aQ,B.get x=some (.row b5 aQ true none)/\aK P E cs b5:=by
 unfold K.rowAt at hr;split at hr
 ·rename_i c e hg
  simp at hr;subst hr;obtain ⟨y,d,h1,h2,h3⟩:=h.row _ _ _ hg;rw [hx] at h1;simp at h1;subst h1;exact ⟨d,_,h2,h3⟩
 ·simp at hr
theorem IQ (e:KV):∀ (cs:List CK) (k:Nat),(leaves e cs k).length=cs.length
 | [],_=>rfl
 | c::cs,k=>by simp [leaves,IQ e cs]
theorem Zq {c:CK} {v:KV} (h:kindOk c v=true):leaf c v=v:=by
 cases c with
 | int k=>cases v <;> simp [kindOk] at h; subst h; rfl
 | bool=>cases v <;> simp [kindOk] at h; rfl
 | str=>cases v <;> simp [kindOk] at h; rfl
 | slice t=>
  cases v <;> simp [kindOk] at h;rename_i T m n es acc;cases m <;> simp at h;subst h;rfl
 | other=>cases v <;> simp [kindOk] at h
theorem wM:∀ {ks:List CK} {cs:List KV} {i:Nat} {c:CK},aq ks cs=true->ks[i]? = some c->∃ v,cs[i]? = some v/\kindOk c v=true
 | [],_,i,c,_,h=>by simp at h
 | _::_,[],_,_,h,_=>by simp [aq] at h
 | k::ks,v::cs,0,c,h,e=>by
  simp only [aq,aj] at h;simp at e;subst e;exact ⟨v,rfl,h.1⟩
 | k::ks,v::cs,i+1,c,h,e=>by
  simp only [aq,aj] at h;obtain ⟨u,h1,h2⟩:=wM (i:=i) h.2 (by simpa using e);exact ⟨u,by simpa using h1,h2⟩
theorem fI:∀ {l:Lay} {es:List KV} {i:Nat} {e:KV},dn l es=true->es[i]? = some e->cf l e=true
 | l,[],i,e,_,h=>by simp at h
 | l,x::es,0,e,h,he=>by
  simp only [dn,aj] at h;simp at he;subst he;exact h.1
 | l,x::es,i+1,e,h,he=>by
  simp only [dn,aj] at h;exact fI h.2 (by simpa using he)
theorem fw {l:Lay} {e:KV} (h:cf l e=true):aq l.ks e.cells=true/\rF e=true:=by
 cases e <;> simp [cf] at h <;> first | exact ⟨h.2,rfl⟩ | skip
 obtain ⟨h1,h2⟩:=h;cases hk:l.ks with
 | nil=>rw [hk] at h2; simp [aq] at h2
 | cons c cs=>rw [hk] at h2; cases c <;> simp [aq,kindOk] at h2
theorem MA {e:KV} {ks:List CK} (hk:aq ks e.cells=true):∀ {cs:List CK} {k:Nat},(∀ m c,cs[m]? = some c->ks[k+m]? = some c)->leaves e cs k=(e.cells.drop k).take cs.length
 | [],k,_=>by simp [leaves]
 | c::cs,k,h=>by
  obtain ⟨v,h1,h2⟩:=wM hk (by simpa using h 0 c rfl);have aI:k < e.cells.length:=(cp.1 h1).1;have ih:=MA hk (cs:=cs) (k:=k+1) (fun m d hm=>by have:=h (m+1) d (by simpa using hm); rwa [show k+(m+1)=k+1+m by omega] at this);simp only [leaves];have e1:e.cells.getD k .bx=v:=by simp [List.getD,h1]
  rw [e1,Zq h2];rw [show Nat.succ k=k+1 from rfl,ih,List.drop_eq_getElem_cons aI];have e2:e.cells[k] = v:=by
   have:=cl aI;rw [this] at h1;simpa using h1
  simp [e2]
theorem du.DV {A:ai} {B:St} (h:du P E A B) {b x L N' : Nat} {v:KV} (hr:DV A b=some v) (hx:E.α b=some (x,L,N')) :
  ∃ T N es acc,v = .ts T .any N es acc/\fV P T N es acc/\1<=aJ P T/\∃ cs e own aZ aP,N' = N/\B.get x=some (.row cs e own aZ)/\aK P E es aP/\mJ (aJ P T) 0 cs aP/\L=cs.length/\e=aJ P T:=by
 unfold K.DV at hr;split at hr
 ·rename_i u hg
  simp at hr; subst hr;obtain ⟨T,N,es,acc,h1,h2,h3,h4⟩:=h.ar.arr b _ hg;refine ⟨T,N,es,acc,h1,h2,h3,?_⟩;rcases h4 with ⟨_,h5⟩ | ⟨y,cs,aZ,aP,h4,h5,h6,h7⟩
  ·rw [hx] at h5; simp at h5
  ·rw [hx] at h4
   simp only [aR,bG] at h4;obtain ⟨rfl,rfl,rfl⟩:=h4;exact ⟨cs,_,_,aZ,aP,rfl,h5,h6,h7,rfl,rfl⟩
 ·rename_i u hg
  simp at hr; subst hr;obtain ⟨T,N,es,acc,h1,h2,h3,h4⟩:=h.ar.iI b _ hg;refine ⟨T,N,es,acc,h1,h2,h3,?_⟩;rcases h4 with ⟨_,h5⟩ | ⟨y,r,aP,h4,h5,h6,h7,h8⟩
  ·rw [hx] at h5; simp at h5
  ·rw [hx] at h4
   simp only [aR,bG] at h4;obtain ⟨rfl,rfl,rfl⟩:=h4;exact ⟨r.cs,_,_,_,aP,rfl,h.z _ _ h5,h7,h8,rfl,h6⟩
 ·simp at hr
theorem UJ {t T Tc:TypeId} {k x base aQ:Nat} {own:Bool} {aZ:Option (Nat×Nat)} {e:KV} {u:Value} {cs:List Value} {B:St} (hz:B.get x=some (.row cs aQ own aZ)) (hc:Tf P t Tc=true) (hw:Ti P T Tc k) (wN:cf (aH P T) e=true)
  (h7:VK P E e u) (cS:u.cells.size=aJ P T) (k8:∀ (m:Nat) (y:Value),u.cells[m]? = some y->cs[base+m]? = some y):∃ w,zI P t B [.pointer (some ⟨x,base+k,none⟩)] = some w/\VK P E (HI (aH P t).agg (leaves e (aH P t).ks k)) w:=by
 simp only [Tf,aj,jR] at hc;obtain ⟨⟨⟨⟨hTc,hpl⟩,ha⟩,hn⟩,alj⟩:=hc;have:=aE hTc;subst this;obtain ⟨akv,akw⟩:=fw wN;have UK:=MA akv (cs:=(aH P Tc).ks) (k:=k) hw.is;rw [UK];have AJ:=h7.cells akw;have hlen:e.cells.length=aJ P T:=by have:=AJ.length; simp at this; omega
 have jI:(aH P Tc).ks.length<=e.cells.length - k:=by
  have:=congrArg List.length UK;rw [IQ] at this;simp at this;omega
 have dB:∀ m,m < (aH P Tc).ks.length->cs[base+k+m]? = u.cells.toList[k+m]?:=by
  intro m hm;have aI:k+m < u.cells.size:=by omega
  have:=k8 (k+m) u.cells[k+m] (by simp [aI]);rw [show base+(k+m)=base+k+m by omega] at this;rw [this];simp [aI]
 have UL:takeN (aH P Tc).ks.length (zH (base+k) cs)=some ((u.cells.toList.drop k).take (aH P Tc).ks.length):=by
  have hle:(aH P Tc).ks.length<=(cs.drop (base+k)).length:=by
   cases DM:(aH P Tc).ks.length with
   | zero=>omega
   | succ q=>
    have:=dB q (by omega);have aI:k+q < u.cells.toList.length:=by simp; omega
    rw [cl aI] at this;have:=(cp.1 this).1;simp;omega
  rw [nS,E9 hle];congr 1;apply List.ext_getElem?;intro m;rw [kR,kR];split
  ·rename_i hm
   rw [lE,lE];exact dB m hm
  ·rfl
 have hrel:aK P E (e.cells.drop k |>.take (aH P Tc).ks.length) ((u.cells.toList.drop k).take (aH P Tc).ks.length):=(AJ.drop k).take _;cases uZ:(aH P Tc).agg with
 | true=>
  rw [uZ] at ha;refine ⟨.agg ⟨(u.cells.toList.drop k).take (aH P Tc).ks.length⟩,?_,.nt hrel⟩;simp [zI,loadAt,ha,hn,St.nK,bH,q8,hz,UL]
 | false=>
  rw [uZ] at ha;have AL:(aH P Tc).ks.length=1:=by
   rw [uZ] at alj;exact aE (by simpa using alj)
  rw [AL] at UL hrel;have aI:k < e.cells.length:=by omega
  rw [AL];rw [List.drop_eq_getElem_cons aI] at hrel ⊢;simp only [List.take_succ_cons,List.take_zero] at hrel ⊢;obtain ⟨w,h8,h9⟩:=hrel.dC;refine ⟨w,?_,h9⟩;simp [zI,loadAt,ha,St.nK,bH,q8,hz,UL,h8]
theorem abp {t:TypeId} : abo P (Qs P t) (zI P t):=by
 intro E A B vs us v h hv hg;unfold Qs at hg;split at hg
 ·rename_i b off
  obtain ⟨y,rfl,h1⟩:=hv.dC;obtain ⟨x,hx,rfl⟩:=h1.gh;split at hg
  ·rename_i ag n ha hn
   split at hg
   ·rename_i l hl
    obtain ⟨cs,h2,h3⟩:=aO.1 hl;obtain ⟨b5,aQ,h4,h5⟩:=h.rowAt h2 hx;obtain ⟨r,h6,h7,_⟩:=h5.r5 h3;cases ag with
    | true=>
     have hg:KV.agg l=v:=hg;subst hg;refine ⟨.agg ⟨r⟩,?_,.nt h7⟩;simp [zI,loadAt,ha,hn,St.nK,bH,q8,h4,h6]
    | false=>
     rw [ay] at hg;split at hg
     ·rename_i u
      have hg:u=v:=hg;subst hg;obtain ⟨w,rfl,h8⟩:=h7.dC;have hlen:n=1:=by
       obtain ⟨e,hle⟩:=Ka h3;have:=congrArg List.length e;rw [jw,Nat.min_eq_left hle] at this;simpa using this.symm
      subst hlen;exact ⟨w,by simp [zI,loadAt,ha,St.nK,bH,q8,h4,h6],h8⟩
     ·exact hg.elim
   ·exact hg.elim
  ·exact hg.elim
 ·rename_i T Tc i k es acc
  obtain ⟨y,rfl,h1⟩:=hv.dC;obtain ⟨hc,hg⟩:=hg.cond;have hg:HI (aH P t).agg (leaves (acc i) (aH P t).ks k)=v:=hg;subst hg;obtain ⟨ht,aP,h2,hi,hw,b,off,r,rfl,h4,h5⟩:=h1.Gn;have ani:=ht.acc i hi;have hei:es[i]? = some (acc i):=by rw [ani]; simp [List.getD,hi]
  obtain ⟨u,h6,h7⟩:=h2.get hei;obtain ⟨cS,k8⟩:=h5 i u h6;exact UJ (h.z b r h4) hc hw (fI ht.typed hei) h7 cS k8
 ·rename_i T Tc b i k
  obtain ⟨y,rfl,h1⟩:=hv.dC;split at hg
  ·rename_i T' m N es acc hA
   obtain ⟨hc,hg⟩:=hg.cond;have hg:HI (aH P t).agg (leaves (acc i) (aH P t).ks k)=v:=hg;subst hg;simp only [aj] at hc;have:=aE hc.1;subst this;obtain ⟨x,L,N',h2,hw,hi,rfl⟩:=h1.Dd;obtain ⟨T2,N2,mu,fg,vX,ht,h1s,cs,e,own,aZ,aP,h3,h4,h5,h6,_⟩:=h.DV hA h2;simp only [KV.ts.injEq] at vX;obtain ⟨rfl,rfl,rfl,rfl,rfl⟩:=vX;have aI:i < es.length:=by rw [<- ht.len,<- h3]; exact hi
   have hei:es[i]? = some (acc i):=by rw [ht.acc i (by rw [ht.len]; exact aI)]; simp [List.getD,aI]
   obtain ⟨u,h7,h8⟩:=h5.get hei;obtain ⟨cS,k8⟩:=h6 i u h7;rw [bF] at k8;exact UJ h4 hc.2 hw (fI ht.typed hei) h8 cS k8
  ·exact hg.elim
 ·exact hg.elim
end Go.K
end
section
namespace Go.K
open Go Go.aA
variable {P:Program} {E:Env}
theorem VK.aiG {T:TypeId} {m:Mk} {n:Nat} {es:List KV} {acc:Nat->KV} {u:Value} (h:VK P E (.ts T m n es acc) u):VK P E (.ts T .any n es acc) u:=by
 obtain ⟨ht,aP,h1,a,cap,rfl,h2,h3,_⟩:=h.jC;simp only [VK];exact ⟨ht,aP,h1,a,cap,rfl,h2,h3,trivial⟩
theorem VK.adE {T:TypeId} {acc:Nat->KV} : VK P E (.ts T .any 0 [] acc) (.slice none 0 0):=by
 simp only [VK];exact ⟨⟨rfl,fun i h=>by omega,rfl⟩,[],.nil,none,0,rfl,ao _,.inl ⟨rfl,rfl⟩,trivial⟩
theorem VK.amc {b:Bool} {v:KV} {u:Value} (h:VK P E v u):VK P E (cond b v .bx) u:=by
 cases b with
 | false=>exact .qp
 | true=>exact h
theorem VK.kO {c:CK} {v:KV} {u:Value} (h:VK P E v u):VK P E (kO c v) u:=by
 unfold K.kO;split
 ·have:=h.mv; subst this; exact .adE
 ·rename_i t t' m n es acc
  cases hb:Nat.beq t t' with
  | false=>exact .qp
  | true=>
   have:=aE hb;subst this;exact h.aiG
 ·exact VK.amc h
theorem aK.wG:∀ {ks:List CK} {cs:List KV} {l:List Value},aK P E cs l->cs.length=ks.length->aK P E (wG ks cs) l
 | [],[],l,h,_=>h
 | [],_::_,_,_,e=>by simp at e
 | _::_,[],_,_,e=>by simp at e
 | c::ks,v::cs,l,h,e=>by
  obtain ⟨y,ys,rfl,h1,h2⟩:=h.cons_inv;exact .cons h1.kO (aK.wG h2 (by simpa using e))
theorem VK.dv {l:Lay} {v:KV} {u:Value} (h:VK P E v u):VK P E (dv l v) u:=by
 unfold K.dv;split
 ·rename_i cs
  obtain ⟨m,rfl,h1⟩:=h.ju;cases hb:(l.agg&&Nat.beq cs.length l.ks.length) with
  | false=>exact .qp
  | true=>
   simp only [aj] at hb;exact .nt (h1.wG (aE hb.2))
 ·cases l.agg with
  | true=>exact .qp
  | false=>
   rw [ay];split
   ·exact h.kO
   ·exact .qp
theorem OJ (d:Nat) (v:KV):bX P (d+1) v=(match v with
 | .ts t _ n _ acc=>.ts t .any n ((List.range n).map fun i=>gX P (bX P d) t (acc i)) (fun i=>gX P (bX P d) t (acc i))
 | v=>v):=rfl
theorem WW (d:Nat) {c:CK} {v:KV} (h:kindOk c v=true):kindOk c (bX P d v)=true:=by
 cases d with
 | zero=>exact h
 | succ d=>
  rw [OJ];split
  ·rename_i t m n es acc
   cases c <;> simp [kindOk] at h;cases m <;> simp at h;simp [kindOk,h]
  ·exact h
theorem BV (d:Nat):∀ {ks:List CK} {cs:List KV},aq ks cs=true->aq ks (cs.map (bX P d))=true
 | [],[],_=>rfl
 | [],_::_,h=>by simp [aq] at h
 | _::_,[],h=>by simp [aq] at h
 | c::ks,v::cs,h=>by
  simp only [aq,aj] at h;simp only [List.map_cons,aq,aj];exact ⟨WW d h.1,BV d h.2⟩
theorem om:∀ {ks:List CK} {vs:List KV},aq ks vs=true->vs.length=ks.length
 | [],[],_=>rfl
 | [],_::_,h=>by simp [aq] at h
 | _::_,[],h=>by simp [aq] at h
 | k::ks,v::vs,h=>by
  simp only [aq,aj] at h;simp [om h.2]
theorem lV {l:Lay} : ∀ {es:List KV},(∀ (i:Nat) e,es[i]? = some e->cf l e=true)->dn l es=true
 | [],_=>rfl
 | e::es,h=>by
  simp only [dn,aj];exact ⟨h 0 e rfl,lV fun i x hx=>h (i+1) x (by simpa using hx)⟩
theorem Gu {l:Lay} {v:KV} (h:cf l v=true):leaves v l.ks 0=v.cells/\aq l.ks v.cells=true/\(v=HI l.agg v.cells):=by
 have hk:aq l.ks v.cells=true/\(v=HI l.agg v.cells):=by
  by_cases ha:∃ cs,v = .agg cs
  ·obtain ⟨cs,rfl⟩:=ha
   simp only [cf,aj] at h;refine ⟨h.2,?_⟩;rw [h.1]; rfl
  ·have h1:(!l.agg&&aq l.ks [v])=true:=by
    cases v <;> first | exact h | exact absurd ⟨_,rfl⟩ ha | simp [cf] at h
   have hc:v.cells = [v]:=by cases v <;> first | rfl | exact absurd ⟨_,rfl⟩ ha
   simp only [aj,iA] at h1;rw [hc,h1.1];exact ⟨h1.2,rfl⟩
 refine ⟨?_,hk.1,hk.2⟩;rw [MA (e:=v) (ks:=l.ks) hk.1 (fun m c e=>by rw [bF]; exact e)];show (v.cells.drop 0).take l.ks.length=v.cells;rw [List.drop_zero,<- om hk.1,List.take_length]
theorem UM {l:Lay} {cs:List KV} {v:KV} (h:cf l v=true) (hk:aq l.ks cs=true) (hlen:cs.length=v.cells.length):cf l (HI l.agg cs)=true:=by
 by_cases ha:∃ ds,v = .agg ds
 ·obtain ⟨ds,rfl⟩:=ha
  simp only [cf,aj] at h;rw [h.1];show (l.agg&&aq l.ks cs)=true;rw [h.1,hk]; rfl
 ·have h1:(!l.agg&&aq l.ks [v])=true:=by
   cases v <;> first | exact h | exact absurd ⟨_,rfl⟩ ha | simp [cf] at h
  have hc:v.cells = [v]:=by cases v <;> first | rfl | exact absurd ⟨_,rfl⟩ ha
  simp only [aj,iA] at h1;rw [hc] at hlen
  match cs,hlen with
  | [c],_=>
   rw [h1.1];show cf l c=true;have abm:one c=true:=by
    cases oK:l.ks with
    | nil=>rw [oK] at hk; simp [aq] at hk
    | cons a aob=>rw [oK] at hk; simp only [aq,aj] at hk; cases a <;> cases c <;> first | rfl | simp [kindOk] at hk
   cases c <;> first | (simp [one] at abm; done) | (simp only [cf,h1.1,Bool.not_false,uu]; exact hk)
mutual
theorem VK.bX:∀ (d:Nat) {v:KV} {u:Value},VK P E v u->VK P E (K.bX P d v) u
 | 0,_,_,h=>h
 | d+1,v,u,h=>by
  rw [OJ];split
  ·rename_i t m n es acc
   obtain ⟨ht,aP,h1,a,cap,rfl,h2,h3,_⟩:=h.jC;simp only [VK];have wN:∀ i,i < n->∃ e e',es[i]? = some e/\aP[i]? = some e'/\acc i=e/\cf (aH P t) e=true/\VK P E e e':=by
    intro i hi;have hl:i < es.length:=by rw [<- ht.len]; exact hi
    have e1:=cl hl;obtain ⟨e',e2,e3⟩:=h1.get e1;exact ⟨_,e',e1,e2,by rw [ht.acc i hi,eO,e1]; rfl,fI ht.typed e1,e3⟩
   have hlen:aP.length=n:=by rw [h1.length,ht.len]
   refine ⟨⟨by simp,fun i hi=>?_,?_⟩,aP,?_,a,cap,rfl,h2,h3,trivial⟩
   ·rw [eO,mg,List.getElem?_range hi]; rfl
   ·refine lV fun i e he=>?_
    rw [mg] at he;by_cases hi:i < n
    ·rw [List.getElem?_range hi] at he
     simp only [Option.map_some,aR] at he;obtain ⟨x,x',_,_,q3,q4,_⟩:=wN i hi;rw [<- he,q3,gX];obtain ⟨r1,r2,_⟩:=Gu q4;rw [r1];exact UM q4 (BV d r2) (by simp)
    ·rw [List.getElem?_eq_none (by simp; omega)] at he; simp at he
   ·refine aK.Zi (by simp [hlen]) fun i e e' he he'=>?_
    rw [mg] at he;by_cases hi:i < n
    ·rw [List.getElem?_range hi] at he
     simp only [Option.map_some,aR] at he;obtain ⟨x,x',_,q2,q3,q4,q5⟩:=wN i hi;rw [he'] at q2;simp only [aR] at q2;subst q2;rw [<- he,q3];exact VK.gX d q4 q5
    ·rw [List.getElem?_eq_none (by simp; omega)] at he; simp at he
  ·exact h
theorem VK.gX (d:Nat) {t:TypeId} {v:KV} {u:Value} (hk:cf (aH P t) v=true) (h:VK P E v u):VK P E (K.gX P (K.bX P d) t v) u:=by
 obtain ⟨r1,r2,r3⟩:=Gu hk;rw [K.gX,r1];by_cases ha:∃ cs,v = .agg cs
 ·obtain ⟨cs,rfl⟩:=ha
  obtain ⟨l,rfl,h1⟩:=h.ju;have uZ:(aH P t).agg=true:=by simp only [cf,aj] at hk; exact hk.1
  rw [uZ];exact .nt (aK.abq d h1)
 ·have hc:v.cells = [v]:=by cases v <;> first | rfl | exact absurd ⟨_,rfl⟩ ha
  have uZ:(aH P t).agg=false:=by
   cases v <;> first | (simp only [cf,aj,iA] at hk; exact hk.1) | exact absurd ⟨_,rfl⟩ ha | simp [cf] at hk
  rw [uZ,hc];exact VK.bX d h
theorem aK.abq (d:Nat):∀ {cs:List KV} {l:List Value},aK P E cs l->aK P E (cs.map (K.bX P d)) l
 | [],l,h=>h
 | c::cs,l,h=>by
  obtain ⟨y,ys,rfl,h1,h2⟩:=h.cons_inv;exact .cons (VK.bX d h1) (aK.abq d h2)
end
theorem abr {c:CK} {v:KV} (h:kindOk c v=true):one v=true:=by
 cases c <;> cases v <;> simp [kindOk] at h <;> rfl
theorem AW:∀ {ks:List CK} {cs:List KV},aq ks cs=true->jk cs=true
 | [],[],_=>rfl
 | [],_::_,h=>by simp [aq] at h
 | _::_,[],h=>by simp [aq] at h
 | c::ks,v::cs,h=>by
  simp only [aq,aj] at h;simp [jk,abr h.1,AW h.2]
def bj:List Value->List Value
 | []=>[]
 | v::vs=>v.cells.toList++bj vs
theorem fX {n:Nat} : ∀ {es:List Value},(∀ v∈es,v.cells.size=n)->(bj es).length=es.length * n
 | [],_=>by simp [bj]
 | v::es,h=>by
  simp only [bj,fE,lF];rw [fX fun u hu=>h u (by simp [hu])];have:=h v (by simp);simp only [Array.length_toList,this,Nat.succ_mul];omega
theorem jK {n:Nat} : ∀ {es:List Value},(∀ v∈es,v.cells.size=n)->mJ n 0 (bj es) es
 | [],_,i,x,h=>by simp at h
 | v::es,hs,i,x,h=>by
  have hv:=hs v (by simp);cases i with
  | zero=>
   simp at h;subst h;refine ⟨hv,fun k y hy=>?_⟩;simp only [bj,Nat.zero_mul,bF];have aI:k < v.cells.size:=(jh.1 hy).1;rw [mL (by simpa using aI)];simpa using hy
  | succ i=>
   obtain ⟨h1,h2⟩:=jK (es:=es) (fun u hu=>hs u (by simp [hu])) i x (by simpa using h);refine ⟨h1,fun k y hy=>?_⟩;have:=h2 k y hy;simp only [bj];rw [n4 (by simp [hv,Nat.succ_mul]; omega)];rw [<- this];congr 1;simp [hv,Nat.succ_mul];omega
theorem ue:∀ (a b:List Value),bj (a++b)=bj a++bj b
 | [],b=>rfl
 | v::a,b=>by simp [bj,ue a b]
theorem uf:∀ {es:List Value},(∀ v∈es,∀ c∈v.cells.toList,scalar c=true)->∀ c∈bj es,scalar c=true
 | [],_,c,h=>by simp [bj] at h
 | v::es,hs,c,h=>by
  simp only [bj,eP] at h;rcases h with h | h
  ·exact hs v (by simp) c h
  ·exact uf (fun u hu=>hs u (by simp [hu])) c h
theorem RS {n:Nat} : ∀ {es:List Value} {i:Nat} {v:Value},(∀ u∈es,u.cells.size=n)->v.cells.size=n->i < es.length->fc (i * n) (bj es) v.cells.toList=some (bj (es.set i v))
 | [],i,v,_,_,h=>by simp at h
 | u::es,0,v,hs,hv,_=>by
  simp only [Nat.zero_mul,bj,List.set_cons_zero];have key:∀ (a b r:List Value),a.length=b.length->fc 0 (a++r) b=some (b++r):=by
   intro a
   induction a with
   | nil=>intro b r h; cases b <;> simp_all [uW]
   | cons x a ih=>
    intro b r h;cases b with
    | nil=>simp at h
    | cons y b=>rw [List.cons_append,uX,ih b r (by simpa using h)]; rfl
  exact key _ _ _ (by simp [hs u (by simp),hv])
 | u::es,i+1,v,hs,hv,h=>by
  have ih:=RS (es:=es) (i:=i) (fun w hw=>hs w (by simp [hw])) hv (by simpa using h);simp only [bj,List.set_cons_succ];have key:∀ (a r vs q:List Value) (m:Nat),fc m r vs=some q->fc (a.length+m) (a++r) vs=some (a++q):=by
   intro a
   induction a with
   | nil=>intro r vs q m h; simpa using h
   | cons x a ih=>
    intro r vs q m h;rw [lF,show a.length+1+m=(a.length+m)+1 by omega,List.cons_append,ns,ih r vs q m h];rfl
  have:=key u.cells.toList _ _ _ _ ih;rw [show u.cells.toList.length+i * n=(i+1) * n by simp [hs u (by simp),Nat.succ_mul]; omega] at this;exact this
def nN (es:List Value):List (Nat×Value)->List Value
 | []=>es
 | (i,v)::rest=>nN (es.set i v) rest
theorem D3:∀ (ps:List (Nat×Value)) (es:List Value),(nN es ps).length=es.length
 | [],_=>rfl
 | p::ps,es=>by simp [nN,D3 ps]
theorem MB {n:Nat} (hn:1<=n):∀ {ps:List (Nat×Value)} {es:List Value},(∀ u∈es,u.cells.size=n)->(∀ p∈ps,p.2.cells.size=n/\p.1 < es.length)->
  wi (vC n) (bj es) ps=some (bj (nN es ps))/\∀ u∈nN es ps,u.cells.size=n
 | [],es,hs,_=>⟨rfl,hs⟩
 | (i,v)::ps,es,hs,hp=>by
  obtain ⟨h1,h2⟩:=hp (i,v) (by simp);have h3:=RS hs h1 h2;have BG:∀ u∈es.set i v,u.cells.size=n:=by
   intro u hu;rcases List.mem_or_eq_of_mem_set hu with h | h
   ·exact hs u h
   ·subst h; exact h1
  obtain ⟨h4,h5⟩:=MB hn (ps:=ps) BG (fun p hq=>by have:=hp p (by simp [hq]); simpa using this);refine ⟨?_,h5⟩;simp only [wi,vC];have e1:Nat.beq v.cells.size n=true:=by rw [h1]; simp
  have e2:Nat.ble 1 n=true:=Nat.ble_eq_true_of_le hn;rw [e1,e2];simp only [cY,ah,h3,cA];exact h4
theorem MC {v:KV} {u:Value} (h:VK P E v u):∀ {es:List KV} {aP:List Value} (i:Nat),aK P E es aP->aK P E (setAt es i v) (aP.set i u)
 | [],aP,i,q=>by rw [q.bz]; cases i <;> exact .nil
 | x::es,aP,0,q=>by
  obtain ⟨y,ys,rfl,h1,h2⟩:=q.cons_inv;exact .cons h h2
 | x::es,aP,i+1,q=>by
  obtain ⟨y,ys,rfl,h1,h2⟩:=q.cons_inv;exact .cons h1 (MC h i h2)
theorem MD {l:Lay} : ∀ {is:List Nat} {vs:List KV} {us:List Value} {es:List KV} {aP:List Value},aK P E vs us->aK P E es aP->aK P E (zR es ((tC is vs).map fun p=>(p.1,dv l p.2))) (nN aP (zipIdx is us))
 | [],vs,us,es,aP,_,h=>by simpa [tC,zipIdx,zR,nN] using h
 | i::is,[],us,es,aP,hv,h=>by rw [hv.bz]; simpa [tC,zipIdx,zR,nN] using h
 | i::is,v::vs,us,es,aP,hv,h=>by
  obtain ⟨y,ys,rfl,h1,h2⟩:=hv.cons_inv;simp only [tC,zipIdx,List.map_cons,zR,nN];exact MD h2 (MC h1.dv i h)
theorem yS:∀ (es:List KV) (i:Nat) (v:KV),(setAt es i v).length=es.length
 | [],0,_=>rfl
 | [],_+1,_=>rfl
 | _::_,0,_=>rfl
 | e::es,i+1,v=>by simp [setAt,yS es i v]
theorem D5:∀ (ps:List (Nat×KV)) (es:List KV),(zR es ps).length=es.length
 | [],_=>rfl
 | p::ps,es=>by simp [zR,D5 ps,yS]
theorem Zr {n:Nat} : ∀ {is:List Nat} (us:List Value),yg n is=true->∀ p∈zipIdx is us,p.1 < n/\p.2∈us
 | [],us,_,p,h=>by simp [zipIdx] at h
 | i::is,[],_,p,h=>by simp [zipIdx] at h
 | i::is,u::us,h,p,hp=>by
  simp only [yg,aj,b8] at h;simp only [zipIdx,bd] at hp;rcases hp with rfl | hp
  ·exact ⟨h.1,by simp⟩
  ·obtain ⟨h1,h2⟩:=Zr us h.2 p hp
   exact ⟨h1,by simp [h2]⟩
theorem wO (z:Value):∀ n,eK z.cells.toList n=bj (List.replicate n z)
 | 0=>rfl
 | n+1=>by simp [eK,List.replicate_succ,bj,wO z n]
theorem Gv {z:KV} {u:Value} (h:VK P E z u):∀ n,aK P E (cM [z] n) (List.replicate n u)
 | 0=>.nil
 | n+1=>by simpa [cM,List.replicate_succ] using aK.cons h (Gv h n)
theorem kb {l:Lay} : ∀ {es:List KV} {aP:List Value},dn l es=true->aK P E es aP->∀ u∈aP,u.cells.size=l.ks.length/\∀ c∈u.cells.toList,scalar c=true
 | [],aP,_,h,u,hu=>by rw [h.bz] at hu; simp at hu
 | e::es,aP,wN,h,u,hu=>by
  obtain ⟨y,ys,rfl,h1,h2⟩:=h.cons_inv;simp only [dn,aj] at wN;rcases bd.1 hu with rfl | hu
  ·obtain ⟨k1,k2⟩:=fw wN.1
   have hc:=h1.cells k2;refine ⟨?_,hc.scalar (AW k1)⟩;have:=hc.length;have:=nU k1;simp at *;omega
  ·exact kb wN.2 h2 u hu
theorem QH {l:Lay} : ∀ {vs:List KV} {us:List Value},aK P E vs us->aK P E (vs.map (dv l)) us
 | [],_,h=>h
 | v::vs,us,h=>by
  obtain ⟨y,ys,rfl,h1,h2⟩:=h.cons_inv;exact .cons h1.dv (QH h2)
theorem WX {e:TypeId} {n len:Nat} {z:Value} {is:List Nat} (hn:(aH P e).ks.length=n) (h1n:1<=n) (hz:z.cells.size=n) (hb:yg len is=true) :
  aiF P (Ix (aH P e) e (dv (aH P e) (fC z)) len is) (od n z len is):=by
 intro E A B vs us v h hv hg;unfold Ix at hg;obtain ⟨hc,hg⟩:=az.cond hg;simp only [aj] at hc;obtain ⟨⟨hk,TU⟩,wN⟩:=hc;have hg:KV.ts e .exact len _ _=v:=hg;subst hg;have HJ:VK P E (dv (aH P e) (fC z)) z:=(VK.fC z).dv;have hrel:=MD (l:=aH P e) (is:=is) hv (Gv HJ len);have hlen:(zR (cM [dv (aH P e) (fC z)] len) ((tC is vs).map fun p=>(p.1,dv (aH P e) p.2))).length=len:=by
  rw [D5,uE]; simp
 have Zs:∀ p∈zipIdx is us,p.2.cells.size=n/\p.1 < (List.replicate len z).length:=by
  intro p hp;obtain ⟨h5,h6⟩:=Zr us hb p hp;have hm:aK P E (vs.map (dv (aH P e))) us:=QH hv;exact ⟨by rw [<- hn]; exact (kb TU hm p.2 h6).1,by simpa using h5⟩
 obtain ⟨h3,h4⟩:=MB h1n (ps:=zipIdx is us) (es:=List.replicate len z) (fun u hu=>by rw [(List.mem_replicate.1 hu).2]; exact hz) Zs;have uA:=kb wN hrel;have gV:(bj (nN (List.replicate len z) (zipIdx is us))).all scalar=true:=dS.2 (uf fun u hu=>(uA u hu).2);refine ⟨.row (bj (nN (List.replicate len z) (zipIdx is us))) n true none,fun b=>.slice (some ⟨b,0,none⟩) len len,E.dV B.next ⟨_,n,true,none⟩,?_,?_,cE.UI h⟩
 ·unfold od
  rw [wO,h3];simp only [cA];rw [gV,BS hv hk];rfl
 ·have adF:=hrel.mono (cE.UI (b5:=bj (nN (List.replicate len z) (zipIdx is us))) (aQ:=n) h).le
  have iM:(nN (List.replicate len z) (zipIdx is us)).length=len:=by rw [D3]; simp
  simp only [VK];refine ⟨⟨hlen.symm,fun i _=>rfl,wN⟩,_,adF,some ⟨B.next,0,none⟩,len,rfl,ao _,.inr ⟨B.next,0,⟨bj (nN (List.replicate len z) (zipIdx is us)),n,true,none⟩,rfl,by simp [Env.dV],hn.symm,?_⟩,rfl,fun b off hb=>?_⟩
  ·have:=jK h4
   unfold aJ;rw [hn];exact this
  ·simp at hb
   obtain ⟨rfl,rfl⟩:=hb;refine ⟨⟨bj (nN (List.replicate len z) (zipIdx is us)),n,true,none⟩,by simp [Env.dV],rfl,rfl,?_⟩;simp only [aJ,hn];rw [fX h4,iM];omega
theorem Zt {n len:Nat} {z:Value} {is:List Nat} (ho:jk (fC z).cells=true):UG P (Mm n (fC z).cells len is) (od n z len is):=by
 intro E A A' B vs us v h hv hg;unfold Mm at hg;split at hg
 ·rename_i cs hf
  obtain ⟨hk,hg⟩:=az.cond hg;simp only [aj] at hk;have hg:(KV.sl A.next 0 len len,A.new (.row cs n))=(v,A'):=hg;simp only [bG] at hg;obtain ⟨rfl,rfl⟩:=hg;obtain ⟨h2,h3⟩:=Uy is hv;obtain ⟨r',e,hr⟩:=Ux h2 h3 (fun p hp=>by have:=Uz is vs p hp; exact dS.1 hk.1 _ this) (IP (Gp (P:=P) (E:=E) ho) len) hf;refine ⟨.row r' n true none,fun b=>.slice (some ⟨b,0,none⟩) len len,E.wL A.next B.next,?_,.afi (by simp [Env.wL]),cE.newRow h hr⟩;unfold od;rw [e];simp only [cA];rw [BS hv hk.1,dS.2 (hr.scalar hk.2)];rfl
 ·exact hg.elim
theorem zo {m cap:Nat} {lo hi:Bool} {r:List KV} {r' : List Value} {x y:Int} (h:Lq m lo hi r=some (x,y)) (hr:aK P E r r') (h0:0<=x) (h1:x<=y) (h2:y<=(m:Int)) (hc:m<=cap) :
  pW m cap lo hi false r' = some (x.toNat,y.toNat,cap):=by
 obtain ⟨x',rfl⟩:=Int.eq_ofNat_of_zero_le h0;obtain ⟨y',rfl⟩:=Int.eq_ofNat_of_zero_le (Int.le_trans h0 h1);have hb:∀ (k:IntKind) (i n:Nat),i<=n->SD n (.int k (i:Int))=some i:=by
  intro k i n h;show iu (.ofNat i) (Nat.succ n)=some i;exact mR (by omega)
 match r,h with
 | [],h=>
  rw [hr.bz];cases lo <;> cases hi <;> simp [Lq] at h;obtain ⟨h3,h4⟩:=h;simp [pW];omega
 | [.int k a],h=>
  obtain ⟨u,rfl,h3⟩:=hr.dC;have:=h3.bO; subst this;cases lo <;> cases hi <;> simp [Lq] at h
  ·obtain ⟨h4,rfl⟩:=h
   simp only [pW];rw [hb k y' cap (by omega)];simp;omega
  ·obtain ⟨rfl,h4⟩:=h
   simp only [pW];rw [hb k x' m (by omega)];simp;omega
 | [.int k a,.int k' c],h=>
  obtain ⟨u,v,rfl,h3,h4⟩:=hr.ja;have:=h3.bO; subst this;have:=h4.bO; subst this;cases lo <;> cases hi <;> simp [Lq] at h;obtain ⟨rfl,rfl⟩:=h;simp only [pW];rw [hb k' y' cap (by omega)];simp only [cA];rw [hb k x' y' (by omega)];simp
theorem Ls {l:Lay} : ∀ {es:List KV} (n:Nat),dn l es=true->dn l (es.drop n)=true
 | es,0,h=>by simpa using h
 | [],n+1,_=>rfl
 | e::es,n+1,h=>by
  simp only [dn,aj] at h;simpa using Ls n h.2
theorem Lt {l:Lay} : ∀ {es:List KV} (n:Nat),dn l es=true->dn l (es.take n)=true
 | es,0,h=>rfl
 | [],n+1,_=>rfl
 | e::es,n+1,h=>by
  simp only [dn,aj] at h;simp [dn,h.1,Lt n h.2]
theorem Hi {l:Lay} : ∀ {es fs:List KV},dn l es=true->dn l fs=true->dn l (es++fs)=true
 | [],fs,_,h=>h
 | e::es,fs,h,k=>by
  simp only [dn,aj] at h;simp [dn,h.1,Hi h.2 k]
theorem mJ.part {sz off x k:Nat} {cs es:List Value} (h:mJ sz off cs es):mJ sz (off+x * sz) cs ((es.drop x).take k):=by
 intro i v hv;rw [kR] at hv;split at hv
 ·rw [lE] at hv
  obtain ⟨h1,h2⟩:=h (x+i) v hv;refine ⟨h1,fun j y hj=>?_⟩;rw [<- h2 j y hj];congr 1;rw [Nat.add_mul];omega
 ·simp at hv
theorem QI {es:List KV} {i:Nat} (h:i < es.length):es[i]? = some (es.getD i .bx):=by simp [List.getD,h]
theorem abt {n:Nat} {lo hi:Bool} (_:1<=n):abo P (Qu P n lo hi) (o7 n lo hi false):=by
 intro E A B vs us v h hv hg;unfold Qu at hg;split at hg
 ·rename_i T mk m es acc r
  split at hg
  ·rename_i x y hb
   obtain ⟨cS,hg⟩:=hg.cond;have cS:=aE cS;obtain ⟨hc,rfl⟩:=az.iJ hg;simp only [aj,jR] at hc;obtain ⟨⟨h0,h1⟩,h2⟩:=hc;obtain ⟨u,r',rfl,h3,h4⟩:=hv.cons_inv;obtain ⟨ht,aP,h5,a,cap,rfl,h6,h7,_⟩:=h3.jC;have DN:=zo hb h4 h0 h1 h2 h6;have hlen:=ht.len;have hle:((es.drop x.toNat).take (y.toNat - x.toNat)).length=y.toNat - x.toNat:=by simp; omega
   have hT:fV P T (y.toNat - x.toNat) ((es.drop x.toNat).take (y.toNat - x.toNat)) (fun i=>acc (x.toNat+i)):=by
    refine ⟨hle.symm,fun i hi=>?_,Lt _ (Ls _ ht.typed)⟩;rw [ht.acc _ (by omega)];simp only [List.getD];rw [kR,ax hi,lE]
   rcases h7 with ⟨rfl,hm⟩ | ⟨b,off,rr,rfl,h8,h9,qh⟩
   ·refine ⟨.slice none (y.toNat - x.toNat) (cap - x.toNat),by simp [o7,DN],?_⟩
    simp only [VK];exact ⟨hT,_,(h5.drop _).take _,none,_,rfl,by omega,.inl ⟨rfl,by omega⟩,trivial⟩
   ·have dB:=h.z b rr h8
    have NY:rr.aQ=n:=by rw [h9]; exact cS
    refine ⟨.slice (some ⟨b,off+x.toNat * n,none⟩) (y.toNat - x.toNat) (cap - x.toNat),?_,?_⟩
    ·simp [o7,DN,bH,sI,dB,NY]
    ·simp only [VK]
     refine ⟨hT,_,(h5.drop _).take _,_,_,rfl,by omega,.inr ⟨b,off+x.toNat * n,rr,rfl,h8,h9,?_⟩,trivial⟩;have:aJ P T=n:=cS;rw [this] at qh ⊢;exact qh.part
  ·exact hg.elim
 ·rename_i b o len cap r
  split at hg
  ·rename_i cs aQ dB
   split at hg
   ·rename_i x y hb
    obtain ⟨cS,hg⟩:=hg.cond;have cS:=aE cS;obtain ⟨hc,rfl⟩:=az.iJ hg;simp only [aj,jR] at hc;obtain ⟨⟨⟨h0,h1⟩,h2⟩,h6⟩:=hc;obtain ⟨u,r',rfl,h3,h4⟩:=hv.cons_inv;obtain ⟨z,hz,rfl⟩:=h3.Kb;have DN:=zo hb h4 h0 h1 h2 h6;obtain ⟨z',b5,e1,e2,_⟩:=h.row b cs aQ dB;rw [hz] at e1;simp at e1;subst e1;refine ⟨.slice (some ⟨z,o+x.toNat * n,none⟩) (y.toNat - x.toNat) (cap - x.toNat),?_,.afi hz⟩;simp [o7,DN,bH,sI,e2,cS]
   ·exact hg.elim
  ·exact hg.elim
 ·rename_i T b o m r
  split at hg
  ·rename_i T' mk N es acc hA
   split at hg
   ·rename_i x y hb
    obtain ⟨cS,hg⟩:=hg.cond;obtain ⟨hc,rfl⟩:=az.iJ hg;simp only [aj] at cS;have hT:=aE cS.2;have alk:aJ P T=n:=aE cS.1;subst hT;simp only [aj,jR] at hc;obtain ⟨⟨h0,h1⟩,h2⟩:=hc;obtain ⟨u,r',rfl,h3,h4⟩:=hv.cons_inv;rcases h3.rH with ⟨rfl,rfl,rfl⟩ | ⟨z,L,N',c,e1,rfl,e2,e3,e4⟩
    ·have DN:=zo hb h4 h0 h1 h2 (ao _)
     have Wy:x.toNat=0:=by omega
     have hy0:y.toNat=0:=by omega
     refine ⟨.slice none (y.toNat - x.toNat) (0 - x.toNat),by simp [o7,DN],.IE (.inl ⟨by omega,by omega,by rw [Wy,hy0]⟩)⟩
    ·have DN:=zo hb h4 h0 h1 h2 e2
     obtain ⟨T2,N2,mu,fg,vX,_,_,cs,e,own,aZ,aP,_,h5,_,_,_,h7⟩:=h.DV hA e1;simp only [KV.ts.injEq] at vX;obtain ⟨rfl,_⟩:=vX;refine ⟨.slice (some ⟨z,o * aJ P T+x.toNat * n,none⟩) (y.toNat - x.toNat) (c - x.toNat),?_,.IE (.inr ⟨z,L,N',c - x.toNat,e1,?_,by omega,by omega,?_⟩)⟩
     ·simp [o7,DN,bH,sI,h5,h7,alk]
     ·simp only [Value.slice.injEq,aR,Addr.mk.injEq,and_true,true_and]
      rw [alk,Nat.add_mul]
     ·rw [<- e4]
      congr 1;omega
   ·exact hg.elim
  ·exact hg.elim
 ·exact hg.elim
theorem Zu {len n:Nat} {lo hi:Bool} : abo P (Mp len n lo hi) (FU len n lo hi false):=by
 intro E A B vs us v h hv hg;unfold Mp at hg;split at hg
 ·rename_i b o r
  split at hg
  ·rename_i cs aQ dB
   split at hg
   ·rename_i x y hb
    obtain ⟨cS,hg⟩:=hg.cond;simp only [aj] at cS;have rJ:=aE cS.1;have hsz2:=cL cS.2;obtain ⟨hc,rfl⟩:=az.iJ hg;simp only [aj,jR] at hc;obtain ⟨⟨h0,h1⟩,h2⟩:=hc;obtain ⟨u,r',rfl,h3,h4⟩:=hv.cons_inv;obtain ⟨z,hz,rfl⟩:=h3.gh;have DN:=zo hb h4 h0 h1 h2 (ao _);obtain ⟨z',b5,e1,e2,e3⟩:=h.row b cs aQ dB;rw [hz] at e1;simp at e1;subst e1;have hlen:=e3.length;refine ⟨.slice (some ⟨z,o+x.toNat * n,none⟩) (y.toNat - x.toNat) (len - x.toNat),?_,.afi hz⟩;have qg:Nat.ble (o+len * n) b5.length=true:=Nat.ble_eq_true_of_le (by omega);simp [FU,DN,bH,sI,rowLen,e2,rJ,qg]
    try omega
   ·exact hg.elim
  ·exact hg.elim
 ·exact hg.elim
theorem Zv {lo hi:Bool} : r7 P (Mq lo hi) (Bx lo hi):=by
 intro E vs us v hv hg;unfold Mq at hg;split at hg
 ·rename_i s r
  split at hg
  ·rename_i x y hb
   obtain ⟨hc,rfl⟩:=az.iJ hg;simp only [aj,jR] at hc;obtain ⟨⟨h0,h1⟩,h2⟩:=hc;obtain ⟨u,r',rfl,h3,h4⟩:=hv.cons_inv;have:=h3.ph; subst this;have DN:=zo hb h4 h0 h1 h2 (ao _);exact ⟨_,by simp [Bx,DN],.mkStr⟩
  ·exact hg.elim
 ·exact hg.elim
theorem Zw:abo P (fun _=>Gi) BB:=by
 intro E A B vs us v h hv hg;have hg:az (Gi vs) v:=hg;unfold Gi at hg;split at hg
 ·obtain ⟨u,rfl,h1⟩:=hv.dC
  have:=h1.mv; subst this;have hg:KV.str ⟨⟨[]⟩⟩=v:=hg;subst hg;exact ⟨_,rfl,.mkStr⟩
 ·rename_i T mk m es acc _
  obtain ⟨u,rfl,h1⟩:=hv.dC;obtain ⟨hc,rfl⟩:=az.iJ hg;obtain ⟨ht,aP,h5,a,cap,rfl,h6,h7,_⟩:=h1.jC;have hlen:=ht.len;rcases h7 with ⟨rfl,hm⟩ | ⟨b,off,rr,rfl,h8,h9,qh⟩
  ·have:es = []:=lD.1 (by omega)
   subst this;exact ⟨_,rfl,.mkStr⟩
  ·have dB:=h.z b rr h8
   have uc:∀ (i:Nat) (w:Value),aP[i]? = some w->∃ e,es[i]? = some e/\w = .int .u8 (byteOf e).toNat/\w.cells.size=1:=by
    intro i w hw;have hi:i < es.length:=by rw [<- h5.length]; exact (cp.1 hw).1
    obtain ⟨w',e1,e2⟩:=h5.get (QI hi);rw [hw] at e1;simp at e1;subst e1;have mr:=dS.1 hc _ (eW (QI hi));refine ⟨_,QI hi,?_⟩
    revert e2 mr
    generalize es.getD i .bx=e;intro e2 mr;cases e <;> simp [afa] at mr;rename_i k q;cases k <;> simp at mr;have:=e2.bO; subst this;refine ⟨?_,rfl⟩;simp only [byteOf,Value.int.injEq,true_and];obtain ⟨p,rfl⟩:=Int.eq_ofNat_of_zero_le mr.1;have hp:p < 256:=by omega
    simp [UInt8.toNat_ofNat',Nat.mod_eq_of_lt hp]
   have anj:aP=es.map fun e=>.int .u8 (byteOf e).toNat:=by
    apply List.ext_getElem?;intro i;cases hw:aP[i]? with
    | none=>
     have:es.length<=i:=by rw [<- h5.length]; exact NA.1 hw
     simp [this]
    | some w=>
     obtain ⟨e,e1,e2,_⟩:=uc i w hw;simp [e1,e2]
   have rJ:∀ i w,aP[i]? = some w->aJ P T=1:=fun i w hw=>by
    obtain ⟨_,_,_,UN⟩:=uc i w hw;rw [<- (qh i w hw).1]; exact UN
   have zO:B.nK ⟨b,off,none⟩ m=some aP:=by
    simp only [St.nK,bH,Option.isNone_none,ah,q8,dB,cA];have iL:aP.length=m:=by rw [h5.length]; exact hlen.symm
    have k8:∀ i,i < m->rr.cs[off+i]? = aP[i]?:=by
     intro i hi;have KC:i < aP.length:=by omega
     have hw:aP[i]? = some aP[i]:=cl KC;have h1':=rJ i _ hw;obtain ⟨h12,h13⟩:=qh i _ hw;obtain ⟨e,e1,e2,_⟩:=uc i _ hw;have:=h13 0 aP[i] (by rw [e2]; rfl);rw [h1'] at this;rw [hw,<- this];congr 1;omega
    have hle:m<=(rr.cs.drop off).length:=by
     cases hm0:m with
     | zero=>omega
     | succ q=>
      have:=k8 q (by omega);have hq:q < aP.length:=by omega
      rw [cl hq] at this;have:=(cp.1 this).1;simp;omega
    rw [nS,E9 hle];congr 1;apply List.ext_getElem?;intro i;rw [kR];split
    ·rename_i hi
     rw [lE];exact k8 i hi
    ·rename_i hi
     exact (NA.2 (by omega)).symm
   have Ga:∀ (l:List KV),CW (l.map fun e=>.int .u8 (byteOf e).toNat)=some (l.map byteOf):=by
    intro l
    induction l with
    | nil=>rfl
    | cons e l ih=>
     have hb:=(byteOf e).toNat_lt;show cond (Nat.blt (byteOf e).toNat 256) ((CW (l.map fun e=>.int .u8 (byteOf e).toNat)).map (UInt8.ofNat (byteOf e).toNat::·)) none=_;have:Nat.blt (byteOf e).toNat 256=true:=by rw [b8]; omega
     rw [this,ah,ih];simp
   refine ⟨.string ⟨⟨es.map byteOf⟩⟩,?_,.mkStr⟩;simp only [BB,zO,cA];rw [anj,Ga];rfl
 ·exact hg.elim
theorem UO {b lo hi:Nat} : ∀ {L:List Nat} {B:St},(∀ x∈L,np (B.get x) lo hi=false)->B.kill b lo hi L=B
 | [],B,_=>rfl
 | x::L,B,h=>by
  simp only [St.kill];rw [h x (by simp),Bool.and_false,ay];exact UO fun y hy=>h y (by simp [hy])
theorem cE.afl {A:ai} {B:St} (sz:Nat) (h:du P E A B):cE P E A B E (A.new (.aF 0 sz)) B:=by
 have hn:E.φ A.next=none:=by
  cases CQ:E.φ A.next with
  | none=>rfl
  | some g=>have:=h.lk _ g CQ; omega
 have hA:∀ (b:Nat) (v:KV),(A.new (.aF 0 sz)).get b=some (.arr v)->A.get b=some (.arr v):=fun b v hb=>by
  rw [ai.cV] at hb;split at hb
  ·simp at hb
  ·exact hb
 have OI:∀ (b:Nat) (v:KV),(A.new (.aF 0 sz)).get b=some (.iI v)->A.get b=some (.iI v):=fun b v hb=>by
  rw [ai.cV] at hb;split at hb
  ·simp at hb
  ·exact hb
 refine ⟨⟨?_,?_,h.z,h.apart,h.inj,h.iB.new (.inr hn),fun b x e=>?_,fun b g e=>?_,?_,h.eD,h.lT,h.iU,h.fresh,h.mem,h.ar.di (Env.le_refl _) (fun _=>rfl) hA OI (by simp) (ao _) (fun _ _=>rfl) (fun _ _ e=>.inl e) (fun _ _ e=>.inl e) (fun b g e=>.inl ⟨b,e⟩) (fun _ _=>rfl) h.mem⟩,Env.le_refl _,by simp,fun _ _ _ _=>rfl,fun _ _ e=>.inl e,fun _ _ e=>.inl e,fun _ _ e=>.inl e,fun _ _ _ _=>rfl,fun _ q=>.inl (q.of (fun _=>rfl) hA),fun _ q=>.inl (q.of (fun _=>rfl) hA fun _ _=>rfl),fun _ _ q=>.inl q,fun _ q=>.inl (q.of (fun _=>rfl) hA (fun _ _=>rfl) fun _ _=>rfl),ll fun _ _=>rfl⟩
 ·intro b cs aQ hb
  rw [ai.cV] at hb;split at hb
  ·simp at hb
  ·exact h.row b cs aQ hb
 ·intro b top D0 hb
  rw [ai.cV] at hb;split at hb
  ·rename_i e
   simp at hb;refine .inl ⟨hb.1.symm,?_⟩;cases CQ:E.φ b with
   | none=>rfl
   | some g=>have:=h.lk b g CQ; omega
  ·exact h.aF b top D0 hb
 ·have:=h.fZ b x e; rw [ai.cw]; omega
 ·have:=h.lk b g e; rw [ai.cw]; omega
 ·intro b o hb
  rw [ai.cV] at hb;rw [ai.cw];split at hb
  ·omega
  ·have:=h.live b o hb; omega
theorem cE.grow {A:ai} {B:St} {f g top Lu sz:Nat} {c:List Value} (h:du P E A B) (hA:A.get f=some (.aF top sz)) (hf:(E.φ f=none/\g=B.next)\/E.φ f=some g) (hc:c.length=Lu * sz) (ht:top<=Lu) (Aq:0 < Lu) :
  cE P E A B ((E.dV B.next ⟨c,sz,true,some (g,0)⟩).pn f g) (A.put f (.aF Lu sz)) (B.grow g 0 c sz):=by
 have fA:∀ x,(B.grow g 0 c sz).get x=if x=B.next then some (.row c sz true (some (g,0))) else B.get x:=fun x=>by simp [St.grow]
 have jV:∀ q,(B.grow g 0 c sz).members q=if q=g then B.next::B.members g else B.members q:=fun q=>by simp [St.grow,St.yM]
 have gd:(B.grow g 0 c sz).next=B.next+1:=rfl;have hlef:=h.live f _ hA;have hle:E.le ((E.dV B.next ⟨c,sz,true,some (g,0)⟩).pn f g):=by
  refine ⟨fun _ _ e=>e,fun _ _ e=>e,fun b r e=>?_,fun b q e=>?_⟩
  ·have:=h.lT b r e
   simp only [Env.pn,Env.dV]; rw [ae (by omega)]; exact e
  ·simp only [Env.pn,Env.dV]
   split
   ·rename_i e2
    subst e2;rcases hf with ⟨h1,_⟩ | h1
    ·rw [h1] at e; simp at e
    ·rw [h1] at e; exact e
   ·exact e
 have hg:g<=B.next:=by
  rcases hf with ⟨_,h1⟩ | h1
  ·omega
  ·have:=h.iU f g h1; omega
 generalize hB' : B.grow g 0 c sz=B' at fA jV gd;have OK:∀ (b:Nat) (v:KV),(A.put f (.aF Lu sz)).get b=some (.arr v)->A.get b=some (.arr v):=fun b v hb=>by
  rw [ai.b6] at hb;split at hb
  ·simp at hb
  ·exact hb
 have OI:∀ (b:Nat) (v:KV),(A.put f (.aF Lu sz)).get b=some (.iI v)->A.get b=some (.iI v):=fun b v hb=>by
  rw [ai.b6] at hb;split at hb
  ·simp at hb
  ·exact hb
 have DZ:∀ x,x < B.next->B'.get x=B.get x:=fun x hx=>by rw [fA,ae (by omega)]
 have IM:∀ b r,((E.dV B.next ⟨c,sz,true,some (g,0)⟩).pn f g).z b=some r->E.z b=some r\/B.next<=b:=fun b r e=>by
  simp only [Env.pn,Env.dV] at e;split at e
  ·exact .inr (by omega)
  ·exact .inl e
 have alm:∀ b q,((E.dV B.next ⟨c,sz,true,some (g,0)⟩).pn f g).φ b=some q->E.φ b=some q\/B.next<=q:=fun b q e=>by
  simp only [Env.pn,Env.dV] at e;split at e
  ·rename_i e2
   simp at e;subst e e2;rcases hf with ⟨_,h1⟩ | h1
   ·exact .inr (by omega)
   ·exact .inl h1
  ·exact .inl e
 have KG:∀ q,AF A E B q->B'.members q=B.members q:=fun q hq=>by
  rw [jV,ae];intro e2;subst e2;obtain ⟨b,v,x,L,N,cs,e,own,k,h1,h2,h3⟩:=hq;obtain ⟨h4,h5,_⟩:=h.ar.p7 b v x L N cs e own q k h1 h2 h3;rcases hf with ⟨_,h1⟩ | h1
  ·omega
  ·exact h5 f h1
 have adG:∀ q y,y∈B'.members q->y∈B.members q\/B.next<=y:=fun q y hy=>by
  rw [jV] at hy;split at hy
  ·rename_i e2
   subst e2;rcases bd.1 hy with hy | hy
   ·exact .inr (by omega)
   ·exact .inl hy
  ·exact .inl hy
 refine ⟨⟨?_,?_,?_,?_,?_,?_,?_,?_,?_,?_,?_,?_,?_,?_,h.ar.di hle (fun _=>rfl) OK OI (ao _) (by omega) (fun x q=>DZ x (h.Df q)) IM (fun _ _ e=>.inl e) (fun b q e=>(alm b q e).imp (fun e=>⟨b,e⟩) id) KG h.mem⟩,hle,ao _,?_,fun b x e=>.inl e,fun b r e=>(IM b r e).imp id .inr,alm,fun q hq hn _=>by
  rw [jV,ae];intro e2;subst e2;rcases hf with ⟨_,h1⟩ | h1
  ·omega
  ·exact hn f h1,fun _ q=>.inl (q.of (fun _=>rfl) OK),fun _ q=>.inl (q.of (fun _=>rfl) OK fun x q=>DZ x (h.Df q)),adG,fun _ q=>.inl (q.of (fun _=>rfl) OK (fun x q=>DZ x (h.Df q)) KG),ll DZ⟩
 ·intro b cs aQ hb
  rw [ai.b6] at hb;split at hb
  ·simp at hb
  ·obtain ⟨x,c2,h1,h2,h3⟩:=h.row b cs aQ hb
   have:=h.eD b x h1;exact ⟨x,c2,h1,by rw [fA,ae (by omega)]; exact h2,h3.mono hle⟩
 ·intro b t D0 hb
  rw [ai.b6] at hb;split at hb
  ·rename_i e
   simp at hb;obtain ⟨rfl,rfl⟩:=hb;subst e;refine .inr ⟨g,by simp [Env.pn],Aq,fun x hx cs e own q k hr=>?_⟩;rw [fA] at hr;rw [jV,ax rfl] at hx;split at hr
   ·simp at hr
    obtain ⟨rfl,rfl,_,_,rfl⟩:=hr;exact ⟨rfl,Nat.le_of_eq hc⟩
   ·rename_i bA
    rcases bd.1 hx with hx | hx
    ·exact absurd hx bA
    ·rcases hf with ⟨_,h1⟩ | h1
     ·rw [h1,h.fresh _ (ao _)] at hx; simp at hx
     ·rcases h.aF b top sz hA with ⟨_,h2⟩ | ⟨g2,h2,_,h3⟩
      ·rw [h1] at h2; simp at h2
      ·rw [h1] at h2
       simp at h2;subst h2;obtain ⟨h4,h5⟩:=h3 x hx cs e own q k hr;exact ⟨h4,dx h5 (Nat.mul_le_mul_right _ ht)⟩
  ·rename_i HK
   rcases h.aF b t D0 hb with ⟨h1,h2⟩ | ⟨g2,h2,hp2,h3⟩
   ·exact .inl ⟨h1,by simp only [Env.pn,Env.dV]; rw [ae HK]; exact h2⟩
   ·have bA:g2≠g:=by
     intro e;subst e;rcases hf with ⟨_,h1⟩ | h1
     ·have:=h.iU b g2 h2; omega
     ·exact HK (h.iB b f g2 _ _ _ _ hb hA h2 h1)
    refine .inr ⟨g2,by simp only [Env.pn,Env.dV]; rw [ae HK]; exact h2,hp2,fun x hx cs e own q k hr=>?_⟩;rw [jV,ae bA] at hx;have:=h.mem g2 x hx;rw [fA,ae (by omega)] at hr;exact h3 x hx cs e own q k hr
 ·intro b r hb
  simp only [Env.pn,Env.dV] at hb;rw [fA];split at hb
  ·rename_i e; simp at hb; subst hb; rw [ax e]
  ·rename_i e; rw [ae e]; exact h.z b r hb
 ·intro b x hb
  have hb:E.κ b=some x:=hb;have:=h.eD b x hb;simp only [Env.pn,Env.dV];rw [ae (by omega)];exact h.apart b x hb
 ·exact h.inj
 ·intro b d q tb sb td sd lb ld hb hd
  simp only [Env.pn,Env.dV] at hb hd;rw [ai.b6] at lb ld;have key:∀ d t s,d≠f->A.get d=some (.aF t s)->E.φ d≠some g:=by
   intro d t s hd hl e;rcases hf with ⟨_,h1⟩ | h1
   ·have:=h.iU d g e; omega
   ·exact hd (h.iB d f g _ _ _ _ hl hA e h1)
  by_cases e1:b=f <;> by_cases e2:d=f
  ·omega
  ·rw [ax e1] at hb; rw [ae e2] at hd ld; simp at hb; subst hb; exact absurd hd (key d _ _ e2 ld)
  ·rw [ax e2] at hd; rw [ae e1] at hb lb; simp at hd; subst hd; exact absurd hb (key b _ _ e1 lb)
  ·rw [ae e1] at hb lb; rw [ae e2] at hd ld; exact h.iB b d q _ _ _ _ lb ld hb hd
 ·exact h.fZ
 ·intro b q hb
  simp only [Env.pn,Env.dV] at hb;rw [ai.o8];split at hb
  ·omega
  ·exact h.lk b q hb
 ·intro b o hb
  rw [ai.b6] at hb;rw [ai.o8];split at hb
  ·omega
  ·exact h.live b o hb
 ·intro b x hb; have:=h.eD b x hb; omega
 ·intro b r hb
  simp only [Env.pn,Env.dV] at hb;rw [gd];split at hb
  ·omega
  ·have:=h.lT b r hb; omega
 ·intro b q hb
  simp only [Env.pn,Env.dV] at hb;rw [gd];split at hb
  ·simp at hb; omega
  ·have:=h.iU b q hb; omega
 ·intro q hq
  rw [gd] at hq;rw [jV,ae (by omega)];exact h.fresh q (by omega)
 ·intro q x hx
  rw [gd];rw [jV] at hx;split at hx
  ·rcases bd.1 hx with hx | hx
   ·omega
   ·have:=h.mem g x hx; omega
  ·have:=h.mem q x hx; omega
 ·intro x hx _ _; rw [fA,ae (by omega)]
end Go.K
end
section
namespace Go.K
open Go Go.aA
variable {P:Program} {E:Env}
def mkE (agg:Bool) (m:List Value):Value:=cond agg (.agg ⟨m⟩) (m.headD .nilIface)
theorem UQ {agg:Bool} {m:List Value} (hs:∀ v∈m,scalar v=true) (h:agg=true\/m.length=1):(mkE agg m).cells.toList=m:=by
 cases agg with
 | true=>rfl
 | false=>
  rcases h with h | h
  ·simp at h
  ·match m,h with
   | [v],_=>
    have:=hs v (by simp);show v.cells.toList = [v];cases v <;> first | rfl | simp [scalar] at this
theorem QJ {l:Lay} {ks:List KV} (h:aq l.ks ks=true) (ha:l.agg=true\/l.ks.length=1):cf l (HI l.agg ks)=true:=by
 obtain ⟨agg,cs⟩:=l;cases agg with
 | true=>simpa [HI,cf] using h
 | false=>
  simp at ha
  match cs,ha,ks,h with
  | [c],_,[v],h=>
   have hk:kindOk c v=true:=by simpa [aq] using h
   show cf ⟨false,[c]⟩ v=true;cases v with
   | agg cs=>cases c <;> simp [kindOk] at hk
   | nh cs=>cases c <;> simp [kindOk] at hk
   | _=>simpa [cf] using h
  | [c],_,[],h=>simp [aq] at h
  | [c],_,_::_::_,h=>simp [aq] at h
theorem UR {E:Env} {ks:List KV} {m:List Value} {agg:Bool} (h:aK P E ks m) (ha:agg=true\/m.length=1):VK P E (HI agg ks) (mkE agg m):=by
 cases agg with
 | true=>exact .nt h
 | false=>
  rcases ha with ha | ha
  ·simp at ha
  ·match m,ha,ks,h with
   | [v],_,ks,h=>
    have hl:=h.length
    match ks,hl,h with
    | [k],_,h=>
     obtain ⟨y,ys,e,h1,_⟩:=h.cons_inv;simp at e;rw [e.1];exact h1
theorem Gw {α:Type} : ∀ {n:Nat} {l vs r:List α},jz n l vs=some r->
  r.length=l.length/\(vs≠[]->n+vs.length<=l.length)/\∀ (i:Nat),r[i]? = if n<=i/\i < n+vs.length then vs[i - n]? else l[i]?
 | 0,l,[],r,h=>by simp [jz] at h; subst h; simp
 | 0,[],_::_,r,h=>by simp [jz] at h
 | 0,x::l,v::vs,r,h=>by
  simp only [jz,aU] at h;obtain ⟨q,hq,rfl⟩:=h;obtain ⟨h1,h2,h3⟩:=Gw hq;refine ⟨by simp [h1],?_,fun i=>?_⟩
  ·intro _
   cases vs with
   | nil=>simp
   | cons u us=>have:=h2 (by simp); simp at this ⊢; omega
  ·cases i with
   | zero=>simp
   | succ i=>simp [h3 i]
 | n+1,[],[],r,h=>by simp [jz] at h; subst h; simp
 | n+1,[],_::_,r,h=>by simp [jz] at h
 | n+1,x::l,vs,r,h=>by
  simp only [jz,aU] at h;obtain ⟨q,hq,rfl⟩:=h;obtain ⟨h1,h2,h3⟩:=Gw hq;refine ⟨by simp [h1],?_,fun i=>?_⟩
  ·intro bA
   have:=h2 bA;simp at this ⊢;omega
  ·cases i with
   | zero=>simp
   | succ i=>
    simp only [FK,h3 i];by_cases hc:n<=i/\i < n+vs.length
    ·rw [ax hc,ax (by omega),show i+1 - (n+1)=i - n by omega]
    ·rw [ae hc,ae (by omega)]
theorem MF (v:KV):∀ (es:List KV) (i j:Nat),(setAt es i v).getD j .bx=if j=i/\i < es.length then v else es.getD j .bx
 | [],0,j=>by simp [setAt]
 | [],_+1,j=>by simp [setAt]
 | e::es,0,0=>by simp [setAt]
 | e::es,0,j+1=>by simp [setAt]
 | e::es,i+1,0=>by simp [setAt]
 | e::es,i+1,j+1=>by
  have:=MF v es i j;simp only [setAt,List.getD_cons_succ,lF];rw [this];by_cases h:j=i/\i < es.length
  ·rw [ax h,ax ⟨by omega,by omega⟩]
  ·rw [ae h,ae (by omega)]
theorem wP:∀ (n:Nat) (l vs:List Value),n+vs.length<=l.length->∃ r,fc n l vs=some r
 | 0,l,[],_=>⟨l,rfl⟩
 | 0,[],_::_,h=>by simp at h
 | 0,x::l,v::vs,h=>by
  obtain ⟨r,hr⟩:=wP 0 l vs (by simp at h ⊢; omega);exact ⟨v::r,by rw [uX,hr]; rfl⟩
 | n+1,[],[],_=>⟨[],rfl⟩
 | n+1,[],_::_,h=>by simp at h
 | n+1,x::l,vs,h=>by
  obtain ⟨r,hr⟩:=wP n l vs (by simp at h ⊢; omega);exact ⟨x::r,by rw [ns,hr]; rfl⟩
theorem RT:∀ {ks:List CK} {cs:List KV},cs.length=ks.length->(∀ (i:Nat) c v,ks[i]? = some c->cs[i]? = some v->kindOk c v=true)->aq ks cs=true
 | [],[],_,_=>rfl
 | [],_::_,h,_=>by simp at h
 | _::_,[],h,_=>by simp at h
 | c::ks,v::cs,h,k=>by
  simp only [aq,aj];exact ⟨k 0 c v rfl rfl,RT (by simpa using h) fun i d u e1 e2=>k (i+1) d u (by simpa using e1) (by simpa using e2)⟩
theorem adH {l:Lay} {e:KV} (h:cf l e=true):l.agg=true\/e.cells.length=1:=by
 by_cases ha:∃ cs,e = .agg cs
 ·obtain ⟨cs,rfl⟩:=ha
  simp only [cf,aj] at h;exact .inl h.1
 ·have hc:e.cells = [e]:=by cases e <;> first | rfl | exact absurd ⟨_,rfl⟩ ha
  rw [hc];exact .inr rfl
theorem agW {T t:TypeId} {k:Nat} {e vn e2:KV} {u w:Value} (hw:Ti P T t k) (wN:cf (aH P T) e=true) (hu:VK P E e u) (hvn:cf (aH P t) vn=true) (hvw:VK P E vn w) (h:putCells P T k e vn.cells=some e2) :
  ∃ u2,VK P E e2 u2/\cf (aH P T) e2=true/\u2.cells.size=aJ P T/\e2.cells.length=e.cells.length/\(∀ m,u2.cells.toList[m]? = if k<=m/\m < k+w.cells.toList.length then w.cells.toList[m - k]? else u.cells.toList[m]?)/\(w.cells.toList≠[]->k+w.cells.toList.length<=aJ P T):=by
 unfold putCells at h;obtain ⟨l1,l2,_⟩:=Gu wN;rw [l1] at h;obtain ⟨iw,h1,rfl⟩:=aU.1 h;obtain ⟨oj,KD⟩:=fw wN;obtain ⟨zL,L8⟩:=fw hvn;have hcu:=hu.cells KD;have hcw:=hvw.cells L8;obtain ⟨r,h2,h3⟩:=aK.jz h1 hcu hcw;obtain ⟨s1,s2,s3⟩:=fG h2;obtain ⟨q1,q2,q3⟩:=Gw h1;have zN:e.cells.length=aJ P T:=om oj;have uZ:=adH wN;have hlr:r.length=e.cells.length:=by rw [s1,hcu.length]
 have oK:aq (aH P T).ks iw=true:=by
  refine RT (by rw [q1]; exact zN) fun i c v e1 e3=>?_;rw [q3 i] at e3;split at e3
  ·rename_i hc
   obtain ⟨x,MG,hx2⟩:∃ d,(aH P t).ks[i - k]? = some d/\d=c:=by
    have aI:i - k < (aH P t).ks.length:=by rw [<- om zL]; omega
    refine ⟨_,cl aI,?_⟩;have:=hw.is (i - k) _ (cl aI);rw [show k+(i - k)=i by omega,e1] at this;simpa using this.symm
   subst hx2;obtain ⟨v',h4,h5⟩:=wM zL MG;rw [e3] at h4;simp at h4; subst h4;exact h5
  ·obtain ⟨v',h4,h5⟩:=wM oj e1
   rw [e3] at h4;simp at h4; subst h4;exact h5
 have aln:cf (aH P T) (HI (aH P T).agg iw)=true:=QJ oK (by
  rcases uZ with h | h
  ·exact .inl h
  ·exact .inr (by rw [<- om oj]; exact h))
 have y8:∀ v∈r,scalar v=true:=h3.scalar (AW oK);have uA:(mkE (aH P T).agg r).cells.toList=r:=UQ y8 (uZ.imp id fun h=>by rw [hlr]; exact h);refine ⟨mkE (aH P T).agg r,UR h3 (uZ.imp id fun h=>by rw [hlr]; exact h),aln,?_,?_,fun m=>?_,fun bA=>?_⟩
 ·rw [<- Array.length_toList,uA,hlr]; exact zN
 ·exact (om (fw aln).1).trans zN.symm
 ·rw [uA]; exact s3 m
 ·have:=s2 bA
  rw [hcu.length] at this;omega
theorem agX {sz i k:Nat} {cs:List Value} {aP:List Value} {u u2:Value} {wl:List Value} (hl:mJ sz 0 cs aP) (hi:aP[i]? = some u) (hsu:u.cells.size=sz) (jI:wl≠[]->k+wl.length<=sz) (hg:∀ m,u2.cells.toList[m]? = if k<=m/\m < k+wl.length then wl[m - k]? else u.cells.toList[m]?) (iy:u2.cells.size=sz) :
  ∃ iw,fc (i * sz+k) cs wl=some iw/\mJ sz 0 iw (aP.set i u2)/\iw.length=cs.length:=by
 have hex:∃ iw,fc (i * sz+k) cs wl=some iw:=by
  cases hwl:wl with
  | nil=>exact ⟨cs,H8 _ _⟩
  | cons a l=>
   have hf:=jI (by rw [hwl]; simp);rw [hwl] at hf;obtain ⟨_,hc⟩:=hl i u hi;have aI:k+l.length < u.cells.size:=by rw [hsu]; simp at hf; omega
   have:=hc (k+l.length) u.cells[k+l.length] (by simp [aI]);have hb:=(cp.1 this).1;exact wP _ _ _ (by simp; omega)
 obtain ⟨iw,h1⟩:=hex;obtain ⟨s1,s2,s3⟩:=fG h1;refine ⟨iw,h1,fun j x hx=>?_,s1⟩;rw [List.getElem?_set] at hx;split at hx
 ·rename_i e
  subst e;split at hx
  ·simp at hx; subst hx
   refine ⟨iy,fun m y hy=>?_⟩;have hy' : u2.cells.toList[m]? = some y:=by simpa using hy
   have hm:m < sz:=by rw [<- iy]; exact (jh.1 hy).1
   rw [hg m] at hy';rw [bF,s3];split at hy'
   ·rw [ax (by omega),show i * sz+m - (i * sz+k)=m - k by omega]; exact hy'
   ·rw [ae (by omega)]
    have:=(hl i u hi).2 m y (by simpa using hy');rwa [bF] at this
  ·simp at hx
 ·rename_i bA
  obtain ⟨h2,h3⟩:=hl j x hx;refine ⟨h2,fun m y hy=>?_⟩;have hm:m < sz:=by rw [<- h2]; exact (jh.1 hy).1
  rw [s3,ae]
  ·exact h3 m y hy
  ·rintro ⟨ha,hb⟩
   cases hwl:wl with
   | nil=>rw [hwl] at hb; simp at hb; omega
   | cons a l=>
    have hf:=jI (by rw [hwl]; simp);rcases Nat.lt_or_gt_of_ne bA with h | h
    ·have:(i+1) * sz<=j * sz:=Nat.mul_le_mul_right _ h
     rw [Nat.succ_mul] at this;omega
    ·have:(j+1) * sz<=i * sz:=Nat.mul_le_mul_right _ h
     rw [Nat.succ_mul] at this;omega
theorem adI {T:TypeId} {N i:Nat} {es:List KV} {acc:Nat->KV} {e:KV} (ht:fV P T N es acc) (hi:i < N) (he:cf (aH P T) e=true):fV P T N (setAt es i e) (uD acc i e) where
 len:=by rw [yS]; exact ht.len
 acc j hj:=by
  rw [MF];unfold uD;cases hb:Nat.beq j i with
  | true=>have:=aE hb; rw [ax ⟨this,by rw [<- ht.len]; exact hi⟩]; rfl
  | false=>rw [ae (fun h=>by rw [h.1,p9] at hb; simp at hb)]; exact ht.acc j hj
 typed:=lV fun j x hx=>by
  have hx' : x=(setAt es i e).getD j .bx:=by rw [eO,hx]; rfl
  rw [MF] at hx';split at hx'
  ·rw [hx']; exact he
  ·rename_i bA
   have aI:j < es.length:=by rw [<- yS es i e]; exact (cp.1 hx).1
   exact fI ht.typed (i:=j) (by rw [hx',eO,cl aI]; rfl)
theorem AX {B:St} {x y lo hi:Nat} {aZ:Option (Nat×Nat)} : (B.eH x aZ lo hi).get y=B.get y\/∃ g k,aZ=some (g,k)/\y∈B.members g/\y≠x/\(B.eH x aZ lo hi).get y=some .dead/\∃ cs e own f j,B.get y=some (.row cs e own (some (f,j))):=by
 cases aZ with
 | none=>exact .inl rfl
 | some p=>
  obtain ⟨g,k⟩:=p;simp only [St.eH,x7];by_cases hc:y∈B.members g/\y≠x/\np (B.get y) (k+lo) (k+hi)=true
  ·refine .inr ⟨g,k,rfl,hc.1,hc.2.1,by rw [ax hc],?_⟩
   have hs:=hc.2.2;unfold np at hs;split at hs
   ·rename_i cs e own f j hy; exact ⟨cs,e,own,f,j,hy⟩
   ·simp at hs
  ·exact .inl (by rw [ae hc])
theorem Fa {B:St} {x lo hi:Nat} {aZ:Option (Nat×Nat)} : (B.eH x aZ lo hi).members=B.members:=by
 cases aZ with
 | none=>rfl
 | some p=>simp [St.eH]
theorem Lv {B:St} {x lo hi:Nat} {aZ:Option (Nat×Nat)} : (B.eH x aZ lo hi).next=B.next:=by
 cases aZ with
 | none=>rfl
 | some p=>simp [St.eH]
theorem cE.afm {A:ai} {B:St} {b x N lo hi:Nat} {T:TypeId} {es:List KV} {acc:Nat->KV} {aP cs mG:List Value} {aZ:Option (Nat×Nat)} (h:du P E A B) (hb:∃ v,A.get b=some (.arr v)) (hx:E.α b=some (x,mG.length,N))
  (dB:B.get x=some (.row mG (aJ P T) true aZ)) (hlen:cs.length=mG.length) (cS:1<=aJ P T) (ht:fV P T N es acc) (MH:aK P E es aP) (hl:mJ (aJ P T) 0 cs aP) :
  cE P E A B E (A.put b (.arr (.ts T .any N es acc))) ((B.put x (.row cs (aJ P T) true aZ)).eH x aZ lo hi):=by
 obtain ⟨v0,hb⟩:=hb;have po:AR A E x:=⟨b,v0,_,_,hb,hx⟩
 have eV:((B.put x (.row cs (aJ P T) true aZ)).eH x aZ lo hi).get x=some (.row cs (aJ P T) true aZ):=by
  rcases AX (B:=B.put x (.row cs (aJ P T) true aZ)) (x:=x) (y:=x) (lo:=lo) (hi:=hi) (aZ:=aZ) with e | ⟨g,k,_,_,h3,_⟩
  ·rw [e]; simp
  ·exact absurd rfl h3
 have hgy:∀ y,y≠x->((B.put x (.row cs (aJ P T) true aZ)).eH x aZ lo hi).get y=B.get y\/(((B.put x (.row cs (aJ P T) true aZ)).eH x aZ lo hi).get y=some .dead/\∃ g k,aZ=some (g,k)/\y∈B.members g):=by
  intro y hy;rcases AX (B:=B.put x (.row cs (aJ P T) true aZ)) (x:=x) (y:=y) (lo:=lo) (hi:=hi) (aZ:=aZ) with e | ⟨g,k,h1,h2,_,h4,_⟩
  ·exact .inl (by rw [e,St.b6,ae hy])
  ·exact .inr ⟨h4,g,k,h1,by simpa using h2⟩
 have jV:((B.put x (.row cs (aJ P T) true aZ)).eH x aZ lo hi).members=B.members:=by rw [Fa]; simp
 have gd:((B.put x (.row cs (aJ P T) true aZ)).eH x aZ lo hi).next=B.next:=by rw [Lv]; simp
 generalize (B.put x (.row cs (aJ P T) true aZ)).eH x aZ lo hi=B' at eV hgy jV gd;have IU:∀ y,y≠x->(E.z y≠none\/AR A E y\/∃ c,E.κ c=some y)->B'.get y=B.get y:=by
  intro y hy hs;rcases hgy y hy with e | ⟨_,g,k,rfl,h2⟩
  ·exact e
  ·obtain ⟨_,_,h3⟩:=h.ar.p7 b v0 x _ _ _ _ _ g k hb hx dB
   obtain ⟨h4,h5,h6⟩:=h3 y h2 hy;rcases hs with hs | hs | ⟨c,hs⟩
   ·exact absurd h4 hs
   ·exact absurd hs h5
   ·exact absurd hs (h6 c)
 have hA:∀ (c:Nat) (v:KV),(A.put b (.arr (.ts T .any N es acc))).get c=some (.arr v)->∃ u,A.get c=some (.arr u):=fun c v hc=>by
  rw [ai.b6] at hc;split at hc
  ·rename_i e; exact ⟨v0,by rw [e]; exact hb⟩
  ·exact ⟨v,hc⟩
 have IV:∀ y,AR (A.put b (.arr (.ts T .any N es acc))) E y->AR A E y:=fun y q=>by
  obtain ⟨c,v,L,M,h1,h2⟩:=q;obtain ⟨u,h1⟩:=hA c v h1;exact ⟨c,u,L,M,h1,h2⟩
 have UT:∀ y,AR A E y->∀ mc e own Lw,B'.get y=some (.row mc e own Lw)->∃ iw,B.get y=some (.row iw e own Lw)/\iw.length=mc.length:=fun y q mc e own Lw hy=>by
  by_cases zp:y=x
  ·subst zp
   rw [eV] at hy;simp at hy;obtain ⟨rfl,rfl,rfl,rfl⟩:=hy;exact ⟨mG,dB,hlen.symm⟩
  ·rw [IU y zp (.inr (.inl q))] at hy
   exact ⟨mc,hy,rfl⟩
 have abu:∀ g,AF (A.put b (.arr (.ts T .any N es acc))) E B' g->AF A E B g:=fun g q=>by
  obtain ⟨c,v,y,L,M,mc,e,own,k,h1,h2,h3⟩:=q;obtain ⟨u,h1⟩:=hA c v h1;obtain ⟨iw,h3,_⟩:=UT y ⟨c,u,L,M,h1,h2⟩ _ _ _ _ h3;exact ⟨c,u,y,L,M,iw,e,own,k,h1,h2,h3⟩
 refine ⟨⟨?_,?_,?_,h.apart,h.inj,h.iB.put (.inl fun _ _=>by simp),h.fZ,h.lk,?_,fun b x e=>by rw [gd]; exact h.eD b x e,fun b r e=>by rw [gd]; exact h.lT b r e,fun b g e=>by rw [gd]; exact h.iU b g e,fun g hg=>by rw [gd] at hg; rw [jV]; exact h.fresh g hg,fun g y hy=>by rw [jV] at hy; rw [gd]; exact h.mem g y hy,?_⟩,Env.le_refl _,ao _,?_,fun _ _ e=>.inl e,fun _ _ e=>.inl e,fun _ _ e=>.inl e,fun _ _ _ _=>by rw [jV],fun y q=>.inl (IV y q),fun g q=>.inl (abu g q),fun g y q=>.inl (by rw [jV] at q; exact q),fun y q=>.inl ?_,?_⟩
 ·intro c mc aQ hc
  rw [ai.b6] at hc;split at hc
  ·simp at hc
  ·obtain ⟨y,c1,h1,h2,h3⟩:=h.row c mc aQ hc
   have hy:y≠x:=fun e=>(h.ar.z x po).2 c (by rw [<- e]; exact h1);exact ⟨y,c1,h1,by rw [IU y hy (.inr (.inr ⟨c,h1⟩))]; exact h2,h3⟩
 ·intro c top D0 hc
  rw [ai.b6] at hc;split at hc
  ·simp at hc
  ·rcases h.aF c top D0 hc with h1 | ⟨g,h1,h2,h3⟩
   ·exact .inl h1
   ·refine .inr ⟨g,h1,h2,fun y hy mc e own f k hr=>?_⟩
    rw [jV] at hy;by_cases zp:y=x
    ·subst zp
     rw [eV] at hr;simp at hr;obtain ⟨rfl,_,_,rfl⟩:=hr;obtain ⟨h4,h5⟩:=h3 y hy mG _ _ f k dB;exact ⟨h4,by rw [hlen]; exact h5⟩
    ·rcases hgy y zp with e1 | ⟨e1,_⟩
     ·rw [e1] at hr; exact h3 y hy mc e own f k hr
     ·rw [e1] at hr; simp at hr
 ·intro y r hy
  have zp:y≠x:=fun e=>by have:=(h.ar.z x po).1; rw [<- e,hy] at this; simp at this
  rw [IU y zp (.inl (by rw [hy]; simp))];exact h.z y r hy
 ·intro c o hc
  rw [ai.b6] at hc;split at hc
  ·rename_i e; rw [e]; exact h.live b _ hb
  ·exact h.live c o hc
 ·refine ⟨?_,?_,fun y q=>h.ar.z y (IV y q),?_,?_,h.ar.WT,h.ar.fZ,fun b x L N e=>by rw [gd]; exact h.ar.eD b x L N e,?_,fun c v hc=>?_⟩
  ·intro c v hc
   rw [ai.b6] at hc;split at hc
   ·rename_i e
    simp at hc;subst hc e;exact ⟨T,N,es,acc,rfl,ht,cS,.inr ⟨x,cs,aZ,aP,by rw [hlen]; exact hx,eV,MH,hl⟩⟩
   ·rename_i bA
    refine (h.ar.arr c v hc).mono (Env.le_refl _) rfl fun y L M e=>?_;have zp:y≠x:=fun e2=>bA (h.ar.inj c b v v0 x _ _ _ _ hc hb (by rw [<- e2]; exact e) hx);exact IU y zp (.inr (.inl ⟨c,v,L,M,hc,e⟩))
  ·intro c v hc
   rw [ai.b6] at hc;split at hc
   ·simp at hc
   ·exact h.ar.iI c v hc
  ·intro c d v u y L M L' M' h1 h2 h3 h4
   obtain ⟨v',h1⟩:=hA c v h1;obtain ⟨u',h2⟩:=hA d u h2;exact h.ar.inj c d v' u' y L M L' M' h1 h2 h3 h4
  ·intro c d v u y w L M L' M' mc e own g k iw e' nJ k' h1 h2 h3 h4 h5 h6
   obtain ⟨v',h1⟩:=hA c v h1;obtain ⟨u',h2⟩:=hA d u h2;obtain ⟨_,h5,_⟩:=UT y ⟨c,v',L,M,h1,h3⟩ _ _ _ _ h5;obtain ⟨_,h6,_⟩:=UT w ⟨d,u',L',M',h2,h4⟩ _ _ _ _ h6;exact h.ar.rC c d v' u' y w L M L' M' _ e own g k _ e' nJ k' h1 h2 h3 h4 h5 h6
  ·intro c v y L M mc e own g k h1 h2 h3
   obtain ⟨v',h1⟩:=hA c v h1;obtain ⟨_,h3,_⟩:=UT y ⟨c,v',L,M,h1,h2⟩ _ _ _ _ h3;obtain ⟨h4,h5,h6⟩:=h.ar.p7 c v' y L M _ e own g k h1 h2 h3;refine ⟨by rw [gd]; exact h4,h5,fun z hz bA=>?_⟩;rw [jV] at hz;obtain ⟨h7,h8,h9⟩:=h6 z hz bA;exact ⟨h7,fun q=>h8 (IV z q),h9⟩
  ·rw [ai.b6] at hc
   rw [ai.o8];split at hc
   ·rename_i e; rw [e]; exact h.ar.nk b _ hb
   ·exact h.ar.nk c v hc
 ·intro y hy hn ha
  by_cases zp:y=x
  ·subst zp; exact absurd (.inl po) ha
  ·rcases hgy y zp with e | ⟨_,g,k,rfl,h2⟩
   ·exact e
   ·exact absurd (.inr ⟨g,⟨b,v0,x,_,_,mG,_,_,k,hb,hx,dB⟩,h2⟩) ha
 ·rcases q with q | ⟨g,h1,h2⟩
  ·exact .inl (IV y q)
  ·exact .inr ⟨g,abu g h1,by rw [jV] at h2; exact h2⟩
 ·intro y hy mc e own Lw hr
  by_cases zp:y=x
  ·exact UT y (by rw [zp]; exact po) mc e own Lw hr
  ·rcases hgy y zp with e1 | ⟨e1,_⟩
   ·exact ⟨mc,by rw [<- e1]; exact hr,rfl⟩
   ·rw [e1] at hr; simp at hr
theorem agY {t:TypeId} : afk P (Oz P t) (FO P t):=by
 intro E A A' B vs us v h hv hg;unfold Oz at hg;split at hg
 ·rename_i b off x
  obtain ⟨y,z,rfl,h1,h2⟩:=hv.ja;obtain ⟨c,hx,rfl⟩:=h1.gh;obtain ⟨hc,hg⟩:=hg.cond;simp only [aj,jR] at hc;obtain ⟨cS,ho⟩:=hc;split at hg
  ·rename_i cs aQ dB
   split at hg
   ·rename_i b5 hw
    have hg:(uC,A.put b (.row b5 aQ))=(v,A'):=hg;simp only [bG] at hg;obtain ⟨rfl,rfl⟩:=hg;obtain ⟨c',d,e1,e2,e3⟩:=h.row b cs aQ dB;rw [hx] at e1;simp at e1;subst e1;have AJ:=h2.cells (yR ho);obtain ⟨r,e4,e5⟩:=aK.jz hw e3 AJ;have gV:z.cells.toList.all scalar=true:=dS.2 (AJ.scalar ho);have aiH:some z.cells.size=size? P t:=by rw [<- cS,IG h2 (yR ho)]
    refine ⟨undef,B.put c (.row r aQ true none),E,?_,.undef,cE.putRow h ⟨_,_,dB⟩ hx ⟨d,e2,(fG e4).1.symm⟩ e5⟩;simp [FO,storeAt,aiH,St.rD,bH,gV,e2,e4,St.eH]
   ·exact hg.elim
  ·exact hg.elim
 ·rename_i T Tc b i k x
  obtain ⟨y,z,rfl,h1,h2⟩:=hv.ja;split at hg
  ·rename_i T' mk N es acc hA
   obtain ⟨hc,ye⟩:=hg.cond;clear hg;simp only [aj,jR] at hc;obtain ⟨⟨⟨hT,hTc⟩,wN⟩,cS⟩:=hc;have:=aE hT;subst this;have:=aE hTc;subst this;split at ye
   ·rename_i e2 he2
    have hg:(uC,A.put b (.arr (ae5 T N i es acc e2)))=(v,A'):=ye;simp only [bG] at hg;obtain ⟨rfl,rfl⟩:=hg;obtain ⟨c,L,N',h3,hw,hi,rfl⟩:=h1.Dd;obtain ⟨T2,N2,mu,fg,vX,ht,h1s,rp⟩:=h.ar.arr b _ hA;simp only [KV.ts.injEq] at vX;obtain ⟨rfl,rfl,rfl,rfl,rfl⟩:=vX;rcases rp with ⟨_,h4⟩ | ⟨c',cs,aZ,aP,h4,h5,h6,h7⟩
    ·rw [h3] at h4; simp at h4
    rw [h3] at h4;simp only [aR,bG] at h4;obtain ⟨rfl,rfl,rfl⟩:=h4;have aI:i < es.length:=by rw [<- ht.len]; exact hi
    have hei:es[i]? = some (acc i):=by rw [ht.acc i hi]; simp [List.getD,aI]
    obtain ⟨u,h8,h9⟩:=h6.get hei;obtain ⟨hsu,k8⟩:=h7 i u h8;rw [bF] at k8;have hvn:=h2.dv (l:=aH P Tc);obtain ⟨u2,p1,p2,p3,p4,p5,p6⟩:=agW (T:=T) (t:=Tc) hw (fI ht.typed hei) h9 wN hvn he2;obtain ⟨iw,w1,w2,w3⟩:=agX h7 h8 hsu p6 p5 p3;have eZ:=cE.afm (lo:=i * aJ P T+k) (hi:=i * aJ P T+k+z.cells.toList.length) h ⟨_,hA⟩ h3 h5 (fG w1).1 h1s (adI ht hi p2) (aP:=aP.set i u2) (MC p1 i h6) w2;obtain ⟨oj,KD⟩:=fw wN;have gV:z.cells.toList.all scalar=true:=dS.2 ((hvn.cells KD).scalar (AW oj));have YS:some z.cells.size=size? P Tc:=by
     rw [cS,<- om oj];exact congrArg some (IG hvn KD)
    refine ⟨undef,_,E,?_,.undef,eZ⟩;simp [FO,storeAt,YS,St.rD,bH,gV,h5,w1]
   ·exact ye.elim
  ·exact hg.elim
 ·exact hg.elim
end Go.K
end
section
namespace Go.K
open Go Go.aA
variable {P:Program} {E:Env}
def Env.xN (E:Env) (b:Nat) (p:Nat×Nat×Nat):Env:={ E with α:=fun c=>if c=b then some p else E.α c }
theorem Env.aiI {A:ai} {B:St} {p:Nat×Nat×Nat} (h:du P E A B):E.le (E.xN A.next p):=⟨fun b q e=>by
 have:=h.ar.fZ b q e;simp only [Env.xN]; rw [ae (by omega)]; exact e,fun _ _ e=>e,fun _ _ e=>e,fun _ _ e=>e⟩
theorem Env.sS {b:Nat} {p:Nat×Nat×Nat} : (E.xN b p).α b=some p:=by simp [Env.xN]
theorem Env.Fb {b c:Nat} {p:Nat×Nat×Nat} (h:c≠b):(E.xN b p).α c=E.α c:=by simp [Env.xN,h]
theorem cE.Gx {A A1:ai} {B B' : St} {X G:Nat->Prop} {y2 N2:Nat} {T:TypeId} {mu:List KV} {fg:Nat->KV} {zf iw:List Value} {oi:Option (Nat×Nat)} (h:du P E A B)
  (qq:A1.next=A.next) (zT:∀ c o,A1.get c=some o->A.get c=some o\/(o = .dead/\c < A.next))
  (f1:∀ c v,A1.get c=some (.arr v)->∀ y L N,E.α c=some (y,L,N)->¬ X y/\∀ cs e own g k,B.get y=some (.row cs e own (some (g,k)))->¬ G g)
  (f2:∀ y,X y->AR A E y) (f3:∀ g,G g->AF A E B g/\g < B.next/\(∀ f,E.φ f≠some g)/\∀ y∈B.members g,¬ X y->E.z y=none/\¬ AR A E y/\∀ c,E.κ c≠some y)
  (n1:X y2\/B.next<=y2) (n1' : y2 < B'.next) (abv:B'.get y2=some (.row iw (aJ P T) true oi)) (n2:∀ g k,oi=some (g,k)->G g\/(B.next<=g/\g < B'.next))
  (b1:∀ y,y < B.next->¬ X y->B'.get y=B.get y\/(B'.get y=some .dead/\∃ g,G g/\y∈B.members g))
  (b2:∀ y,X y->∀ cs e own aZ,B'.get y=some (.row cs e own aZ)->∃ c,B.get y=some (.row c e own aZ)/\c.length=cs.length)
  (b3:∀ q y,y∈B'.members q->y∈B.members q\/(y=y2/\B.next<=y2/\∃ k,oi=some (q,k))) (b3' : ∀ q,(∀ k,oi≠some (q,k))->B'.members q=B.members q)
  (b4:B.next<=B'.next) (b4' : ∀ g,B'.next<=g->B'.members g = []) (ank:∀ g y,y∈B'.members g->y < B'.next)
  (cS:1<=aJ P T) (ht:fV P T N2 mu fg) (MH:aK P E mu zf) (hl:mJ (aJ P T) 0 iw zf) :
  cE P E A B (E.xN A.next (y2,iw.length,N2)) (A1.new (.arr (.ts T .any N2 mu fg))) B':=by
 have hle:=Env.aiI (p:=(y2,iw.length,N2)) h;have aiJ:E.α A.next=none:=by
  cases hq:E.α A.next with
  | none=>rfl
  | some p=>have:=h.ar.fZ _ p hq; omega
 have hXlt:∀ y,X y->y < B.next:=fun y hy=>h.Df (f2 y hy);have IU:∀ y,y < B.next->¬ X y->(E.z y≠none\/AR A E y\/∃ c,E.κ c=some y)->B'.get y=B.get y:=by
  intro y aI hy hs;rcases b1 y aI hy with e | ⟨_,g,hg,h2⟩
  ·exact e
  ·obtain ⟨_,_,_,h3⟩:=f3 g hg
   obtain ⟨h4,h5,h6⟩:=h3 y h2 hy;rcases hs with hs | hs | ⟨c,hs⟩
   ·exact absurd h4 hs
   ·exact absurd hs h5
   ·exact absurd hs (h6 c)
 have hXz:∀ y,X y->E.z y=none/\∀ c,E.κ c≠some y:=fun y hy=>h.ar.z y (f2 y hy);have gi:∀ c o,(A1.new (.arr (.ts T .any N2 mu fg))).get c=some o->(c=A.next/\o = .arr (.ts T .any N2 mu fg))\/(c≠A.next/\A1.get c=some o):=fun c o hc=>by
  rw [ai.cV,qq] at hc;split at hc
  ·rename_i e; simp at hc; exact .inl ⟨e,hc.symm⟩
  ·rename_i e; exact .inr ⟨e,hc⟩
 have hold:∀ c o,A1.get c=some o->o≠.dead->A.get c=some o:=fun c o hc hd=>by
  rcases zT c o hc with e | ⟨e,_⟩
  ·exact e
  ·exact absurd e hd
 have iP:∀ c v,(A1.new (.arr (.ts T .any N2 mu fg))).get c=some (.arr v)->(c=A.next/\v = .ts T .any N2 mu fg/\(E.xN A.next (y2,iw.length,N2)).α c=some (y2,iw.length,N2))\/(c≠A.next/\A1.get c=some (.arr v)/\A.get c=some (.arr v)/\(E.xN A.next (y2,iw.length,N2)).α c=E.α c):=fun c v hc=>by
  rcases gi c _ hc with ⟨e,e2⟩ | ⟨e,e2⟩
  ·simp at e2
   exact .inl ⟨e,e2,by rw [e]; exact Env.sS⟩
  ·exact .inr ⟨e,e2,hold c _ e2 (by simp),Env.Fb e⟩
 have AY:∀ c v y L N,A1.get c=some (.arr v)->E.α c=some (y,L,N)->AR A E y/\¬ X y/\y < B.next/\B'.get y=B.get y:=fun c v y L N h1 h2=>by
  have h3:AR A E y:=⟨c,v,L,N,hold c _ h1 (by simp),h2⟩
  obtain ⟨h4,_⟩:=f1 c v h1 y L N h2;have h5:=h.Df h3;exact ⟨h3,h4,h5,IU y h5 h4 (.inr (.inl h3))⟩
 have IV:∀ y,AR (A1.new (.arr (.ts T .any N2 mu fg))) (E.xN A.next (y2,iw.length,N2)) y->y=y2\/(AR A E y/\¬ X y):=fun y q=>by
  obtain ⟨c,v,L,M,h1,h2⟩:=q;rcases iP c v h1 with ⟨_,_,e⟩ | ⟨_,e1,e2,e⟩
  ·rw [e] at h2; simp at h2; exact .inl h2.1.symm
  ·rw [e] at h2
   obtain ⟨h3,h4,_⟩:=AY c v y L M e1 h2;exact .inr ⟨h3,h4⟩
 have aiK:∀ y,y=y2->AR A E y\/B.next<=y:=fun y e=>by
  subst e;exact n1.imp (f2 y) id
 have abu:∀ g,AF (A1.new (.arr (.ts T .any N2 mu fg))) (E.xN A.next (y2,iw.length,N2)) B' g->(∃ k,oi=some (g,k))\/(AF A E B g/\¬ G g/\g < B.next):=fun g q=>by
  obtain ⟨c,v,y,L,M,mc,e,own,k,h1,h2,h3⟩:=q;rcases iP c v h1 with ⟨_,_,e⟩ | ⟨_,e1,e2,e⟩
  ·rw [e] at h2
   simp at h2;rw [<- h2.1,abv] at h3;simp at h3;exact .inl ⟨k,h3.2.2.2⟩
  ·rw [e] at h2
   obtain ⟨_,_,_,h4⟩:=AY c v y L M e1 h2;rw [h4] at h3;refine .inr ⟨⟨c,v,y,L,M,mc,_,own,k,e2,h2,h3⟩,(f1 c v e1 y L M h2).2 _ _ _ _ _ h3,(h.ar.p7 c v y L M _ _ _ g k e2 h2 h3).1⟩
 have alo:∀ g,(∃ k,oi=some (g,k))->AF A E B g\/B.next<=g:=fun g ⟨k,e⟩=>by
  rcases n2 g k e with hg | ⟨hg,_⟩
  ·exact .inl (f3 g hg).1
  ·exact .inr hg
 refine ⟨⟨?_,?_,?_,h.apart,h.inj,?_,fun b x e=>by rw [ai.cw,qq]; have:=h.fZ b x e; omega,fun b g e=>by rw [ai.cw,qq]; have:=h.lk b g e; omega,?_,fun b x e=>by have:=h.eD b x e; omega,fun b r e=>by have:=h.lT b r e; omega,fun b g e=>by have:=h.iU b g e; omega,b4',ank,?_⟩,hle,by rw [ai.cw,qq]; omega,?_,fun _ _ e=>.inl e,fun _ _ e=>.inl e,fun _ _ e=>.inl e,?_,fun y q=>?_,fun g q=>?_,fun g y q=>?_,fun y q=>?_,?_⟩
 ·intro c mc aQ hc
  rcases gi c _ hc with ⟨_,e⟩ | ⟨_,e⟩
  ·simp at e
  ·obtain ⟨y,c1,h1,h2,h3⟩:=h.row c mc aQ (hold c _ e (by simp))
   have hy : ¬ X y:=fun e=>(hXz y e).2 c h1;exact ⟨y,c1,h1,by rw [IU y (h.eD c y h1) hy (.inr (.inr ⟨c,h1⟩))]; exact h2,h3.mono hle⟩
 ·intro c top D0 hc
  rcases gi c _ hc with ⟨_,e⟩ | ⟨_,e⟩
  ·simp at e
  ·rcases h.aF c top D0 (hold c _ e (by simp)) with h1 | ⟨g,h1,h2,h3⟩
   ·exact .inl h1
   ·refine .inr ⟨g,h1,h2,fun y hy mc e own f k hr=>?_⟩
    have hgG:∀ k,oi≠some (g,k):=fun k e=>by
     rcases n2 g k e with hg | ⟨hg,_⟩
     ·exact (f3 g hg).2.2.1 c h1
     ·have:=h.iU c g h1; omega
    rw [b3' g hgG] at hy;have aI:=h.mem g y hy;by_cases zp:X y
    ·obtain ⟨c0,h4,h5⟩:=b2 y zp _ _ _ _ hr
     obtain ⟨h6,h7⟩:=h3 y hy c0 _ _ f k h4;exact ⟨h6,by rw [<- h5]; exact h7⟩
    ·rcases b1 y aI zp with e1 | ⟨e1,_⟩
     ·rw [e1] at hr; exact h3 y hy mc _ own f k hr
     ·rw [e1] at hr; simp at hr
 ·intro y r hy
  have hy:E.z y=some r:=hy;have zp : ¬ X y:=fun e=>by have:=(hXz y e).1; rw [hy] at this; simp at this
  rw [IU y (h.lT y r hy) zp (.inl (by rw [hy]; simp))];exact h.z y r hy
 ·intro b c g tb sb tc sc hb hc e1 e2
  rcases gi b _ hb with ⟨_,e⟩ | ⟨_,hb⟩
  ·simp at e
  rcases gi c _ hc with ⟨_,e⟩ | ⟨_,hc⟩
  ·simp at e
  exact h.iB b c g _ _ _ _ (hold b _ hb (by simp)) (hold c _ hc (by simp)) e1 e2
 ·intro c o hc
  rw [ai.cw,qq];rcases gi c _ hc with ⟨e,_⟩ | ⟨_,e⟩
  ·omega
  ·rcases zT c o e with e | ⟨_,e⟩
   ·have:=h.live c o e; omega
   ·omega
 ·refine ⟨?_,?_,?_,?_,?_,?_,?_,?_,?_,?_⟩
  ·intro c v hc
   rcases iP c v hc with ⟨_,rfl,e⟩ | ⟨_,e1,e2,e⟩
   ·exact ⟨T,N2,mu,fg,rfl,ht,cS,.inr ⟨y2,iw,oi,zf,e,abv,MH.mono hle,hl⟩⟩
   ·exact (h.ar.arr c v e2).mono hle e fun y L M hy=>(AY c v y L M e1 hy).2.2.2
  ·intro c v hc
   rcases gi c _ hc with ⟨_,e⟩ | ⟨bA,e⟩
   ·simp at e
   ·exact (h.ar.iI c v (hold c _ e (by simp))).mono hle (Env.Fb bA)
  ·intro y q
   rcases IV y q with e | ⟨e,_⟩
   ·subst e
    rcases n1 with hx | hx
    ·exact hXz y hx
    ·refine ⟨?_,fun c e=>by have:=h.eD c y e; omega⟩
     cases hz:E.z y with
     | none=>exact hz
     | some r=>have:=h.lT y r hz; omega
   ·exact h.ar.z y e
  ·intro c d v u y L M L' M' h1 h2 h3 h4
   rcases iP c v h1 with ⟨e1,_,e⟩ | ⟨_,p1,p2,e⟩ <;> rcases iP d u h2 with ⟨e2,_,e'⟩ | ⟨_,q1,q2,e'⟩
   ·omega
   ·rw [e] at h3; rw [e'] at h4
    simp at h3;obtain ⟨_,h5,h6,_⟩:=AY d u y L' M' q1 h4;rw [<- h3.1] at h5 h6;rcases n1 with hx | hx
    ·exact absurd hx h5
    ·omega
   ·rw [e] at h3; rw [e'] at h4
    simp at h4;obtain ⟨_,h5,h6,_⟩:=AY c v y L M p1 h3;rw [<- h4.1] at h5 h6;rcases n1 with hx | hx
    ·exact absurd hx h5
    ·omega
   ·rw [e] at h3; rw [e'] at h4
    exact h.ar.inj c d v u y L M L' M' p2 q2 h3 h4
  ·intro c d v u y w L M L' M' mc e own g k cs3 e' nJ k' h1 h2 h3 h4 h5 h6
   have BX:∀ {c v y L M mc e own k k2},A1.get c=some (.arr v)->E.α c=some (y,L,M)->B'.get y=some (.row mc e own (some (g,k)))->oi=some (g,k2)->False:=by
    intro c v y L M mc e own k k2 q1 q2 q3 q4;obtain ⟨r1,r2,r3,r4⟩:=AY c v y L M q1 q2;rw [r4] at q3;rcases n2 g k2 q4 with hg | ⟨hg,_⟩
    ·exact (f1 c v q1 y L M q2).2 _ _ _ _ _ q3 hg
    ·have:=(h.ar.p7 c v y L M _ _ _ g k (hold c _ q1 (by simp)) q2 q3).1; omega
   rcases iP c v h1 with ⟨e1,_,ea⟩ | ⟨_,p1,p2,ea⟩ <;> rcases iP d u h2 with ⟨e2,_,eb⟩ | ⟨_,q1,q2,eb⟩
   ·omega
   ·rw [ea] at h3; rw [eb] at h4
    simp at h3;rw [<- h3.1,abv] at h5;simp at h5;exact (BX q1 h4 h6 h5.2.2.2).elim
   ·rw [ea] at h3; rw [eb] at h4
    simp at h4;rw [<- h4.1,abv] at h6;simp at h6;exact (BX p1 h3 h5 h6.2.2.2).elim
   ·rw [ea] at h3; rw [eb] at h4
    rw [(AY c v y L M p1 h3).2.2.2] at h5;rw [(AY d u w L' M' q1 h4).2.2.2] at h6;exact h.ar.rC c d v u y w L M L' M' _ _ _ g k _ _ _ k' p2 q2 h3 h4 h5 h6
  ·intro b x e
   have hb:=h.fZ b x e;rw [Env.Fb (by omega)];exact h.ar.WT b x e
  ·intro b p e
   rw [ai.cw,qq];by_cases hb:b=A.next
   ·omega
   ·rw [Env.Fb hb] at e; have:=h.ar.fZ b p e; omega
  ·intro b x L N e
   by_cases hb:b=A.next
   ·subst hb; rw [Env.sS] at e; simp at e; omega
   ·rw [Env.Fb hb] at e; have:=h.ar.eD b x L N e; omega
  ·intro c v y L M mc e own g k h1 h2 h3
   rcases iP c v h1 with ⟨_,_,ea⟩ | ⟨_,p1,p2,ea⟩
   ·rw [ea] at h2
    simp at h2;obtain ⟨rfl,_⟩:=h2;rw [abv] at h3;simp at h3;have hk:=h3.2.2.2;refine ⟨?_,fun f e=>?_,fun z hz bA=>?_⟩
    ·rcases n2 g k hk with hg | ⟨_,hg⟩
     ·have:=(f3 g hg).2.1; omega
     ·exact hg
    ·rcases n2 g k hk with hg | ⟨hg,_⟩
     ·exact (f3 g hg).2.2.1 f e
     ·have:=h.iU f g e; omega
    ·rcases b3 g z hz with hz | ⟨e,_⟩
     ·rcases n2 g k hk with hg | ⟨hg,_⟩
      ·by_cases afn:X z
       ·exact ⟨(hXz z afn).1,fun q=>by
         rcases IV z q with e | ⟨_,e⟩
         ·exact bA e
         ·exact e afn,(hXz z afn).2⟩
       ·obtain ⟨h7,h8,h9⟩:=(f3 g hg).2.2.2 z hz afn
        refine ⟨h7,fun q=>?_,h9⟩;rcases IV z q with e | ⟨e,_⟩
        ·exact bA e
        ·exact h8 e
      ·rw [h.fresh g hg] at hz; simp at hz
     ·exact absurd e bA
   ·rw [ea] at h2
    obtain ⟨r1,r2,r3,r4⟩:=AY c v y L M p1 h2;rw [r4] at h3;obtain ⟨h4,h5,h6⟩:=h.ar.p7 c v y L M _ _ _ g k p2 h2 h3;refine ⟨by omega,h5,fun z hz bA=>?_⟩;have hnG:=(f1 c v p1 y L M h2).2 _ _ _ _ _ h3;rw [b3' g (fun k e=>by
     rcases n2 g k e with hg | ⟨hg,_⟩
     ·exact hnG hg
     ·omega)] at hz
    obtain ⟨h7,h8,h9⟩:=h6 z hz bA;refine ⟨h7,fun q=>?_,h9⟩;rcases IV z q with e | ⟨e,_⟩
    ·subst e
     rcases n1 with hx | hx
     ·exact h8 (f2 z hx)
     ·have:=h.mem g z hz; omega
    ·exact h8 e
  ·intro c v hc
   rw [ai.cw,qq];rcases iP c v hc with ⟨e1,_,_⟩ | ⟨_,_,e2,_⟩
   ·subst e1
    refine ⟨yJ _,?_⟩;show E.κ A.next=none;cases hk:E.κ A.next with
    | none=>rfl
    | some x=>have:=h.fZ _ x hk; omega
   ·obtain ⟨q1,q2⟩:=h.ar.nk c v e2
    exact ⟨by omega,q2⟩
 ·intro y hy hn ha
  by_cases zp:X y
  ·exact absurd (.inl (f2 y zp)) ha
  ·rcases b1 y hy zp with e | ⟨_,g,hg,h2⟩
   ·exact e
   ·exact absurd (.inr ⟨g,(f3 g hg).1,h2⟩) ha
 ·intro g hg hn ha
  refine b3' g fun k e=>?_;rcases n2 g k e with DQ | ⟨DQ,_⟩
  ·exact ha (f3 g DQ).1
  ·omega
 ·rcases IV y q with e | ⟨e,_⟩
  ·exact aiK y e
  ·exact .inl e
 ·rcases abu g q with e | ⟨e,_⟩
  ·exact alo g e
  ·exact .inl e
 ·rcases b3 g y q with e | ⟨e,e2,_⟩
  ·exact .inl e
  ·exact .inr (by omega)
 ·rcases q with q | ⟨g,h1,h2⟩
  ·rcases IV y q with e | ⟨e,_⟩
   ·rcases aiK y e with e | e
    ·exact .inl (.inl e)
    ·exact .inr e
   ·exact .inl (.inl e)
  ·rcases b3 g y h2 with e | ⟨e,e2,_⟩
   ·rcases abu g h1 with e1 | ⟨e1,_⟩
    ·rcases alo g e1 with e2 | e2
     ·exact .inl (.inr ⟨g,e2,e⟩)
     ·rw [h.fresh g e2] at e; simp at e
    ·exact .inl (.inr ⟨g,e1,e⟩)
   ·exact .inr (by omega)
 ·intro y hy mc e own Lw hr
  by_cases zp:X y
  ·exact b2 y zp mc e own Lw hr
  ·rcases b1 y hy zp with e1 | ⟨e1,_⟩
   ·exact ⟨mc,by rw [<- e1]; exact hr,rfl⟩
   ·rw [e1] at hr; simp at hr
end Go.K
end
section
namespace Go.K
open Go Go.aA
variable {P:Program} {E:Env}
theorem cE.amd {A:ai} {B:St} {c:List Value} {n:Nat} (h:du P E A B):cE P E A B (E.dV B.next ⟨c,n,true,some (B.next,0)⟩) A (B.grow B.next 0 c n):=by
 have fA:∀ x,(B.grow B.next 0 c n).get x=if x=B.next then some (.row c n true (some (B.next,0))) else B.get x:=fun x=>by simp [St.grow]
 have jV:∀ q,(B.grow B.next 0 c n).members q=if q=B.next then B.next::B.members B.next else B.members q:=fun q=>by simp [St.grow,St.yM]
 have gd:(B.grow B.next 0 c n).next=B.next+1:=rfl;have hle:E.le (E.dV B.next ⟨c,n,true,some (B.next,0)⟩):=⟨fun _ _ e=>e,fun _ _ e=>e,fun b r e=>by
  have:=h.lT b r e;simp only [Env.dV]; rw [ae (by omega)]; exact e,fun _ _ e=>e⟩
 generalize B.grow B.next 0 c n=B' at fA jV gd;have DZ:∀ x,x < B.next->B'.get x=B.get x:=fun x hx=>by rw [fA,ae (by omega)]
 have IM:∀ b r,(E.dV B.next ⟨c,n,true,some (B.next,0)⟩).z b=some r->E.z b=some r\/B.next<=b:=fun b r e=>by
  simp only [Env.dV] at e;split at e
  ·exact .inr (by omega)
  ·exact .inl e
 have KG:∀ q,AF A E B q->B'.members q=B.members q:=fun q hq=>by
  rw [jV,ae];intro e2;obtain ⟨b,v,x,L,N,cs,e,own,k,h1,h2,h3⟩:=hq;obtain ⟨h4,h5,_⟩:=h.ar.p7 b v x L N cs e own q k h1 h2 h3;omega
 have adG:∀ q y,y∈B'.members q->y∈B.members q\/B.next<=y:=fun q y hy=>by
  rw [jV] at hy;split at hy
  ·rename_i e2
   subst e2;rcases bd.1 hy with hy | hy
   ·exact .inr (by omega)
   ·exact .inl hy
  ·exact .inl hy
 refine ⟨⟨?_,?_,?_,?_,h.inj,h.iB,h.fZ,h.lk,h.live,?_,?_,?_,?_,?_,h.ar.di hle (fun _=>rfl) (fun _ _ e=>e) (fun _ _ e=>e) (ao _) (by omega) (fun x q=>DZ x (h.Df q)) IM (fun _ _ e=>.inl e) (fun b q e=>.inl ⟨b,e⟩) KG h.mem⟩,hle,ao _,?_,fun b x e=>.inl e,fun b r e=>(IM b r e).imp id .inr,fun b q e=>.inl e,fun q hq hn _=>by rw [jV,ae (by omega)],fun _ q=>.inl q,fun _ q=>.inl (q.of (fun _=>rfl) (fun _ _ e=>e) fun x q=>DZ x (h.Df q)),adG,fun _ q=>.inl (q.of (fun _=>rfl) (fun _ _ e=>e) (fun x q=>DZ x (h.Df q)) KG),ll DZ⟩
 ·intro b mG UH hb
  obtain ⟨x,d,h1,h2,h3⟩:=h.row b mG UH hb;have:=h.eD b x h1;exact ⟨x,d,h1,by rw [fA,ae (by omega)]; exact h2,h3.mono hle⟩
 ·intro b top D0 hb
  rcases h.aF b top D0 hb with h1 | ⟨g,h1,hp0,h2⟩
  ·exact .inl h1
  ·have hg:=h.iU b g h1
   refine .inr ⟨g,h1,hp0,fun x hx d e own f k hr=>?_⟩;rw [jV,ae (by omega)] at hx;have:=h.mem g x hx;rw [fA,ae (by omega)] at hr;exact h2 x hx d e own f k hr
 ·intro b r hb
  simp only [Env.dV] at hb;rw [fA];split at hb
  ·rename_i e; simp at hb; subst hb; rw [ax e]
  ·rename_i e; rw [ae e]; exact h.z b r hb
 ·intro b x hb
  have:=h.eD b x hb;simp only [Env.dV];rw [ae (by omega)];exact h.apart b x hb
 ·intro b x hb; have:=h.eD b x hb; omega
 ·intro b r hb
  simp only [Env.dV] at hb;rw [gd];split at hb
  ·omega
  ·have:=h.lT b r hb; omega
 ·intro b g hb; have:=h.iU b g hb; omega
 ·intro g hg
  rw [gd] at hg;rw [jV,ae (by omega)];exact h.fresh g (by omega)
 ·intro g x hx
  rw [gd];rw [jV] at hx;split at hx
  ·rcases bd.1 hx with hx | hx
   ·omega
   ·have:=h.mem _ x hx; omega
  ·have:=h.mem g x hx; omega
 ·intro x hx _ _; rw [fA,ae (by omega)]
theorem cE.after {A A1 A2:ai} {B B2:St} {E2:Env} (h:cE P E A B E A1 B) (k:cE P E A1 B E2 A2 B2):cE P E A B E2 A2 B2 where
 dI:=k.dI
 le:=k.le
 next:=dx h.next k.next
 di x hx hn ha:=k.di x hx hn fun q=>(h.lU x q).elim ha fun e=>by omega
 new b x e:=(k.new b x e).imp id fun q=>⟨dx h.next q.1,q.2⟩
 qN b r e:=by
  rcases k.qN b r e with e | e | e
  ·exact .inl e
  ·exact .inr (h.jT b e)
  ·exact .inr (.inr e)
 pj:=k.pj
 nw g hg hn ha:=k.nw g hg hn fun q=>(h.j9 g q).elim ha fun e=>by omega
 jT x q:=(k.jT x q).elim (h.jT x) .inr
 j9 g q:=(k.j9 g q).elim (h.j9 g) .inr
 rI:=k.rI
 lU y q:=(k.lU y q).elim (h.lU y) .inr
 rows:=k.rows
theorem cE.afo {A:ai} {B:St} {f t:Nat} (sz:Nat) (h:du P E A B) {D0:Nat} (hA:A.get f=some (.aF t D0)) (CQ:E.φ f=none):cE P E A B E (A.put f (.aF 0 sz)) B:=by
 have OK:∀ (b:Nat) (v:KV),(A.put f (.aF 0 sz)).get b=some (.arr v)->A.get b=some (.arr v):=fun b v hb=>by
  rw [ai.b6] at hb;split at hb
  ·simp at hb
  ·exact hb
 have OI:∀ (b:Nat) (v:KV),(A.put f (.aF 0 sz)).get b=some (.iI v)->A.get b=some (.iI v):=fun b v hb=>by
  rw [ai.b6] at hb;split at hb
  ·simp at hb
  ·exact hb
 refine ⟨⟨fun b cs aQ hb=>?_,fun b top D0 hb=>?_,h.z,h.apart,h.inj,h.iB.put (.inr CQ),h.fZ,h.lk,fun b o hb=>?_,h.eD,h.lT,h.iU,h.fresh,h.mem,h.ar.di (Env.le_refl _) (fun _=>rfl) OK OI (ao _) (ao _) (fun _ _=>rfl) (fun _ _ e=>.inl e) (fun _ _ e=>.inl e) (fun b g e=>.inl ⟨b,e⟩) (fun _ _=>rfl) h.mem⟩,Env.le_refl _,ao _,fun _ _ _ _=>rfl,fun _ _ e=>.inl e,fun _ _ e=>.inl e,fun _ _ e=>.inl e,fun _ _ _ _=>rfl,fun _ q=>.inl (q.of (fun _=>rfl) OK),fun _ q=>.inl (q.of (fun _=>rfl) OK fun _ _=>rfl),fun _ _ q=>.inl q,fun _ q=>.inl (q.of (fun _=>rfl) OK (fun _ _=>rfl) fun _ _=>rfl),ll fun _ _=>rfl⟩
 ·rw [ai.b6] at hb
  split at hb
  ·simp at hb
  ·exact h.row b cs aQ hb
 ·rw [ai.b6] at hb
  split at hb
  ·rename_i e2; simp at hb; exact .inl ⟨hb.1.symm,by rw [e2]; exact CQ⟩
  ·exact h.aF b top D0 hb
 ·rw [ai.b6] at hb
  split at hb
  ·rename_i e2; rw [e2]; exact h.live f _ hA
  ·exact h.live b o hb
theorem cE.aiL {A:ai} {B:St} {f t sz:Nat} (h:du P E A B) (hA:A.get f=some (.aF t sz)):cE P E A B E (A.put f (.aF t sz)) B:=by
 have hg:∀ b,(A.put f (.aF t sz)).get b=A.get b:=fun b=>by
  rw [ai.b6];split
  ·rename_i e; rw [e,hA]
  ·rfl
 have OK:∀ (b:Nat) (v:KV),(A.put f (.aF t sz)).get b=some (.arr v)->A.get b=some (.arr v):=fun b v hb=>by rwa [hg] at hb
 have OI:∀ (b:Nat) (v:KV),(A.put f (.aF t sz)).get b=some (.iI v)->A.get b=some (.iI v):=fun b v hb=>by rwa [hg] at hb
 refine ⟨⟨fun b cs aQ hb=>h.row b cs aQ (by rwa [hg] at hb),fun b top D0 hb=>h.aF b top D0 (by rwa [hg] at hb),h.z,h.apart,h.inj,fun b c g tb sb tc sc q1 q2=>h.iB b c g tb sb tc sc (by rwa [hg] at q1) (by rwa [hg] at q2),h.fZ,h.lk,fun b o hb=>h.live b o (by rwa [hg] at hb),h.eD,h.lT,h.iU,h.fresh,h.mem,h.ar.di (Env.le_refl _) (fun _=>rfl) OK OI (ao _) (ao _) (fun _ _=>rfl) (fun _ _ e=>.inl e) (fun _ _ e=>.inl e) (fun b g e=>.inl ⟨b,e⟩) (fun _ _=>rfl) h.mem⟩,Env.le_refl _,ao _,fun _ _ _ _=>rfl,fun _ _ e=>.inl e,fun _ _ e=>.inl e,fun _ _ e=>.inl e,fun _ _ _ _=>rfl,fun _ q=>.inl (q.of (fun _=>rfl) OK),fun _ q=>.inl (q.of (fun _=>rfl) OK fun _ _=>rfl),fun _ _ q=>.inl q,fun _ q=>.inl (q.of (fun _=>rfl) OK (fun _ _=>rfl) fun _ _=>rfl),ll fun _ _=>rfl⟩
theorem aiM {t:TypeId} (hu:P.underlying t=some (.int .u8)):aH P t=⟨false,[.int .u8]⟩:=by
 unfold aH;rw [lay,hu];rfl
theorem Zx {e:TypeId} (he:isByte P e=true):ali P (Mn e) FX:=by
 intro E A B vs us v h hv hg;unfold Mn at hg;split at hg
 ·rename_i s
  obtain ⟨u,rfl,h1⟩:=hv.dC;have:=h1.ph; subst this;have hg:KV.ts e .any s.size _ _=v:=hg;subst hg;have hu:P.underlying e=some (.int .u8):=by
   unfold isByte at he;split at he
   ·assumption
   ·simp at he
  have UU:aH P e=⟨false,[.int .u8]⟩:=aiM hu;refine ⟨_,_,_,rfl,?_,cE.amd h⟩;simp only [VK];have cS:aJ P e=1:=by unfold aJ; rw [UU]; rfl
  refine ⟨⟨by simp,fun i hi=>?_,?_⟩,jn s.data.toList,?_,some ⟨B.next,0,none⟩,s.size,rfl,ao _,.inr ⟨B.next,0,⟨jn s.data.toList,1,true,some (B.next,0)⟩,rfl,by simp [Env.dV],cS.symm,?_⟩,trivial⟩
  ·have KC:i < s.data.toList.length:=by simpa using hi
   simp only [List.getD,mg,cl KC,Option.map_some,iD]
  ·rw [UU]
   induction s.data.toList with
   | nil=>rfl
   | cons b l ih=>simp [dn,cf,aq,kindOk,ih]
  ·generalize E.dV B.next _=E'
   induction s.data.toList with
   | nil=>exact .nil
   | cons b l ih=>exact .cons .mkInt ih
  ·rw [cS]
   intro i x hx;obtain ⟨b,_,rfl⟩:∃ b,s.data.toList[i]? = some b/\x = .int .u8 b.toNat:=by
    simp only [jn,mg,aU] at hx;obtain ⟨b,h1,h2⟩:=hx;exact ⟨b,h1,h2.symm⟩
   refine ⟨rfl,fun k y hy=>?_⟩;have hk:k=0:=by
    have:=(jh.1 hy).1;simp [Value.cells] at this;exact this
   subst hk;simp [Value.cells] at hy;subst hy;simpa using hx
 ·exact hg.elim
theorem Gy {B:St} {b off n sz:Nat} {r:abe} {aP:List Value} (hr:B.get b=some (.row r.cs r.aQ r.own r.aZ)) (hl:mJ sz off r.cs aP) (hn:aP.length=n) (cS:1<=sz) :
  B.nK ⟨b,off,none⟩ (n * sz)=some (bj aP):=by
 have hs:∀ v∈aP,v.cells.size=sz:=fun v hv=>by
  obtain ⟨i,hi⟩:=List.getElem?_of_mem hv;exact (hl i v hi).1
 have hlen:=fX hs;have CO:=jK hs;have k8:∀ j,j < n * sz->r.cs[off+j]? = (bj aP)[j]?:=by
  intro j hj;have hi:j / sz < aP.length:=by rw [hn]; exact Nat.div_lt_of_lt_mul (by rw [Nat.mul_comm]; exact hj)
  have hv:aP[j / sz]? = some aP[j / sz]:=cl hi;have hk:j % sz < aP[j / sz].cells.size:=by rw [hs _ (JP hi)]; exact Nat.mod_lt _ cS
  have hy:aP[j / sz].cells[j % sz]? = some (aP[j / sz].cells[j % sz]):=by simp [hk]
  have h1:=(hl _ _ hv).2 _ _ hy;have h2:=(CO _ _ hv).2 _ _ hy;have hj2:j / sz * sz+j % sz=j:=by rw [Nat.mul_comm]; exact Nat.div_add_mod j sz
  rw [nD,hj2] at h1;rw [bF,hj2] at h2;rw [h1,h2]
 simp only [St.nK,bH,Option.isNone_none,ah,q8,hr,cA];rw [hn] at hlen;have hle:n * sz<=(r.cs.drop off).length:=by
  cases hm:n * sz with
  | zero=>omega
  | succ q=>
   have:=k8 q (by omega);rw [cl (show q < (bj aP).length by omega)] at this;have h7:=(cp.1 this).1;rw [List.length_drop];omega
 rw [nS,E9 hle];congr 1;apply List.ext_getElem?;intro i;rw [kR];split
 ·rename_i hi
  rw [lE];exact k8 i hi
 ·exact (NA.2 (by omega)).symm
theorem UW {T:TypeId} {m:Mk} {n:Nat} {es:List KV} {acc:Nat->KV} {u:Value} {A:ai} {B:St} (h:du P E A B) (hv:VK P E (.ts T m n es acc) u) (cS:1<=aJ P T) :
  ∃ aP,aK P E es aP/\Rx u=some n/\sJ B (aJ P T) n u=some (bj aP)/\(∀ v∈aP,v.cells.size=aJ P T)/\aP.length=n/\es.length=n/\dn (aH P T) es=true:=by
 obtain ⟨ht,aP,h1,a,cap,rfl,h2,h3,_⟩:=hv.jC;have hlen:=ht.len;have iL:aP.length=n:=by rw [h1.length]; exact hlen.symm
 have hs:=kb ht.typed h1;refine ⟨aP,h1,rfl,?_,fun v hv=>(hs v hv).1,iL,hlen.symm,ht.typed⟩;rcases h3 with ⟨rfl,h0⟩ | ⟨b,off,r,rfl,h4,h5,h6⟩
 ·have:aP = []:=lD.1 (by omega)
  subst this;simp [sJ,h0,bj]
 ·exact Gy (h.z b r h4) h6 iL cS
theorem fV.join {T:TypeId} {n m:Nat} {es fs:List KV} {f g:Nat->KV} (h:fV P T n es f) (k:fV P T m fs g):fV P T (n+m) (es++fs) (dU n f g) where
 len:=by rw [fE,<- h.len,<- k.len]
 acc i hi:=by
  unfold dU;by_cases hn:i < n
  ·have:Nat.blt i n=true:=by rw [b8]; exact hn
   rw [this,ah,h.acc i hn,eO,eO,mL (by rw [<- h.len]; exact hn)]
  ·have:Nat.blt i n=false:=by
    cases hb:Nat.blt i n with
    | false=>rfl
    | true=>rw [b8] at hb; omega
   rw [this,ay,k.acc (i - n) (by omega),eO,eO,n4 (by rw [<- h.len]; omega),<- h.len]
 typed:=Hi h.typed k.typed
theorem fV.none {T:TypeId} {g:Nat->KV} : fV P T 0 [] g:=⟨rfl,fun i h=>by omega,rfl⟩
structure Src (P:Program) (E:Env) (B:St) (T:TypeId) (n:Nat) (es:List KV) (acc:Nat->KV) (u:Value) (aP:List Value):Prop where
 tree:fV P T n es acc
 rel:aK P E es aP
 len:Rx u=some n
 size:∀ v∈aP,v.cells.size=aJ P T
 length:aP.length=n
 first:∀ k,k<=n->sJ B (aJ P T) k u=some (bj (aP.take k))
theorem Src.all {B:St} {T:TypeId} {n:Nat} {es:List KV} {acc:Nat->KV} {u:Value} {aP:List Value} (h:Src P E B T n es acc u aP):sJ B (aJ P T) n u=some (bj aP):=by
 rw [h.first n (ao _),List.take_of_length_le (Nat.le_of_eq h.length)]
theorem mJ.take {sz off:Nat} {cs es:List Value} (h:mJ sz off cs es) (k:Nat):mJ sz off cs (es.take k):=fun i x hi=>h i x (by
 rw [kR] at hi;split at hi
 ·exact hi
 ·simp at hi)
theorem mJ.drop {sz off:Nat} {cs es:List Value} (h:mJ sz off cs es) (o:Nat):mJ sz (off+o * sz) cs (es.drop o):=fun i x hi=>by
 rw [lE] at hi;obtain ⟨h1,h2⟩:=h (o+i) x hi;refine ⟨h1,fun k y hy=>?_⟩;rw [<- h2 k y hy,Nat.add_mul];congr 1;omega
theorem akx {T:TypeId} {m:Mk} {n:Nat} {es:List KV} {acc:Nat->KV} {u:Value} {A:ai} {B:St} (h:du P E A B) (hv:VK P E (.ts T m n es acc) u) (cS:1<=aJ P T):∃ aP,Src P E B T n es acc u aP:=by
 obtain ⟨ht,aP,h1,a,cap,rfl,h2,h3,_⟩:=hv.jC;have iL:aP.length=n:=by rw [h1.length]; exact ht.len.symm
 have hs:=kb ht.typed h1;refine ⟨aP,ht,h1,rfl,fun v hv=>(hs v hv).1,iL,fun k hk=>?_⟩;rcases h3 with ⟨rfl,h0⟩ | ⟨b,off,r,rfl,h4,h5,h6⟩
 ·have:aP = []:=lD.1 (by omega)
  subst this;have:k=0:=by omega
  subst this;simp [sJ,bj]
 ·exact Gy (h.z b r h4) (h6.take k) (by rw [jw]; omega) cS
theorem aky {T:TypeId} {m:Mk} {b o n N:Nat} {es:List KV} {acc:Nat->KV} {u:Value} {A:ai} {B:St} (h:du P E A B) (hv:VK P E (.al T b o n) u) (ha:DV A b=some (.ts T m N es acc)) (cS:1<=aJ P T) :
  ∃ aP,Src P E B T n ((es.drop o).take n) (fun i=>acc (o+i)) u aP:=by
 have row:∀ {x:Nat} {r:abe} {aP:List Value} {c:Nat},u = .slice (some ⟨x,o * aJ P T,none⟩) n c->o+n<=N->fV P T N es acc->B.get x=some (.row r.cs r.aQ r.own r.aZ)->aK P E es aP->mJ (aJ P T) 0 r.cs aP->∃ aP,Src P E B T n ((es.drop o).take n) (fun i=>acc (o+i)) u aP:=by
  intro x r aP c hu hon ht hr MH hl;subst hu;have MI:aP.length=N:=by rw [MH.length]; exact ht.len.symm
  have adJ:((es.drop o).take n).length=n:=by rw [jw,List.length_drop,<- ht.len]; omega
  have aiN:((aP.drop o).take n).length=n:=by rw [jw,List.length_drop,MI]; omega
  have hs:=kb ht.typed MH;refine ⟨(aP.drop o).take n,⟨adJ.symm,fun i hi=>?_,lV fun i x hi=>?_⟩,(MH.drop o).take n,rfl,fun v hv=>(hs v (List.mem_of_mem_drop (List.mem_of_mem_take hv))).1,aiN,fun k hk=>?_⟩
  ·rw [ht.acc (o+i) (by omega),eO,eO,kR,ax hi,lE]
  ·rw [kR] at hi
   split at hi
   ·rw [lE] at hi; exact fI ht.typed hi
   ·simp at hi
  ·have iM:=((hl.drop o).take n).take k
   rw [bF] at iM;exact Gy hr iM (by rw [jw,aiN]; omega) cS
 rcases hv.rH with ⟨rfl,rfl,rfl⟩ | ⟨x,L,N0,c,h1,h2,h3,h4,h5⟩
 ·refine ⟨[],⟨by simp,fun i hi=>by omega,rfl⟩,by simpa using aK.nil,rfl,by simp,rfl,fun k hk=>?_⟩
  have:k=0:=by omega
  subst this;simp [sJ,bj]
 ·unfold DV at ha
  split at ha
  ·rename_i v hb
   simp only [aR] at ha;subst ha;obtain ⟨T2,N2,mu,fg,e,ht,_,rp⟩:=h.ar.arr b _ hb;simp only [KV.ts.injEq] at e;obtain ⟨rfl,rfl,rfl,rfl,rfl⟩:=e;rcases rp with ⟨_,e⟩ | ⟨x2,cs,aZ,aP,e,h6,h7,h8⟩
   ·rw [h1] at e; simp at e
   ·rw [h1] at e
    simp only [aR,bG] at e;obtain ⟨rfl,rfl,rfl⟩:=e;exact row (r:=⟨cs,aJ P T,true,aZ⟩) h2 h4 ht h6 h7 h8
  ·rename_i v hb
   simp only [aR] at ha;subst ha;obtain ⟨T2,N2,mu,fg,e,ht,_,rp⟩:=h.ar.iI b _ hb;simp only [KV.ts.injEq] at e;obtain ⟨rfl,rfl,rfl,rfl,rfl⟩:=e;rcases rp with ⟨_,e⟩ | ⟨x2,r,aP,e,h6,h6',h7,h8⟩
   ·rw [h1] at e; simp at e
   ·rw [h1] at e
    simp only [aR,bG] at e;obtain ⟨rfl,rfl,rfl⟩:=e;exact row h2 h4 ht (h.z _ _ h6) h7 h8
  ·simp at ha
theorem afp {A:ai} {B:St} {y:KV} {u:Value} {T:TypeId} {m:Mk} {n:Nat} {es:List KV} {acc:Nat->KV} (h:du P E A B) (hv:VK P E y u) (hs:Iz A y=some (.ts T m n es acc)) (cS:1<=aJ P T):∃ aP,Src P E B T n es acc u aP:=by
 unfold Iz at hs;split at hs
 ·rename_i T' b o k
  unfold Zd at hs;split at hs
  ·rename_i T2 _ _ mu fg ha
   cases hb:Nat.beq T' T2 with
   | false=>rw [hb] at hs; simp at hs
   | true=>
    have:=aE hb;subst this;rw [hb,ah] at hs;simp only [aR,KV.ts.injEq] at hs;obtain ⟨rfl,rfl,rfl,rfl,rfl⟩:=hs;rw [Zc];exact aky h hv ha cS
  ·simp at hs
 ·simp only [aR,KV.ts.injEq] at hs
  obtain ⟨rfl,rfl,rfl,rfl,rfl⟩:=hs;exact akx h hv cS
 ·simp at hs
theorem adK {e n b:Nat} (hn:aJ P e=n) (h1n:1<=n) {E:Env} {A A' : ai} {B:St} {x v:KV} {u w:Value} {e' : TypeId} {mk:Mk} {k:Nat} {new:List KV} {acc:Nat->KV} (h:du P E A B) (h1:VK P E x u)
  (WY:Nat.beq e e' = true->∃ aP,Src P E B e' k new acc w aP) (hg:az (Iy e n b A [x,.ts e' mk k new acc]) (v,A')):∃ r B' E',iE n b B [u,w] = some (r,B')/\VK P E' v r/\cE P E A B E' A' B':=by
 have rJ:1<=aJ P e:=by omega
 have put:∀ (E1:Env) (A1:ai) (m f k:Nat) (base new:List KV) (ab an:Nat->KV) (more:Bool) (A2:ai) (v:KV),az (OA e n b m base ab A1 f k new an more) (v,A2)->
   (more=true/\Nat.ble ((m+k) * b) 140737488355328=true/\Nat.ble (m+k) 17592186044416=true)/\v = .ts e (.aF f) (m+k) (base++new) (dU m ab an)/\A2=A1.put f (.aF (m+k) n):=by
  intro E1 A1 m f k base new ab an more A2 v hp;obtain ⟨hc,hp⟩:=az.iJ hp;simp only [lP,aj] at hc;simp only [bG] at hp;exact ⟨⟨hc.1,hc.2.1,hc.2.2⟩,hp.1.symm,hp.2.symm⟩
 unfold Iy at hg;split at hg
 ·
  rename_i e9 mk9 k9 afq afr heq;simp only [List.cons.injEq,KV.ts.injEq,and_true] at heq;obtain ⟨rfl,rfl,rfl,rfl,rfl,rfl⟩:=heq;have:=h1.mv; subst this;obtain ⟨he,HJ⟩:=hg.cond;clear hg;obtain ⟨bJ,iy⟩:=WY he;have:=aE he;subst this;obtain ⟨⟨_,u6,qg⟩,rfl,rfl⟩:=put E _ _ _ _ _ _ _ _ _ _ _ HJ;have DR:=iy.tree;have h3:=iy.rel;have h4:=iy.len;have h5:=iy.all;have h6:=iy.size;have h7:=iy.length;have h8:=DR.len.symm;rw [hn] at h5 h6;have rW:=cE.afl n h;have hAf:(A.new (.aF 0 n)).get A.next=some (.aF 0 n):=by simp
  have CQ:E.φ A.next=none:=by
   cases hq:E.φ A.next with
   | none=>rfl
   | some g=>have:=h.lk _ g hq; omega
  cases k with
  | zero=>
   have mi:new = []:=lD.1 h8;have MJ:bJ = []:=lD.1 h7;subst mi MJ;refine ⟨.slice none 0 0,B,E,?_,?_,?_⟩
   ·simp only [iE,h4,cA]
    rw [h5];rfl
   ·simp only [VK]
    exact ⟨⟨rfl,fun i hi=>by omega,rfl⟩,[],.nil,none,0,rfl,ao _,.inl ⟨rfl,rfl⟩,rfl,.inl ⟨rfl,rfl⟩⟩
   ·exact rW.after (cE.afo n rW.dI hAf CQ)
  | succ k=>
   have AZ:=cE.grow (c:=bj bJ) (top:=0) (Lu:=k+1) (sz:=n) (g:=B.next) (f:=A.next) rW.dI hAf (.inl ⟨CQ,rfl⟩) (by rw [fX h6,h7]) (by omega) (by omega);refine ⟨.slice (some ⟨B.next,0,none⟩) (k+1) (k+1),B.grow B.next 0 (bj bJ) n,_,?_,?_,rW.after (by simpa using AZ)⟩
   ·simp only [bF] at u6 qg
    simp only [iE,h4,cA,bF];rw [show Nat.ble (k+1) 0=false from rfl,ay,u6,qg,h5];rfl
   ·simp only [VK,bF,List.nil_append]
    have MJ:=h3.mono (Env.le_trans rW.le AZ.le);have hl:=jK h6;refine ⟨by have:=fV.none (P:=P) (T:=e) (g:=mI) |>.join DR; simpa using this,bJ,MJ,_,_,rfl,ao _,.inr ⟨B.next,0,⟨bj bJ,n,true,some (B.next,0)⟩,rfl,by simp [Env.pn,Env.dV],hn.symm,by rw [hn]; exact hl⟩,rfl,.inr ⟨B.next,⟨bj bJ,n,true,some (B.next,0)⟩,B.next,rfl,by simp [Env.pn,Env.dV],rfl,by simp [Env.pn],rfl,?_⟩⟩;rw [hn];simp only;rw [fX h6,h7]
 ·
  rename_i e1 m es alp e9 mk9 k9 afq afr heq;simp only [List.cons.injEq,KV.ts.injEq,and_true] at heq;obtain ⟨rfl,rfl,rfl,rfl,rfl,rfl⟩:=heq;obtain ⟨he,HJ⟩:=hg.cond;clear hg;simp only [aj] at he;obtain ⟨bJ,iy⟩:=WY he.1;have:=aE he.1;subst this;have:=aE he.2;subst this;obtain ⟨⟨hk,u6,qg⟩,rfl,rfl⟩:=put E _ _ _ _ _ _ _ _ _ _ _ HJ;have hk:0 < k:=by rwa [b8] at hk
  have AU:=h1.jC.1;have DR:=iy.tree;have h3:=iy.rel;have h4:=iy.len;have h5:=iy.all;have h6:=iy.size;have h7:=iy.length;have h8:=DR.len.symm;obtain ⟨jJ,h3b,h4b,h5b,h6b,h7b,h8b,h9b⟩:=UW h h1 rJ;rw [hn] at h5 h6 h5b h6b;obtain ⟨_,aaV,pR,a,cap,rfl,aeT,Gz,Ul⟩:=h1.jC;obtain ⟨rfl,KG⟩:=Ul;have rW:=cE.afl n h;have hAf:(A.new (.aF 0 n)).get A.next=some (.aF 0 n):=by simp
  have CQ:E.φ A.next=none:=by
   cases hq:E.φ A.next with
   | none=>rfl
   | some g=>have:=h.lk _ g hq; omega
  have hs:∀ v∈jJ++bJ,v.cells.size=n:=fun v hv=>by
   rcases eP.1 hv with hv | hv
   ·exact h6b v hv
   ·exact h6 v hv
  have hlen:(bj (jJ++bJ)).length=(cap+k) * n:=by rw [fX hs,fE,h7b,h7]
  have AZ:=cE.grow (c:=bj (jJ++bJ)) (top:=0) (Lu:=cap+k) (sz:=n) (g:=B.next) (f:=A.next) rW.dI hAf (.inl ⟨CQ,rfl⟩) hlen (by omega) (by omega);refine ⟨.slice (some ⟨B.next,0,none⟩) (cap+k) (cap+k),B.grow B.next 0 (bj (jJ++bJ)) n,_,?_,?_,rW.after AZ⟩
  ·simp only [iE,h4,cA]
   have hnb:Nat.ble (cap+k) cap=false:=by
    cases hq:Nat.ble (cap+k) cap with
    | false=>rfl
    | true=>have:=cL hq; omega
   rw [hnb,ay,u6,qg];rcases Gz with ⟨rfl,h0⟩ | ⟨b',off,r,rfl,hz,he2,iM⟩
   ·subst h0
    have:jJ = []:=lD.1 h7b;subst this;simp only [ng,uu,cY];rw [show Nat.beq 0 0=true from rfl,ah,h5];simp [Bz]
   ·obtain ⟨r2,vY,ho,abw,Ar⟩:=KG b' off rfl
    rw [hz] at vY;simp at vY;subst vY;have dB:=h.z b' r hz;have hex:ng B n cap (some ⟨b',off,none⟩)=true:=by
     simp only [ng,dB,abw];rw [hn] at Ar;simp [Ar]
    rw [hex];simp only [cY,ah,h5,cA];simp only [sJ] at h5b;have NY:Nat.beq r.aQ n=true:=by rw [he2,hn]; simp
    simp only [Bz,bH,Option.isNone_none,ah,h5b,cA,dB,NY,abw,ho];rw [<- ue]
  ·simp only [VK]
   have hrel:=(h3b.append h3).mono (Env.le_trans rW.le AZ.le);have hl:=jK hs;refine ⟨AU.join DR,jJ++bJ,hrel,_,_,rfl,ao _,.inr ⟨B.next,0,⟨bj (jJ++bJ),n,true,some (B.next,0)⟩,rfl,by simp [Env.pn,Env.dV],hn.symm,by rw [hn]; exact hl⟩,rfl,.inr ⟨B.next,⟨bj (jJ++bJ),n,true,some (B.next,0)⟩,B.next,rfl,by simp [Env.pn,Env.dV],rfl,by simp [Env.pn],rfl,?_⟩⟩;rw [hn];exact hlen
 ·
  rename_i e1 f m es alp e9 mk9 k9 afq afr heq;simp only [List.cons.injEq,KV.ts.injEq,and_true] at heq;obtain ⟨rfl,rfl,rfl,rfl,rfl,rfl⟩:=heq;split at hg
  ·rename_i top sz' RU
   obtain ⟨he,HJ⟩:=hg.cond;clear hg;simp only [aj] at he;obtain ⟨bJ,iy⟩:=WY he.1.1;have:=aE he.1.1;subst this;have:=aE he.1.2;subst this;have aiH:=aE he.2;rw [aiH] at RU;obtain ⟨⟨MK,u6,qg⟩,rfl,rfl⟩:=put E _ _ _ _ _ _ _ _ _ _ _ HJ;have:=aE MK;subst this;have AU:=h1.jC.1;have DR:=iy.tree;have h3:=iy.rel;have h4:=iy.len;have h5:=iy.all;have h6:=iy.size;have h7:=iy.length;have h8:=DR.len.symm;obtain ⟨jJ,h3b,h4b,h5b,h6b,h7b,h8b,h9b⟩:=UW h h1 rJ;rw [hn] at h5 h6 h5b h6b;obtain ⟨_,aaV,pR,a,cap,rfl,aeT,Gz,Ul⟩:=h1.jC;obtain ⟨rfl,KG⟩:=Ul;have hs:∀ v∈jJ++bJ,v.cells.size=n:=fun v hv=>by
    rcases eP.1 hv with hv | hv
    ·exact h6b v hv
    ·exact h6 v hv
   have hlen:(bj (jJ++bJ)).length=(cap+k) * n:=by rw [fX hs,fE,h7b,h7]
   have ame:=h3b.append h3;have hl:=jK hs;have fin:∀ (E2:Env) (x g:Nat),E.le E2->E2.z x=some ⟨bj (jJ++bJ),n,true,some (g,0)⟩->E2.φ f=some g->VK P E2 (.ts e (.aF f) (cap+k) (es++new) (dU cap alp acc)) (.slice (some ⟨x,0,none⟩) (cap+k) (cap+k)):=by
    intro E2 x g hle hzx anl;simp only [VK];refine ⟨AU.join DR,jJ++bJ,ame.mono hle,_,_,rfl,ao _,.inr ⟨x,0,_,rfl,hzx,hn.symm,by rw [hn]; exact hl⟩,rfl,.inr ⟨x,_,g,rfl,hzx,rfl,anl,rfl,?_⟩⟩;rw [hn];exact hlen
   rcases KG with ⟨rfl,rfl⟩ | ⟨b',r,g,rfl,hz,ho,CQ,abw,BL⟩
   ·
    have hold:es = []:=lD.1 h8b;have Zy:jJ = []:=lD.1 h7b;subst hold Zy;have CQ:E.φ f=none:=by
     rcases h.aF f 0 n RU with ⟨_,HD⟩ | ⟨g2,_,HD,_⟩
     ·exact HD
     ·omega
    cases k with
    | zero=>
     have mi:new = []:=lD.1 h8;have MJ:bJ = []:=lD.1 h7;subst mi MJ;refine ⟨.slice none 0 0,B,E,?_,?_,cE.afo n h RU CQ⟩
     ·simp only [iE,h4,cA]
      rw [h5];rfl
     ·simp only [VK]
      exact ⟨⟨rfl,fun i hi=>by omega,rfl⟩,[],.nil,none,0,rfl,ao _,.inl ⟨rfl,rfl⟩,rfl,.inl ⟨rfl,rfl⟩⟩
    | succ k=>
     have AZ:=cE.grow (c:=bj ([]++bJ)) (top:=0) (Lu:=0+(k+1)) (sz:=n) (g:=B.next) (f:=f) h RU (.inl ⟨CQ,rfl⟩) hlen (by omega) (by omega);refine ⟨.slice (some ⟨B.next,0,none⟩) (0+(k+1)) (0+(k+1)),B.grow B.next 0 (bj ([]++bJ)) n,_,?_,fin _ B.next B.next AZ.le (by simp [Env.pn,Env.dV]) (by simp [Env.pn]),AZ⟩;simp only [bF] at u6 qg;simp only [iE,h4,cA,bF,List.nil_append];rw [show Nat.ble (k+1) 0=false from rfl,ay,u6,qg,h5];rfl
   ·
    have hcap1:0 < cap:=by
     rcases Nat.eq_zero_or_pos cap with h0 | h0
     ·subst h0
      rcases h.aF f 0 n RU with ⟨_,HD⟩ | ⟨g2,_,HD,_⟩
      ·rw [CQ] at HD; simp at HD
      ·omega
     ·exact h0
    rcases Nat.eq_zero_or_pos k with oJ | oJ
    ·subst oJ
     have mi:new = []:=lD.1 h8;have MJ:bJ = []:=lD.1 h7;subst mi MJ;refine ⟨.slice (some ⟨b',0,none⟩) cap cap,B,E,?_,?_,cE.aiL h RU⟩
     ·simp only [iE,h4,cA]
      rw [show Nat.ble (cap+0) cap=true from Nat.ble_eq_true_of_le (ao _),ah,h5];rfl
     ·simp only [VK]
      exact ⟨AU.join DR,aaV,by rw [n5]; exact pR,some ⟨b',0,none⟩,cap,rfl,ao _,Gz,rfl,.inr ⟨b',r,g,rfl,hz,ho,CQ,abw,BL⟩⟩
    have amf:0 < cap+k/\0 < k:=⟨by omega,oJ⟩
    have dB:=h.z b' r hz;rw [ho,abw] at dB;have NY:r.aQ=n:=by
     rcases Gz with ⟨h0,_⟩ | ⟨b2,aiO,r2,e2,vY,he2,_⟩
     ·simp at h0
     ·simp at e2
      obtain ⟨rfl,rfl⟩:=e2;rw [hz] at vY;simp at vY;subst vY;rw [he2,hn]
    have amg:B.kill B.next (0+(0+cap * n)) (0+(0+cap * n)+(bj bJ).length) (B.members g)=B:=by
     refine UO fun y hy=>?_;rcases h.aF f cap n RU with ⟨_,HD⟩ | ⟨g2,HD,_,Zz⟩
     ·rw [CQ] at HD; simp at HD
     ·rw [CQ] at HD
      simp at HD;subst HD;cases hy2:B.get y with
      | none=>rfl
      | some o=>cases o with
       | row iw e2 C1 oi=>
        cases oi with
        | none=>rfl
        | some p=>
         obtain ⟨f2,k2⟩:=p;obtain ⟨rfl,alq⟩:=Zz y hy iw e2 C1 f2 k2 hy2;simp only [np,meets,bF];have:Nat.blt (cap * n) iw.length=false:=by
          cases hq:Nat.blt (cap * n) iw.length with
          | false=>rfl
          | true=>rw [b8] at hq; omega
         rw [this,Bool.false_and]
       | _=>rfl
    have AZ:=cE.grow (c:=bj (jJ++bJ)) (top:=cap) (Lu:=cap+k) (sz:=n) (g:=g) (f:=f) h RU (.inr CQ) hlen (by omega) amf.1;refine ⟨.slice (some ⟨B.next,0,none⟩) (cap+k) (cap+k),B.grow g 0 (bj (jJ++bJ)) n,_,?_,fin _ B.next g AZ.le (by simp [Env.pn,Env.dV]) (by simp [Env.pn]),AZ⟩;have hnb:Nat.ble (cap+k) cap=false:=by
     cases hq:Nat.ble (cap+k) cap with
     | false=>rfl
     | true=>have:=cL hq; omega
    have hex:ng B n cap (some ⟨b',0,none⟩)=true:=by simp only [ng,dB]
    simp only [iE,h4,cA,hnb,ay,u6,qg,hex,cY,ah,h5];simp only [sJ] at h5b;have anm:Nat.beq r.aQ n=true:=by rw [NY]; simp
    simp only [Bz,bH,Option.isNone_none,ah,h5b,cA,dB,anm,amg,<- ue]
  ·exact hg.elim
 ·exact hg.elim
end Go.K
end
