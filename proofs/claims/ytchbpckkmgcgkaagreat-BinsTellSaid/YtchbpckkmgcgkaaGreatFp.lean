/- Part of the proof of BinsTell: the machine, shown to be the model's, and plain models. No conditions. -/
import Derived.Test.YtchbpckkmgcgkaaGreatEp
set_option linter.unusedSimpArgs false
set_option linter.unusedVariables false
section
namespace Go.K
open Go Go.aB
variable {P:Program} {E:Env}
theorem ahI {w v:KV} (h:x8 w v=true):v=w:=by
 unfold x8 at h;split at h <;> simp at h
 ·rename_i f g; rw [h]
 all_goals rfl
theorem amD {w v:KV} (h:x8 w v=true) {E0:Env} {u:Value} (k:VK P E v u):VK P E0 v u:=by
 have:=ahI h;subst this;unfold x8 at h;split at h <;> try (simp at h)
 ·obtain ⟨l,m,rfl,h1,h2⟩:=k.Ku
  rw [h1.cl,h2.cl];exact .aj7 .nil .nil
 all_goals exact k
theorem VK.mix {T:TypeId} {m m' : Mk} {n:Nat} {es rS:List KV} {acc gb:Nat->KV} {u:Value} (h:VK P E (.ts T m n es acc) u) (k:VK P E (.ts T m' n rS gb) u):VK P E (.ts T m n rS gb) u:=by
 obtain ⟨_,bx,_,a,cap,rfl,h2,_,h4⟩:=h.ny;obtain ⟨ht,atG,k1,a',aep,e,_,k3,_⟩:=k.ny;simp only [Value.slice.injEq] at e;obtain ⟨rfl,_,rfl⟩:=e;simp only [VK];exact ⟨ht,atG,k1,a,cap,rfl,h2,k3,h4⟩
theorem VK.swap {E0:Env} (hz:E0.z=E.z) {T:TypeId} {m m' : Mk} {n:Nat} {es:List KV} {acc:Nat->KV} {u:Value} (h:VK P E (.ts T m n es acc) u) (hm:∀ sz a cap,u = .slice a n cap->TK E sz a n cap m->TK E0 sz a n cap m'):VK P E0 (.ts T m' n es acc) u:=by
 obtain ⟨ht,bx,h1,a,cap,rfl,h2,h3,h4⟩:=h.ny;simp only [VK];refine ⟨ht,bx,bm.zEs hz h1 ht.typed,a,cap,rfl,h2,?_,hm _ _ _ rfl h4⟩;refine h3.imp id ?_;rintro ⟨b,off,r,e1,e2,e3⟩;exact ⟨b,off,r,e1,by rw [hz]; exact e2,e3⟩
theorem Ws (t:TypeId) (m:Mk) (n:Nat) (es:List KV) (acc:Nat->KV):∃ rS gb,eh P gR (.ts t m n es acc) = .ts t .any n rS gb:=⟨_,_,rfl⟩
theorem amE {c:CK} {v:KV} (h:kindOk c v=true):leaf c v=v:=by
 cases c <;> cases v <;> simp [kindOk] at h
 ·subst h; rfl
 ·rfl
 ·rfl
 ·rename_i t t' m n es acc
  cases m <;> simp at h;subst h; rfl
theorem VK.nCD {A:aC} {d:CD} {v:KV} {u:Value} (h:VK P E v u) (hd:∀ w,d≠.ref w) (ha:∀ t,d≠.arr t):VK P E (fL P A d v) u:=by
 cases d with
 | ref w=>exact absurd rfl (hd w)
 | arr t=>exact absurd rfl (ha t)
 | k c=>
  show VK P E (cond (kindOk c (K.oH c v)) (K.eh P gR (leaf c (K.oH c v))) .bD) u;cases hb:kindOk c (K.oH c v) with
  | false=>exact .uC
  | true=>
   rw [aj,amE hb];exact VK.eh _ h.oH
 | lit w=>
  show VK P E (cond (x8 w v) w .bD) u;cases hb:x8 w v with
  | true=>rw [ahI hb] at h; exact h
  | false=>exact .uC
 | bc t=>
  unfold fL;cases v with
  | mn=>have:=h.qu; subst this; exact VK.eh _ .amn
  | ts t' m n es acc=>
   cases m with
   | bc f=>
    show VK P E (cond (Nat.beq t t') _ .bD) u;cases hb:Nat.beq t t' with
    | false=>exact .uC
    | true=>
     have:=bh hb;subst this;exact VK.eh gR h.apA
   | _=>exact .uC
  | _=>exact .uC
def Lk (E E0:Env) (f:Option Nat) (j:Nat):Prop:=∀ x g,f=some x->E.φ x=some g->E0.φ j=some g
theorem VK.anR {E0:Env} (hz:E0.z=E.z) {A:aC} {t:TypeId} {v:KV} {u:Value} {j:Nat} (h:VK P E v u) (hg:j8 (.bc t) (fL P A (.bc t) v)=true) (hl:Lk E E0 (vM P A t v).f j) (cf:(vM P A t v).ok=true):VK P E0 (Pr j (fL P A (.bc t) v)) u:=by
 cases v with
 | mn=>
  have:=h.qu; subst this;have h1:VK P E (K.eh P gR (.ts t .any 0 [] nQ)) (.slice none 0 0):=VK.eh _ .amn;obtain ⟨rS,gb,e⟩:=Ws (P:=P) t .any 0 [] nQ;show VK P E0 (Pr j (K.eh P gR (.ts t .any 0 [] nQ))) _;rw [e] at h1 ⊢;exact h1.swap hz fun sz a cap he _=>by
   simp only [Value.slice.injEq] at he;obtain ⟨rfl,_,rfl⟩:=he;exact ⟨rfl,.inl ⟨rfl,rfl⟩⟩
 | ts t' m n es acc=>
  cases m with
  | bc f=>
   have e1:fL P A (.bc t) (.ts t' (.bc f) n es acc)=cond (Nat.beq t t') (K.eh P gR (.ts t .any n es acc)) .bD:=rfl;rw [e1] at hg ⊢;cases hb:Nat.beq t t' with
   | false=>rw [hb] at hg; simp [j8,kindOk] at hg
   | true=>
    have:=bh hb;subst this;have h1:=VK.eh (P:=P) gR h.apA;obtain ⟨rS,gb,e⟩:=Ws (P:=P) t .any n es acc;rw [aj,e];rw [e] at h1;have hf:(vM P A t (.ts t (.bc f) n es acc)).f=some f:=by
     revert cf
     unfold vM;simp only;split
     ·intro _; rfl
     ·intro cf; simp at cf
    exact (h.mix h1).swap hz fun sz a cap he hm=>by
     refine ⟨hm.1,hm.2.imp id ?_⟩;rintro ⟨b,r,g,q1,q2,q3,q4,q5⟩;exact ⟨b,r,g,q1,by rw [hz]; exact q2,q3,hl f g hf q4,q5⟩
  | any=>simp [vM] at cf
  | exact=>simp [vM] at cf
 | _=>simp [vM] at cf
def La (E E0:Env) (f:Option Nat) (j:Nat):Prop:=∀ x p,f=some x->E.α x=some p->E0.α j=some p
theorem amF:K.eh P gR .bD = .bD:=rfl
theorem aaF {A:aC} {t:TypeId} {v:KV} (hg:j8 (.arr t) (fL P A (.arr t) v)=true):v = .mn\/∃ b n m N es acc,v = .al t b 0 n/\A.get b=some (.arr (.ts t m N es acc))/\fL P A (.arr t) v=K.eh P gR (.ts t .any N es acc):=by
 have hu:∀ w,w=KV.bD->j8 (.arr t) (K.eh P gR w)=false:=fun w e=>by rw [e]; rfl
 have hg:j8 (.arr t) (K.eh P gR (RZ A t v))=true:=hg;have e0:fL P A (.arr t) v=K.eh P gR (RZ A t v):=rfl;rw [e0];cases v with
 | mn=>exact .inl rfl
 | al t' b o n=>
  have e1:RZ A t (.al t' b o n)=(match A.get b with
   | some (.arr (.ts t2 _ N es acc))=>cond (Nat.beq t t'&&Nat.beq t t2&&Nat.beq o 0) (.ts t .any N es acc) .bD
   | _=>.bD):=rfl
  rw [e1] at hg ⊢;split at hg
  ·rename_i t2 m N es acc hb
   cases hc:(Nat.beq t t'&&Nat.beq t t2&&Nat.beq o 0) with
   | false=>rw [hc,aq,hu _ rfl] at hg; simp at hg
   | true=>
    simp only [aD] at hc;have:=bh hc.1.1;subst this;have:=bh hc.1.2;subst this;have:=bh hc.2;subst this;refine .inr ⟨b,n,m,N,es,acc,rfl,hb,?_⟩;rw [aj]
  ·rw [hu _ rfl] at hg; simp at hg
 | _=>exact absurd (hg.symm.trans (hu _ rfl)) (by simp)
theorem VK.apX {E0:Env} {A:aC} {t:TypeId} {v:KV} {u:Value} {j:Nat} (h:VK P E v u) (hg:j8 (.arr t) (fL P A (.arr t) v)=true) (hl:La E E0 (LU P A t v).f j) (cf:(LU P A t v).ok=true):VK P E0 (TR j (fL P A (.arr t) v)) u:=by
 rcases aaF hg with rfl | ⟨b,n,m,N,es,acc,rfl,hb,he⟩
 ·have:=h.qu; subst this
  exact .U4 (.inl ⟨rfl,rfl,rfl⟩)
 ·obtain ⟨rS,gb,e⟩:=Ws (P:=P) t .any N es acc
  rw [he,e];have hao:LU P A t (.al t b 0 n)=⟨dk N n,some b,false⟩:=by simp only [LU,hb]
  rw [hao] at cf hl;have hN:N=n:=bh cf;subst hN;show VK P E0 (.al t j 0 N) u;rcases h.yW with ⟨q1,_,q2⟩ | ⟨x,L,M,c,q1,q2⟩
  ·exact .U4 (.inl ⟨q1,rfl,q2⟩)
  ·exact .U4 (.inr ⟨x,L,M,c,hl b _ rfl q1,q2⟩)
theorem VK.gCD {E0:Env} (hz:E0.z=E.z) {d:CD} {v:KV} {u:Value} (h:VK P E v u) (hg:j8 d v=true) (hd:∀ w,d≠.ref w):VK P E0 v u:=by
 cases d with
 | ref w=>exact absurd rfl (hd w)
 | arr t=>exact h.zK (c:=.slice t) hz hg
 | k c=>exact h.zK hz hg
 | lit w=>exact amD hg h
 | bc t=>exact h.zK (c:=.slice t) hz hg
theorem mr {A:aC} : ∀ {ds:List CD} {vs:List KV},vs.length=ds.length->(mS P A ds vs).length=tr ds
 | [],[],_=>rfl
 | [],_::_,e=>by simp at e
 | _::_,[],e=>by simp at e
 | .k c::ds,v::vs,e=>by simp only [mS,tr]; exact mr (by simpa using e)
 | .lit w::ds,v::vs,e=>by simp only [mS,tr]; exact mr (by simpa using e)
 | .bc t::ds,v::vs,e=>by simp only [mS,tr,HP]; rw [mr (by simpa using e)]
 | .arr t::ds,v::vs,e=>by simp only [mS,tr,HP]; rw [mr (by simpa using e)]
 | .ref w::ds,v::vs,e=>by simp only [mS,tr]; exact mr (by simpa using e)
theorem arw {a b:KV} (h:eqP a b=true):a=b:=by
 unfold eqP at h;split at h
 ·simp only [aD] at h
  rw [bh h.1,bh h.2]
 ·simp at h
theorem afk:∀ {a b:List KV},afj a b=true->a=b
 | [],[],_=>rfl
 | [],_::_,h=>by simp [afj] at h
 | _::_,[],h=>by simp [afj] at h
 | x::a,y::b,h=>by
  simp only [afj,aD] at h;rw [arw h.1,afk h.2]
theorem TS {a b:KV} (h:RY a b=true):a=b:=by
 unfold RY at h;split at h
 ·simp only [aD] at h
  rw [bh h.1,bh h.2]
 ·simp only [aD] at h
  rw [bh h.1.1,afk h.1.2,afk h.2]
 ·simp at h
def Rk (E E0:Env) (nr:Nat) (bs LV:List Nat):Prop:=∀ j x,j < nr->E.κ (bs.getD j 0)=some x->E0.κ (LV.getD j 0)=some x
theorem VK.aaC {E0:Env} {nr:Nat} {bs LV:List Nat} (hk:Rk E E0 nr bs LV) {w:KV} {u:Value} (hw:isP nr w=true) (h:VK P E (K.aaC bs w) u):VK P E0 (K.aaC LV w) u:=by
 cases w <;> simp [isP] at hw;rename_i j o;obtain ⟨x,h1,rfl⟩:=(show VK P E (.ptr (bs.getD j 0) o) u from h).jb;exact .Bt (hk j x hw h1)
theorem bm.AV {E0:Env} {nr:Nat} {bs LV:List Nat} (hk:Rk E E0 nr bs LV):∀ {ws:List KV} {us:List Value},afi nr ws=true->bm P E (K.AV bs ws) us->bm P E0 (K.AV LV ws) us
 | [],us,_,h=>by rw [h.cl]; exact .nil
 | w::ws,us,hw,h=>by
  simp only [afi,aD] at hw;obtain ⟨y,ys,rfl,h1,h2⟩:=bm.cons_inv (show bm P E (K.aaC bs w::K.AV bs ws) us from h);exact .cons (VK.aaC hk hw.1 h1) (bm.AV hk hw.2 h2)
theorem VK.inst {E0:Env} {nr:Nat} {bs LV:List Nat} (hk:Rk E E0 nr bs LV) {w:KV} {u:Value} (hw:acf nr w=true) (h:VK P E (K.inst bs w) u):VK P E0 (K.inst LV w) u:=by
 cases w with
 | ptr j o=>
  obtain ⟨x,h1,rfl⟩:=(show VK P E (.ptr (bs.getD j 0) o) u from h).jb;exact .Bt (hk j x (by simpa [acf] using hw) h1)
 | fn f first cap=>
  cases f with
  | func f=>
   simp only [acf,aD] at hw;obtain ⟨l,m,rfl,h1,h2⟩:=(show VK P E (.fn (.func f) (K.AV bs first) (K.AV bs cap)) u from h).Ku;exact .aj7 (bm.AV hk hw.1 h1) (bm.AV hk hw.2 h2)
  | _=>simp [acf] at hw
 | _=>simp [acf] at hw
def qW (E E0:Env) (l:List FI) (j:Nat):Prop:=∀ (i:Nat) fi,l[i]? = some fi->fi.ok=true/\(fi.fm=true->Lk E E0 fi.f (j+i))/\La E E0 fi.f (j+i)
theorem qW.left {E0:Env} {l m:List FI} {j:Nat} (h:qW E E0 (l++m) j):qW E E0 l j:=fun i fi e=>h i fi (by rw [pR (c8.1 e).1]; exact e)
theorem qW.right {E0:Env} {l m:List FI} {j:Nat} (h:qW E E0 (l++m) j):qW E E0 m (j+l.length):=fun i fi e=>by
 have:=h (l.length+i) fi (by rw [ue (by omega)]; simpa using e);rw [Fz]; exact this
theorem qW.head {E0:Env} {x:FI} {l:List FI} {j:Nat} (h:qW E E0 (x::l) j):x.ok=true/\(x.fm=true->Lk E E0 x.f j)/\La E E0 x.f j:=h 0 x rfl
theorem qW.tail {E0:Env} {x:FI} {l:List FI} {j:Nat} (h:qW E E0 (x::l) j):qW E E0 l (j+1):=fun i fi e=>by
 have:=h (i+1) fi (by simpa using e);rw [show j+1+i=j+(i+1) by omega]; exact this
theorem bm.cellsIn {E0:Env} (hz:E0.z=E.z) {A:aC} {nr:Nat} {bs LV:List Nat} (hk:Rk E E0 nr bs LV):∀ {ds:List CD} {vs:List KV} {us:List Value} {j:Nat},bm P E vs us->vs.length=ds.length->dX ds (fM P A ds vs)=true->qW E E0 (mS P A ds vs) j->GJ nr bs ds vs=true->bm P E0 (sR j LV ds (fM P A ds vs)) us
 | [],[],us,j,h,_,_,_,_=>by rw [h.cl]; exact .nil
 | [],_::_,_,_,_,e,_,_,_=>by simp at e
 | _::_,[],_,_,_,e,_,_,_=>by simp at e
 | d::ds,v::vs,us,j,h,e,hg,hf,hr=>by
  simp only [fM,dX,aD] at hg;obtain ⟨y,ys,rfl,h1,h2⟩:=h.cons_inv;have e' : vs.length=ds.length:=by simpa using e
  cases d with
  | k c=>exact .cons ((h1.nCD (by simp) (by simp)).gCD (d:=.k c) hz hg.1 (by simp)) (bm.cellsIn hz hk h2 e' hg.2 hf hr)
  | lit w=>exact .cons ((h1.nCD (by simp) (by simp)).gCD (d:=.lit w) hz hg.1 (by simp)) (bm.cellsIn hz hk h2 e' hg.2 hf hr)
  | bc t=>exact .cons (h1.anR hz hg.1 (hf.head.2.1 (ahH ..)) hf.head.1) (bm.cellsIn hz hk h2 e' hg.2 hf.tail hr)
  | arr t=>exact .cons (h1.apX hg.1 hf.head.2.2 hf.head.1) (bm.cellsIn hz hk h2 e' hg.2 hf.tail hr)
  | ref w=>
   simp only [GJ,aD] at hr;exact .cons (VK.inst hk hr.1 (by rw [TS hr.2.1]; exact h1)) (bm.cellsIn hz hk h2 e' hg.2 hf hr.2.2)
theorem aiT {ds:List CD} {v:KV} (h:dX ds [v] = true):∃ d,ds = [d]/\j8 d v=true:=by
 cases ds with
 | nil=>simp [dX] at h
 | cons d ds=>
  simp only [dX,aD] at h;cases ds with
  | nil=>exact ⟨d,rfl,h.1⟩
  | cons e ds=>simp [dX] at h
theorem Ar {d:VD} {v:KV} (h:yY d v=true):(∃ cs,v = .agg cs/\d.agg=true/\dX d.ks cs=true)\/((∀ cs,v≠.agg cs)/\d.agg=false/\∃ c,d.ks = [c]/\j8 c v=true):=by
 by_cases ha:∃ cs,v = .agg cs
 ·obtain ⟨cs,rfl⟩:=ha
  simp only [yY,aD] at h;exact .inl ⟨cs,rfl,h.1,h.2⟩
 ·have h:(!d.agg&&dX d.ks [v])=true:=by
   cases v <;> first | exact h | exact absurd ⟨_,rfl⟩ ha
  simp only [aD,nw] at h;exact .inr ⟨fun cs e=>ha ⟨cs,e⟩,h.1,aiT h.2⟩
theorem Au {A:aC} {d:VD} {v:KV} (h:yY d (xm P A d v)=true):(∃ cs,v = .agg cs/\cs.length=d.ks.length/\xm P A d v = .agg (fM P A d.ks cs)/\dX d.ks (fM P A d.ks cs)=true)\/
  ((∀ cs,v≠.agg cs)/\∃ c,d.ks = [c]/\xm P A d v=fL P A c v/\j8 c (fL P A c v)=true/\v.cells = [v]/\(∀ cs,fL P A c v≠.agg cs)):=by
 have apY:yY d .bD=false:=by
  cases hb:yY d .bD with
  | false=>rfl
  | true=>
   rcases Ar hb with ⟨cs,e,_⟩ | ⟨_,_,c,_,hc⟩
   ·simp at e
   ·cases c with
    | k c=>cases c <;> simp [j8,kindOk] at hc
    | lit w=>cases w <;> first | (simp [j8,x8] at hc; done) | (rename_i f a b; cases f <;> cases a <;> cases b <;> simp [j8,x8] at hc)
    | bc t=>simp [j8,kindOk] at hc
    | arr t=>simp [j8,kindOk] at hc
    | ref w=>
     have hc:RY w .bD=true:=hc;have:=TS hc;subst this;simp [RY] at hc
 by_cases ha:∃ cs,v = .agg cs
 ·obtain ⟨cs,rfl⟩:=ha
  have e:xm P A d (.agg cs)=cond (d.agg&&Nat.beq cs.length d.ks.length) (.agg (fM P A d.ks cs)) .bD:=rfl;cases hb:(d.agg&&Nat.beq cs.length d.ks.length) with
  | false=>rw [e,hb,aq,apY] at h; simp at h
  | true=>
   rw [e,hb,aj] at h;simp only [aD] at hb;simp only [yY,aD] at h;exact .inl ⟨cs,rfl,bh hb.2,by rw [e]; simp only [hb.1,hb.2,bI,aj],h.2⟩
 ·have e:xm P A d v=cond d.agg .bD (match d.ks with | [c]=>fL P A c v | _=>.bD):=by
   cases v <;> first | rfl | exact absurd ⟨_,rfl⟩ ha
  have yQ:v.cells = [v]:=by cases v <;> first | rfl | exact absurd ⟨_,rfl⟩ ha
  cases Bu:d.agg with
  | true=>rw [e,Bu,aj,apY] at h; simp at h
  | false=>
   rw [Bu,aq] at e;rw [e] at h;split at h
   ·rename_i c hc
    rw [hc] at e;simp only at e;rcases Ar h with ⟨cs,e2,h2,_⟩ | ⟨h1,_,c',h2,h3⟩
    ·rw [Bu] at h2; simp at h2
    ·rw [hc] at h2
     simp only [List.cons.injEq,and_true] at h2;subst h2;exact .inr ⟨fun cs ec=>ha ⟨cs,ec⟩,c,hc,e,h3,yQ,h1⟩
   ·rw [apY] at h; simp at h
theorem KB {A:aC} {d:VD} {v:KV} (h:yY d (xm P A d v)=true):v.cells.length=d.ks.length:=by
 rcases Au h with ⟨cs,rfl,h1,_⟩ | ⟨_,c,h1,_,_,h2,_⟩
 ·exact h1
 ·rw [h1,h2]; rfl
theorem VK.atH {E0:Env} (hz:E0.z=E.z) {A:aC} {nr:Nat} {bs LV:List Nat} (hk:Rk E E0 nr bs LV) {d:VD} {v:KV} {u:Value} {j:Nat} (h:VK P E v u) (hg:yY d (xm P A d v)=true) (hf:qW E E0 (mS P A d.ks v.cells) j) (hr:GJ nr bs d.ks v.cells=true):VK P E0 (ach j LV d (xm P A d v)) u:=by
 rcases Au hg with ⟨cs,rfl,h1,h2,h3⟩ | ⟨h0,c,h1,h2,h3,h4,h5⟩
 ·rw [h2]
  obtain ⟨l,rfl,k⟩:=h.nM;exact .rQ (bm.cellsIn hz hk k h1 h3 hf hr)
 ·rw [h2]
  have e:ach j LV d (fL P A c v)=(match d.ks with | [.bc _]=>Pr j (fL P A c v) | [.arr _]=>TR j (fL P A c v) | [.ref w]=>K.inst LV w | _=>fL P A c v):=by
   generalize fL P A c v=w at h5;cases w <;> first | rfl | exact absurd rfl (h5 _)
  rw [e,h1];rw [h1,h4] at hf hr;cases c with
  | k c=>exact (h.nCD (by simp) (by simp)).gCD (d:=.k c) hz h3 (by simp)
  | lit w=>exact (h.nCD (by simp) (by simp)).gCD (d:=.lit w) hz h3 (by simp)
  | bc t=>exact h.anR hz h3 (hf.head.2.1 (ahH ..)) hf.head.1
  | arr t=>exact h.apX h3 hf.head.2.2 hf.head.1
  | ref w=>
   simp only [GJ,aD] at hr;exact VK.inst hk hr.1 (by rw [TS hr.2.1]; exact h)
theorem VK.aar {A:aC} {nr:Nat} {bs:List Nat} {d:VD} {t:bF} {i:Tmp} (h:yY d (xm P A d (valOf t i))=true) (hr:GJ nr bs d.ks (valOf t i).cells=true):∃ v,t.get i=some v:=by
 cases hg:t.get i with
 | some v=>exact ⟨v,rfl⟩
 | none=>
  exfalso;have e:valOf t i = .bD:=by simp [valOf,hg]
  rw [e] at h hr;rcases Au h with ⟨cs,e2,_⟩ | ⟨_,c,uw,_,h3,_,_⟩
  ·simp at e2
  ·cases c with
   | ref w=>
    rw [uw] at hr;have hr:(acf nr w&&(RY (K.inst bs w) .bD&&true))=true:=hr;simp only [aD] at hr;have h1:=hr.2.1;have:=TS h1;rw [this] at h1;simp [RY] at h1
   | k c=>
    have h4:kindOk c (K.oH c .bD)=false:=by cases c <;> rfl
    have h5:fL P A (.k c) .bD = .bD:=by
     show cond (kindOk c (K.oH c .bD)) (K.eh P gR (leaf c (K.oH c .bD))) KV.bD=KV.bD;rw [h4]; rfl
    rw [h5] at h3;cases c <;> simp [j8,kindOk] at h3
   | lit w=>cases w <;> first | (simp [fL,j8,x8] at h3; done) | (rename_i f a b; cases f <;> cases a <;> cases b <;> simp [fL,j8,x8] at h3)
   | bc t=>simp [fL,j8,kindOk] at h3
   | arr t=>exact absurd h3 (by simp [fL,RZ,amF,j8,kindOk])
end Go.K
end
section
namespace Go.K
open Go Go.aB
variable {P:Program} {E:Env}
theorem afl:∀ {bs:List Nat},yZ bs=true->∀ (i j b:Nat),bs[i]? = some b->bs[j]? = some b->i=j
 | [],_,i,j,b,hi,_=>by simp at hi
 | a::bs,h,i,j,b,hi,hj=>by
  simp only [yZ,aD,gx,nw] at h;cases i with
  | zero=>
   cases j with
   | zero=>rfl
   | succ j=>
    simp at hi hj; subst hi;have:=h.1 a (hQ hj);exact absurd (kp a) (by rw [this]; simp)
  | succ i=>
   cases j with
   | zero=>
    simp at hi hj; subst hj;have:=h.1 a (hQ hi);exact absurd (kp a) (by rw [this]; simp)
   | succ j=>
    simp at hi hj;rw [afl h.2 i j b hi hj]
theorem yc:∀ {l:List (Option Nat)} {f:Nat},f∈kl l↔some f∈l
 | [],f=>by simp [kl]
 | some g::l,f=>by simp [kl,yc (l:=l)]
 | none::l,f=>by simp [kl,yc (l:=l)]
theorem y7:∀ {l:List (Option Nat)},yZ (kl l)=true->∀ (i j f:Nat),l[i]? = some (some f)->l[j]? = some (some f)->i=j
 | [],_,i,j,b,hi,_=>by simp at hi
 | none::l,h,i,j,f,hi,hj=>by
  cases i with
  | zero=>simp at hi
  | succ i=>
   cases j with
   | zero=>simp at hj
   | succ j=>
    simp at hi hj;rw [y7 (l:=l) h i j f hi hj]
 | some g::l,h,i,j,f,hi,hj=>by
  simp only [kl,yZ,aD,gx,nw] at h;have key:∀ {k:Nat},l[k]? = some (some g)->False:=by
   intro k hk;have:=h.1 g (yc.2 (hQ hk));exact absurd (kp g) (by rw [this]; simp)
  cases i with
  | zero=>
   cases j with
   | zero=>rfl
   | succ j=>
    simp at hi hj; subst hi;exact (key hj).elim
  | succ i=>
   cases j with
   | zero=>
    simp at hi hj; subst hj;exact (key hi).elim
   | succ j=>
    simp at hi hj;rw [y7 (l:=l) h.2 i j f hi hj]
theorem Ps:∀ {l:List FI} {i:Nat} {x:FI},l[i]? = some x->(Pq l)[i]? = some x.f
 | [],_,_,h=>by simp at h
 | y::l,0,x,h=>by simp at h; subst h; rfl
 | y::l,i+1,x,h=>by simp at h; simpa [Pq] using Ps h
theorem tQ:∀ {l:List FI},(Pq l).length=l.length
 | []=>rfl
 | y::l=>by simp [Pq,tQ]
theorem Wt:∀ {l:List FI},aaD l=true->∀ x∈l,x.ok=true
 | [],_,x,h=>by simp at h
 | y::l,h,x,hx=>by
  simp only [aaD] at h;cases hl:aaD l with
  | false=>rw [hl] at h; simp at h
  | true=>
   rw [hl,aj] at h;rcases eL.1 hx with rfl | hx
   ·exact h
   ·exact Wt hl x hx
theorem gG:∀ (l:List jP) (A:aC),(uG A l).next=A.next+l.length
 | [],_=>rfl
 | p::l,A=>by rw [uG,gG l]; simp; omega
theorem H4:∀ {l:List jP} {A:aC} {x:Nat},x < A.next->(uG A l).get x=A.get x
 | [],_,_,_=>rfl
 | p::l,A,x,h=>by rw [uG,H4 (by simp; omega),aC.dw,ay (by omega)]
theorem R9:∀ {l:List jP} {A:aC} {i:Nat} {p:jP},l[i]? = some p->(uG A l).get (A.next+i)=some p
 | [],_,_,_,h=>by simp at h
 | q::l,A,0,p,h=>by
  simp at h; subst h;rw [uG,yH,H4 (by simp),aC.dw,aR rfl]
 | q::l,A,i+1,p,h=>by
  simp at h;have:=R9 (A:=A.new q) h;rw [aC.ct] at this;rw [uG,show A.next+(i+1)=A.next+1+i by omega];exact this
theorem YE:∀ {l:List jP} {A:aC} {x:Nat} {o:jP},(uG A l).get x=some o->(A.get x=some o/\x < A.next+l.length)\/(x < A.next/\A.get x=some o)\/(∃ i p,x=A.next+i/\l[i]? = some p/\o=p)\/A.get x=some o
 | [],_,_,_,h=>.inr (.inr (.inr h))
 | p::l,A,x,o,h=>by
  rw [uG] at h;have key:(A.new p).get x=some o->(∃ i q,x=A.next+i/\(p::l)[i]? = some q/\o=q)\/A.get x=some o:=by
   intro h;rw [aC.dw] at h;split at h
   ·rename_i e; simp at h; exact .inl ⟨0,p,by omega,rfl,h.symm⟩
   ·exact .inr h
  rcases YE h with ⟨h,_⟩ | ⟨_,h⟩ | ⟨i,q,e,h1,h2⟩ | h
  ·exact .inr (.inr (key h))
  ·exact .inr (.inr (key h))
  ·exact .inr (.inr (.inl ⟨i+1,q,by rw [e]; simp; omega,by simpa using h1,h2⟩))
  ·exact .inr (.inr (key h))
theorem YF {l:List jP} {A:aC} {x:Nat} {o:jP} (h:(uG A l).get x=some o):A.get x=some o\/∃ i p,x=A.next+i/\l[i]? = some p/\o=p:=by
 rcases YE h with ⟨h,_⟩ | ⟨_,h⟩ | h | h
 ·exact .inl h
 ·exact .inl h
 ·exact .inr h
 ·exact .inl h
theorem KC:∀ (l:List (Option Nat)) (A:aC),(BG A l).next=A.next
 | [],_=>rfl
 | some f::l,A=>by rw [BG,KC l]; rfl
 | none::l,A=>by rw [BG,KC l]
theorem Je:∀ {l:List (Option Nat)} {A:aC} {x:Nat},(BG A l).get x=if x∈kl l then some .dead else A.get x
 | [],A,x=>by simp [BG,kl]
 | none::l,A,x=>by rw [BG,Je,kl]
 | some f::l,A,x=>by
  rw [BG,Je,kl,aC.cg];by_cases h1:x∈kl l
  ·rw [aR h1,aR (xh _ h1)]
  ·rw [ay h1]
   by_cases h2:x=f
   ·rw [aR h2,aR (by simp [h2])]
   ·rw [ay h2,ay (by simp [h1,h2])]
theorem Wu:∀ (bs:List Nat) (ps:List (Tmp×List CD×Nat)) (rs:List (List KV)) (A:aC),(pX A bs ps rs).next=A.next
 | [],_,_,_=>rfl
 | _::_,[],_,_=>rfl
 | _::_,_::_,[],_=>rfl
 | b::bs,p::ps,r::rs,A=>by rw [pX,Wu bs ps rs]; rfl
theorem Sa:∀ {bs:List Nat} {ps:List (Tmp×List CD×Nat)} {rs:List (List KV)} {A:aC} {x:Nat},x ∉ bs->(pX A bs ps rs).get x=A.get x
 | [],_,_,_,_,_=>rfl
 | _::_,[],_,_,_,_=>rfl
 | _::_,_::_,[],_,_,_=>rfl
 | b::bs,p::ps,r::rs,A,x,h=>by
  simp only [eL,not_or] at h;rw [pX,Sa h.2,aC.cg,ay h.1]
theorem akK:∀ {bs:List Nat} {ps:List (Tmp×List CD×Nat)} {rs:List (List KV)} {A:aC} {k b:Nat} {p:Tmp×List CD×Nat} {r:List KV},yZ bs=true->bs[k]? = some b->ps[k]? = some p->rs[k]? = some r->(pX A bs ps rs).get b=some (.row r p.2.2)
 | [],_,_,_,_,_,_,_,_,h,_,_=>by simp at h
 | _::_,[],_,_,_,_,_,_,_,_,h,_=>by simp at h
 | _::_,_::_,[],_,_,_,_,_,_,_,_,h=>by simp at h
 | b::bs,p::ps,r::rs,A,k,x,p',r',hn,hb,hp,hr=>by
  have OS:=hn;simp only [yZ,aD] at hn;cases k with
  | zero=>
   simp at hb hp hr;subst hb hp hr;rw [pX,Sa,aC.cg,aR rfl];intro hm;have:=gx.1 hn.1 b hm;simp at this
  | succ k=>
   simp only [TA] at hb hp hr;rw [pX];exact akK hn.2 hb hp hr
theorem ahJ:∀ {ps:List (Tmp×List CD×Nat)} {rs:List (List KV)} {A:aC},rs.length=ps.length->(tt A ps rs).next=A.next+ps.length
 | [],[],_,_=>rfl
 | [],_::_,_,h=>by simp at h
 | _::_,[],_,h=>by simp at h
 | p::ps,r::rs,A,h=>by rw [tt,ahJ (by simpa using h)]; simp; omega
theorem akL:∀ {ps:List (Tmp×List CD×Nat)} {rs:List (List KV)} {A:aC} {x:Nat},x < A.next->(tt A ps rs).get x=A.get x
 | [],_,_,_,_=>rfl
 | _::_,[],_,_,_=>rfl
 | p::ps,r::rs,A,x,h=>by rw [tt,akL (by simp; omega),aC.dw,ay (by omega)]
theorem anS:∀ {ps:List (Tmp×List CD×Nat)} {rs:List (List KV)} {A:aC} {k:Nat} {p:Tmp×List CD×Nat} {r:List KV},ps[k]? = some p->rs[k]? = some r->(tt A ps rs).get (A.next+k)=some (.row r p.2.2)
 | [],_,_,_,_,_,h,_=>by simp at h
 | _::_,[],_,_,_,_,_,h=>by simp at h
 | p::ps,r::rs,A,k,p',r',hp,hr=>by
  cases k with
  | zero=>
   simp at hp hr; subst hp hr;rw [tt,yH,akL (by simp),aC.dw,aR rfl]
  | succ k=>
   simp only [TA] at hp hr;have:=anS (A:=A.new (.row r p.2.2)) hp hr;rw [tt];simpa [Nat.add_comm,Nat.add_left_comm] using this
theorem akM:∀ {ps:List (Tmp×List CD×Nat)} {rs:List (List KV)} {A:aC} {x:Nat} {o:jP},(tt A ps rs).get x=some o->A.get x=some o\/∃ k p r,x=A.next+k/\ps[k]? = some p/\rs[k]? = some r/\o = .row r p.2.2
 | [],_,_,_,_,h=>.inl h
 | _::_,[],_,_,_,h=>.inl h
 | p::ps,r::rs,A,x,o,h=>by
  rw [tt] at h;rcases akM h with h | ⟨k,p',r',rfl,h1,h2,h3⟩
  ·rw [aC.dw] at h
   by_cases e:x=A.next
   ·rw [aR e] at h; simp at h
    exact .inr ⟨0,p,r,by omega,rfl,rfl,h.symm⟩
   ·rw [ay e] at h; exact .inl h
  ·exact .inr ⟨k+1,p',r',by simp; omega,by simpa using h1,by simpa using h2,h3⟩
theorem ahK:∀ (n:Nat) (l:List Nat) (k:Nat),(upto n l)[k]? = if k < n then some k else l[k - n]?
 | 0,l,k=>by simp [upto]
 | n+1,l,k=>by
  rw [upto,ahK n];by_cases h:k < n
  ·rw [aR h,aR (by omega)]
  ·rw [ay h]
   by_cases h2:k=n
   ·subst h2
    rw [aR (by omega)];simp
   ·rw [ay (by omega),show k - n=(k - (n+1))+1 by omega]
    simp
theorem Nq (S:aL) (k:Nat) (h:k < S.rows.length):S.ids[k]? = some k:=by rw [aL.ids,ahK,aR h]
theorem Sb:∀ {a b:List Nat},x9 a b=true->a=b
 | [],[],_=>rfl
 | [],_::_,h=>by simp [x9] at h
 | _::_,[],h=>by simp [x9] at h
 | x::a,y::b,h=>by
  simp only [x9,aD] at h;rw [bh h.1,Sb h.2]
theorem KD {t:bF} {A:aC} {p:Tmp×List CD×Nat} (h:(rowOf t A p).isSome=true):∃ b cs,A.get b=some (.row cs p.2.2)/\cs.length=p.2.1.length/\anQ t A p=b/\KA t A p=cs:=by
 unfold rowOf at h;split at h
 ·rename_i b hb
  split at h
  ·rename_i cs e hr
   cases hc:(Nat.beq e p.2.2&&Nat.beq cs.length p.2.1.length) with
   | false=>rw [hc] at h; simp at h
   | true=>
    have hro:rowOf t A p=some (b,cs):=by simp only [rowOf,hb,hr,hc,aj]
    simp only [aD] at hc;have he:=bh hc.1;subst he;exact ⟨b,cs,hr,bh hc.2,by simp [anQ,hro],by simp [KA,hro]⟩
  ·simp at h
 ·simp at h
structure dY (P:Program) (S:aL) (t:bF) (A:aC) (g:GR):Prop where
 rows:AW P t A S.rows=true
 nodup:yZ g.bs=true
 acg:TQ t g.bs S.acg=true
 eR:iw S.eR g.vs=true
 adU:yZ (kl g.fs)=true
 asb:R7 S.rows.length g.bs t S.eR=true
 asc:aaE S.rows.length g.bs t A S.rows=true
 xi:aaD (S.Uq P t A)=true
 bs:g.bs=BC t A S.rows
 fs:g.fs=Pq (S.Uq P t A)
 vs:g.vs=rW P t A S.eR
 rs:g.rs=LS P t A S.rows
theorem Nr {S:aL} {t:bF} {A:aC} (h:(S.fU P t A).ok=true):dY P S t A (S.fU P t A):=by
 unfold aL.fU at h ⊢;simp only at h ⊢;cases hc:(AW P t A S.rows&&yZ (BC t A S.rows)&&TQ t (BC t A S.rows) S.acg&&iw S.eR (rW P t A S.eR)&&yZ (kl (Pq (S.Uq P t A)))&&R7 S.rows.length (BC t A S.rows) t S.eR&&aaE S.rows.length (BC t A S.rows) t A S.rows) with
 | false=>rw [hc] at h; simp at h
 | true=>
  rw [hc,aj] at h;simp only [aD] at hc;exact ⟨hc.1.1.1.1.1.1,hc.1.1.1.1.1.2,hc.1.1.1.1.2,hc.1.1.1.2,hc.1.1.2,hc.1.2,hc.2,h,rfl,rfl,rfl,rfl⟩
theorem afm {t:bF} {A:aC} : ∀ {ps:List (Tmp×List CD×Nat)} {k:Nat} {p:Tmp×List CD×Nat},ps[k]? = some p->(BC t A ps)[k]? = some (anQ t A p)
 | [],_,_,h=>by simp at h
 | p::ps,0,q,h=>by simp at h; subst h; rfl
 | p::ps,k+1,q,h=>by simp at h; simpa [BC] using afm h
theorem FO {t:bF} {A:aC} : ∀ {ps:List (Tmp×List CD×Nat)},(BC t A ps).length=ps.length
 | []=>rfl
 | p::ps=>by simp [BC,FO]
theorem Vj {t:bF} {A:aC} : ∀ {ps:List (Tmp×List CD×Nat)},(LS P t A ps).length=ps.length
 | []=>rfl
 | p::ps=>by simp [LS,Vj]
theorem ack {t:bF} {A:aC} : ∀ {ps:List (Tmp×List CD×Nat)},AW P t A ps=true->∀ {k:Nat} {p:Tmp×List CD×Nat},ps[k]? = some p->(rowOf t A p).isSome=true/\dX p.2.1 (fM P A p.2.1 (KA t A p))=true
 | [],_,k,p,h=>by simp at h
 | q::ps,h,k,p,hp=>by
  simp only [AW,aD] at h;cases k with
  | zero=>simp at hp; subst hp; exact ⟨h.1,h.2.1⟩
  | succ k=>simp at hp; exact ack h.2.2 hp
theorem YG:∀ {ps:List (Tmp×List CD×Nat)} {rs:List (List KV)},rs.length=ps.length->∀ (j:Nat) (bs:List Nat),(acj j bs ps rs).length=ps.length
 | [],[],_,_,_=>rfl
 | [],_::_,h,_,_=>by simp at h
 | _::_,[],h,_,_=>by simp at h
 | p::ps,r::rs,h,j,bs=>by simp [acj,YG (by simpa using h)]
def Cr (j:Nat):List (Tmp×List CD×Nat)->Nat->Nat
 | [],_=>j
 | _::_,0=>j
 | p::ps,k+1=>Cr (j+tr p.2.1) ps k
theorem TT {bs:List Nat} : ∀ {ps:List (Tmp×List CD×Nat)} {rs:List (List KV)} {j k:Nat} {p:Tmp×List CD×Nat} {r:List KV},ps[k]? = some p->rs[k]? = some r->(acj j bs ps rs)[k]? = some (sR (Cr j ps k) bs p.2.1 r)
 | [],_,_,_,_,_,h,_=>by simp at h
 | _::_,[],_,_,_,_,_,h=>by simp at h
 | p::ps,r::rs,j,0,p',r',h1,h2=>by simp at h1 h2; subst h1 h2; rfl
 | p::ps,r::rs,j,k+1,p',r',h1,h2=>by
  simp at h1 h2;simp only [acj,TA];exact TT h1 h2
theorem afn {E0:Env} {t:bF} {A:aC} : ∀ {ps:List (Tmp×List CD×Nat)} {j:Nat},AW P t A ps=true->qW E E0 (Jc P t A ps) j->∀ {k:Nat} {p:Tmp×List CD×Nat},ps[k]? = some p->qW E E0 (mS P A p.2.1 (KA t A p)) (Cr j ps k)
 | [],_,_,_,_,_,h=>by simp at h
 | q::ps,j,hr,hf,k,p,hp=>by
  simp only [AW,aD] at hr;obtain ⟨b,cs,_,hl,_,hC⟩:=KD hr.1;cases k with
  | zero=>simp at hp; subst hp; exact hf.left
  | succ k=>
   simp at hp;have:=hf.right;rw [mr (by rw [hC]; exact hl)] at this;exact afn hr.2.2 this hp
theorem FQ {t:bF} {A:aC} : ∀ {ps:List (Tmp×VD)},iw ps (rW P t A ps)=true->(GI P t A ps).length=oZ ps
 | [],_=>rfl
 | p::ps,h=>by
  simp only [rW,iw,aD] at h;simp only [GI,oZ,ko];rw [mr (KB h.1),FQ h.2]
def Ns (P:Program) (A:aC) (x:FI) (q:jP):Prop:=
 (∃ n sz,q = .bc n sz/\((x.f=none/\n=0)\/∃ f,x.f=some f/\A.get f=some (.bc n sz)))\/
 ∃ t v,q = .arr v/\((x.f=none/\1<=bz P t/\v=K.eh P gR (.ts t .any 0 [] nQ))\/∃ f m N es acc,x.f=some f/\A.get f=some (.arr (.ts t m N es acc))/\v=K.eh P gR (.ts t .any N es acc))
theorem apZ {A:aC} {t:TypeId} {v:KV} (cf:(LU P A t v).ok=true) (hg:j8 (.arr t) (fL P A (.arr t) v)=true):Ns P A (LU P A t v) (.arr (fL P A (.arr t) v)):=by
 rcases aaF hg with rfl | ⟨b,n,m,N,es,acc,rfl,hb,he⟩
 ·exact .inr ⟨t,_,rfl,.inl ⟨rfl,fH cf,rfl⟩⟩
 ·refine .inr ⟨t,_,rfl,.inr ⟨b,m,N,es,acc,?_,hb,he⟩⟩
  simp only [LU,hb]
theorem ap0 {A:aC} {t:TypeId} {v:KV} (cf:(vM P A t v).ok=true) (hg:j8 (.bc t) (fL P A (.bc t) v)=true):Ns P A (vM P A t v) (.bc (lenOf (fL P A (.bc t) v)) (szL P t)):=by
 refine .inl ⟨_,_,rfl,?_⟩;cases v with
 | mn=>exact .inl ⟨rfl,rfl⟩
 | ts t' m n es acc=>
  cases m with
  | bc f=>
   have e1:fL P A (.bc t) (.ts t' (.bc f) n es acc)=cond (Nat.beq t t') (K.eh P gR (.ts t .any n es acc)) .bD:=rfl;rw [e1] at hg ⊢;cases hb:Nat.beq t t' with
   | false=>rw [hb] at hg; simp [j8,kindOk] at hg
   | true=>
    rw [aj];refine .inr ⟨f,?_,?_⟩
    ·revert cf
     unfold vM;simp only;split
     ·intro _; rfl
     ·intro cf; simp at cf
    ·revert cf
     unfold vM;simp only;split
     ·rename_i top sz he
      intro cf;simp only at cf;cases hs:Nat.beq sz (szL P t) with
      | false=>rw [hs] at cf; simp at cf
      | true=>
       rw [hs,aj] at cf;have h1:=bh hs;have h2:=bh (show Nat.beq top n=true from cf);subst h1 h2;exact he
     ·intro cf; simp at cf
  | any=>simp [vM] at cf
  | exact=>simp [vM] at cf
 | _=>simp [vM] at cf
theorem yd {A:aC} : ∀ {ds:List CD} {vs:List KV} {i:Nat} {x:FI},vs.length=ds.length->dX ds (fM P A ds vs)=true->(mS P A ds vs)[i]? = some x->x.ok=true->∃ q,(qV P ds (fM P A ds vs))[i]? = some q/\Ns P A x q
 | [],[],_,_,_,_,h,_=>by simp [mS] at h
 | [],_::_,_,_,e,_,_,_=>by simp at e
 | _::_,[],_,_,e,_,_,_=>by simp at e
 | .k c::ds,v::vs,i,x,e,hg,h,cf=>by
  simp only [fM,dX,aD] at hg;have h' : (mS P A ds vs)[i]? = some x:=h;exact yd (ds:=ds) (vs:=vs) (by simpa using e) hg.2 h' cf
 | .lit c::ds,v::vs,i,x,e,hg,h,cf=>by
  simp only [fM,dX,aD] at hg;have h' : (mS P A ds vs)[i]? = some x:=h;exact yd (ds:=ds) (vs:=vs) (by simpa using e) hg.2 h' cf
 | .ref c::ds,v::vs,i,x,e,hg,h,cf=>by
  simp only [fM,dX,aD] at hg;have h' : (mS P A ds vs)[i]? = some x:=h;exact yd (ds:=ds) (vs:=vs) (by simpa using e) hg.2 h' cf
 | .bc t::ds,v::vs,i,x,e,hg,h,cf=>by
  simp only [fM,dX,aD] at hg;cases i with
  | zero=>
   simp [mS] at h;subst h;exact ⟨_,rfl,ap0 cf hg.1⟩
  | succ i=>
   simp [mS] at h;obtain ⟨q,h1,h2⟩:=yd (by simpa using e) hg.2 h cf;exact ⟨q,by simpa [qV,fM] using h1,h2⟩
 | .arr t::ds,v::vs,i,x,e,hg,h,cf=>by
  simp only [fM,dX,aD] at hg;cases i with
  | zero=>
   simp [mS] at h;subst h;exact ⟨_,rfl,apZ cf hg.1⟩
  | succ i=>
   simp [mS] at h;obtain ⟨q,h1,h2⟩:=yd (by simpa using e) hg.2 h cf;exact ⟨q,by simpa [qV,fM] using h1,h2⟩
theorem pw:∀ {ds:List CD} {vs:List KV},vs.length=ds.length->(qV P ds vs).length=tr ds
 | [],[],_=>rfl
 | [],_::_,e=>by simp at e
 | _::_,[],e=>by simp at e
 | .k c::ds,v::vs,e=>by simp only [qV,tr]; exact pw (by simpa using e)
 | .lit w::ds,v::vs,e=>by simp only [qV,tr]; exact pw (by simpa using e)
 | .ref w::ds,v::vs,e=>by simp only [qV,tr]; exact pw (by simpa using e)
 | .bc t::ds,v::vs,e=>by simp only [qV,tr,HP]; rw [pw (by simpa using e)]
 | .arr t::ds,v::vs,e=>by simp only [qV,tr,HP]; rw [pw (by simpa using e)]
theorem H5:∀ {ds:List CD} {vs:List KV},dX ds vs=true->vs.length=ds.length
 | [],[],_=>rfl
 | [],_::_,h=>by simp [dX] at h
 | _::_,[],h=>by simp [dX] at h
 | d::ds,v::vs,h=>by
  simp only [dX,aD] at h;simp [H5 h.2]
theorem acm {d:VD} {v:KV} (h:yY d v=true):v.cells.length=d.ks.length:=by
 rcases Ar h with ⟨cs,rfl,_,h1⟩ | ⟨h0,_,c,h1,_⟩
 ·exact H5 h1
 ·have:v.cells = [v]:=by cases v <;> first | rfl | exact absurd rfl (h0 _)
  rw [this,h1]; rfl
theorem FT:∀ {ps:List (Tmp×VD)} {vs:List KV},iw ps vs=true->(zP P ps vs).length=oZ ps
 | [],[],_=>rfl
 | [],_::_,h=>by simp [iw] at h
 | _::_,[],h=>by simp [iw] at h
 | p::ps,v::vs,h=>by
  simp only [iw,aD] at h;simp only [zP,oZ,ko];rw [pw (acm h.1),FT h.2]
theorem acn {t:bF} {A:aC} : ∀ {ps:List (Tmp×VD)} {i:Nat} {x:FI},iw ps (rW P t A ps)=true->(GI P t A ps)[i]? = some x->x.ok=true->∃ p,(zP P ps (rW P t A ps))[i]? = some p/\Ns P A x p
 | [],_,_,_,h,_=>by simp [GI] at h
 | p::ps,i,x,hg,h,cf=>by
  simp only [rW,iw,aD] at hg;simp only [GI] at h;have hl:=KB hg.1;by_cases hi:i < (mS P A p.2.ks (valOf t p.1).cells).length
  ·rw [pR hi] at h
   have hg' : dX p.2.ks (fM P A p.2.ks (valOf t p.1).cells)=true/\(xm P A p.2 (valOf t p.1)).cells=fM P A p.2.ks (valOf t p.1).cells:=by
    rcases Au hg.1 with ⟨cs,e,_,h2,h3⟩ | ⟨_,c,h1,h2,h3,h4,h5⟩
    ·rw [e] at h2 ⊢; exact ⟨h3,by rw [h2]; rfl⟩
    ·rw [h4,h1]
     refine ⟨by simp [fM,dX,h3],?_⟩;rw [h2];show (fL P A c (valOf t p.1)).cells = [fL P A c (valOf t p.1)];generalize fL P A c (valOf t p.1)=w at h5 ⊢;cases w <;> first | rfl | exact absurd rfl (h5 _)
   obtain ⟨q,h2,h3⟩:=yd hl hg'.1 h cf;refine ⟨q,?_,h3⟩;simp only [rW,zP];rw [hg'.2,pR (c8.1 h2).1];exact h2
  ·rw [ue (by omega)] at h
   obtain ⟨q,h1,h2⟩:=acn hg.2 h cf;refine ⟨q,?_,h2⟩;simp only [rW,zP];have e1:(qV P p.2.ks (xm P A p.2 (valOf t p.1)).cells).length=(mS P A p.2.ks (valOf t p.1).cells).length:=by rw [pw (acm hg.1),mr hl]
   rw [ue (by omega),e1];exact h1
theorem aco {t:bF} {A:aC} : ∀ {ps:List (Tmp×List CD×Nat)} {i:Nat} {x:FI},AW P t A ps=true->(Jc P t A ps)[i]? = some x->x.ok=true->∃ p,(BF P ps (LS P t A ps))[i]? = some p/\Ns P A x p
 | [],_,_,_,h,_=>by simp [Jc] at h
 | p::ps,i,x,hg,h,cf=>by
  simp only [AW,aD] at hg;simp only [Jc] at h;obtain ⟨b,cs,_,hl,_,hC⟩:=KD hg.1;rw [<- hC] at hl;by_cases hi:i < (mS P A p.2.1 (KA t A p)).length
  ·rw [pR hi] at h
   obtain ⟨q,h2,h3⟩:=yd hl hg.2.1 h cf;refine ⟨q,?_,h3⟩;simp only [LS,BF];rw [pR (c8.1 h2).1];exact h2
  ·rw [ue (by omega)] at h
   obtain ⟨q,h1,h2⟩:=aco hg.2.2 h cf;refine ⟨q,?_,h2⟩;simp only [LS,BF];have e1:(qV P p.2.1 (fM P A p.2.1 (KA t A p))).length=(mS P A p.2.1 (KA t A p)).length:=by rw [pw (H5 hg.2.1),mr hl]
   rw [ue (by omega),e1];exact h1
theorem LW:∀ {ps:List (Tmp×List CD×Nat)} {rs:List (List KV)},rs.length=ps.length->(∀ (k:Nat) p r,ps[k]? = some p->rs[k]? = some r->dX p.2.1 r=true)->∀ {l:Nat},l=(ps.map fun p=>tr p.2.1).sum->(BF P ps rs).length=l
 | [],[],_,_,l,hl=>by subst hl; rfl
 | [],_::_,h,_,_,_=>by simp at h
 | _::_,[],h,_,_,_=>by simp at h
 | p::ps,r::rs,h,hk,l,hl=>by
  simp only [BF,ko];rw [pw (H5 (hk 0 p r rfl rfl)),LW (by simpa using h) (fun k p r h1 h2=>hk (k+1) p r (by simpa using h1) (by simpa using h2)) rfl,hl];simp
theorem Vk {t:bF} {A:aC} : ∀ {ps:List (Tmp×List CD×Nat)},AW P t A ps=true->(Jc P t A ps).length=(ps.map fun p=>tr p.2.1).sum
 | [],_=>rfl
 | p::ps,h=>by
  simp only [AW,aD] at h;obtain ⟨b,cs,_,hl,_,hC⟩:=KD h.1;simp only [Jc,ko,List.map_cons,List.sum_cons];rw [mr (by rw [hC]; exact hl),Vk h.2.2]
end Go.K
end
section
namespace Go.K
open Go Go.aB
variable {P:Program} {E:Env}
noncomputable def Env.sub (E:Env) (A:aC) (bs:List Nat) (fs:List (Option Nat)) (nr:Nat):Env:=
 { κ:=fun i=>(bs[i]?).bind E.κ,z:=E.z,φ:=fun i=>if nr<=i then (fs[i - nr]?).bind (fun f=>f.bind fun x=>cond (BD (A.get x)) (E.φ x) none) else none,α:=fun i=>if nr<=i then (fs[i - nr]?).bind (fun f=>f.bind E.α) else none }
theorem TU {E:Env} {A:aC} {x q:Nat} (e:cond (BD (A.get x)) (E.φ x) none=some q):E.φ x=some q/\BD (A.get x)=true:=by
 cases h:BD (A.get x) with
 | true=>rw [h] at e; exact ⟨e,rfl⟩
 | false=>rw [h] at e; simp at e
theorem akN {A:aC} {x:Nat} (h:BD (A.get x)=true):∃ n sz,A.get x=some (.bc n sz):=by
 unfold BD at h;split at h
 ·rename_i n sz e; exact ⟨n,sz,e⟩
 ·simp at h
theorem Env.afo {A:aC} {bs:List Nat} {fs:List (Option Nat)} {nr i:Nat} : (E.sub A bs fs nr).φ (nr+i)=(fs[i]?).bind (fun f=>f.bind fun x=>cond (BD (A.get x)) (E.φ x) none):=by
 simp only [Env.sub];rw [aR (by omega),show nr+i - nr=i by omega]
theorem Env.Jf {A:aC} {bs:List Nat} {fs:List (Option Nat)} {nr i:Nat} : (E.sub A bs fs nr).α (nr+i)=(fs[i]?).bind (fun f=>f.bind E.α):=by
 simp only [Env.sub];rw [aR (by omega),show nr+i - nr=i by omega]
theorem Pt:∀ {l:List (Nat×KV)} {i:Nat} {v:KV},(mX l).get i=some v->(i,v)∈l
 | [],i,v,h=>by simp [mX] at h
 | p::ps,i,v,h=>by
  rw [mX,Trie.qH] at h;split at h
  ·rename_i e
   simp at h; subst h e;simp
  ·exact xh _ (Pt h)
theorem mq.mX {ρ:aZ} {l:List (Nat×KV)} {N:Nat} {a:Act} (hs:a.tmps.size=N) (h:∀ q∈l,q.1 < N/\VC P E ρ q.2 (a.tmps.getD q.1 undef)):mq P E ρ (K.mX l) N a:=by
 refine ⟨hs,fun i=>?_,fun i hi=>?_⟩
 ·cases hg:(K.mX l).get i with
  | none=>exact .bD
  | some v=>exact (h _ (Pt hg)).2
 ·cases hg:(K.mX l).get i with
  | none=>rfl
  | some v=>have:=(h _ (Pt hg)).1; exact absurd hi (Nat.not_le_of_lt this)
theorem EE {A:aC} {x:Nat} : ∀ {ds:List CD} {vs:List KV} {fi:FI},fi∈mS P A ds vs->fi.fm=true->fi.f=some x->BD (A.get x)=true
 | [],_,_,h,_,_=>by simp [mS] at h
 | d::ds,[],_,h,_,_=>by cases d <;> simp [mS] at h
 | d::ds,v::vs,fi,h,hm,hx=>by
  cases d <;> simp only [mS,eL] at h
  ·exact EE h hm hx
  ·exact EE h hm hx
  ·rcases h with rfl | h
   ·exact aoE hx
   ·exact EE h hm hx
  ·rcases h with rfl | h
   ·rw [aoD] at hm; simp at hm
   ·exact EE h hm hx
  ·exact EE h hm hx
theorem aL.arx (S:aL) {t:bF} {A:aC} {x:Nat} {fi:FI} (h:fi∈S.Uq P t A) (hm:fi.fm=true) (hx:fi.f=some x):BD (A.get x)=true:=by
 have one:∀ {ps:List (Tmp×VD)},fi∈GI P t A ps->BD (A.get x)=true:=by
  intro ps
  induction ps with
  | nil=>intro h; simp [GI] at h
  | cons p ps ih=>
   intro h;simp only [GI,oM] at h;exact h.elim (fun h=>EE h hm hx) ih
 have two:∀ {ps:List (Tmp×List CD×Nat)},fi∈Jc P t A ps->BD (A.get x)=true:=by
  intro ps
  induction ps with
  | nil=>intro h; simp [Jc] at h
  | cons p ps ih=>
   intro h;simp only [Jc,oM] at h;exact h.elim (fun h=>EE h hm hx) ih
 simp only [aL.Uq,oM] at h;exact h.elim one two
theorem dY.hyp {S:aL} {t:bF} {A:aC} {g:GR} (h:dY P S t A g):qW E (E.sub A g.bs g.fs S.nr) (S.Uq P t A) S.nr:=fun i fi hi=>by
 refine ⟨Wt h.xi fi (hQ hi),fun hm x q hx hq=>?_,fun x q hx hq=>?_⟩
 ·rw [Env.afo,h.fs,Ps hi,eV,hx,eV,S.arx (hQ hi) hm hx]
  exact hq
 ·rw [Env.Jf,h.fs,Ps hi,eV,hx,eV]
  exact hq
theorem akO {E0:Env} {t:bF} {A:aC} {ρ:aZ} {N nr:Nat} {bs LV:List Nat} {a:Act} (hz:E0.z=E.z) (hk:Rk E E0 nr bs LV) (ht:mq P E ρ t N a):∀ {ps:List (Tmp×VD)} {j:Nat},iw ps (rW P t A ps)=true->qW E E0 (GI P t A ps) j->R7 nr bs t ps=true->∀ q∈aci j LV ps (rW P t A ps),q.1 < N/\VC P E0 ρ q.2 (a.tmps.getD q.1 undef)
 | [],_,_,_,_,q,hq=>by simp [aci] at hq
 | p::ps,j,hg,hf,hr,q,hq=>by
  simp only [R7,aD] at hr;simp only [rW,iw,aD] at hg;simp only [rW,aci,eL] at hq;rcases hq with rfl | hq
  ·refine ⟨?_,?_⟩
   ·obtain ⟨v,hv⟩:=VK.aar hg.1 hr.1
    by_cases hN:N<=p.1
    ·rw [ht.none _ hN] at hv; simp at hv
    ·exact Nat.lt_of_not_le hN
   ·obtain ⟨u,h1,h2⟩:=ht.val p.1
    exact ⟨u,h1.atH hz hk hg.1 hf.left hr.1,h2⟩
  ·have h2:=hf.right
   rw [mr (KB hg.1)] at h2;exact akO hz hk ht hg.2 h2 hr.2 q hq
theorem Vl {bs:List Nat} : ∀ {ps:List (Tmp×Nat×Nat)} {q:Nat×KV},q∈Cq bs ps->∃ p∈ps,q=(p.1,.ptr (bs.getD p.2.1 0) p.2.2)
 | [],_,h=>by simp [Cq] at h
 | p::ps,q,h=>by
  simp only [Cq,eL] at h;rcases h with rfl | h
  ·exact ⟨p,by simp,rfl⟩
  ·obtain ⟨p',h1,h2⟩:=Vl h
   exact ⟨p',xh _ h1,h2⟩
theorem Sc {t:bF} {bs:List Nat} : ∀ {ps:List (Tmp×Nat×Nat)},TQ t bs ps=true->∀ q∈ps,∃ b,t.get q.1=some (.ptr b q.2.2)/\bs[q.2.1]? = some b
 | [],_,q,hq=>by simp at hq
 | p::ps,h,q,hq=>by
  simp only [TQ,aD] at h;rcases eL.1 hq with rfl | hq
  ·have h1:=h.1
   unfold apW at h1;split at h1
   ·rename_i b o b' e1 e2
    simp only [aD] at h1;have:=bh h1.1;have:=bh h1.2
    subst_vars
    exact ⟨_,e1,e2⟩
   ·simp at h1
  ·exact Sc h.2 q hq
theorem dY.rk {S:aL} {t:bF} {A:aC} {g:GR} (h:dY P S t A g):Rk E (E.sub A g.bs g.fs S.nr) S.rows.length g.bs S.ids:=fun j x hj e=>by
 have a8:j < g.bs.length:=by rw [h.bs,FO]; exact hj
 rw [gK,dz a8] at e;rw [gK,Nq S j hj];simp only [Env.sub,bG,dz a8,eV];exact e
theorem dY.tkr {S:aL} {t:bF} {A:aC} {g:GR} {ρ:aZ} {N:Nat} {a:Act} (h:dY P S t A g) (ht:mq P E ρ t N a):mq P (E.sub A g.bs g.fs S.nr) ρ (S.tm S.nr S.ids g.vs) N a:=by
 refine mq.mX ht.size fun q hq=>?_;have hh:qW E (E.sub A g.bs g.fs S.nr) (S.Uq P t A) S.nr:=h.hyp;rcases oM.1 hq with hq | hq
 ·rw [h.vs] at hq
  exact akO (E:=E) (E0:=E.sub A g.bs g.fs S.nr) (A:=A) rfl h.rk ht (h.vs ▸ h.eR) hh.left h.asb q hq
 ·obtain ⟨p,hp,rfl⟩:=Vl hq
  obtain ⟨b,h1,h2⟩:=Sc h.acg p hp;refine ⟨?_,?_⟩
  ·by_cases hN:N<=p.1
   ·rw [ht.none _ hN] at h1; simp at h1
   ·exact Nat.lt_of_not_le hN
  ·have hk:p.2.1 < S.rows.length:=by
    have:=(c8.1 h2).1;rw [h.bs,FO] at this; exact this
   have hv:=ht.val p.1;rw [h1] at hv;obtain ⟨u,h3,h4⟩:=hv;refine ⟨u,?_,h4⟩;obtain ⟨x,h5,rfl⟩:=(show VK P E (.ptr b p.2.2) u from h3).jb;have:S.ids.getD p.2.1 0=p.2.1:=by rw [gK,Nq S _ hk]; rfl
   rw [this];exact .Bt (by simp [Env.sub,h2,h5])
theorem dY.row {S:aL} {t:bF} {A:aC} {g:GR} (h:dY P S t A g) {k:Nat} {p:Tmp×List CD×Nat} (hp:S.rows[k]? = some p):∃ b cs,g.bs[k]? = some b/\A.get b=some (.row cs p.2.2)/\cs.length=p.2.1.length/\KA t A p=cs/\g.rs[k]? = some (fM P A p.2.1 cs)/\dX p.2.1 (fM P A p.2.1 cs)=true:=by
 obtain ⟨h1,h2⟩:=ack h.rows hp;obtain ⟨b,cs,h4,h5,h6,h7⟩:=KD h1;refine ⟨b,cs,by rw [h.bs,afm hp,h6],h4,h5,h7,?_,by rw [<- h7]; exact h2⟩;have:∀ {ps:List (Tmp×List CD×Nat)} {k:Nat},ps[k]? = some p->(LS P t A ps)[k]? = some (fM P A p.2.1 (KA t A p)):=by
  intro ps
  induction ps with
  | nil=>intro k h; simp at h
  | cons q ps ih=>
   intro k h;cases k with
   | zero=>simp at h; subst h; rfl
   | succ k=>simp at h; simpa [LS] using ih h
 rw [h.rs,this hp,h7]
theorem dY.uI {S:aL} {t:bF} {A:aC} {g:GR} (h:dY P S t A g):g.rs.length=S.rows.length:=by rw [h.rs,Vj]
theorem dY.afp {S:aL} {t:bF} {A:aC} {g:GR} (h:dY P S t A g):g.bs.length=S.rows.length:=by rw [h.bs,FO]
theorem dY.zJ {S:aL} {t:bF} {A:aC} {g:GR} (h:dY P S t A g):∀ (k:Nat) p r,S.rows[k]? = some p->g.rs[k]? = some r->dX p.2.1 r=true:=fun k p r hp hr=>by
 obtain ⟨b,cs,_,_,_,_,h1,h2⟩:=h.row hp;rw [hr] at h1; simp at h1; subst h1; exact h2
theorem dY.lens {S:aL} {t:bF} {A:aC} {g:GR} (h:dY P S t A g):(S.lens P g.vs g.rs).length=(S.Uq P t A).length:=by
 simp only [aL.lens,aL.Uq,ko];rw [FT h.eR,LW h.uI h.zJ rfl,Vk h.rows,FQ (h.vs ▸ h.eR)]
theorem dY.fact {S:aL} {t:bF} {A:aC} {g:GR} (h:dY P S t A g) {i:Nat} {q:jP} (hq:(S.lens P g.vs g.rs)[i]? = some q):∃ fi,(S.Uq P t A)[i]? = some fi/\g.fs[i]? = some fi.f/\Ns P A fi q:=by
 have a8:i < (S.Uq P t A).length:=by rw [<- h.lens]; exact (c8.1 hq).1
 have hfi:=dz a8;have cf:=Wt h.xi _ (List.getElem_mem a8);refine ⟨_,hfi,by rw [h.fs]; exact Ps hfi,?_⟩;have hv:(GI P t A S.eR).length=oZ S.eR:=FQ (h.vs ▸ h.eR);have hlv:(zP P S.eR g.vs).length=oZ S.eR:=FT h.eR;simp only [aL.lens] at hq;have akP:=hfi;simp only [aL.Uq] at akP;by_cases hi:i < oZ S.eR
 ·rw [pR (by omega)] at hq akP
  obtain ⟨p,h1,h2⟩:=acn (h.vs ▸ h.eR) akP cf;rw [h.vs,h1] at hq;simp at hq; subst hq; exact h2
 ·rw [ue (by omega)] at hq akP
  obtain ⟨p,h1,h2⟩:=aco h.rows akP cf;rw [h.rs,hlv,<- hv,h1] at hq;simp at hq; subst hq; exact h2
theorem Wv {t:bF} {A:aC} {nr:Nat} {bs:List Nat} : ∀ {ps:List (Tmp×List CD×Nat)},aaE nr bs t A ps=true->∀ {k:Nat} {p:Tmp×List CD×Nat},ps[k]? = some p->GJ nr bs p.2.1 (KA t A p)=true
 | [],_,k,p,h=>by simp at h
 | q::ps,h,k,p,hp=>by
  simp only [aaE,aD] at h;cases k with
  | zero=>simp at hp; subst hp; exact h.1
  | succ k=>simp at hp; exact Wv h.2 hp
theorem qw {S:aL} {rs:List (List KV)} (h:rs.length=S.rows.length):(tt .empty S.rows (S.Jd S.nr S.ids rs)).next=S.nr:=by
 show (tt .empty S.rows (acj (S.nr+oZ S.eR) S.ids S.rows rs)).next=S.nr;rw [ahJ (YG h _ _)];simp [aC.empty,aL.nr]
theorem Jg {S:aL} {vs:List KV} {rs:List (List KV)} (h:rs.length=S.rows.length) {b:Nat} {o:jP} (hb:(S.mem P vs rs).get b=some o) :
  (∃ p r,S.rows[b]? = some p/\rs[b]? = some r/\o = .row (sR (Cr (S.nr+oZ S.eR) S.rows b) S.ids p.2.1 r) p.2.2)\/∃ i q,b=S.nr+i/\(S.lens P vs rs)[i]? = some q/\o=q:=by
 rcases YF hb with hb | ⟨i,q,h1,h2,h3⟩
 ·rcases akM hb with e | ⟨k,p,r,rfl,h1,h2,h3⟩
  ·simp [aC.empty,aC.get] at e
  ·have hk:(aC.empty.next+k)=k:=by simp [aC.empty]
   rw [hk];have a8:k < rs.length:=by rw [h]; exact (c8.1 h1).1
   have e1:=dz a8;have e2:=TT (bs:=S.ids) (j:=S.nr+oZ S.eR) h1 e1;have h2:(acj (S.nr+oZ S.eR) S.ids S.rows rs)[k]? = some r:=h2;rw [e2] at h2;simp at h2;exact .inl ⟨p,_,h1,e1,by rw [h3,<- h2]⟩
 ·rw [qw h] at h1
  exact .inr ⟨i,q,h1,h2,h3⟩
theorem Sd {t:TypeId} {n:Nat} {es:List KV} {acc:Nat->KV} {bx:List Value} (ht:ji P t n es acc) (h:bm P E es bx):∃ rS gb,K.eh P gR (.ts t .any n es acc) = .ts t .any n rS gb/\ji P t n rS gb/\bm P E rS bx:=by
 refine ⟨(List.range n).map fun i=>tN P (K.eh P 5) t (acc i),fun i=>tN P (K.eh P 5) t (acc i),rfl,?_⟩;have DY:∀ i,i < n->∃ e e',es[i]? = some e/\bx[i]? = some e'/\acc i=e/\cC (bu P t) e=true/\VK P E e e':=by
  intro i hi;have hl:i < es.length:=by rw [<- ht.len]; exact hi
  have e1:=dz hl;obtain ⟨e',e2,e3⟩:=h.get e1;exact ⟨_,e',e1,e2,by rw [ht.acc i hi,gK,e1]; rfl,j7 ht.typed e1,e3⟩
 have hlen:bx.length=n:=by rw [h.length,ht.len]
 refine ⟨⟨by simp,fun i hi=>?_,?_⟩,?_⟩
 ·rw [gK,AI,List.getElem?_range hi]; rfl
 ·refine rj fun i e he=>?_
  rw [AI] at he;by_cases hi:i < n
  ·rw [List.getElem?_range hi] at he
   simp only [Option.map_some,db] at he;obtain ⟨x,x',_,_,q3,q4,_⟩:=DY i hi;rw [<- he,q3,tN];obtain ⟨r1,r2,_⟩:=O7 q4;rw [r1];exact aeU q4 (I3 5 r2) (by simp)
  ·rw [List.getElem?_eq_none (by simp; omega)] at he; simp at he
 ·refine bm.XN (by simp [hlen]) fun i e e' he LJ=>?_
  rw [AI] at he;by_cases hi:i < n
  ·rw [List.getElem?_range hi] at he
   simp only [Option.map_some,db] at he;obtain ⟨x,x',_,q2,q3,q4,q5⟩:=DY i hi;rw [LJ] at q2;simp only [db] at q2;subst q2;rw [<- he,q3];exact VK.tN 5 q4 q5
  ·rw [List.getElem?_eq_none (by simp; omega)] at he; simp at he
theorem dY.anT {S:aL} {t:bF} {A:aC} {g:GR} (h:dY P S t A g) {b:Nat} {v:KV} (hb:(S.mem P g.vs g.rs).get b=some (.arr v)) :
  ∃ i T,b=S.nr+i/\((g.fs[i]? = some none/\1<=bz P T/\v=K.eh P gR (.ts T .any 0 [] nQ))\/∃ f m N es acc,g.fs[i]? = some (some f)/\A.get f=some (.arr (.ts T m N es acc))/\v=K.eh P gR (.ts T .any N es acc)):=by
 rcases Jg h.uI hb with ⟨p,r,_,_,h3⟩ | ⟨i,q,rfl,h2,h3⟩
 ·simp at h3
 ·subst h3
  obtain ⟨fi,h4,h5,h6⟩:=h.fact h2;rcases h6 with ⟨_,_,e,_⟩ | ⟨T,v',e,h6⟩
  ·simp at e
  ·simp only [jP.arr.injEq] at e
   subst e;rcases h6 with ⟨h6,h7⟩ | ⟨f,m,N,es,acc,h6,h7⟩
   ·exact ⟨i,T,rfl,.inl ⟨by rw [h5,h6],h7⟩⟩
   ·exact ⟨i,T,rfl,.inr ⟨f,m,N,es,acc,by rw [h5,h6],h7⟩⟩
theorem dY.Jh {S:aL} {t:bF} {A:aC} {g:GR} (h:dY P S t A g) {b:Nat} {v:KV} (hb:(S.mem P g.vs g.rs).get b=some (.arr v)) {p:Nat×Nat×Nat} (hp:(E.sub A g.bs g.fs S.nr).α b=some p) :
  ∃ i f u,b=S.nr+i/\g.fs[i]? = some (some f)/\A.get f=some (.arr u)/\E.α f=some p:=by
 obtain ⟨i,T,rfl,h1⟩:=h.anT hb;rw [Env.Jf] at hp;rcases h1 with ⟨h1,_⟩ | ⟨f,m,N,es,acc,h1,h2,_⟩
 ·rw [h1] at hp; simp at hp
 ·rw [h1] at hp; exact ⟨i,f,_,rfl,h1,h2,hp⟩
theorem dY.AR {S:aL} {t:bF} {A:aC} {g:GR} (h:dY P S t A g) {x:Nat} (q:K.AR (S.mem P g.vs g.rs) (E.sub A g.bs g.fs S.nr) x):∃ f u L N,f∈kl g.fs/\A.get f=some (.arr u)/\E.α f=some (x,L,N):=by
 obtain ⟨b,v,L,N,h1,h2⟩:=q;obtain ⟨i,f,u,_,h3,h4,h5⟩:=h.Jh h1 h2;exact ⟨f,u,L,N,yc.2 (hQ h3),h4,h5⟩
theorem dY.ar {S:aL} {t:bF} {A:aC} {g:GR} (h:dY P S t A g) {x:Nat} (q:K.AR (S.mem P g.vs g.rs) (E.sub A g.bs g.fs S.nr) x):K.AR A E x:=by
 obtain ⟨f,u,L,N,_,h2,h3⟩:=h.AR q;exact ⟨f,u,L,N,h2,h3⟩
theorem dY.AF {S:aL} {t:bF} {A:aC} {B:St} {g:GR} (h:dY P S t A g) {q:Nat} (k:K.AF (S.mem P g.vs g.rs) (E.sub A g.bs g.fs S.nr) B q):∃ f u x L N cs e own m,f∈kl g.fs/\A.get f=some (.arr u)/\E.α f=some (x,L,N)/\B.get x=some (.row cs e own (some (q,m))):=by
 obtain ⟨b,v,x,L,N,cs,e,own,m,h1,h2,h3⟩:=k;obtain ⟨i,f,u,_,h4,h5,h6⟩:=h.Jh h1 h2;exact ⟨f,u,x,L,N,cs,e,own,m,yc.2 (hQ h4),h5,h6,h3⟩
theorem dY.af {S:aL} {t:bF} {A:aC} {B:St} {g:GR} (h:dY P S t A g) {q:Nat} (k:K.AF (S.mem P g.vs g.rs) (E.sub A g.bs g.fs S.nr) B q):K.AF A E B q:=by
 obtain ⟨f,u,x,L,N,cs,e,own,m,_,h1,h2,h3⟩:=h.AF k;exact ⟨f,u,x,L,N,cs,e,own,m,h1,h2,h3⟩
theorem dY.at {S:aL} {t:bF} {A:aC} {B:St} {g:GR} (h:dY P S t A g) {y:Nat} (k:K.AT (S.mem P g.vs g.rs) (E.sub A g.bs g.fs S.nr) B y):K.AT A E B y:=k.imp h.ar fun ⟨q,h1,h2⟩=>⟨q,h.af h1,h2⟩
theorem dY.jK {S:aL} {t:bF} {A:aC} {B:St} {g:GR} (h:dY P S t A g) (hk:fK P E A B):fK P (E.sub A g.bs g.fs S.nr) (S.mem P g.vs g.rs) B where
 row b cs bV hb:=by
  rcases Jg h.uI hb with ⟨p,r,h1,h2,h3⟩ | ⟨i,q,_,h2,h3⟩
  ·simp only [jP.row.injEq] at h3
   obtain ⟨rfl,rfl⟩:=h3;obtain ⟨b',cs,h4,h5,h6,h7,h8,h9⟩:=h.row h1;rw [h2] at h8; simp at h8; subst h8;obtain ⟨x,cd,vK,Kg,h12⟩:=hk.row _ _ _ h5;refine ⟨x,cd,by simp [Env.sub,h4,vK],Kg,?_⟩;have hh:qW E (E.sub A g.bs g.fs S.nr) (S.Uq P t A) S.nr:=h.hyp;have hr:=hh.right;rw [FQ (h.vs ▸ h.eR)] at hr;have:=afn h.rows hr h1;rw [h7] at this;have hrr:=Wv h.asc h1;rw [h7] at hrr;exact bm.cellsIn (E:=E) (E0:=E.sub A g.bs g.fs S.nr) rfl h.rk h12 h6 h9 this hrr
  ·subst h3
   obtain ⟨fi,_,_,h6⟩:=h.fact h2;rcases h6 with ⟨_,_,e,_⟩ | ⟨_,_,e,_⟩ <;> simp at e
 bc b top sz hb:=by
  rcases Jg h.uI hb with ⟨p,r,_,_,h3⟩ | ⟨i,q,rfl,h2,h3⟩
  ·simp at h3
  ·subst h3
   obtain ⟨fi,h4,h5,h6⟩:=h.fact h2;rcases h6 with ⟨_,_,e,h6⟩ | ⟨_,_,e,_⟩
   ·simp only [jP.bc.injEq] at e
    obtain ⟨rfl,rfl⟩:=e;rw [Env.afo,h5,eV];rcases h6 with ⟨h6,h7⟩ | ⟨f,h6,h7⟩
    ·rw [h6]; exact .inl ⟨h7,rfl⟩
    ·rw [h6,eV,show BD (A.get f)=true by rw [h7]; rfl,aj]; exact hk.bc f _ _ h7
   ·simp at e
 z:=hk.z
 apart b x e:=by
  simp only [Env.sub,c9] at e;obtain ⟨b',_,e⟩:=e;exact hk.apart b' x e
 inj b c x e1 e2:=by
  simp only [Env.sub,c9] at e1 e2;obtain ⟨b',h1,e1⟩:=e1;obtain ⟨c',h2,e2⟩:=e2;have:=hk.inj _ _ _ e1 e2;subst this;exact afl h.nodup _ _ _ h1 h2
 j6 b c q tb sb tc sc hb hc e1 e2:=by
  have key:∀ {b t s},(S.mem P g.vs g.rs).get b=some (.bc t s)->∃ i,b=S.nr+i/\((g.fs[i]? = some none)\/∃ f,g.fs[i]? = some (some f)/\A.get f=some (.bc t s)):=by
   intro b t s hb;rcases Jg h.uI hb with ⟨p,r,_,_,h3⟩ | ⟨i,q1,rfl,h2,h3⟩
   ·simp at h3
   subst h3;obtain ⟨fi,h4,h5,h6⟩:=h.fact h2;rcases h6 with ⟨_,_,e,h6⟩ | ⟨_,_,e,_⟩
   ·simp only [jP.bc.injEq] at e
    obtain ⟨rfl,rfl⟩:=e;rcases h6 with ⟨h6,_⟩ | ⟨f,h6,h7⟩
    ·exact ⟨i,rfl,.inl (by rw [h5,h6])⟩
    ·exact ⟨i,rfl,.inr ⟨f,by rw [h5,h6],h7⟩⟩
   ·simp at e
  obtain ⟨i,rfl,h1⟩:=key hb;obtain ⟨j,rfl,h2⟩:=key hc;rw [Env.afo] at e1 e2;rcases h1 with h1 | ⟨f,h1,h3⟩
  ·rw [h1] at e1; simp at e1
  rcases h2 with h2 | ⟨f',h2,h4⟩
  ·rw [h2] at e2; simp at e2
  rw [h1,eV,eV] at e1;rw [h2,eV,eV] at e2;rw [show BD (A.get f)=true by rw [h3]; rfl,aj] at e1;rw [show BD (A.get f')=true by rw [h4]; rfl,aj] at e2;have:=hk.j6 f f' q _ _ _ _ h3 h4 e1 e2;subst this;have:=y7 h.adU i j f h1 h2;omega
 mA b x e:=by
  simp only [Env.sub,c9] at e;obtain ⟨b',h1,_⟩:=e;have:b < g.bs.length:=(c8.1 h1).1;rw [aL.mem,gG,qw h.uI];rw [h.afp] at this;simp only [aL.nr]; omega
 oI b q e:=by
  simp only [Env.sub] at e;split at e
  ·rename_i hle
   obtain ⟨f,h1,_⟩:=c9.1 e;have h2:b - S.nr < g.fs.length:=(c8.1 h1).1;rw [h.fs,tQ,<- h.lens] at h2;rw [aL.mem,gG,qw h.uI];omega
  ·simp at e
 live b o hb:=by
  rw [aL.mem,gG,qw h.uI];rcases Jg h.uI hb with ⟨p,r,h1,_,_⟩ | ⟨i,q,rfl,h2,h3⟩
  ·have:=(c8.1 h1).1
   simp only [aL.nr]; omega
  ·have:=(c8.1 h2).1
   omega
 gX b x e:=by
  simp only [Env.sub,c9] at e;obtain ⟨b',_,e⟩:=e;exact hk.gX b' x e
 oS:=hk.oS
 kG b q e:=by
  simp only [Env.sub] at e;split at e
  ·obtain ⟨f,_,e⟩:=c9.1 e
   obtain ⟨f',_,e⟩:=c9.1 e;exact hk.kG _ _ (TU e).1
  ·simp at e
 fresh:=hk.fresh
 mem:=hk.mem
 ar:=by
  have aiU:∀ b p,(E.sub A g.bs g.fs S.nr).α b=some p->S.nr<=b/\b - S.nr < g.fs.length/\∃ f,E.α f=some p:=by
   intro b p e;simp only [Env.sub] at e;split at e
   ·rename_i hle
    obtain ⟨f,h1,e⟩:=c9.1 e;obtain ⟨f',_,e⟩:=c9.1 e;exact ⟨hle,(c8.1 h1).1,f',e⟩
   ·simp at e
  refine ⟨fun b v hb=>?_,fun b v hb=>?_,fun x q=>?_,fun b c v u x L N L' N' h1 h2 h3 h4=>?_,fun b c v u x y L N L' N' cs e own q k cd e' rU k' h1 h2 h3 h4 h5 h6=>?_,fun b x e=>?_,fun b p e=>?_,fun b x L N e=>?_,fun b v x L N cs e own q k h1 h2 h3=>?_,fun b v hb=>?_⟩
  ·obtain ⟨i,T,rfl,h1⟩:=h.anT hb
   rcases h1 with ⟨h1,h2,h3⟩ | ⟨f,m,N,es,acc,h1,h2,h3⟩
   ·obtain ⟨rS,gb,e1,e2,_⟩:=Sd (P:=P) (E:=E) (t:=T) (n:=0) (es:=[]) (acc:=nQ) (bx:=[]) ⟨rfl,fun i hi=>by omega,rfl⟩ .nil
    rw [e1] at h3;refine ⟨T,0,rS,gb,h3,e2,h2,.inl ⟨rfl,?_⟩⟩;rw [Env.Jf,h1]; rfl
   ·obtain ⟨T2,N2,rS,gb,e,ht,fC,zO⟩:=hk.ar.arr f _ h2
    simp only [KV.ts.injEq] at e;obtain ⟨rfl,rfl,rfl,rfl,rfl⟩:=e;rcases zO with ⟨h4,h5⟩ | ⟨x,cs,cc,bx,h4,h5,h6,h7⟩
    ·subst h4
     have RH:es = []:=lL.1 ht.len.symm;subst RH;obtain ⟨rS,gb,e1,e2,_⟩:=Sd (P:=P) (E:=E) (bx:=[]) ht .nil;rw [e1] at h3;refine ⟨T,0,rS,gb,h3,e2,fC,.inl ⟨rfl,?_⟩⟩;rw [Env.Jf,h1]; exact h5
    ·obtain ⟨rS,gb,e1,e2,e3⟩:=Sd ht h6
     rw [e1] at h3;refine ⟨T,N,rS,gb,h3,e2,fC,.inr ⟨x,cs,cc,bx,?_,h5,bm.zEs (E:=E) (E0:=E.sub A g.bs g.fs S.nr) rfl e3 e2.typed,h7⟩⟩;rw [Env.Jf,h1]; exact h4
  ·rcases Jg h.uI hb with ⟨p,r,_,_,h3⟩ | ⟨i,q,rfl,h2,h3⟩
   ·simp at h3
   ·subst h3
    obtain ⟨fi,_,_,h6⟩:=h.fact h2;rcases h6 with ⟨_,_,e,_⟩ | ⟨_,_,e,_⟩ <;> simp at e
  ·obtain ⟨h1,h2⟩:=hk.ar.z x (h.ar q)
   refine ⟨h1,fun c e=>?_⟩;simp only [Env.sub,c9] at e;obtain ⟨b',_,e⟩:=e;exact h2 b' e
  ·obtain ⟨i,f,u1,rfl,k1,k2,k3⟩:=h.Jh h1 h3
   obtain ⟨j,f',u2,rfl,k1',k2',k3'⟩:=h.Jh h2 h4;have:=hk.ar.inj f f' u1 u2 x L N L' N' k2 k2' k3 k3';subst this;have:=y7 h.adU i j f k1 k1';omega
  ·obtain ⟨i,f,u1,rfl,k1,k2,k3⟩:=h.Jh h1 h3
   obtain ⟨j,f',u2,rfl,k1',k2',k3'⟩:=h.Jh h2 h4;have:=hk.ar.xi f f' u1 u2 x y L N L' N' cs e own q k cd e' rU k' k2 k2' k3 k3' h5 h6;subst this;have:=y7 h.adU i j f k1 k1';omega
  ·cases tj:(E.sub A g.bs g.fs S.nr).α b with
   | none=>rfl
   | some p=>
    obtain ⟨h1,_,_⟩:=aiU b p tj;simp only [Env.sub,c9] at e;obtain ⟨b',h2,_⟩:=e;have:b < g.bs.length:=(c8.1 h2).1;rw [h.afp] at this;simp only [aL.nr] at h1; omega
  ·obtain ⟨h1,h2,_⟩:=aiU b p e
   rw [h.fs,tQ,<- h.lens] at h2;rw [aL.mem,gG,qw h.uI];omega
  ·obtain ⟨_,_,f,e⟩:=aiU b _ e
   exact hk.ar.gX f x L N e
  ·obtain ⟨i,f,u,rfl,k1,k2,k3⟩:=h.Jh h1 h2
   obtain ⟨h4,h5,h6⟩:=hk.ar.vr f u x L N cs e own q k k2 k3 h3;refine ⟨h4,fun c e=>?_,fun y hy eF=>?_⟩
   ·simp only [Env.sub] at e
    split at e
    ·obtain ⟨f1,_,e⟩:=c9.1 e
     obtain ⟨f',_,e⟩:=c9.1 e;exact h5 f' (TU e).1
    ·simp at e
   ·obtain ⟨h7,h8,h9⟩:=h6 y hy eF
    refine ⟨h7,fun q=>h8 (h.ar q),fun c e=>?_⟩;simp only [Env.sub,c9] at e;obtain ⟨b',_,e⟩:=e;exact h9 b' e
  ·rcases Jg h.uI hb with ⟨p,r,_,_,h3⟩ | ⟨i,q,rfl,h2,_⟩
   ·simp at h3
   ·refine ⟨?_,?_⟩
    ·rw [aL.mem,gG,qw h.uI]
     have:=(c8.1 h2).1;omega
    ·simp only [Env.sub]
     rw [List.getElem?_eq_none (by rw [h.afp]; simp only [aL.nr]; omega)];rfl
structure Co (base:Nat) (E:Env) (A:aC) (B:St) (ρ:aZ) (w:World) (E' : Env) (A' : aC) (B' : St) (a7:aZ) (w' : World):Prop where
 fX:nC base ρ B w a7 B' w'
 z:∀ b r,E.z b=some r->E'.z b=some r
 nD:∀ x,x < B.next->(∀ b,E.κ b≠some x)->¬ AT A E B x->B'.get x=B.get x
 new:∀ b x,E'.κ b=some x->(∃ c,E.κ c=some x)\/B.next<=x
 wk:∀ b r,E'.z b=some r->E.z b=some r\/AR A E b\/B.next<=b
 wm:∀ b g,E'.φ b=some g->(∃ c,E.φ c=some g)\/B.next<=g
 sQ:∀ g,g < B.next->(∀ b,E.φ b≠some g)->¬ AF A E B g->B'.members g=B.members g
 oJ:∀ x,AR A' E' x->AR A E x\/B.next<=x
 oY:∀ g,AF A' E' B' g->AF A E B g\/B.next<=g
 xY:∀ g y,y∈B'.members g->y∈B.members g\/B.next<=y
 qv:∀ y,AT A' E' B' y->AT A E B y\/B.next<=y
 rows:∀ y,y < B.next->∀ cs e own cc,B'.get y=some (.row cs e own cc)->∃ nK,B.get y=some (.row nK e own cc)/\nK.length=cs.length
theorem Co.trans {base:Nat} {E1 E2 E3:Env} {A1 A2 A3:aC} {B1 B2 B3:St} {oq xZ ρ3:aZ} {w1 w2 w3:World} (h:Co base E1 A1 B1 oq w1 E2 A2 B2 xZ w2) (k:Co base E2 A2 B2 xZ w2 E3 A3 B3 ρ3 w3):Co base E1 A1 B1 oq w1 E3 A3 B3 ρ3 w3 where
 fX:=h.fX.trans k.fX
 z b r e:=k.z b r (h.z b r e)
 nD x hx hn ha:=by
  refine (k.nD x (ta hx h.fX.next) (fun b e=>?_) fun q=>?_).trans (h.nD x hx hn ha)
  ·rcases h.new b x e with ⟨c,e⟩ | e
   ·exact hn c e
   ·omega
  ·rcases h.qv x q with e | e
   ·exact ha e
   ·omega
 new b x e:=by
  rcases k.new b x e with ⟨c,e⟩ | e
  ·exact h.new c x e
  ·have:=h.fX.next; exact .inr (by omega)
 wk b r e:=by
  rcases k.wk b r e with e | e | e
  ·exact h.wk b r e
  ·exact .inr (h.oJ b e)
  ·have:=h.fX.next; exact .inr (.inr (by omega))
 wm b g e:=by
  rcases k.wm b g e with ⟨c,e⟩ | e
  ·exact h.wm c g e
  ·have:=h.fX.next; exact .inr (by omega)
 sQ g hg hn ha:=by
  refine (k.sQ g (ta hg h.fX.next) (fun b e=>?_) fun q=>?_).trans (h.sQ g hg hn ha)
  ·rcases h.wm b g e with ⟨c,e⟩ | e
   ·exact hn c e
   ·omega
  ·rcases h.oY g q with e | e
   ·exact ha e
   ·omega
 oJ x e:=by
  rcases k.oJ x e with e | e
  ·exact h.oJ x e
  ·have:=h.fX.next; exact .inr (by omega)
 oY g e:=by
  rcases k.oY g e with e | e
  ·exact h.oY g e
  ·have:=h.fX.next; exact .inr (by omega)
 xY g y e:=by
  rcases k.xY g y e with e | e
  ·exact h.xY g y e
  ·have:=h.fX.next; exact .inr (by omega)
 qv y e:=by
  rcases k.qv y e with e | e
  ·exact h.qv y e
  ·have:=h.fX.next; exact .inr (by omega)
 rows y hy cs e own cc q:=by
  obtain ⟨c1,h1,h2⟩:=k.rows y (ta hy h.fX.next) cs e own cc q;obtain ⟨c0,h3,h4⟩:=h.rows y hy c1 e own cc h1;exact ⟨c0,h3,h4.trans h2⟩
theorem Ev.co {base:Nat} {A A1:aC} {B B1:St} {ρ oq:aZ} {w w1:World} {E1:Env} {S:aL} {t:bF} {g:GR} (h:Ev P base E A B ρ w E1 A1 B1 oq w1) (hG:dY P S t A1 g):Co base E A B ρ w (E1.sub A1 g.bs g.fs S.nr) (S.mem P g.vs g.rs) B1 oq w1 where
 fX:=h.fX
 z:=h.le.z
 nD:=h.nD
 new b x e:=by
  simp only [Env.sub,c9] at e;obtain ⟨b',_,e⟩:=e;exact (h.new b' x e).imp (fun e=>⟨_,e⟩) id
 wk:=h.wk
 wm b g e:=by
  simp only [Env.sub] at e;split at e
  ·obtain ⟨f,_,e⟩:=c9.1 e
   obtain ⟨f',_,e⟩:=c9.1 e;exact h.wm _ _ (TU e).1
  ·simp at e
 sQ:=h.sQ
 oJ x q:=h.oJ x (hG.ar q)
 oY g q:=h.oY g (hG.af q)
 xY:=h.xY
 qv y q:=h.qv y (hG.at q)
 rows:=h.rows
def YH (nr:Nat):List CD->Bool
 | []=>true
 | .ref w::ds=>acf nr w&&YH nr ds
 | _::ds=>YH nr ds
theorem Ji {nr:Nat} {bs:List Nat} : ∀ {ds:List CD} {vs:List KV},GJ nr bs ds vs=true->vs.length=ds.length->YH nr ds=true
 | [],_,_,_=>rfl
 | _::_,[],_,e=>by simp at e
 | .k c::ds,v::vs,h,e=>Ji (ds:=ds) (vs:=vs) h (by simpa using e)
 | .lit c::ds,v::vs,h,e=>Ji (ds:=ds) (vs:=vs) h (by simpa using e)
 | .bc c::ds,v::vs,h,e=>Ji (ds:=ds) (vs:=vs) h (by simpa using e)
 | .arr c::ds,v::vs,h,e=>Ji (ds:=ds) (vs:=vs) h (by simpa using e)
 | .ref w::ds,v::vs,h,e=>by
  simp only [GJ,aD] at h;simp only [YH,aD];exact ⟨h.1,Ji h.2.2 (by simpa using e)⟩
def Ww (E1 E2:Env) (i j n:Nat):Prop:=∀ m,m < n->(∀ g,E1.φ (i+m)=some g->E2.φ (j+m)=some g)/\∀ p,E1.α (i+m)=some p->E2.α (j+m)=some p
theorem Ww.tail {E1 E2:Env} {i j n:Nat} (h:Ww E1 E2 i j (n+1)):Ww E1 E2 (i+1) (j+1) n:=fun m hm=>by
 have:=h (m+1) (by omega);rw [show i+(m+1)=i+1+m by omega,show j+(m+1)=j+1+m by omega] at this;exact this
theorem Ww.left {E1 E2:Env} {i j n n' : Nat} (h:Ww E1 E2 i j n') (hn:n<=n'):Ww E1 E2 i j n:=fun m hm=>h m (by omega)
theorem Ww.right {E1 E2:Env} {i j n n' : Nat} (h:Ww E1 E2 i j (n+n')):Ww E1 E2 (i+n) (j+n) n':=fun m hm=>by
 have:=h (n+m) (by omega);rw [<- Fz,<- Fz] at this;exact this
theorem bm.Cs {E1 E2:Env} (hz:E2.z=E1.z) {nr:Nat} {Wx bs2:List Nat} (hk:Rk E1 E2 nr Wx bs2):∀ {ds:List CD} {vs:List KV} {us:List Value} {i j:Nat},bm P E1 (sR i Wx ds vs) us->dX ds vs=true->YH nr ds=true->Ww E1 E2 i j (tr ds)->bm P E2 (sR j bs2 ds vs) us
 | [],[],us,_,_,h,_,_,_=>by rw [h.cl]; exact .nil
 | [],_::_,_,_,_,_,hg,_,_=>by simp [dX] at hg
 | _::_,[],_,_,_,_,hg,_,_=>by simp [dX] at hg
 | d::ds,v::vs,us,i,j,h,hg,hw,hf=>by
  simp only [dX,aD] at hg;cases d with
  | k c=>
   obtain ⟨y,ys,rfl,h1,h2⟩:=bm.cons_inv (show bm P E1 (v::sR i Wx ds vs) us from h);exact .cons (h1.gCD (d:=.k c) hz hg.1 (by simp)) (bm.Cs hz hk h2 hg.2 hw hf)
  | lit w=>
   obtain ⟨y,ys,rfl,h1,h2⟩:=bm.cons_inv (show bm P E1 (v::sR i Wx ds vs) us from h);exact .cons (h1.gCD (d:=.lit w) hz hg.1 (by simp)) (bm.Cs hz hk h2 hg.2 hw hf)
  | ref w=>
   simp only [YH,aD] at hw;obtain ⟨y,ys,rfl,h1,h2⟩:=bm.cons_inv (show bm P E1 (inst Wx w::sR i Wx ds vs) us from h);exact .cons (VK.inst hk hw.1 h1) (bm.Cs hz hk h2 hg.2 hw.2 hf)
  | bc t=>
   obtain ⟨y,ys,rfl,h1,h2⟩:=bm.cons_inv (show bm P E1 (Pr i v::sR (i+1) Wx ds vs) us from h);refine .cons ?_ (bm.Cs (i:=i+1) (j:=j+1) hz hk h2 hg.2 hw (Ww.tail hf));have hv:∃ n es acc,v = .ts t .any n es acc:=by
    have hg1:kindOk (.slice t) v=true:=hg.1;cases v <;> simp [kindOk] at hg1;rename_i t' m n es acc;cases m <;> simp at hg1;subst hg1; exact ⟨_,_,_,rfl⟩
   obtain ⟨n,es,acc,rfl⟩:=hv;exact VK.swap hz (show VK P E1 (.ts t (.bc i) n es acc) y from h1) fun sz a cap _ hm=>by
    refine ⟨hm.1,hm.2.imp id ?_⟩;rintro ⟨b,r,g,q1,q2,q3,q4,q5⟩;exact ⟨b,r,g,q1,by rw [hz]; exact q2,q3,(hf 0 (by simp [tr])).1 g q4,q5⟩
  | arr t=>
   obtain ⟨y,ys,rfl,h1,h2⟩:=bm.cons_inv (show bm P E1 (TR i v::sR (i+1) Wx ds vs) us from h);refine .cons ?_ (bm.Cs (i:=i+1) (j:=j+1) hz hk h2 hg.2 hw (Ww.tail hf));have hv:∃ n es acc,v = .ts t .any n es acc:=by
    have hg1:kindOk (.slice t) v=true:=hg.1;cases v <;> simp [kindOk] at hg1;rename_i t' m n es acc;cases m <;> simp at hg1;subst hg1; exact ⟨_,_,_,rfl⟩
   obtain ⟨n,es,acc,rfl⟩:=hv;show VK P E2 (.al t j 0 n) y;rcases (show VK P E1 (.al t i 0 n) y from h1).yW with ⟨q1,q2,q3⟩ | ⟨x,L,N,c,q1,q2⟩
   ·exact .U4 (.inl ⟨q1,q2,q3⟩)
   ·exact .U4 (.inr ⟨x,L,N,c,(hf 0 (by simp [tr])).2 _ q1,q2⟩)
theorem aoF (j:Nat) (bs:List Nat) (d:VD) (cs:List KV):ach j bs d (.agg cs) = .agg (sR j bs d.ks cs):=rfl
theorem ahL {j:Nat} {bs:List Nat} {d:VD} {v:KV} (h:∀ cs,v≠.agg cs) {c:CD} (hc:d.ks = [c]) : [ach j bs d v] = sR j bs d.ks [v]:=by
 have e:ach j bs d v=(match d.ks with | [.bc _]=>Pr j v | [.arr _]=>TR j v | [.ref w]=>inst bs w | _=>v):=by
  cases v <;> first | rfl | exact absurd rfl (h _)
 rw [e,hc];cases c <;> rfl
theorem VK.asK {E1 E2:Env} (hz:E2.z=E1.z) {nr:Nat} {Wx bs2:List Nat} (hk:Rk E1 E2 nr Wx bs2) {d:VD} {v:KV} {u:Value} {i j:Nat} (h:VK P E1 (ach i Wx d v) u) (hg:yY d v=true) (hw:YH nr d.ks=true) (hf:Ww E1 E2 i j (tr d.ks)):VK P E2 (ach j bs2 d v) u:=by
 rcases Ar hg with ⟨cs,rfl,_,h2⟩ | ⟨h0,_,c,h1,h2⟩
 ·rw [aoF] at h ⊢
  obtain ⟨l,rfl,k⟩:=h.nM;exact .rQ (bm.Cs hz hk k h2 hw hf)
 ·have k:bm P E1 (sR i Wx d.ks [v]) [u]:=by rw [<- ahL h0 h1]; exact .cons h .nil
  have k2:=bm.Cs hz hk k (by rw [h1]; simp [dX,h2]) hw hf;rw [<- ahL h0 h1] at k2;obtain ⟨y,e,k3⟩:=k2.fk;simp at e; subst e; exact k3
def xn (P:Program) (E1 E2:Env):List (Nat×KV)->List (Nat×KV)->Prop
 | [],[]=>True
 | x::xs,y::ys=>x.1=y.1/\(∀ u,VK P E1 x.2 u->VK P E2 y.2 u)/\xn P E1 E2 xs ys
 | _,_=>False
theorem xn.append {E1 E2:Env} : ∀ {a b c d:List (Nat×KV)},xn P E1 E2 a b->xn P E1 E2 c d->xn P E1 E2 (a++c) (b++d)
 | [],[],_,_,_,h=>h
 | [],_::_,_,_,h,_=>h.elim
 | _::_,[],_,_,h,_=>h.elim
 | _::_,_::_,_,_,h,k=>⟨h.1,h.2.1,xn.append h.2.2 k⟩
theorem xn.get {E1 E2:Env} : ∀ {a b:List (Nat×KV)},xn P E1 E2 a b->∀ i,((mX a).get i=none/\(mX b).get i=none)\/∃ x y,(mX a).get i=some x/\(mX b).get i=some y/\∀ u,VK P E1 x u->VK P E2 y u
 | [],[],_,i=>.inl (by simp [mX])
 | [],_::_,h,_=>h.elim
 | _::_,[],h,_=>h.elim
 | x::a,y::b,h,i=>by
  rw [mX,mX,Trie.qH,Trie.qH];by_cases e:i=x.1
  ·rw [aR e,aR (by rw [e,h.1])]
   exact .inr ⟨_,_,rfl,rfl,h.2.1⟩
  ·rw [ay e,ay (by rw [<- h.1]; exact e)]
   exact xn.get h.2.2 i
theorem mq.ap1 {E1 E2:Env} {ρ:aZ} {l m:List (Nat×KV)} {N:Nat} {a:Act} (h:mq P E1 ρ (K.mX l) N a) (hp:xn P E1 E2 l m):mq P E2 ρ (K.mX m) N a:=by
 refine ⟨h.size,fun i=>?_,fun i hi=>?_⟩
 ·rcases hp.get i with ⟨_,h2⟩ | ⟨x,y,h1,h2,h3⟩
  ·rw [h2]; exact .bD
  ·have:=h.val i
   rw [h1] at this;rw [h2];obtain ⟨u,k1,k2⟩:=this;exact ⟨u,h3 u k1,k2⟩
 ·rcases hp.get i with ⟨_,h2⟩ | ⟨x,y,h1,h2,h3⟩
  ·exact h2
  ·have:=h.none i hi
   rw [h1] at this; simp at this
def wsV (nr:Nat):List (Tmp×VD)->Bool
 | []=>true
 | p::ps=>YH nr p.2.ks&&wsV nr ps
theorem anU {A:aC} {t:bF} {nr:Nat} {bs:List Nat} : ∀ {ps:List (Tmp×VD)},R7 nr bs t ps=true->iw ps (rW P t A ps)=true->wsV nr ps=true
 | [],_,_=>rfl
 | p::ps,h,hg=>by
  simp only [R7,aD] at h;simp only [rW,iw,aD] at hg;simp only [wsV,aD];exact ⟨Ji h.1 (KB hg.1),anU h.2 hg.2⟩
theorem ahM {E1 E2:Env} (hz:E2.z=E1.z) {nr:Nat} {Wx bs2:List Nat} (hk:Rk E1 E2 nr Wx bs2):∀ {ps:List (Tmp×VD)} {vs:List KV} {i j:Nat},iw ps vs=true->wsV nr ps=true->Ww E1 E2 i j (oZ ps)->xn P E1 E2 (aci i Wx ps vs) (aci j bs2 ps vs)
 | [],[],_,_,_,_,_=>trivial
 | [],_::_,_,_,hg,_,_=>by simp [iw] at hg
 | _::_,[],_,_,hg,_,_=>by simp [iw] at hg
 | p::ps,v::vs,i,j,hg,hw,hf=>by
  simp only [wsV,aD] at hw;simp only [iw,aD] at hg;have hf:Ww E1 E2 i j (tr p.2.ks+oZ ps):=hf;exact ⟨rfl,fun u h=>h.asK hz hk hg.1 hw.1 (hf.left (FB _ _)),ahM hz hk hg.2 hw.2 hf.right⟩
theorem akQ {E1 E2:Env} {ids bs:List Nat} : ∀ {ps:List (Tmp×Nat×Nat)},(∀ p∈ps,∀ x,E1.κ (ids.getD p.2.1 0)=some x->E2.κ (bs.getD p.2.1 0)=some x)->xn P E1 E2 (Cq ids ps) (Cq bs ps)
 | [],_=>trivial
 | p::ps,h=>⟨rfl,fun u k=>by
   obtain ⟨x,h1,rfl⟩:=(show VK P E1 (.ptr (ids.getD p.2.1 0) p.2.2) u from k).jb;exact .Bt (h p (by simp) x h1),akQ fun q hq=>h q (by simp [hq])⟩
end Go.K
end
section
namespace Go.K
open Go Go.aB
variable {P:Program} {E:Env}
theorem Ix:∀ (ps:List (Tmp×List CD×Nat)) (j k:Nat),Cr j ps k=j+Cr 0 ps k
 | [],j,k=>by simp [Cr]
 | _::_,j,0=>by simp [Cr]
 | p::ps,j,k+1=>by
  simp only [Cr];rw [Ix ps (j+tr p.2.1) k,Ix ps (0+tr p.2.1) k];omega
theorem mem_row {S:aL} {vs:List KV} {rs:List (List KV)} (h:rs.length=S.rows.length) {k:Nat} {p:Tmp×List CD×Nat} {r:List KV} (hp:S.rows[k]? = some p) (hr:rs[k]? = some r):(S.mem P vs rs).get k=some (.row (sR (Cr (S.nr+oZ S.eR) S.rows k) S.ids p.2.1 r) p.2.2):=by
 have hk:k < S.nr:=(c8.1 hp).1;rw [aL.mem,H4 (by rw [qw h]; exact hk)];have:=anS (A:=.empty) hp (show (S.Jd S.nr S.ids rs)[k]? = some _ from TT hp hr);simpa [aC.empty] using this
theorem YI {S:aL} {vs:List KV} {rs:List (List KV)} (h:rs.length=S.rows.length) {i:Nat} {q:jP} (hq:(S.lens P vs rs)[i]? = some q):(S.mem P vs rs).get (S.nr+i)=some q:=by
 have:=R9 (A:=tt .empty S.rows (S.Jd S.nr S.ids rs)) hq;rw [qw h] at this;exact this
def Env.up (E E1:Env) (nr nx:Nat):Env:={ κ:=E.κ,z:=E1.z,φ:=fun b=>if nx<=b then E1.φ (nr+(b - nx)) else E.φ b,α:=fun b=>if nx<=b then E1.α (nr+(b - nx)) else E.α b }
theorem Env.Db {E1:Env} {nr nx j:Nat} : (E.up E1 nr nx).φ (nx+j)=E1.φ (nr+j):=by
 simp only [Env.up];rw [aR (by omega),show nx+j - nx=j by omega]
theorem Env.Dc {E1:Env} {nr nx b:Nat} (h:b < nx):(E.up E1 nr nx).φ b=E.φ b:=by
 simp only [Env.up];rw [ay (by omega)]
theorem Env.Nt {E1:Env} {nr nx j:Nat} : (E.up E1 nr nx).α (nx+j)=E1.α (nr+j):=by
 simp only [Env.up];rw [aR (by omega),show nx+j - nx=j by omega]
theorem Env.Nu {E1:Env} {nr nx b:Nat} (h:b < nx):(E.up E1 nr nx).α b=E.α b:=by
 simp only [Env.up];rw [ay (by omega)]
theorem fK.atI {A:aC} {B:St} (h:fK P E A B) {b x:Nat} (hx:E.κ b=some x) : ¬ AT A E B x:=by
 rintro (q | ⟨g,⟨c,v,y,L,N,cs,e,own,k,h1,h2,h3⟩,hm⟩)
 ·exact (h.ar.z x q).2 b hx
 ·by_cases Bs:x=y
  ·subst Bs
   exact (h.ar.z x ⟨c,v,L,N,h1,h2⟩).2 b hx
  ·exact ((h.ar.vr c v y L N cs e own g k h1 h2 h3).2.2 x hm Bs).2.2 b hx
theorem ahN {S:aL} {t:bF} {A:aC} {B B1:St} {g:GR} {ρ oq:aZ} {base N:Nat} {w w1:World} {a1:Act} {vs:List KV} {rs:List (List KV)} {E1:Env} (hG:dY P S t A g) (hk:fK P E A B)
  (ht:mq P E1 oq (S.tm S.nr S.ids vs) N a1) (hs:fK P E1 (S.mem P vs rs) B1) (zQ:Co base (E.sub A g.bs g.fs S.nr) (S.mem P g.vs g.rs) B ρ w E1 (S.mem P vs rs) B1 oq w1) (Ke:∀ k,k < S.rows.length->E1.κ k=(E.sub A g.bs g.fs S.nr).κ k)
  (hv:iw S.eR vs=true) (HS:rs.length=S.rows.length) (hrg:∀ (k:Nat) p r,S.rows[k]? = some p->rs[k]? = some r->dX p.2.1 r=true) :
  mq P (E.up E1 S.nr A.next) oq (S.tm A.next g.bs vs) N a1/\Ev P base E A B ρ w (E.up E1 S.nr A.next) (S.back P g.bs g.fs vs rs A) B1 oq w1:=by
 have hle:E.le (E.up E1 S.nr A.next):=⟨fun b p e=>by rw [Env.Nu (hk.ar.mA b p e)]; exact e,fun _ _ e=>e,fun b r e=>zQ.z b r e,fun b q e=>by rw [Env.Dc (hk.oI b q e)]; exact e⟩
 have ap2:∀ (k b:Nat),g.bs[k]? = some b->E1.κ k=E.κ b:=fun k b hb=>by
  rw [Ke k (by rw [<- hG.afp]; exact (c8.1 hb).1)];simp [Env.sub,hb]
 have jz:(BG (pX A g.bs S.rows (S.Jd A.next g.bs rs)) g.fs).next=A.next:=by rw [KC,Wu]
 have Pp:∀ x,x < B.next->(∀ (k b:Nat),g.bs[k]? = some b->E.κ b≠some x)->¬ AT (S.mem P g.vs g.rs) (E.sub A g.bs g.fs S.nr) B x->B1.get x=B.get x:=fun x hx eF ha=>zQ.nD x hx (fun k e=>by
  simp only [Env.sub,c9] at e;obtain ⟨b,h1,e⟩:=e;exact eF k b h1 e) ha
 have GK:∀ f,f∈kl g.fs->∃ i:Nat,g.fs[i]? = some (some f)/\((∃ n sz,A.get f=some (.bc n sz))\/∃ v,A.get f=some (.arr v)):=by
  intro f hf;obtain ⟨i,hi⟩:=List.getElem?_of_mem (yc.1 hf);have a8:i < (S.lens P g.vs g.rs).length:=by rw [hG.lens,<- tQ,<- hG.fs]; exact (c8.1 hi).1
  obtain ⟨fi,_,h2,h3⟩:=hG.fact (dz a8);rw [hi] at h2; simp at h2;rcases h3 with ⟨n,sz,_,⟨h3,_⟩ | ⟨f',h3,h4⟩⟩ | ⟨T,v,_,⟨h3,_⟩ | ⟨f',m,N,es,acc,h3,h4,_⟩⟩
  ·rw [h3] at h2; simp at h2
  ·rw [h3] at h2; simp at h2; subst h2; exact ⟨i,hi,.inl ⟨_,_,h4⟩⟩
  ·rw [h3] at h2; simp at h2
  ·rw [h3] at h2; simp at h2; subst h2; exact ⟨i,hi,.inr ⟨_,h4⟩⟩
 have atJ:∀ f v,f∈kl g.fs->A.get f=some v->(∃ n sz,v = .bc n sz)\/∃ u,v = .arr u:=by
  intro f v hf hv;obtain ⟨_,_,⟨n,sz,h1⟩ | ⟨u,h1⟩⟩:=GK f hf
  ·rw [hv] at h1; simp at h1; exact .inl ⟨n,sz,h1⟩
  ·rw [hv] at h1; simp at h1; exact .inr ⟨u,h1⟩
 have hrk:Rk E1 (E.up E1 S.nr A.next) S.rows.length S.ids g.bs:=fun j x hj e=>by
  have a8:j < g.bs.length:=by rw [hG.afp]; exact hj
  rw [gK,Nq S j hj,bG] at e;rw [gK,dz a8,bG];show E.κ _=some x;rw [<- ap2 j _ (dz a8)]; exact e
 have aag:∀ (k b:Nat),g.bs[k]? = some b->∃ (p:Tmp×List CD×Nat) (r:List KV) (x:Nat) (cd:List Value),S.rows[k]? = some p/\rs[k]? = some r/\E.κ b=some x/\B1.get x=some (.row cd p.2.2 true none)/\bm P (E.up E1 S.nr A.next) (sR (Cr (A.next+oZ S.eR) S.rows k) g.bs p.2.1 r) cd/\
   (BG (pX A g.bs S.rows (S.Jd A.next g.bs rs)) g.fs).get b=some (.row (sR (Cr (A.next+oZ S.eR) S.rows k) g.bs p.2.1 r) p.2.2)/\b ∉ kl g.fs:=by
  intro k b hb;have a8:k < S.rows.length:=by rw [<- hG.afp]; exact (c8.1 hb).1
  have hp:=dz a8;have hr:=dz (show k < rs.length by rw [HS]; exact a8);obtain ⟨b',cs,q1,q2,_⟩:=hG.row hp;rw [hb] at q1; simp at q1; subst q1;obtain ⟨x,cd,h1,h2,h3⟩:=hs.row k _ _ (mem_row HS hp hr);have hnf:b ∉ kl g.fs:=fun hf=>by
   rcases atJ b _ hf q2 with ⟨_,_,e⟩ | ⟨_,e⟩ <;> simp at e
  refine ⟨_,_,x,cd,hp,hr,by rw [<- ap2 k b hb]; exact h1,h2,?_,?_,hnf⟩
  ·have hws:YH S.rows.length S.rows[k].2.1=true:=by
    obtain ⟨_,nK,_,_,QZ,hc0,_,_⟩:=hG.row hp;have:=Wv hG.asc hp;rw [hc0] at this;exact Ji this QZ
   refine bm.Cs (E1:=E1) (E2:=E.up E1 S.nr A.next) rfl hrk h3 (hrg _ _ _ hp hr) hws fun m _=>⟨fun q e=>?_,fun q e=>?_⟩
   ·rw [Ix,show A.next+oZ S.eR+Cr 0 S.rows k+m=A.next+(oZ S.eR+Cr 0 S.rows k+m) by omega,Env.Db]
    rw [Ix,show S.nr+oZ S.eR+Cr 0 S.rows k+m=S.nr+(oZ S.eR+Cr 0 S.rows k+m) by omega] at e;exact e
   ·rw [Ix,show A.next+oZ S.eR+Cr 0 S.rows k+m=A.next+(oZ S.eR+Cr 0 S.rows k+m) by omega,Env.Nt]
    rw [Ix,show S.nr+oZ S.eR+Cr 0 S.rows k+m=S.nr+(oZ S.eR+Cr 0 S.rows k+m) by omega] at e;exact e
  ·rw [Je,ay hnf]
   exact akK hG.nodup hb hp (show (S.Jd A.next g.bs rs)[k]? = some _ from TT hp hr)
 have sM:∀ b,b∈g.bs->∃ k:Nat,g.bs[k]? = some b:=fun b hb=>List.getElem?_of_mem hb;have TV:∀ c q,(E.sub A g.bs g.fs S.nr).φ c=some q->∃ f n sz,f∈kl g.fs/\E.φ f=some q/\A.get f=some (.bc n sz):=by
  intro c q e;simp only [Env.sub] at e;split at e
  ·obtain ⟨f,h1,e⟩:=c9.1 e
   obtain ⟨f',h2,e⟩:=c9.1 e;subst h2;obtain ⟨e1,e2⟩:=TU e;obtain ⟨n,sz,e3⟩:=akN e2;exact ⟨f',n,sz,yc.2 (hQ h1),e1,e3⟩
  ·simp at e
 have hinv:∀ b o,(S.back P g.bs g.fs vs rs A).get b=some o->(b∈g.bs/\∃ cs e,o = .row cs e/\(BG (pX A g.bs S.rows (S.Jd A.next g.bs rs)) g.fs).get b=some (.row cs e))\/(b ∉ g.bs/\b ∉ kl g.fs/\A.get b=some o)\/(b∈kl g.fs/\o = .dead)\/∃ i q,b=A.next+i/\(S.lens P vs rs)[i]? = some q/\o=q:=by
  intro b o hb;rcases YF hb with hb | ⟨i,q,h1,h2,h3⟩
  ·by_cases hbs:b∈g.bs
   ·obtain ⟨k,yO⟩:=sM b hbs
    obtain ⟨p,r,x,cd,h1,h2,h3,h4,h5,h6,h7⟩:=aag k b yO;rw [h6] at hb; simp at hb;exact .inl ⟨hbs,_,_,hb.symm,h6⟩
   ·rw [Je] at hb
    split at hb
    ·rename_i hf; simp at hb; exact .inr (.inr (.inl ⟨hf,hb.symm⟩))
    ·rename_i hf
     rw [Sa hbs] at hb;exact .inr (.inl ⟨hbs,hf,hb⟩)
  ·rw [jz] at h1
   exact .inr (.inr (.inr ⟨i,q,h1,h2,h3⟩))
 have hnewobj:∀ i q,(S.lens P vs rs)[i]? = some q->(S.mem P vs rs).get (S.nr+i)=some q:=fun i q hq=>YI HS hq;have anV:∀ (i:Nat) (q:jP),(S.lens P vs rs)[i]? = some q->(∃ n sz,q=jP.bc n sz)\/∃ v,q=jP.arr v:=by
  have one:∀ (ds:List CD) (vs:List KV),∀ q∈qV P ds vs,(∃ n sz,q = .bc n sz)\/∃ v,q = .arr v:=by
   intro ds
   induction ds with
   | nil=>intro vs q hq; simp [qV] at hq
   | cons d ds ih=>
    intro vs q hq;cases vs with
    | nil=>cases d <;> simp [qV] at hq
    | cons v vs=>
     cases d <;> simp only [qV,eL] at hq
     ·exact ih vs q hq
     ·exact ih vs q hq
     ·rcases hq with rfl | hq
      ·exact .inl ⟨_,_,rfl⟩
      ·exact ih vs q hq
     ·rcases hq with rfl | hq
      ·exact .inr ⟨_,rfl⟩
      ·exact ih vs q hq
     ·exact ih vs q hq
  have two:∀ (ps:List (Tmp×VD)) (vs:List KV),∀ q∈zP P ps vs,(∃ n sz,q = .bc n sz)\/∃ v,q = .arr v:=by
   intro ps
   induction ps with
   | nil=>intro vs q hq; simp [zP] at hq
   | cons p ps ih=>
    intro vs q hq;cases vs with
    | nil=>simp [zP] at hq
    | cons v vs=>
     simp only [zP,oM] at hq;exact hq.elim (one _ _ q) (ih vs q)
  have three:∀ (ps:List (Tmp×List CD×Nat)) (rs:List (List KV)),∀ q∈BF P ps rs,(∃ n sz,q = .bc n sz)\/∃ v,q = .arr v:=by
   intro ps
   induction ps with
   | nil=>intro vs q hq; simp [BF] at hq
   | cons p ps ih=>
    intro vs q hq;cases vs with
    | nil=>simp [BF] at hq
    | cons v vs=>
     simp only [BF,oM] at hq;exact hq.elim (one _ _ q) (ih vs q)
  intro i q hq;have:=hQ hq;simp only [aL.lens,oM] at this;exact this.elim (two _ _ q) (three _ _ q)
 have x5:∀ b v,(S.back P g.bs g.fs vs rs A).get b=some (.arr v)->(b < A.next/\b ∉ kl g.fs/\A.get b=some (.arr v)/\(E.up E1 S.nr A.next).α b=E.α b)\/∃ i,b=A.next+i/\(S.mem P vs rs).get (S.nr+i)=some (.arr v)/\(E.up E1 S.nr A.next).α b=E1.α (S.nr+i):=by
  intro b v hb;rcases hinv b _ hb with ⟨_,_,_,e,_⟩ | ⟨_,Q3,h1⟩ | ⟨_,e⟩ | ⟨i,q,rfl,h2,e⟩
  ·simp at e
  ·exact .inl ⟨hk.live b _ h1,Q3,h1,Env.Nu (hk.live b _ h1)⟩
  ·simp at e
  ·subst e; exact .inr ⟨i,rfl,YI HS h2,Env.Nt⟩
 have asd:∀ {b v x L N},b ∉ kl g.fs->A.get b=some (.arr v)->E.α b=some (x,L,N)->¬ AR (S.mem P g.vs g.rs) (E.sub A g.bs g.fs S.nr) x:=by
  intro b v x L N Q3 hb hx q;obtain ⟨f,u,L',N',h1,h2,h3⟩:=hG.AR q;have:=hk.ar.inj b f v u x L N L' N' hb h2 hx h3;subst this;exact Q3 h1
 have atK:∀ {b v x L N},b ∉ kl g.fs->A.get b=some (.arr v)->E.α b=some (x,L,N)->¬ AT (S.mem P g.vs g.rs) (E.sub A g.bs g.fs S.nr) B x:=by
  intro b v x L N Q3 hb hx q;rcases q with q | ⟨bc,q,hm⟩
  ·exact asd Q3 hb hx q
  ·obtain ⟨f,u,y,L',N',cs,e,own,m,h1,h2,h3,h4⟩:=hG.AF q
   by_cases Bs:x=y
   ·subst Bs
    have:=hk.ar.inj b f v u x L N L' N' hb h2 hx h3;subst this;exact Q3 h1
   ·exact ((hk.ar.vr f u y L' N' cs e own bc m h2 h3 h4).2.2 x hm Bs).2.1 ⟨b,v,L,N,hb,hx⟩
 have Nv:∀ {b v x L N},b ∉ kl g.fs->A.get b=some (.arr v)->E.α b=some (x,L,N)->B1.get x=B.get x:=by
  intro b v x L N Q3 hb hx;exact Pp x (hk.ar.gX b x L N hx) (fun k c _ e=>(hk.ar.z x ⟨b,v,L,N,hb,hx⟩).2 c e) (atK Q3 hb hx)
 have ap3:∀ {i v x L N},(S.mem P vs rs).get (S.nr+i)=some (.arr v)->E1.α (S.nr+i)=some (x,L,N)->(∃ f u L' N',f∈kl g.fs/\A.get f=some (.arr u)/\E.α f=some (x,L',N'))\/B.next<=x:=by
  intro i v x L N h1 h2;rcases zQ.oJ x ⟨_,v,L,N,h1,h2⟩ with q | q
  ·obtain ⟨f,u,L',N',q1,q2,q3⟩:=hG.AR q
   exact .inl ⟨f,u,L',N',q1,q2,q3⟩
  ·exact .inr q
 have ap4:∀ x,AR (S.back P g.bs g.fs vs rs A) (E.up E1 S.nr A.next) x->AR A E x\/AR (S.mem P vs rs) E1 x:=by
  rintro x ⟨b,v,L,N,h1,h2⟩;rcases x5 b v h1 with ⟨q1,q2,q3,q4⟩ | ⟨i,rfl,q2,q3⟩
  ·rw [q4] at h2; exact .inl ⟨b,v,L,N,q3,h2⟩
  ·rw [q3] at h2; exact .inr ⟨_,v,L,N,q2,h2⟩
 have ap5:∀ q,AF (S.back P g.bs g.fs vs rs A) (E.up E1 S.nr A.next) B1 q->AF A E B q\/AF (S.mem P vs rs) E1 B1 q:=by
  rintro q ⟨b,v,x,L,N,cs,e,own,k,h1,h2,h3⟩;rcases x5 b v h1 with ⟨q1,q2,q3,q4⟩ | ⟨i,rfl,q2,q3⟩
  ·rw [q4] at h2
   rw [Nv q2 q3 h2] at h3;exact .inl ⟨b,v,x,L,N,cs,e,own,k,q3,h2,h3⟩
  ·rw [q3] at h2; exact .inr ⟨_,v,x,L,N,cs,e,own,k,q2,h2,h3⟩
 have aiV:∀ x,AR (S.back P g.bs g.fs vs rs A) (E.up E1 S.nr A.next) x->AR A E x\/B.next<=x:=fun x q=>by
  rcases ap4 x q with q | q
  ·exact .inl q
  ·exact (zQ.oJ x q).imp hG.ar id
 have anW:∀ q,AF (S.back P g.bs g.fs vs rs A) (E.up E1 S.nr A.next) B1 q->AF A E B q\/B.next<=q:=fun x q=>by
  rcases ap5 x q with q | q
  ·exact .inl q
  ·exact (zQ.oY x q).imp hG.af id
 have ap6:∀ x,x < B.next->E.z x=none->¬ AR (S.mem P g.vs g.rs) (E.sub A g.bs g.fs S.nr) x->E1.z x=none:=fun x hx h1 h2=>by
  cases hz:E1.z x with
  | none=>rfl
  | some r=>
   rcases zQ.wk x r hz with e | e | e
   ·have e:E.z x=some r:=e
    rw [h1] at e; simp at e
   ·exact (h2 e).elim
   ·omega
 have ase:∀ {b v x L N cs e own q k},b ∉ kl g.fs->A.get b=some (.arr v)->E.α b=some (x,L,N)->B.get x=some (.row cs e own (some (q,k)))->¬ AF (S.mem P g.vs g.rs) (E.sub A g.bs g.fs S.nr) B q:=by
  intro b v x L N cs e own q k Q3 hb hx jZ r;obtain ⟨f,u,y,L',N',cd,e',rU,m,h1,h2,h3,h4⟩:=hG.AF r;have:=hk.ar.xi b f v u x y L N L' N' cs e own q k cd e' rU m hb h2 hx h3 jZ h4;subst this;exact Q3 h1
 have tP:O3 P (E.up E1 S.nr A.next) (S.back P g.bs g.fs vs rs A) B1:=by
  refine ⟨?_,?_,?_,?_,?_,?_,?_,?_,?_,?_⟩
  ·intro b v hb
   rcases x5 b v hb with ⟨q1,q2,q3,q4⟩ | ⟨i,rfl,q2,q3⟩
   ·obtain ⟨T,N,es,acc,h1,h2,h3,h4⟩:=hk.ar.arr b v q3
    refine ⟨T,N,es,acc,h1,h2,h3,?_⟩;rcases h4 with ⟨h4,h5⟩ | ⟨x,cs,cc,bx,h4,h5,h6,h7⟩
    ·exact .inl ⟨h4,by rw [q4]; exact h5⟩
    ·exact .inr ⟨x,cs,cc,bx,by rw [q4]; exact h4,by rw [Nv q2 q3 h4]; exact h5,h6.mono hle,h7⟩
   ·obtain ⟨T,N,es,acc,h1,h2,h3,h4⟩:=hs.ar.arr _ v q2
    refine ⟨T,N,es,acc,h1,h2,h3,?_⟩;rcases h4 with ⟨h4,h5⟩ | ⟨x,cs,cc,bx,h4,h5,h6,h7⟩
    ·exact .inl ⟨h4,by rw [q3]; exact h5⟩
    ·exact .inr ⟨x,cs,cc,bx,by rw [q3]; exact h4,h5,bm.zEs (E:=E1) (E0:=E.up E1 S.nr A.next) rfl h6 h2.typed,h7⟩
  ·intro b v hb
   rcases hinv b _ hb with ⟨_,_,_,e,_⟩ | ⟨_,_,h1⟩ | ⟨_,e⟩ | ⟨i,q,_,h2,e⟩
   ·simp at e
   ·obtain ⟨T,N,es,acc,h2,h3,h4,h5⟩:=hk.ar.jQ b v h1
    have tj:(E.up E1 S.nr A.next).α b=E.α b:=Env.Nu (hk.live b _ h1);refine ⟨T,N,es,acc,h2,h3,h4,?_⟩;rcases h5 with ⟨h5,h6⟩ | ⟨x,r,bx,h5,h6,h7,h8,h9⟩
    ·exact .inl ⟨h5,by rw [tj]; exact h6⟩
    ·exact .inr ⟨x,r,bx,by rw [tj]; exact h5,zQ.z x r h6,h7,h8.mono hle,h9⟩
   ·simp at e
   ·rcases anV i q h2 with ⟨_,_,e2⟩ | ⟨_,e2⟩ <;> rw [<- e] at e2 <;> simp at e2
  ·rintro x ⟨b,v,L,N,h1,h2⟩
   rcases x5 b v h1 with ⟨q1,q2,q3,q4⟩ | ⟨i,rfl,q2,q3⟩
   ·rw [q4] at h2
    obtain ⟨h3,h4⟩:=hk.ar.z x ⟨b,v,L,N,q3,h2⟩;exact ⟨ap6 x (hk.ar.gX b x L N h2) h3 (asd q2 q3 h2),h4⟩
   ·rw [q3] at h2
    refine ⟨(hs.ar.z x ⟨_,v,L,N,q2,h2⟩).1,fun c e=>?_⟩;rcases zQ.oJ x ⟨_,v,L,N,q2,h2⟩ with q | q
    ·exact (hk.ar.z x (hG.ar q)).2 c e
    ·have:=hk.gX c x e; omega
  ·intro b c v u x L N L' N' hb hc e1 e2
   have I4:∀ {b v c u L N L' N'},b ∉ kl g.fs->A.get b=some (.arr v)->E.α b=some (x,L,N)->(S.mem P vs rs).get (S.nr+c)=some (.arr u)->E1.α (S.nr+c)=some (x,L',N')->False:=by
    intro b v c u L N L' N' h1 h2 h3 h4 h5;rcases ap3 h4 h5 with ⟨f,u',L2,N2,k1,k2,k3⟩ | k
    ·have:=hk.ar.inj b f v u' x L N L2 N2 h2 k2 h3 k3
     subst this;exact h1 k1
    ·have:=hk.ar.gX b x L N h3; omega
   rcases x5 b v hb with ⟨q1,q2,q3,q4⟩ | ⟨i,rfl,q2,q3⟩ <;> rcases x5 c u hc with ⟨r1,r2,r3,r4⟩ | ⟨j,rfl,r2,r3⟩
   ·rw [q4] at e1; rw [r4] at e2
    exact hk.ar.inj b c v u x L N L' N' q3 r3 e1 e2
   ·rw [q4] at e1; rw [r3] at e2
    exact (I4 q2 q3 e1 r2 e2).elim
   ·rw [q3] at e1; rw [r4] at e2
    exact (I4 r2 r3 e2 q2 e1).elim
   ·rw [q3] at e1; rw [r3] at e2
    have:=hs.ar.inj _ _ v u x L N L' N' q2 r2 e1 e2;omega
  ·intro b c v u x y L N L' N' cs e own q k cd e' rU k' hb hc e1 e2 w1 w2
   have I4:∀ {b v c u x y L N L' N' cs e own k cd e' rU k'},b ∉ kl g.fs->A.get b=some (.arr v)->E.α b=some (x,L,N)->(S.mem P vs rs).get (S.nr+c)=some (.arr u)->E1.α (S.nr+c)=some (y,L',N')->B1.get x=some (.row cs e own (some (q,k)))->B1.get y=some (.row cd e' rU (some (q,k')))->False:=by
    intro b v c u x y L N L' N' cs e own k cd e' rU k' h1 h2 h3 h4 h5 w1 w2;rw [Nv h1 h2 h3] at w1;rcases zQ.oY q ⟨_,u,y,L',N',cd,e',rU,k',h4,h5,w2⟩ with r | r
    ·exact ase h1 h2 h3 w1 r
    ·have:=(hk.ar.vr b v x L N cs e own q k h2 h3 w1).1; omega
   rcases x5 b v hb with ⟨q1,q2,q3,q4⟩ | ⟨i,rfl,q2,q3⟩ <;> rcases x5 c u hc with ⟨r1,r2,r3,r4⟩ | ⟨j,rfl,r2,r3⟩
   ·rw [q4] at e1; rw [r4] at e2
    rw [Nv q2 q3 e1] at w1; rw [Nv r2 r3 e2] at w2;exact hk.ar.xi b c v u x y L N L' N' cs e own q k cd e' rU k' q3 r3 e1 e2 w1 w2
   ·rw [q4] at e1; rw [r3] at e2
    exact (I4 q2 q3 e1 r2 e2 w1 w2).elim
   ·rw [q3] at e1; rw [r4] at e2
    exact (I4 r2 r3 e2 q2 e1 w2 w1).elim
   ·rw [q3] at e1; rw [r3] at e2
    have:=hs.ar.xi _ _ v u x y L N L' N' cs e own q k cd e' rU k' q2 r2 e1 e2 w1 w2;omega
  ·intro b x hb
   have hb:E.κ b=some x:=hb;rw [Env.Nu (hk.mA b x hb)];exact hk.ar.dis b x hb
  ·intro b p hb
   rw [aL.back,gG,jz];by_cases h1:b < A.next
   ·omega
   ·obtain ⟨i,rfl⟩:=Nat.exists_eq_add_of_le (Nat.le_of_not_lt h1)
    rw [Env.Nt] at hb;have:=hs.ar.mA _ _ hb;rw [aL.mem,gG,qw HS] at this;omega
  ·intro b x L N hb
   by_cases h1:b < A.next
   ·rw [Env.Nu h1] at hb
    have:=hk.ar.gX b x L N hb; have:=zQ.fX.next; omega
   ·obtain ⟨i,rfl⟩:=Nat.exists_eq_add_of_le (Nat.le_of_not_lt h1)
    rw [Env.Nt] at hb;exact hs.ar.gX _ _ _ _ hb
  ·intro b v x L N cs e own q k hb hx jZ
   rcases x5 b v hb with ⟨q1,q2,q3,q4⟩ | ⟨i,rfl,q2,q3⟩
   ·rw [q4] at hx
    have amG:=jZ;rw [Nv q2 q3 hx] at amG;obtain ⟨h1,h2,h3⟩:=hk.ar.vr b v x L N cs e own q k q3 hx amG;have hm:B1.members q=B.members q:=zQ.sQ q h1 (fun c e=>by
     obtain ⟨f',_,_,_,k2,_⟩:=TV c q e;exact h2 f' k2) (ase q2 q3 hx amG)
    refine ⟨by have:=zQ.fX.next; omega,fun f e=>?_,fun y hy eF=>?_⟩
    ·by_cases hf:f < A.next
     ·rw [Env.Dc hf] at e; exact h2 f e
     ·obtain ⟨j,rfl⟩:=Nat.exists_eq_add_of_le (Nat.le_of_not_lt hf)
      rw [Env.Db] at e;rcases zQ.wm _ _ e with ⟨c,e⟩ | e
      ·obtain ⟨f',_,_,_,k2,_⟩:=TV c q e
       exact h2 f' k2
      ·omega
    ·rw [hm] at hy
     obtain ⟨h4,h5,h6⟩:=h3 y hy eF;have a8:=hk.mem q y hy;refine ⟨ap6 y a8 h4 fun r=>h5 (hG.ar r),fun r=>?_,h6⟩;rcases aiV y r with r | r
     ·exact h5 r
     ·omega
   ·rw [q3] at hx
    obtain ⟨h1,h2,h3⟩:=hs.ar.vr _ v x L N cs e own q k q2 hx jZ;have CY:=zQ.oY q ⟨_,v,x,L,N,cs,e,own,k,q2,hx,jZ⟩;refine ⟨h1,fun f e=>?_,fun y hy eF=>?_⟩
    ·by_cases hf:f < A.next
     ·rw [Env.Dc hf] at e
      rcases CY with r | r
      ·obtain ⟨f0,u,x0,L0,N0,nK,e0,ap7,m,k1,k2,k3,k4⟩:=hG.AF r
       exact (hk.ar.vr f0 u x0 L0 N0 nK e0 ap7 q m k2 k3 k4).2.1 f e
      ·have:=hk.kG f q e; omega
     ·obtain ⟨j,rfl⟩:=Nat.exists_eq_add_of_le (Nat.le_of_not_lt hf)
      rw [Env.Db] at e;exact h2 _ e
    ·obtain ⟨h4,h5,h6⟩:=h3 y hy eF
     have DY:y∈B.members q->(∀ c,c ∉ kl g.fs->∀ v' L' N',A.get c=some (.arr v')->E.α c≠some (y,L',N'))/\∀ c,E.κ c≠some y:=by
      intro hm;rcases CY with r | r
      ·obtain ⟨f0,u,x0,L0,N0,nK,e0,ap7,m,k1,k2,k3,k4⟩:=hG.AF r
       by_cases hy0:y=x0
       ·subst hy0
        refine ⟨fun c hc v' L' N' p1 p2=>?_,(hk.ar.z y ⟨f0,u,L0,N0,k2,k3⟩).2⟩;have:=hk.ar.inj c f0 v' u y L' N' L0 N0 p1 k2 p2 k3;subst this;exact hc k1
       ·obtain ⟨_,p5,p6⟩:=(hk.ar.vr f0 u x0 L0 N0 nK e0 ap7 q m k2 k3 k4).2.2 y hm hy0
        exact ⟨fun c _ v' L' N' p1 p2=>p5 ⟨c,v',L',N',p1,p2⟩,p6⟩
      ·rw [hk.fresh q r] at hm; simp at hm
     refine ⟨h4,?_,fun c e=>?_⟩
     ·rintro ⟨c,v',L',N',r1,r2⟩
      rcases x5 c v' r1 with ⟨p1,p2,p3,p4⟩ | ⟨j,rfl,p2,p3⟩
      ·rw [p4] at r2
       rcases zQ.xY q y hy with hm | hm
       ·exact (DY hm).1 c p2 v' L' N' p3 r2
       ·have:=hk.ar.gX c y L' N' r2; omega
      ·rw [p3] at r2
       exact h5 ⟨_,v',L',N',p2,r2⟩
     ·have e:E.κ c=some y:=e
      rcases zQ.xY q y hy with hm | hm
      ·exact (DY hm).2 c e
      ·have:=hk.gX c y e; omega
  ·intro b v hb
   rw [aL.back,gG,jz];rcases x5 b v hb with ⟨q1,q2,q3,q4⟩ | ⟨i,rfl,q2,q3⟩
   ·obtain ⟨k1,k2⟩:=hk.ar.nk b v q3
    exact ⟨by omega,k2⟩
   ·refine ⟨?_,?_⟩
    ·have:=hs.live _ _ q2
     rw [aL.mem,gG,qw HS] at this;omega
    ·show E.κ (A.next+i)=none
     cases hq:E.κ (A.next+i) with
     | none=>rfl
     | some x=>have:=hk.mA _ x hq; omega
 refine ⟨?_,⟨⟨?_,?_,hs.z,?_,hk.inj,?_,?_,?_,?_,?_,hs.oS,?_,hs.fresh,hs.mem,?_⟩,zQ.fX,hle,?_,?_,fun _ _ e=>.inl e,?_,?_,?_,?_,?_,zQ.xY,?_,zQ.rows⟩⟩
 ·refine mq.ap1 ht (xn.append (ahM (E1:=E1) (E2:=E.up E1 S.nr A.next) rfl hrk hv (anU hG.asb (hG.vs ▸ hG.eR)) fun m _=>⟨fun q e=>by rw [Env.Db]; exact e,fun q e=>by rw [Env.Nt]; exact e⟩) (akQ fun p hp x e=>?_))
  obtain ⟨b,_,h2⟩:=Sc hG.acg p hp;have a8:p.2.1 < S.rows.length:=by rw [<- hG.afp]; exact (c8.1 h2).1
  rw [gK,Nq S _ a8] at e;rw [gK,h2];have e:E1.κ p.2.1=some x:=e;rw [ap2 _ _ h2] at e;exact e
 ·intro b cs bV hb
  rcases hinv b _ hb with ⟨hbs,_,_,e,h1⟩ | ⟨hbs,_,h1⟩ | ⟨_,e⟩ | ⟨i,q,_,hq,e⟩
  ·obtain ⟨k,yO⟩:=sM b hbs
   obtain ⟨p,r,x,cd,q1,q2,q3,q4,q5,q6,q7⟩:=aag k b yO;rw [h1] at q6;simp only [jP.row.injEq] at e;obtain ⟨rfl,rfl⟩:=e;simp only [db,jP.row.injEq] at q6;obtain ⟨rfl,rfl⟩:=q6;exact ⟨x,cd,q3,q4,q5⟩
  ·obtain ⟨x,c,q1,q2,q3⟩:=hk.row b cs bV h1
   refine ⟨x,c,q1,?_,q3.mono hle⟩;rw [Pp x (hk.gX b x q1) (fun k b' hb' e=>?_) fun q=>hk.atI q1 (hG.at q)]
   ·exact q2
   ·have:=hk.inj _ _ _ q1 e
    subst this;exact hbs (hQ hb')
  ·simp at e
  ·rcases anV i q hq with ⟨_,_,e2⟩ | ⟨_,e2⟩ <;> rw [<- e] at e2 <;> simp at e2
 ·intro b top sz hb
  rcases hinv b _ hb with ⟨_,_,_,e,_⟩ | ⟨hbs,Q3,h1⟩ | ⟨_,e⟩ | ⟨i,q,rfl,h2,e⟩
  ·simp at e
  ·rcases hk.bc b top sz h1 with ⟨h2,h3⟩ | ⟨q,h2,h3,h4⟩
   ·exact .inl ⟨h2,by rw [Env.Dc (hk.live b _ h1)]; exact h3⟩
   ·have hq:=hk.kG b q h2
    refine .inr ⟨q,by rw [Env.Dc (hk.live b _ h1)]; exact h2,h3,fun x hx cs e own f k jZ=>?_⟩;have hmq:B1.members q=B.members q:=zQ.sQ q hq (fun c e=>by
     obtain ⟨f',_,_,h5,h6,h7⟩:=TV c q e;have:=hk.j6 b f' q _ _ _ _ h1 h7 h2 h6;subst this;exact Q3 h5) fun k=>by
      obtain ⟨c,v,y,L,N,cs,e,own,m,h5,h6,h7⟩:=hG.af k;exact (hk.ar.vr c v y L N cs e own q m h5 h6 h7).2.1 b h2
    rw [hmq] at hx;obtain ⟨nK,q1,q2⟩:=zQ.rows x (hk.mem q x hx) _ _ _ _ jZ;obtain ⟨q3,q4⟩:=h4 x hx nK e own f k q1;exact ⟨q3,by rw [<- q2]; exact q4⟩
  ·simp at e
  ·subst e
   have:=hs.bc _ _ _ (YI HS h2);rw [Env.Db];exact this
 ·intro b x hb
  have hx:=hk.gX b x hb;show E1.z x=none;cases hz:E1.z x with
  | none=>rfl
  | some r=>
   rcases zQ.wk x r hz with e | e | e
   ·have e:E.z x=some r:=e
    rw [hk.apart b x hb] at e; simp at e
   ·exact absurd hb ((hk.ar.z x (hG.ar e)).2 b)
   ·omega
 ·intro b c q tb sb tc sc hb hc e1 e2
  have key:∀ {b tb sb},(S.back P g.bs g.fs vs rs A).get b=some (.bc tb sb)->(b < A.next/\b ∉ kl g.fs/\A.get b=some (.bc tb sb))\/∃ i,b=A.next+i/\(S.mem P vs rs).get (S.nr+i)=some (.bc tb sb):=by
   intro b tb sb hb;rcases hinv b _ hb with ⟨_,_,_,e,_⟩ | ⟨_,Q3,h1⟩ | ⟨_,e⟩ | ⟨i,q,rfl,h2,e⟩
   ·simp at e
   ·exact .inl ⟨hk.live b _ h1,Q3,h1⟩
   ·simp at e
   ·subst e
    exact .inr ⟨i,rfl,YI HS h2⟩
  have I4:∀ {b c tb sb i},b < A.next->b ∉ kl g.fs->A.get b=some (.bc tb sb)->c=A.next+i->E.φ b=some q->E1.φ (S.nr+i)=some q->False:=by
   intro b c tb sb i _ h2 h3 _ h5 h6;rcases zQ.wm _ _ h6 with ⟨c',e⟩ | e
   ·obtain ⟨f',_,_,k1,k2,k3⟩:=TV c' q e
    have:=hk.j6 b f' q _ _ _ _ h3 k3 h5 k2;subst this;exact h2 k1
   ·have:=hk.kG b q h5; omega
  rcases key hb with ⟨h1,h2,h3⟩ | ⟨i,rfl,h2⟩ <;> rcases key hc with ⟨k1,k2,k3⟩ | ⟨j,rfl,k2⟩
  ·rw [Env.Dc h1] at e1; rw [Env.Dc k1] at e2
   exact hk.j6 b c q _ _ _ _ h3 k3 e1 e2
  ·rw [Env.Dc h1] at e1; rw [Env.Db] at e2
   exact (I4 h1 h2 h3 rfl e1 e2).elim
  ·rw [Env.Db] at e1; rw [Env.Dc k1] at e2
   exact (I4 k1 k2 k3 rfl e2 e1).elim
  ·rw [Env.Db] at e1 e2
   have:=hs.j6 _ _ q _ _ _ _ h2 k2 e1 e2;omega
 ·intro b x hb; have h1:=hk.mA b x hb; rw [aL.back,gG,jz]; omega
 ·intro b q hb
  rw [aL.back,gG,jz];by_cases h1:b < A.next
  ·omega
  ·obtain ⟨i,rfl⟩:=Nat.exists_eq_add_of_le (Nat.le_of_not_lt h1)
   rw [Env.Db] at hb;have:=hs.oI _ _ hb;rw [aL.mem,gG,qw HS] at this;omega
 ·intro b o hb
  rw [aL.back,gG,jz];rcases hinv b _ hb with ⟨hbs,_⟩ | ⟨_,_,h1⟩ | ⟨h1,_⟩ | ⟨i,q,rfl,h2,_⟩
  ·obtain ⟨k,yO⟩:=sM b hbs
   obtain ⟨p,r,x,cd,_,_,h3,_⟩:=aag k b yO;have:=hk.mA b x h3; omega
  ·have:=hk.live b _ h1; omega
  ·obtain ⟨_,_,⟨_,_,h3⟩ | ⟨_,h3⟩⟩:=GK b h1
   ·have:=hk.live b _ h3; omega
   ·have:=hk.live b _ h3; omega
  ·have:=(c8.1 h2).1; omega
 ·intro b x hb; have:=hk.gX b x hb; have:=zQ.fX.next; omega
 ·intro b q hb
  by_cases h1:b < A.next
  ·rw [Env.Dc h1] at hb
   have:=hk.kG b q hb; have:=zQ.fX.next; omega
  ·obtain ⟨i,rfl⟩:=Nat.exists_eq_add_of_le (Nat.le_of_not_lt h1)
   rw [Env.Db] at hb;exact hs.kG _ _ hb
 ·exact tP
 ·rw [aL.back,gG,jz]; omega
 ·intro x hx eF hna
  exact Pp x hx (fun k b _ e=>eF b e) fun q=>hna (hG.at q)
 ·intro b r e
  exact (zQ.wk b r e).imp id (fun e=>e.imp hG.ar id)
 ·intro b q hb
  by_cases h1:b < A.next
  ·rw [Env.Dc h1] at hb; exact .inl ⟨b,hb⟩
  ·obtain ⟨i,rfl⟩:=Nat.exists_eq_add_of_le (Nat.le_of_not_lt h1)
   rw [Env.Db] at hb;rcases zQ.wm _ _ hb with ⟨c,e⟩ | e
   ·obtain ⟨f',_,_,_,k2,_⟩:=TV c q e
    exact .inl ⟨f',k2⟩
   ·exact .inr e
 ·intro q hq eF hna
  refine zQ.sQ q hq (fun c e=>?_) fun k=>hna (hG.af k);obtain ⟨f',_,_,_,k2,_⟩:=TV c q e;exact eF f' k2
 ·exact aiV
 ·exact anW
 ·rintro y (q | ⟨q,h1,h2⟩)
  ·exact (aiV y q).imp .inl id
  ·rcases zQ.xY q y h2 with h2 | h2
   ·rcases anW q h1 with h1 | h1
    ·exact .inl (.inr ⟨q,h1,h2⟩)
    ·rw [hk.fresh q h1] at h2; simp at h2
   ·exact .inr h2
theorem restore {S:aL} {t:bF} {A:aC} {B B1:St} {g:GR} {ρ oq:aZ} {base N:Nat} {w w1:World} {a1:Act} {vs:List KV} {rs:List (List KV)} {E1:Env} (hG:dY P S t A g) (hk:fK P E A B)
  (ht:mq P E1 oq (S.tm S.nr S.ids vs) N a1) (hs:fK P E1 (S.mem P vs rs) B1) (zQ:Co base (E.sub A g.bs g.fs S.nr) (S.mem P g.vs g.rs) B ρ w E1 (S.mem P vs rs) B1 oq w1) (Ke:∀ k,k < S.rows.length->E1.κ k=(E.sub A g.bs g.fs S.nr).κ k)
  (hv:iw S.eR vs=true) (HS:rs.length=S.rows.length) (hrg:∀ (k:Nat) p r,S.rows[k]? = some p->rs[k]? = some r->dX p.2.1 r=true) :
  ∃ E',mq P E' oq (S.tm A.next g.bs vs) N a1/\Ev P base E A B ρ w E' (S.back P g.bs g.fs vs rs A) B1 oq w1:=⟨_,ahN hG hk ht hs zQ Ke hv HS hrg⟩
end Go.K
end
section
namespace Go.K
open Go Go.aB
variable {P:Program} {E:Env}
structure Eb (P:Program) (S:aL) (vs:List KV) (rs:List (List KV)):Prop where
 v:iw S.eR vs=true
 uI:rs.length=S.rows.length
 zJ:∀ (k:Nat) p r,S.rows[k]? = some p->rs[k]? = some r->dX p.2.1 r=true
 vn:∃ t A,vs=rW P t A S.eR
 rn:∀ (k:Nat) p,S.rows[k]? = some p->∃ A nK,rs[k]? = some (fM P A p.2.1 nK)/\nK.length=p.2.1.length
theorem dY.Qp {S:aL} {t:bF} {A:aC} {g:GR} (h:dY P S t A g):Eb P S g.vs g.rs:=
 ⟨h.eR,h.uI,h.zJ,⟨t,A,h.vs⟩,fun _ _ hp=>by obtain ⟨_,cs,_,_,h1,_,h2,_⟩:=h.row hp; exact ⟨A,cs,h2,h1⟩⟩
section
variable {cfg:eQ} {L n:Nat} {f:FuncId} {S:aL} {root body:Code} {p N:Nat}
theorem amH (hP:P.funcs.toList.all oP=true) (hm:P.follows .mixedOrders=true) (gZ:tW P cfg.pc) (mG:x7 P cfg) {fn:Func} (hf:P.funcs[f]? = some fn) (hb:fn.body=some root) (hs:Sub root p (.loop body)) (hc:codeOk N body=true)
  {vs cK:List KV} {rs nb:List (List KV)} {e:ai} (hr:AX P cfg L n f p body S vs rs=some (e,cK,nb)) {B:St} {ρ:aZ} {base:Nat} {a:Act} {w:World} {Q:Exit->Act->World->Prop} (cf:Eb P S vs rs)
  (ht:mq P E ρ (S.tm S.nr S.ids vs) N a) (hj:KJ P E (S.mem P vs rs) B ρ base w)
  (hq:∀ E' B' a7 a' w',mq P E' a7 (S.tm S.nr S.ids cK) N a'->a'.defers=a.defers->KJ P E' (S.mem P cK nb) B' a7 base w'->Co base E (S.mem P vs rs) B ρ w E' (S.mem P cK nb) B' a7 w'->(∀ k,k < S.rows.length->E'.κ k=E.κ k)->Eb P S cK nb->Q e.out a' w'):body.wp P Q a w:=by
 have xK:=wH (R:=ai×List KV×List (List KV)) hP hm gZ mG L n;refine nU gZ xK hm (mG.2 f fn root hf hb) body (2 * p) hs.loop hc _ _ _ _ E B ρ base a w Q hr ht hj fun e' t' E1 A1 B1 oq a1 w1 h1 h2 h3 h4=>?_;cases hi:x9 (S.fU P t' A1).bs S.ids with
 | false=>
  simp only [hi,aq] at h1;exact absurd h1 (by simp)
 | true=>
  simp only [hi,aj] at h1;cases ho:(S.fU P t' A1).ok with
  | false=>simp only [ho] at h1; exact absurd h1 (by simp)
  | true=>
   simp only [ho,db,fI] at h1;obtain ⟨rfl,rfl,rfl⟩:=h1;have hG:=Nr ho;have ap8:=Sb hi;refine hq _ B1 oq a1 w1 (hG.tkr h2) h3 ⟨hG.jK h4.jK,h4.fX.jK⟩ (h4.co hG) (fun k hk=>?_) hG.Qp;have hp:=dz hk;have hr':=dz (show k < rs.length by rw [cf.uI]; exact hk);obtain ⟨x,_,hx,_⟩:=hj.k.row k _ _ (mem_row cf.uI hp hr');have e1:(E1.sub A1 (S.fU P t' A1).bs (S.fU P t' A1).fs S.nr).κ k=E1.κ k:=by
    simp only [Env.sub];rw [ap8,Nq S k hk,eV]
   rw [e1,hx];exact h4.le.κ k x hx
theorem ahO (hP:P.funcs.toList.all oP=true) (hm:P.follows .mixedOrders=true) (gZ:tW P cfg.pc) (mG:x7 P cfg) {fn:Func} (hf:P.funcs[f]? = some fn) (hb:fn.body=some root) (hs:Sub root p (.loop body)) (hc:codeOk N body=true)
  {e:ai} {cK:List KV} {nb:List (List KV)} : ∀ (m:Nat) {vs:List KV} {rs:List (List KV)},w4 (AX P cfg L n f p body S) m vs rs=some (e,cK,nb)->∀ {E:Env} {B:St} {ρ:aZ} {base:Nat} {a:Act} {w:World} {Q:Exit->Act->World->Prop},Eb P S vs rs->
  mq P E ρ (S.tm S.nr S.ids vs) N a->KJ P E (S.mem P vs rs) B ρ base w->
  (∀ E' B' a7 a' w',mq P E' a7 (S.tm S.nr S.ids cK) N a'->a'.defers=a.defers->KJ P E' (S.mem P cK nb) B' a7 base w'->Co base E (S.mem P vs rs) B ρ w E' (S.mem P cK nb) B' a7 w'->(∀ k,k < S.rows.length->E'.κ k=E.κ k)->Eb P S cK nb->Q e.out a' w')->Code.rounds P body Q m a w
 | 0,vs,rs,h,E,B,ρ,base,a,w,Q,cf,ht,hj,hq=>by simp [w4] at h
 | m+1,vs,rs,h,E,B,ρ,base,a,w,Q,cf,ht,hj,hq=>by
  unfold w4 at h;split at h
  ·rename_i e1 vs1 rs1 hr
   rw [rounds_succ];refine amH hP hm gZ mG hf hb hs hc hr cf ht hj fun E' B' a7 a' w' h1 h2 h3 h4 h5 h6=>?_;have fin:wI e1=false->some (e1,vs1,rs1)=some (e,cK,nb)->Q e1.out a' w':=by
    intro _ h;simp only [db,fI] at h;obtain ⟨rfl,rfl,rfl⟩:=h;exact hq E' B' a7 a' w' h1 h2 h3 h4 h5 h6
   cases e1 with
   | normal=>
    have h:w4 (AX P cfg L n f p body S) m vs1 rs1=some (e,cK,nb):=h;exact ahO hP hm gZ mG hf hb hs hc m h h6 h1 h3 fun Nm Pg xT a'' MT q1 q2 q3 q4 q5 q6=>hq Nm Pg xT a'' MT q1 (q2.trans h2) q3 (h4.trans q4) (fun k hk=>(q5 k hk).trans (h5 k hk)) q6
   | exit id=>exact fin rfl h
   | goto l=>exact fin rfl h
   | ret=>exact fin rfl h
  ·simp at h
theorem aaG {R:Type} {bs:List Nat} {fs:List (Option Nat)} {A:aC} {k:KE R} {r:R} : ∀ (x:uH),(x.tell P S bs fs A).run k=some r->∃ e cK nb,x.ev=some (e,cK,nb)/\k e (S.tm A.next bs cK) (S.back P bs fs cK nb A)=some r
 | .no,h=>absurd h (by simp [uH.tell,Ks.run])
 | .out e vs rs,h=>⟨e,vs,rs,rfl,h⟩
 | .br c x y,h=>by
  have h:Bool.rec (motive:=fun _=>Option R) ((y.tell P S bs fs A).run k) ((x.tell P S bs fs A).run k) c=some r:=h;cases c with
  | true=>exact aaG x h
  | false=>exact aaG y h
theorem amI (hP:P.funcs.toList.all oP=true) (hm:P.follows .mixedOrders=true) (gZ:tW P cfg.pc) (mG:x7 P cfg) {fn:Func} (hf:P.funcs[f]? = some fn) (hb:fn.body=some root) (hs:Sub root p (.loop body)) (hc:codeOk N body=true) {F:LFn}
  (hF:∀ vs rs e cK nb,Eb P S vs rs->(F vs rs).ev=some (e,cK,nb)->∃ m,w4 (AX P cfg L n f p body S) m vs rs=some (e,cK,nb)):aaB P N body (asa P S F):=by
 intro R k r t A E B ρ base a w Q h ht hj hq;have h:Bool.rec (motive:=fun _=>Option R) none (((F (S.fU P t A).vs (S.fU P t A).rs).tell P S (S.fU P t A).bs (S.fU P t A).fs A).run k) (S.fU P t A).ok=some r:=h;cases ho:(S.fU P t A).ok with
 | false=>rw [ho] at h; exact absurd h (by simp)
 | true=>
  rw [ho] at h;have hG:=Nr ho;obtain ⟨e,cK,nb,h9,vK⟩:=aaG _ h;obtain ⟨m,hm'⟩:=hF _ _ e cK nb hG.Qp h9;refine wp_loop_rounds m (ahO hP hm gZ mG hf hb hs hc m hm' hG.Qp (hG.tkr ht) ⟨hG.jK hj.k,hj.s⟩ fun E' B' a7 a' w' q1 q2 q3 q4 q5 q6=>?_);obtain ⟨E2,r1,r2⟩:=restore hG hj.k q1 q3.k q4 q5 q6.v q6.uI q6.zJ;exact hq e _ E2 _ B' a7 a' w' vK r1 q2 r2
end
end Go.K
end
section
namespace Go.K
open Go Go.aB
variable {P:Program} {E:Env}
def Env.re (E:Env) (f n:Nat):Env:={ κ:=E.κ,z:=E.z,φ:=E.φ,α:=fun b=>if b=f then E.α n else E.α b }
theorem Env.ap9 {f n:Nat} (h:∀ p,E.α f=some p->E.α n=some p):E.le (E.re f n):=⟨fun b p e=>by
 simp only [Env.re];split
 ·rename_i e1; subst e1; exact h p e
 ·exact e,fun _ _ e=>e,fun _ _ e=>e,fun _ _ e=>e⟩
theorem Env.amJ {f n:Nat} : (E.re f n).α f=E.α n:=by simp [Env.re]
theorem Env.EF {f n b:Nat} (h:b≠f):(E.re f n).α b=E.α b:=by simp [Env.re,h]
theorem fK.swap {A:aC} {B:St} {f n:Nat} {v:KV} (h:fK P E A B) (hf:A.get f=some .dead) (hn:A.get n=some (.arr v)) (Ke:E.κ f=none) (tj:∀ p,E.α f=some p->E.α n=some p) :
  fK P (E.re f n) ((A.put f (.arr v)).put n .dead) B/\(∀ x,AR ((A.put f (.arr v)).put n .dead) (E.re f n) x->AR A E x)/\∀ g,AF ((A.put f (.arr v)).put n .dead) (E.re f n) B g->AF A E B g:=by
 have eF:f≠n:=fun e=>by rw [e,hn] at hf; simp at hf
 have hle:=Env.ap9 tj;have kF:∀ b o,((A.put f (.arr v)).put n .dead).get b=some o->(b=n/\o = .dead)\/(b=f/\o = .arr v)\/(b≠f/\b≠n/\A.get b=some o):=fun b o hb=>by
  rw [aC.cg] at hb;split at hb
  ·rename_i e; simp at hb; exact .inl ⟨e,hb.symm⟩
  ·rename_i e
   rw [aC.cg] at hb;split at hb
   ·rename_i e2; simp at hb; exact .inr (.inl ⟨e2,hb.symm⟩)
   ·rename_i e2; exact .inr (.inr ⟨e2,e,hb⟩)
 have hA:∀ b u,((A.put f (.arr v)).put n .dead).get b=some (.arr u)->∃ c,A.get c=some (.arr u)/\(E.re f n).α b=E.α c/\((b=f/\c=n)\/(b≠f/\b≠n/\c=b)):=fun b u hb=>by
  rcases kF b _ hb with ⟨_,e⟩ | ⟨e,e2⟩ | ⟨e,e2,e3⟩
  ·simp at e
  ·simp at e2; subst e2 e; exact ⟨n,hn,Env.amJ,.inl ⟨rfl,rfl⟩⟩
  ·exact ⟨b,e3,Env.EF e,.inr ⟨e,e2,rfl⟩⟩
 have afc:∀ {b c d:Nat},((b=f/\d=n)\/(b≠f/\b≠n/\d=b))->((c=f/\d=n)\/(c≠f/\c≠n/\d=c))->b=c:=fun h1 h2=>by
  rcases h1 with ⟨a1,a2⟩ | ⟨a1,a2,a3⟩ <;> rcases h2 with ⟨b1,b2⟩ | ⟨b1,b2,b3⟩ <;> omega
 have tP:∀ x,AR ((A.put f (.arr v)).put n .dead) (E.re f n) x->AR A E x:=fun x ⟨b,u,L,N,h1,h2⟩=>by
  obtain ⟨c,h3,h4,_⟩:=hA b u h1;exact ⟨c,u,L,N,h3,by rw [<- h4]; exact h2⟩
 have LQ:∀ g,AF ((A.put f (.arr v)).put n .dead) (E.re f n) B g->AF A E B g:=fun g ⟨b,u,x,L,N,cs,e,own,k,h1,h2,h3⟩=>by
  obtain ⟨c,h4,h5,_⟩:=hA b u h1;exact ⟨c,u,x,L,N,cs,e,own,k,h4,by rw [<- h5]; exact h2,h3⟩
 have hold:∀ b o,((A.put f (.arr v)).put n .dead).get b=some o->b < A.next:=fun b o hb=>by
  rcases kF b _ hb with ⟨e,_⟩ | ⟨e,_⟩ | ⟨_,_,e⟩
  ·rw [e]; exact h.live n _ hn
  ·rw [e]; exact h.live f _ hf
  ·exact h.live b o e
 refine ⟨⟨fun b cs bV hb=>?_,fun b top sz hb=>?_,h.z,h.apart,h.inj,fun b c g tb sb tc sc hb hc=>?_,h.mA,h.oI,hold,h.gX,h.oS,h.kG,h.fresh,h.mem,?_⟩,tP,LQ⟩
 ·rcases kF b _ hb with ⟨_,e⟩ | ⟨_,e⟩ | ⟨_,_,e⟩
  ·simp at e
  ·simp at e
  ·obtain ⟨x,cd,h1,h2,h3⟩:=h.row b cs bV e
   exact ⟨x,cd,h1,h2,h3.mono hle⟩
 ·rcases kF b _ hb with ⟨_,e⟩ | ⟨_,e⟩ | ⟨_,_,e⟩
  ·simp at e
  ·simp at e
  ·exact h.bc b top sz e
 ·rcases kF b _ hb with ⟨_,e⟩ | ⟨_,e⟩ | ⟨_,_,hb⟩
  ·simp at e
  ·simp at e
  rcases kF c _ hc with ⟨_,e⟩ | ⟨_,e⟩ | ⟨_,_,hc⟩
  ·simp at e
  ·simp at e
  exact h.j6 b c g tb sb tc sc hb hc
 ·refine ⟨fun b u hb=>?_,fun b u hb=>?_,fun x q=>h.ar.z x (tP x q),fun b c u u' x L N L' N' h1 h2 h3 h4=>?_,fun b c u u' x y L N L' N' cs e own g k cd e' rU k' h1 h2 h3 h4 h5 h6=>?_,fun b x e=>?_,fun b p e=>?_,fun b x L N e=>?_,fun b u x L N cs e own g k h1 h2 h3=>?_,fun b u hb=>?_⟩
  ·obtain ⟨c,h1,h2,_⟩:=hA b u hb
   obtain ⟨T,N,es,acc,q1,q2,q3,q4⟩:=h.ar.arr c u h1;refine ⟨T,N,es,acc,q1,q2,q3,?_⟩;rw [h2];exact q4.imp id fun ⟨x,cs,cc,bx,r1,r2,r3,r4⟩=>⟨x,cs,cc,bx,r1,r2,r3.mono hle,r4⟩
  ·rcases kF b _ hb with ⟨_,e⟩ | ⟨_,e⟩ | ⟨e1,_,e⟩
   ·simp at e
   ·simp at e
   ·exact (h.ar.jQ b u e).mono hle (Env.EF e1)
  ·obtain ⟨b',k1,k2,k3⟩:=hA b u h1
   obtain ⟨c',l1,l2,l3⟩:=hA c u' h2;rw [k2] at h3; rw [l2] at h4;have:=h.ar.inj b' c' u u' x L N L' N' k1 l1 h3 h4;subst this;exact afc k3 l3
  ·obtain ⟨b',k1,k2,k3⟩:=hA b u h1
   obtain ⟨c',l1,l2,l3⟩:=hA c u' h2;rw [k2] at h3; rw [l2] at h4;have:=h.ar.xi b' c' u u' x y L N L' N' cs e own g k cd e' rU k' k1 l1 h3 h4 h5 h6;subst this;exact afc k3 l3
  ·have hb:b≠f:=fun e2=>by rw [e2] at e; rw [show (E.re f n).κ f=E.κ f from rfl,Ke] at e; simp at e
   rw [Env.EF hb];exact h.ar.dis b x e
  ·by_cases hb:b=f
   ·rw [hb]; exact h.live f _ hf
   ·rw [Env.EF hb] at e; exact h.ar.mA b p e
  ·by_cases hb:b=f
   ·rw [hb,Env.amJ] at e; exact h.ar.gX n x L N e
   ·rw [Env.EF hb] at e; exact h.ar.gX b x L N e
  ·obtain ⟨c,k1,k2,_⟩:=hA b u h1
   rw [k2] at h2;obtain ⟨q1,q2,q3⟩:=h.ar.vr c u x L N cs e own g k k1 h2 h3;exact ⟨q1,q2,fun y hy hy2=>⟨(q3 y hy hy2).1,fun q=>(q3 y hy hy2).2.1 (tP y q),(q3 y hy hy2).2.2⟩⟩
  ·refine ⟨hold b _ hb,?_⟩
   rcases kF b _ hb with ⟨_,e⟩ | ⟨e,_⟩ | ⟨_,_,e⟩
   ·simp at e
   ·rw [e]; exact Ke
   ·exact (h.ar.nk b u e).2
structure Sw (E:Env) (A:aC) (B:St) (E' : Env) (A' : aC):Prop where
 le:E.le E'
 κ:E'.κ=E.κ
 z:E'.z=E.z
 φ:E'.φ=E.φ
 next:A'.next=A.next
 ar:∀ x,AR A' E' x->AR A E x
 af:∀ g,AF A' E' B g->AF A E B g
theorem Sw.refl {A:aC} {B:St} : Sw E A B E A:=⟨Env.le_refl _,rfl,rfl,rfl,rfl,fun _ h=>h,fun _ h=>h⟩
theorem Sw.trans {E1 E2 E3:Env} {A1 A2 A3:aC} {B:St} (h:Sw E1 A1 B E2 A2) (k:Sw E2 A2 B E3 A3):Sw E1 A1 B E3 A3:=
 ⟨Env.le_trans h.le k.le,k.κ.trans h.κ,k.z.trans h.z,k.φ.trans h.φ,k.next.trans h.next,fun x q=>h.ar x (k.ar x q),fun g q=>h.af g (k.af g q)⟩
theorem Ev.sw {base:Nat} {E1 E2 E3:Env} {A1 A2 A3:aC} {B1 B2:St} {oq xZ:aZ} {w1 w2:World} (h:Ev P base E1 A1 B1 oq w1 E2 A2 B2 xZ w2) (hk:fK P E3 A3 B2) (k:Sw E2 A2 B2 E3 A3):Ev P base E1 A1 B1 oq w1 E3 A3 B2 xZ w2 where
 jK:=hk
 fX:=h.fX
 le:=Env.le_trans h.le k.le
 next:=by rw [k.next]; exact h.next
 nD:=h.nD
 new b x e:=h.new b x (by rw [<- k.κ]; exact e)
 wk b r e:=h.wk b r (by rw [<- k.z]; exact e)
 wm b g e:=h.wm b g (by rw [<- k.φ]; exact e)
 sQ:=h.sQ
 oJ x q:=h.oJ x (k.ar x q)
 oY g q:=h.oY g (k.af g q)
 xY:=h.xY
 qv y q:=h.qv y (q.imp (k.ar y) fun ⟨g,q1,q2⟩=>⟨g,k.af g q1,q2⟩)
 rows:=h.rows
noncomputable section
def H6:List (Option Nat)->Nat->Bool
 | [],_=>true
 | some f::fs,j=>Nat.beq f j&&H6 fs (Nat.succ j)
 | none::_,_=>false
theorem acp:∀ {fs:List (Option Nat)} {j i:Nat} {x:Option Nat},H6 fs j=true->fs[i]? = some x->x=some (j+i)
 | [],_,_,_,_,e=>by simp at e
 | none::_,_,_,_,h,_=>by simp [H6] at h
 | some f::fs,j,0,x,h,e=>by
  simp only [H6,aD] at h;simp at e;rw [<- e,bh h.1];rfl
 | some f::fs,j,i+1,x,h,e=>by
  simp only [H6,aD] at h;have:=acp (i:=i) (x:=x) h.2 (by simpa using e);rw [this];congr 1;omega
def aqa (A:aC) (f j:Nat) (o:jP):aC:=
 match o with
 | .arr v=>(A.put f (.arr v)).put j .dead
 | _=>A
def H7 (A:aC):List (Option Nat)->Nat->List jP->aC
 | some f::fs,j,o::os=>H7 (aqa A f j o) fs (Nat.succ j) os
 | none::fs,j,_::os=>H7 A fs (Nat.succ j) os
 | _,_,_=>A
structure ahP (E:Env) (A:aC) (fs:List (Option Nat)) (j:Nat) (os:List jP):Prop where
 one:∀ (i:Nat) f v,fs[i]? = some (some f)->os[i]? = some (.arr v)->A.get f=some .dead/\E.κ f=none/\A.get (j+i)=some (.arr v)/\∀ p,E.α f=some p->E.α (j+i)=some p
 lt:∀ (i f:Nat),fs[i]? = some (some f)->f < j
 nodup:∀ (i k f:Nat),fs[i]? = some (some f)->fs[k]? = some (some f)->i=k
theorem ahP.tail {E1:Env} {A A1:aC} {x:Option Nat} {o:jP} {fs:List (Option Nat)} {os:List jP} {j:Nat} (h:ahP E A (x::fs) j (o::os)) (tj:∀ b,x≠some b->E1.α b=E.α b) (Ke:E1.κ=E.κ) (hg:∀ b,x≠some b->b≠j->A1.get b=A.get b):ahP E1 A1 fs (Nat.succ j) os where
 one i f v e1 e2:=by
  obtain ⟨h1,h3,h4,h5⟩:=h.one (i+1) f v (by simpa using e1) (by simpa using e2);have a8:=h.lt (i+1) f (by simpa using e1);rw [show j+(i+1)=Nat.succ j+i by omega] at h4 h5;have hf:x≠some f:=fun e=>by have:=h.nodup (i+1) 0 f (by simpa using e1) (by simp [e]); omega
  have hn:x≠some (Nat.succ j+i):=fun e=>by have:=h.lt 0 (Nat.succ j+i) (by simp [e]); omega
  exact ⟨by rw [hg f hf (by omega)]; exact h1,by rw [Ke]; exact h3,by rw [hg _ hn (by omega)]; exact h4,fun p e=>by rw [tj f hf] at e; rw [tj _ hn]; exact h5 p e⟩
 lt i f e:=by have:=h.lt (i+1) f (by simpa using e); omega
 nodup i k f e1 e2:=by have:=h.nodup (i+1) (k+1) f (by simpa using e1) (by simpa using e2); omega
theorem aaH {B:St} : ∀ {fs:List (Option Nat)} {os:List jP} {j:Nat} {E:Env} {A:aC},fK P E A B->ahP E A fs j os->∃ E',fK P E' (H7 A fs j os) B/\Sw E A B E' (H7 A fs j os)/\
  (∀ (i:Nat) f v,fs[i]? = some (some f)->os[i]? = some (.arr v)->E'.α f=E.α (j+i))/\(∀ b,(∀ i:Nat,fs[i]?≠some (some b))->E'.α b=E.α b)
 | [],os,j,E,A,h,_=>⟨E,h,.refl,fun i f v e=>by simp at e,fun _ _=>rfl⟩
 | x::fs,[],j,E,A,h,_=>⟨E,by cases x <;> exact h,by cases x <;> exact .refl,fun i f v _ e=>by simp at e,fun _ _=>rfl⟩
 | none::fs,o::os,j,E,A,h,ho=>by
  obtain ⟨E',h1,h2,h3,h4⟩:=aaH h (ho.tail (fun _ _=>rfl) rfl fun _ _ _=>rfl);refine ⟨E',h1,h2,fun i f v e1 e2=>?_,fun b hb=>h4 b fun i=>by have:=hb (i+1); simpa using this⟩;cases i with
  | zero=>simp at e1
  | succ i=>
   rw [h3 i f v (by simpa using e1) (by simpa using e2)];congr 1;omega
 | some f0::fs,o::os,j,E,A,h,ho=>by
  have atL:∀ i:Nat,fs[i]?≠some (some f0):=fun i e=>by have:=ho.nodup (i+1) 0 f0 (by simpa using e) (by simp); omega
  have step:∀ {E1:Env} {A1:aC},fK P E1 A1 B->Sw E A B E1 A1->aqa A f0 j o=A1->(∀ b,b≠f0->E1.α b=E.α b)->(∀ v,o = .arr v->E1.α f0=E.α j)->ahP E1 A1 fs (Nat.succ j) os->
    ∃ E',fK P E' (H7 A (some f0::fs) j (o::os)) B/\Sw E A B E' (H7 A (some f0::fs) j (o::os))/\(∀ (i:Nat) f v,(some f0::fs)[i]? = some (some f)->(o::os)[i]? = some (.arr v)->E'.α f=E.α (j+i))/\(∀ b,(∀ i:Nat,(some f0::fs)[i]?≠some (some b))->E'.α b=E.α b):=by
   intro E1 A1 k1 k2 k3 k4 k5 k6;obtain ⟨E',h1,h2,h3,h4⟩:=aaH k1 k6;have e0:H7 A (some f0::fs) j (o::os)=H7 A1 fs (Nat.succ j) os:=by rw [<- k3]; rfl
   rw [e0];refine ⟨E',h1,k2.trans h2,fun i f v e1 e2=>?_,fun b hb=>?_⟩
   ·cases i with
    | zero=>
     simp at e1 e2;subst e1;rw [h4 f0 atL];exact k5 v e2
    | succ i=>
     rw [h3 i f v (by simpa using e1) (by simpa using e2),k4 _ fun e=>by have:=ho.lt 0 f0 (by simp); omega];congr 1;omega
   ·rw [h4 b fun i=>by have:=hb (i+1); simpa using this]
    exact k4 b fun e=>hb 0 (by simp [e])
  cases o with
  | arr v=>
   obtain ⟨h1,h2,h3,h4⟩:=ho.one 0 f0 v (by simp) (by simp);obtain ⟨q1,q2,q3⟩:=h.swap (n:=j) h1 h3 h2 h4;have nL:∀ b,some f0≠some b->b≠j->((A.put f0 (.arr v)).put j .dead).get b=A.get b:=fun b e1 e2=>by
    rw [aC.cg,ay e2,aC.cg,ay fun e=>e1 (by rw [e])]
   exact step q1 ⟨Env.ap9 h4,rfl,rfl,rfl,by rw [aC.uq,aC.uq],q2,q3⟩ rfl (fun b hb=>Env.EF hb) (fun _ _=>Env.amJ) (ho.tail (fun b hb=>Env.EF fun e=>hb (by rw [e])) rfl nL)
  | _=>exact step h .refl rfl (fun _ _=>rfl) (fun v e=>by simp at e) (ho.tail (fun _ _=>rfl) rfl fun _ _ _=>rfl)
def rnB (fs:List (Option Nat)) (nx b:Nat):Nat:=cond (Nat.ble nx b) (match aht (b - nx) fs with
 | some (some f)=>f
 | _=>b) b
def rn1 (fs:List (Option Nat)) (nx:Nat) (v:KV):KV:=
 match v with
 | .al t b o n=>.al t (rnB fs nx b) o n
 | v=>v
def aqb (fs:List (Option Nat)) (nx:Nat):List KV->List KV
 | []=>[]
 | v::vs=>rn1 fs nx v::aqb fs nx vs
def rnV (fs:List (Option Nat)) (nx:Nat) (v:KV):KV:=
 match v with
 | .agg cs=>.agg (aqb fs nx cs)
 | v=>rn1 fs nx v
def aqc (fs:List (Option Nat)) (nx:Nat):List (Nat×KV)->List (Nat×KV)
 | []=>[]
 | q::qs=>(q.1,rnV fs nx q.2)::aqc fs nx qs
def akR (E1 E2:Env) (fs:List (Option Nat)) (nx:Nat):Prop:=E1.le E2/\∀ (i f:Nat),fs[i]? = some (some f)->∀ p,E1.α (nx+i)=some p->E2.α f=some p
theorem ary {E1 E2:Env} {fs:List (Option Nat)} {nx b:Nat} (h:akR E1 E2 fs nx) {p:Nat×Nat×Nat} (e:E1.α b=some p):E2.α (rnB fs nx b)=some p:=by
 unfold rnB;cases hb:Nat.ble nx b with
 | false=>exact h.1.α b p e
 | true=>
  simp only [aj];have hb:=fH hb;rw [aeN];split
  ·rename_i f hf
   exact h.2 _ f hf p (by rw [show nx+(b - nx)=b by omega]; exact e)
  ·exact h.1.α b p e
theorem anX {E1 E2:Env} {fs:List (Option Nat)} {nx:Nat} (h:akR E1 E2 fs nx) {v:KV} {u:Value} (hv:VK P E1 v u):VK P E2 (rn1 fs nx v) u:=by
 unfold rn1;split
 ·rename_i t b o n
  refine .U4 ?_;rcases hv.yW with q | ⟨x,L,N,c,q1,q2⟩
  ·exact .inl q
  ·exact .inr ⟨x,L,N,c,ary h q1,q2⟩
 ·exact hv.mono h.1
theorem akS {E1 E2:Env} {fs:List (Option Nat)} {nx:Nat} (h:akR E1 E2 fs nx):∀ {vs:List KV} {us:List Value},bm P E1 vs us->bm P E2 (aqb fs nx vs) us
 | [],us,hv=>by rw [hv.cl]; exact .nil
 | v::vs,us,hv=>by
  obtain ⟨u,us',rfl,h1,h2⟩:=hv.cons_inv;exact .cons (anX h h1) (akS h h2)
theorem arz {E1 E2:Env} {fs:List (Option Nat)} {nx:Nat} (h:akR E1 E2 fs nx) {v:KV} {u:Value} (hv:VK P E1 v u):VK P E2 (rnV fs nx v) u:=by
 unfold rnV;split
 ·obtain ⟨m,rfl,h1⟩:=hv.nM
  exact .rQ (akS h h1)
 ·exact anX h hv
theorem acq {E1 E2:Env} {fs:List (Option Nat)} {nx:Nat} (h:akR E1 E2 fs nx):∀ (l:List (Nat×KV)),xn P E1 E2 l (aqc fs nx l)
 | []=>trivial
 | _::qs=>⟨rfl,fun _ hv=>arz h hv,acq h qs⟩
end
end Go.K
end
section
namespace Go.K
open Go Go.aB
variable {P:Program} {E:Env}
noncomputable section
def YJ:List CD->Bool
 | []=>true
 | .bc _::_=>false
 | _::ds=>YJ ds
def adV:List (Tmp×VD)->Bool
 | []=>true
 | p::ps=>YJ p.2.ks&&adV ps
def adW:List (Tmp×List CD×Nat)->Bool
 | []=>true
 | p::ps=>YJ p.2.1&&adW ps
def aL.stays (S:aL):Bool:=adV S.eR&&adW S.rows
theorem EG:∀ {ds:List CD} {vs:List KV},YJ ds=true->∀ q∈qV P ds vs,∃ v,q = .arr v
 | [],_,_,q,hq=>by simp [qV] at hq
 | d::ds,[],_,q,hq=>by cases d <;> simp [qV] at hq
 | d::ds,v::vs,h,q,hq=>by
  cases d <;> simp only [YJ,qV,eL] at h hq
  ·exact EG h q hq
  ·exact EG h q hq
  ·simp at h
  ·rcases hq with rfl | hq
   ·exact ⟨_,rfl⟩
   ·exact EG h q hq
  ·exact EG h q hq
theorem afq:∀ {ps:List (Tmp×VD)} {vs:List KV},adV ps=true->∀ q∈zP P ps vs,∃ v,q = .arr v
 | [],_,_,q,hq=>by simp [zP] at hq
 | p::ps,[],_,q,hq=>by simp [zP] at hq
 | p::ps,v::vs,h,q,hq=>by
  simp only [adV,aD,zP,oM] at h hq;exact hq.elim (EG h.1 q) (afq h.2 q)
theorem afr:∀ {ps:List (Tmp×List CD×Nat)} {rs:List (List KV)},adW ps=true->∀ q∈BF P ps rs,∃ v,q = .arr v
 | [],_,_,q,hq=>by simp [BF] at hq
 | p::ps,[],_,q,hq=>by simp [BF] at hq
 | p::ps,r::rs,h,q,hq=>by
  simp only [adW,aD,BF,oM] at h hq;exact hq.elim (EG h.1 q) (afr h.2 q)
theorem ahQ {S:aL} (h:S.stays=true) {vs:List KV} {rs:List (List KV)} {i:Nat} {q:jP} (hq:(S.lens P vs rs)[i]? = some q):∃ v,q = .arr v:=by
 simp only [aL.stays,aD] at h;have:=hQ hq;simp only [aL.lens,oM] at this;exact this.elim (afq h.1 q) (afr h.2 q)
theorem TW {S:aL} {vs:List KV} {rs:List (List KV)} (hv:iw S.eR vs=true) (hl:rs.length=S.rows.length) (hg:∀ (k:Nat) p r,S.rows[k]? = some p->rs[k]? = some r->dX p.2.1 r=true):(S.lens P vs rs).length=oZ S.eR+(S.rows.map fun p=>tr p.2.1).sum:=by
 rw [aL.lens,ko,FT hv,LW hl hg rfl]
def aL.jd (S:aL) (nx:Nat) (bs:List Nat) (fs:List (Option Nat)) (vs:List KV):bF:=mX (aqc fs nx (aci nx bs S.eR vs++Cq bs S.acg))
def aL.afs (S:aL) (P:Program) (bs:List Nat) (fs:List (Option Nat)) (vs:List KV) (rs:List (List KV)) (A:aC):aC:=H7 (S.back P bs fs vs rs A) fs A.next (S.lens P vs rs)
def anY (S:aL) (E E' : Env):Prop:=∀ (i:Nat) p,E.α (S.nr+i)=some p->E'.α (S.nr+i)=some p
theorem ahR {S:aL} {t:bF} {A:aC} {B B1:St} {g:GR} {ρ oq:aZ} {base N:Nat} {w w1:World} {a1:Act} {vs:List KV} {rs:List (List KV)} {E1:Env} (iE:S.stays=true) (hG:dY P S t A g) (hk:fK P E A B)
  (ht:mq P E1 oq (S.tm S.nr S.ids vs) N a1) (hs:fK P E1 (S.mem P vs rs) B1) (zQ:Co base (E.sub A g.bs g.fs S.nr) (S.mem P g.vs g.rs) B ρ w E1 (S.mem P vs rs) B1 oq w1) (Ke:∀ k,k < S.rows.length->E1.κ k=(E.sub A g.bs g.fs S.nr).κ k)
  (hpl:anY S (E.sub A g.bs g.fs S.nr) E1)
  (hv:iw S.eR vs=true) (HS:rs.length=S.rows.length) (hrg:∀ (k:Nat) p r,S.rows[k]? = some p->rs[k]? = some r->dX p.2.1 r=true) :
  ∃ E',mq P E' oq (S.jd A.next g.bs g.fs vs) N a1/\Ev P base E A B ρ w E' (S.afs P g.bs g.fs vs rs A) B1 oq w1:=by
 obtain ⟨ht0,rV⟩:=ahN hG hk ht hs zQ Ke hv HS hrg;have jz:(BG (pX A g.bs S.rows (S.Jd A.next g.bs rs)) g.fs).next=A.next:=by rw [KC,Wu]
 have hlen:(S.lens P vs rs).length=g.fs.length:=by
  rw [TW hv HS hrg,hG.fs,tQ,<- hG.lens,TW hG.eR hG.uI hG.zJ]
 have hold:∀ (i:Nat) f,g.fs[i]? = some (some f)->∃ u,A.get f=some (.arr u):=by
  intro i f hi;have a8:i < (S.lens P g.vs g.rs).length:=by rw [hG.lens,<- tQ,<- hG.fs]; exact (c8.1 hi).1
  obtain ⟨fi,_,h2,h3⟩:=hG.fact (dz a8);rw [hi] at h2; simp at h2;obtain ⟨u0,hu0⟩:=ahQ iE (dz a8);rcases h3 with ⟨n,sz,e,_⟩ | ⟨T,v,_,⟨h3,_⟩ | ⟨f',m,N,es,acc,h3,h4,_⟩⟩
  ·rw [hu0] at e; simp at e
  ·rw [h3] at h2; simp at h2
  ·rw [h3] at h2; simp at h2; subst h2; exact ⟨_,h4⟩
 have xj:∀ (i f:Nat),g.fs[i]? = some (some f)->∀ p,(E.up E1 S.nr A.next).α f=some p->(E.up E1 S.nr A.next).α (A.next+i)=some p:=fun i f hi p e=>by
  obtain ⟨u,hu⟩:=hold i f hi;rw [Env.Nu (hk.live f _ hu)] at e;rw [Env.Nt];exact hpl i p (by rw [Env.Jf,hi]; exact e)
 have hsw:ahP (E.up E1 S.nr A.next) (S.back P g.bs g.fs vs rs A) g.fs A.next (S.lens P vs rs):=by
  refine ⟨fun i f v hi hv=>?_,fun i f hi=>?_,fun i k f h1 h2=>y7 hG.adU i k f h1 h2⟩
  ·obtain ⟨u,hu⟩:=hold i f hi
   refine ⟨?_,(hk.ar.nk f u hu).2,?_,xj i f hi⟩
   ·rw [aL.back,H4 (by rw [jz]; exact hk.live f _ hu),Je,aR (yc.2 (hQ hi))]
   ·have:=R9 (A:=BG (pX A g.bs S.rows (S.Jd A.next g.bs rs)) g.fs) hv
    rw [jz] at this;exact this
  ·obtain ⟨u,hu⟩:=hold i f hi
   exact hk.live f _ hu
 obtain ⟨E',q1,q2,q3,_⟩:=aaH rV.jK hsw;refine ⟨E',?_,rV.sw q1 q2⟩;refine mq.ap1 ht0 (acq ⟨q2.le,fun i f hi p e=>?_⟩ _);have a8:i < (S.lens P vs rs).length:=by rw [hlen]; exact (c8.1 hi).1
 obtain ⟨v,XU⟩:=ahQ iE (dz a8);rw [q3 i f v hi (by rw [dz a8,XU])];exact e
def aL.ahS (S:aL) (P:Program) (t:bF) (A:aC):Bool:=cond (x9 (S.fU P t A).bs S.ids) (cond (H6 (S.fU P t A).fs S.nr) (S.fU P t A).ok false) false
theorem akT {S:aL} {t:bF} {A:aC} (h:S.ahS P t A=true):x9 (S.fU P t A).bs S.ids=true/\H6 (S.fU P t A).fs S.nr=true/\(S.fU P t A).ok=true:=by
 unfold aL.ahS at h;cases h1:x9 (S.fU P t A).bs S.ids with
 | false=>rw [h1] at h; simp at h
 | true=>
  cases h2:H6 (S.fU P t A).fs S.nr with
  | false=>rw [h1,h2] at h; simp at h
  | true=>rw [h1,h2] at h; exact ⟨rfl,rfl,h⟩
def sv (P:Program) (cfg:eQ) (L n:Nat) (f:FuncId) (p:Nat) (body:Code) (S:aL) (vs:List KV) (rs:List (List KV)):Option (ai×List KV×List (List KV)):=
 sP P cfg (Kt P cfg L n) L f body (2 * p) (fun e t A=>
  Bool.rec (motive:=fun _=>Option (ai×List KV×List (List KV))) none (some (e,(S.fU P t A).vs,(S.fU P t A).rs)) (S.ahS P t A)) (S.tm S.nr S.ids vs) (S.mem P vs rs)
theorem akU {S:aL} {t:bF} {A:aC} {B0:St} {E1:Env} {g:GR} {vs:List KV} {rs:List (List KV)} (hG:dY P S t A g) (hf:H6 g.fs S.nr=true) (cf:Eb P S vs rs) (hs:fK P E (S.mem P vs rs) B0) (hle:E.le E1):anY S E (E1.sub A g.bs g.fs S.nr):=fun i p e=>by
 have hd:=hs.ar.mA _ p e;rw [aL.mem,gG,qw cf.uI,TW cf.v cf.uI cf.zJ] at hd;have a8:i < g.fs.length:=by
  rw [hG.fs,tQ,<- hG.lens,TW hG.eR hG.uI hG.zJ];omega
 have h1:=dz a8;rw [Env.Jf,h1,acp hf h1];exact hle.α _ p e
section
variable {cfg:eQ} {L n:Nat} {f:FuncId} {S:aL} {root body:Code} {p N:Nat}
theorem ahT {t' : bF} {A1:aC} {B B1:St} {ρ oq:aZ} {base:Nat} {w w1:World} {E1:Env} {vs:List KV} {rs:List (List KV)} (cf:Eb P S vs rs) (hj:KJ P E (S.mem P vs rs) B ρ base w) (h4:Ev P base E (S.mem P vs rs) B ρ w E1 A1 B1 oq w1) (_:dY P S t' A1 (S.fU P t' A1)) (hi:x9 (S.fU P t' A1).bs S.ids=true) :
  ∀ k,k < S.rows.length->(E1.sub A1 (S.fU P t' A1).bs (S.fU P t' A1).fs S.nr).κ k=E.κ k:=fun k hk=>by
 have ap8:=Sb hi;have hp:=dz hk;have hr':=dz (show k < rs.length by rw [cf.uI]; exact hk);obtain ⟨x,_,hx,_⟩:=hj.k.row k _ _ (mem_row cf.uI hp hr');have e1:(E1.sub A1 (S.fU P t' A1).bs (S.fU P t' A1).fs S.nr).κ k=E1.κ k:=by
  simp only [Env.sub];rw [ap8,Nq S k hk,eV]
 rw [e1,hx];exact h4.le.κ k x hx
theorem akV (hP:P.funcs.toList.all oP=true) (hm:P.follows .mixedOrders=true) (gZ:tW P cfg.pc) (mG:x7 P cfg) {fn:Func} (hf:P.funcs[f]? = some fn) (hb:fn.body=some root) (hs:Sub root p (.loop body)) (hc:codeOk N body=true)
  {vs cK:List KV} {rs nb:List (List KV)} {e:ai} (hr:sv P cfg L n f p body S vs rs=some (e,cK,nb)) {B:St} {ρ:aZ} {base:Nat} {a:Act} {w:World} {Q:Exit->Act->World->Prop} (cf:Eb P S vs rs)
  (ht:mq P E ρ (S.tm S.nr S.ids vs) N a) (hj:KJ P E (S.mem P vs rs) B ρ base w)
  (hq:∀ E' B' a7 a' w',mq P E' a7 (S.tm S.nr S.ids cK) N a'->a'.defers=a.defers->KJ P E' (S.mem P cK nb) B' a7 base w'->Co base E (S.mem P vs rs) B ρ w E' (S.mem P cK nb) B' a7 w'->(∀ k,k < S.rows.length->E'.κ k=E.κ k)->Eb P S cK nb->anY S E E'->Q e.out a' w'):body.wp P Q a w:=by
 have xK:=wH (R:=ai×List KV×List (List KV)) hP hm gZ mG L n;refine nU gZ xK hm (mG.2 f fn root hf hb) body (2 * p) hs.loop hc _ _ _ _ E B ρ base a w Q hr ht hj fun e' t' E1 A1 B1 oq a1 w1 h1 h2 h3 h4=>?_;cases hi:S.ahS P t' A1 with
 | false=>simp only [hi] at h1; exact absurd h1 (by simp)
 | true=>
  simp only [hi,db,fI] at h1;obtain ⟨rfl,rfl,rfl⟩:=h1;obtain ⟨i1,i2,i3⟩:=akT hi;have hG:=Nr i3;exact hq _ B1 oq a1 w1 (hG.tkr h2) h3 ⟨hG.jK h4.jK,h4.fX.jK⟩ (h4.co hG) (ahT cf hj h4 hG i1) hG.Qp (akU hG i2 cf hj.k h4.le)
theorem aft (hP:P.funcs.toList.all oP=true) (hm:P.follows .mixedOrders=true) (gZ:tW P cfg.pc) (mG:x7 P cfg) {fn:Func} (hf:P.funcs[f]? = some fn) (hb:fn.body=some root) (hs:Sub root p (.loop body)) (hc:codeOk N body=true)
  {e:ai} {cK:List KV} {nb:List (List KV)} : ∀ (m:Nat) {vs:List KV} {rs:List (List KV)},w4 (sv P cfg L n f p body S) m vs rs=some (e,cK,nb)->∀ {E:Env} {B:St} {ρ:aZ} {base:Nat} {a:Act} {w:World} {Q:Exit->Act->World->Prop},Eb P S vs rs->
  mq P E ρ (S.tm S.nr S.ids vs) N a->KJ P E (S.mem P vs rs) B ρ base w->
  (∀ E' B' a7 a' w',mq P E' a7 (S.tm S.nr S.ids cK) N a'->a'.defers=a.defers->KJ P E' (S.mem P cK nb) B' a7 base w'->Co base E (S.mem P vs rs) B ρ w E' (S.mem P cK nb) B' a7 w'->(∀ k,k < S.rows.length->E'.κ k=E.κ k)->Eb P S cK nb->anY S E E'->Q e.out a' w')->Code.rounds P body Q m a w
 | 0,vs,rs,h,E,B,ρ,base,a,w,Q,cf,ht,hj,hq=>by simp [w4] at h
 | m+1,vs,rs,h,E,B,ρ,base,a,w,Q,cf,ht,hj,hq=>by
  unfold w4 at h;split at h
  ·rename_i e1 vs1 rs1 hr
   rw [rounds_succ];refine akV hP hm gZ mG hf hb hs hc hr cf ht hj fun E' B' a7 a' w' h1 h2 h3 h4 h5 h6 h7=>?_;have fin:wI e1=false->some (e1,vs1,rs1)=some (e,cK,nb)->Q e1.out a' w':=by
    intro _ h;simp only [db,fI] at h;obtain ⟨rfl,rfl,rfl⟩:=h;exact hq E' B' a7 a' w' h1 h2 h3 h4 h5 h6 h7
   cases e1 with
   | normal=>
    have h:w4 (sv P cfg L n f p body S) m vs1 rs1=some (e,cK,nb):=h;exact aft hP hm gZ mG hf hb hs hc m h h6 h1 h3 fun Nm Pg xT a'' MT q1 q2 q3 q4 q5 q6 q7=>hq Nm Pg xT a'' MT q1 (q2.trans h2) q3 (h4.trans q4) (fun k hk=>(q5 k hk).trans (h5 k hk)) q6 fun i p e=>q7 i p (h7 i p e)
   | exit id=>exact fin rfl h
   | goto l=>exact fin rfl h
   | ret=>exact fin rfl h
  ·simp at h
def uH.Se (P:Program) (S:aL) (bs:List Nat) (fs:List (Option Nat)) (A:aC):uH->Ks
 | .no=>.no
 | .out e vs rs=>.out e (S.jd A.next bs fs vs) (S.afs P bs fs vs rs A)
 | .br c x y=>.br c (x.Se P S bs fs A) (y.Se P S bs fs A)
def aqd (P:Program) (S:aL) (F:LFn):bF->aC->Ks:=fun t A=>
 .br (cond S.stays (S.fU P t A).ok false) ((F (S.fU P t A).vs (S.fU P t A).rs).Se P S (S.fU P t A).bs (S.fU P t A).fs A) .no
theorem Wy {R:Type} {bs:List Nat} {fs:List (Option Nat)} {A:aC} {k:KE R} {r:R} : ∀ (x:uH),(x.Se P S bs fs A).run k=some r->∃ e cK nb,x.ev=some (e,cK,nb)/\k e (S.jd A.next bs fs cK) (S.afs P bs fs cK nb A)=some r
 | .no,h=>absurd h (by simp [uH.Se,Ks.run])
 | .out e vs rs,h=>⟨e,vs,rs,rfl,h⟩
 | .br c x y,h=>by
  have h:Bool.rec (motive:=fun _=>Option R) ((y.Se P S bs fs A).run k) ((x.Se P S bs fs A).run k) c=some r:=h;cases c with
  | true=>exact Wy x h
  | false=>exact Wy y h
theorem akW (hP:P.funcs.toList.all oP=true) (hm:P.follows .mixedOrders=true) (gZ:tW P cfg.pc) (mG:x7 P cfg) {fn:Func} (hf:P.funcs[f]? = some fn) (hb:fn.body=some root) (hs:Sub root p (.loop body)) (hc:codeOk N body=true) {F:LFn}
  (hF:∀ vs rs e cK nb,Eb P S vs rs->(F vs rs).ev=some (e,cK,nb)->∃ m,w4 (sv P cfg L n f p body S) m vs rs=some (e,cK,nb)):aaB P N body (aqd P S F):=by
 intro R k r t A E B ρ base a w Q h ht hj hq;have h:Bool.rec (motive:=fun _=>Option R) none (((F (S.fU P t A).vs (S.fU P t A).rs).Se P S (S.fU P t A).bs (S.fU P t A).fs A).run k) (cond S.stays (S.fU P t A).ok false)=some r:=h;cases iE:S.stays with
 | false=>rw [iE] at h; exact absurd h (by simp)
 | true=>
  rw [iE,aj] at h;cases ho:(S.fU P t A).ok with
  | false=>rw [ho] at h; exact absurd h (by simp)
  | true=>
   rw [ho] at h;have hG:=Nr ho;obtain ⟨e,cK,nb,h9,vK⟩:=Wy _ h;obtain ⟨m,hm'⟩:=hF _ _ e cK nb hG.Qp h9;refine wp_loop_rounds m (aft hP hm gZ mG hf hb hs hc m hm' hG.Qp (hG.tkr ht) ⟨hG.jK hj.k,hj.s⟩ fun E' B' a7 a' w' q1 q2 q3 q4 q5 q6 q7=>?_);obtain ⟨E2,r1,r2⟩:=ahR iE hG hj.k q1 q3.k q4 q5 q7 q6.v q6.uI q6.zJ;exact hq e _ E2 _ B' a7 a' w' vK r1 q2 r2
end
def aiW:ai->Bool
 | .normal=>true
 | .ret=>true
 | _=>false
def LX (P:Program) (cfg:eQ) (L n:Nat) (g:FuncId) (S:aL) (vs:List KV) (rs:List (List KV)):Option (ai×List KV×List (List KV)):=
 match P.funcs.toList[g]? with
 | some fn=>match fn.body with
  | some c=>cond fn.results.toList.isEmpty (sP P cfg (Kt P cfg L n) L g c 1 (fun e t A=>
    Bool.rec (motive:=fun _=>Option (ai×List KV×List (List KV))) none (some (.ret,(S.fU P t A).vs,(S.fU P t A).rs)) (cond (aiW e) (S.ahS P t A) false)) (S.tm S.nr S.ids vs) (S.mem P vs rs)) none
  | none=>none
 | none=>none
def uH.Sf (P:Program) (S:aL) (bs:List Nat) (fs:List (Option Nat)) (A:aC):uH->wY
 | .no=>.no
 | .out _ vs rs=>.out (.iv []) (S.afs P bs fs vs rs A)
 | .br c x y=>.br c (x.Sf P S bs fs A) (y.Sf P S bs fs A)
def asf (P:Program) (S:aL) (F:LFn):List KV->aC->wY:=fun args A=>
 .br (cond S.stays (S.fU P (pG args 0 .leaf) A).ok false) ((F (S.fU P (pG args 0 .leaf) A).vs (S.fU P (pG args 0 .leaf) A).rs).Sf P S (S.fU P (pG args 0 .leaf) A).bs (S.fU P (pG args 0 .leaf) A).fs A) .no
theorem Wz {R:Type} {S:aL} {bs:List Nat} {fs:List (Option Nat)} {A:aC} {k:KV->aC->Option R} {r:R} : ∀ (x:uH),wY.run k (x.Sf P S bs fs A)=some r->∃ e cK nb,x.ev=some (e,cK,nb)/\k (.iv []) (S.afs P bs fs cK nb A)=some r
 | .no,h=>absurd h (by simp [uH.Sf,wY.run])
 | .out e vs rs,h=>⟨e,vs,rs,rfl,h⟩
 | .br c x y,h=>by
  have h:Bool.rec (motive:=fun _=>Option R) (wY.run k (y.Sf P S bs fs A)) (wY.run k (x.Sf P S bs fs A)) c=some r:=h;cases c with
  | true=>exact Wz x h
  | false=>exact Wz y h
theorem aoG {ρ:aZ} {args:List KV} {kY:List Value} (hv:Ey P E ρ args kY) (m:Nat):mq P E ρ (pG args 0 .leaf) (max m args.length) { tmps:=kY.toArray++Array.replicate (m - kY.toArray.size) undef,defers:=[] }:=by
 obtain ⟨amC,Rl,HR⟩:=hv;have hlen:kY.length=args.length:=by rw [HR.length,Rl.length]
 have fC:(kY.toArray++Array.replicate (m - kY.toArray.size) undef).size=max m args.length:=by
  simp [hlen];omega
 refine ⟨fC,fun i=>?_,fun i hi=>?_⟩
 ·rw [Ja]
  simp only [cw,true_and,bd,Nat.sub_zero,Trie.TB];by_cases hi:i < args.length
  ·rw [aR hi]
   obtain ⟨u,hu⟩:∃ u,args[i]? = some u:=⟨_,dz hi⟩
   obtain ⟨m',h1,h2⟩:=Rl.get hu;obtain ⟨u',h3,h4⟩:=HR.get h1;rw [hu];have:(kY.toArray++Array.replicate (m - kY.toArray.size) undef).getD i undef=u':=by
    rw [hM,Array.getElem?_append_left (by simpa [hlen] using hi)];simp [h3]
   rw [this];exact ⟨m',h2,h4⟩
  ·rw [ay hi]
   exact VC.bD
 ·rw [Ja,ay,Trie.TB]
  simp only [cw,true_and,bd];have:=Nat.le_max_right m args.length;omega
theorem amK {cfg:eQ} {L n:Nat} {g:FuncId} {S:aL} {F:LFn} (hP:P.funcs.toList.all oP=true) (hm:P.follows .mixedOrders=true) (gZ:tW P cfg.pc) (mG:x7 P cfg) (hy:Nat.blt g yB=true)
  (hF:∀ vs rs e cK nb,Eb P S vs rs->(F vs rs).ev=some (e,cK,nb)->LX P cfg L n g S vs rs=some (e,cK,nb)) {R:Type} {args:List KV} {A:aC} {k:KV->aC->Option R} {r:R} (h:wY.run k (asf P S F args A)=some r):Nk P g/\
  ∀ (E:Env) (B:St) (ρ:aZ) (base:Nat) (w:World) (kY:List Value),Ey P E ρ args kY->KJ P E A B ρ base w->
   Calls P g kY.toArray w fun e w'=>∃ v v' E' A' B' a7,e = .returned v'/\VC P E' a7 v v'/\Ev P base E A B ρ w E' A' B' a7 w'/\k v A' = some r:=by
 have h:Bool.rec (motive:=fun _=>Option R) none (wY.run k ((F (S.fU P (pG args 0 .leaf) A).vs (S.fU P (pG args 0 .leaf) A).rs).Sf P S (S.fU P (pG args 0 .leaf) A).bs (S.fU P (pG args 0 .leaf) A).fs A)) (cond S.stays (S.fU P (pG args 0 .leaf) A).ok false)=some r:=h;cases iE:S.stays with
 | false=>rw [iE] at h; exact absurd h (by simp)
 | true=>
 rw [iE,aj] at h;cases ho:(S.fU P (pG args 0 .leaf) A).ok with
 | false=>rw [ho] at h; exact absurd h (by simp)
 | true=>
 rw [ho] at h;have hG:=Nr ho;obtain ⟨e0,cK,nb,h9,vK⟩:=Wz _ h;have nF:=hF _ _ e0 cK nb hG.Qp h9;unfold LX at nF;split at nF
 ·rename_i fn hf
  split at nF
  ·rename_i c hc
   cases hre:fn.results.toList.isEmpty with
   | false=>rw [hre] at nF; exact absurd nF (by simp)
   | true=>
   rw [hre,aj] at nF;have hf' : P.funcs[g]? = some fn:=by simpa using hf
   have cf:=gx.1 hP fn (hQ hf);unfold oP at cf;rw [hc] at cf;simp only [aD,nw] at cf;refine ⟨⟨hy,fn,hf',by simp [hc],cf.2⟩,fun E B ρ base w kY hv hj=>?_⟩;refine calls_of_wp hf' hc ?_;have ht:=aoG hv fn.ntmps;have ab6:codeOk (max fn.ntmps args.length) c=true:=nP (Nat.le_max_left _ _) c cf.1;have xK:=wH (R:=ai×List KV×List (List KV)) hP hm gZ mG L n;refine nU (L:=L) (f:=g) (N:=max fn.ntmps args.length) gZ xK hm (mG.2 g fn c hf' hc) c 1 .root ab6 _ _ _ _ (E.sub A (S.fU P (pG args 0 .leaf) A).bs (S.fU P (pG args 0 .leaf) A).fs S.nr) B ρ base _ w _ nF (hG.tkr ht) ⟨hG.jK hj.k,hj.s⟩ fun e t' E1 A1 B1 oq a1 w1 h1 h2 h3 h4=>?_;cases he:aiW e with
   | false=>simp only [he,aq] at h1; exact absurd h1 (by simp)
   | true=>
   simp only [he,aj] at h1;cases hi:S.ahS P t' A1 with
   | false=>simp only [hi] at h1; exact absurd h1 (by simp)
   | true=>
   simp only [hi,db,fI] at h1;obtain ⟨_,rfl,rfl⟩:=h1;obtain ⟨i1,i2,i3⟩:=akT hi;have hG1:=Nr i3;have hj0:KJ P (E.sub A (S.fU P (pG args 0 .leaf) A).bs (S.fU P (pG args 0 .leaf) A).fs S.nr) (S.mem P (S.fU P (pG args 0 .leaf) A).vs (S.fU P (pG args 0 .leaf) A).rs) B ρ base w:=⟨hG.jK hj.k,hj.s⟩
   obtain ⟨E2,_,r2⟩:=ahR iE hG hj.k (hG1.tkr h2) (hG1.jK h4.jK) (h4.co hG1) (ahT hG.Qp hj0 h4 hG1 i1) (akU hG1 i2 hG.Qp hj0.k h4.le) hG1.Qp.v hG1.Qp.uI hG1.Qp.zJ;have aeu:fn.results.toList = []:=List.isEmpty_iff.1 hre;have akG:(results fn a1.tmps).run P w1 = .ok (.tuple #[]) w1:=by
    rw [abS,Sem.run_bind,Array.mapM_eq_mapM_toList,Sem.run_map,aeu];rfl
   have afg:bodyPost P fn (fun e w'=>∃ v v' E' A' B' a7,e = .returned v'/\VC P E' a7 v v'/\Ev P base E A B ρ w E' A' B' a7 w'/\k v A' = some r) .ret a1 w1:=
    ⟨h3,_,akG,_,_,E2,_,B1,oq,rfl,⟨_,.aeH .nil,VR.mkTuple .nil⟩,r2,vK⟩
   cases e with
   | normal=>exact afg
   | ret=>exact afg
   | exit id=>simp [aiW] at he
   | goto l=>simp [aiW] at he
  ·simp at nF
 ·simp at nF
end
end Go.K
end
section
namespace Go.K
open Go Go.aB
variable {P:Program} {E:Env}
def aiX:Code->Bool->Option Code
 | .seq a _,false=>some a
 | .seq _ b,true=>some b
 | .cond _ a _,false=>some a
 | .cond _ _ b,true=>some b
 | .block _ a,false=>some a
 | .loop a,false=>some a
 | .scope a,false=>some a
 | _,_=>none
def tu:Nat->Code->Nat->Option Code
 | 0,_,_=>none
 | n+1,root,p=>cond (Nat.ble p 1) (cond (Nat.beq p 1) (some root) none) ((tu n root (p / 2)).bind fun c=>aiX c (Nat.beq (p % 2) 1))
theorem YK:∀ {n:Nat} {root c:Code} {p:Nat},tu n root p=some c->tu (n+1) root p=some c
 | 0,_,_,_,h=>by simp [tu] at h
 | n+1,root,c,p,h=>by
  unfold tu at h ⊢;cases hp:Nat.ble p 1 with
  | true=>rw [hp] at h; exact h
  | false=>
   rw [hp] at h;simp only [aq] at h ⊢;obtain ⟨d,h1,h2⟩:=c9.1 h;exact c9.2 ⟨d,YK h1,h2⟩
theorem WA {root c:Code} {p n:Nat} (h:tu n root p=some c):∀ k,tu (n+k) root p=some c
 | 0=>h
 | k+1=>YK (WA h k)
theorem Sub.pos {root c:Code} {p:Nat} (h:Sub root p c):1<=p:=by induction h <;> omega
theorem Sub.at {root c:Code} {p:Nat} (h:Sub root p c):∃ n,tu n root p=some c:=by
 have left:∀ {q n:Nat} {d:Code},1<=q->tu n root q=some d->tu (n+1) root (2 * q)=aiX d false:=by
  intro q n d hq hd;unfold tu;have:Nat.ble (2 * q) 1=false:=by
   cases hb:Nat.ble (2 * q) 1 with
   | false=>rfl
   | true=>have:=fH hb; omega
  rw [this,aq,show 2 * q / 2=q by omega,hd,show 2 * q % 2=0 by omega];rfl
 have right:∀ {q n:Nat} {d:Code},1<=q->tu n root q=some d->tu (n+1) root (2 * q+1)=aiX d true:=by
  intro q n d hq hd;unfold tu;have:Nat.ble (2 * q+1) 1=false:=by
   cases hb:Nat.ble (2 * q+1) 1 with
   | false=>rfl
   | true=>have:=fH hb; omega
  rw [this,aq,show (2 * q+1) / 2=q by omega,hd,show (2 * q+1) % 2=1 by omega];rfl
 induction h with
 | root=>exact ⟨1,rfl⟩
 | ar6 hs ih=>obtain ⟨n,hn⟩:=ih; exact ⟨n+1,left hs.pos hn⟩
 | ar7 hs ih=>obtain ⟨n,hn⟩:=ih; exact ⟨n+1,right hs.pos hn⟩
 | apR hs ih=>obtain ⟨n,hn⟩:=ih; exact ⟨n+1,left hs.pos hn⟩
 | apS hs ih=>obtain ⟨n,hn⟩:=ih; exact ⟨n+1,right hs.pos hn⟩
 | block hs ih=>obtain ⟨n,hn⟩:=ih; exact ⟨n+1,left hs.pos hn⟩
 | loop hs ih=>obtain ⟨n,hn⟩:=ih; exact ⟨n+1,left hs.pos hn⟩
 | scope hs ih=>obtain ⟨n,hn⟩:=ih; exact ⟨n+1,left hs.pos hn⟩
theorem Sub.uniq {root c d:Code} {p n:Nat} (h:Sub root p c) (k:tu n root p=some d):c=d:=by
 obtain ⟨m,hm⟩:=h.at;have h1:=WA hm n;have h2:=WA k m;rw [Nat.add_comm] at h1;rw [h1] at h2;simpa using h2
def nz (P:Program) (f p:Nat):Code:=
 match P.funcs.toList[f]? with
 | some fn=>match fn.body with
  | some c=>match tu 200 c p with
   | some (.loop b)=>b
   | _=>.skip
  | none=>.skip
 | none=>.skip
structure Lp where
 f:Nat
 p:Nat
 S:aL
 F:LFn
 st:Bool
noncomputable def anZ (st:Bool) (P:Program) (cfg:eQ) (L n:Nat) (f:FuncId) (p:Nat) (body:Code) (S:aL) (vs:List KV) (rs:List (List KV)):Option (ai×List KV×List (List KV)):=
 cond st (sv P cfg L n f p body S vs rs) (AX P cfg L n f p body S vs rs)
noncomputable def afu (P:Program):List Lp->FuncId->Nat->Option (bF->aC->Ks)
 | [],_,_=>none
 | l::ls,f,p=>cond (Nat.beq l.f f&&Nat.beq l.p p) (some (cond l.st (aqd P l.S l.F) (asa P l.S l.F))) (afu P ls f p)
def Lp.Ok (P:Program) (l:Lp):Prop:=∃ cfg L n,tW P cfg.pc/\x7 P cfg/\
 ∀ vs rs e cK nb,Eb P l.S vs rs->(l.F vs rs).ev=some (e,cK,nb)->∃ m,w4 (anZ l.st P cfg L n l.f l.p (nz P l.f l.p) l.S) m vs rs=some (e,cK,nb)
def EH (P:Program) (f p:Nat):Bool:=
 match P.funcs.toList[f]? with
 | some fn=>match fn.body with
  | some c=>match tu 200 c p with
   | some (.loop _)=>true
   | _=>false
  | none=>false
 | none=>false
theorem an0 (hP:P.funcs.toList.all oP=true) (hm:P.follows .mixedOrders=true) {pc:FuncId->Option (List KV->KR KV)} {x:ajZ} : ∀ {ls:List Lp},(∀ l∈ls,Lp.Ok P l/\EH P l.f l.p=true)->∀ f fn c,P.funcs[f]? = some fn->fn.body=some c->anP P ⟨pc,afu P ls,x⟩ f c
 | [],_=>fun f fn c hf hb p F body h=>by simp [afu] at h
 | l::ls,hl=>fun f fn c hf hb p F body h hs N hc=>by
  have h:afu P (l::ls) f p=some F:=h;unfold afu at h;cases hk:(Nat.beq l.f f&&Nat.beq l.p p) with
  | false=>
   rw [hk] at h;exact an0 hP hm (pc:=pc) (x:=x) (fun l' vB=>hl l' (xh _ vB)) f fn c hf hb p F body h hs N hc
  | true=>
   rw [hk] at h;simp only [aj,db] at h;subst h;simp only [aD] at hk;have e1:=bh hk.1;have e2:=bh hk.2;obtain ⟨⟨cfg,L,n,gZ,mG,hF⟩,hth⟩:=hl l (by simp);rw [e1,e2] at hF hth;have hf' : P.funcs.toList[f]? = some fn:=by simpa using hf
   have asL:nz P f p=body:=by
    unfold EH at hth;unfold nz;simp only [hf',hb] at hth ⊢;split at hth
    ·rename_i b CX
     have:=hs.uniq CX;simp at this;exact this.symm
    ·simp at hth
   rw [asL] at hF;cases iE:l.st with
   | true=>
    rw [iE] at hF;exact akW hP hm gZ mG hf hb hs hc hF
   | false=>
    rw [iE] at hF;exact amI hP hm gZ mG hf hb hs hc hF
theorem TX (hP:P.funcs.toList.all oP=true) (hm:P.follows .mixedOrders=true) {pc:FuncId->Option (List KV->KR KV)} {x:ajZ} (hx:ahG P x.ac) {ls:List Lp} (hl:∀ l∈ls,Lp.Ok P l/\EH P l.f l.p=true):x7 P ⟨pc,afu P ls,x⟩:=
 ⟨hx,an0 hP hm hl⟩
structure Fc where
 g:Nat
 S:aL
 F:LFn
noncomputable def ahU (P:Program):List Fc->FuncId->Option (List KV->aC->wY)
 | [],_=>none
 | c::cs,g=>cond (Nat.beq c.g g) (some (asf P c.S c.F)) (ahU P cs g)
def Fc.Ok (P:Program) (c:Fc):Prop:=Nat.blt c.g yB=true/\∃ cfg L n,tW P cfg.pc/\x7 P cfg/\
 ∀ vs rs e cK nb,Eb P c.S vs rs->(c.F vs rs).ev=some (e,cK,nb)->LX P cfg L n c.g c.S vs rs=some (e,cK,nb)
theorem TY (hP:P.funcs.toList.all oP=true) (hm:P.follows .mixedOrders=true):∀ {cs:List Fc},(∀ c∈cs,Fc.Ok P c)->ahG P (ahU P cs)
 | [],_=>fun g F h=>by simp [ahU] at h
 | c::cs,hc=>fun g F h=>by
  have h:ahU P (c::cs) g=some F:=h;unfold ahU at h;cases hk:Nat.beq c.g g with
  | false=>
   rw [hk] at h;intro R args A k r hr;exact TY hP hm (fun c' hc'=>hc c' (xh _ hc')) g F h args A k r hr
  | true=>
   rw [hk] at h;simp only [aj,db] at h;subst h;have e1:=bh hk;subst e1;obtain ⟨hy,cfg,L,n,gZ,mG,hF⟩:=hc c (by simp);intro R args A k r hr;exact amK hP hm gZ mG hy hF hr
end Go.K
end
