/- Part of the proof of ImageWhole: the machine, shown to be the model's, and plain models. No conditions. -/
import Derived.Test.YtchbpckkmgcgkaaGreatEp
set_option linter.unusedSimpArgs false
set_option linter.unusedVariables false
section
namespace Go.K
open Go Go.aF
variable {P:Program} {E:Env}
theorem akd {w v:KV} (h:z8 w v=true):v=w:=by
 unfold z8 at h;split at h <;> simp at h
 ·rename_i f g; rw [h]
 all_goals rfl
theorem ao2 {w v:KV} (h:z8 w v=true) {E0:Env} {u:Value} (k:VK P E v u):VK P E0 v u:=by
 have:=akd h;subst this;unfold z8 at h;split at h <;> try (simp at h)
 ·obtain ⟨l,m,rfl,h1,h2⟩:=k.M9
  rw [h1.cw,h2.cw];exact .amH .nil .nil
 all_goals exact k
theorem VK.mix {T:TypeId} {m m' : Mk} {n:Nat} {es tH:List KV} {acc hO:Nat->KV} {u:Value} (h:VK P E (.ts T m n es acc) u) (k:VK P E (.ts T m' n tH hO) u):VK P E (.ts T m n tH hO) u:=by
 obtain ⟨_,bC,_,a,cap,rfl,h2,_,h4⟩:=h.pL;obtain ⟨ht,awJ,k1,a',agz,e,_,k3,_⟩:=k.pL;simp only [Value.slice.injEq] at e;obtain ⟨rfl,_,rfl⟩:=e;simp only [VK];exact ⟨ht,awJ,k1,a,cap,rfl,h2,k3,h4⟩
theorem VK.swap {E0:Env} (hz:E0.z=E.z) {T:TypeId} {m m' : Mk} {n:Nat} {es:List KV} {acc:Nat->KV} {u:Value} (h:VK P E (.ts T m n es acc) u) (hm:∀ sz a cap,u = .slice a n cap->Wn E sz a n cap m->Wn E0 sz a n cap m'):VK P E0 (.ts T m' n es acc) u:=by
 obtain ⟨ht,bC,h1,a,cap,rfl,h2,h3,h4⟩:=h.pL;simp only [VK];refine ⟨ht,bC,bo.zEs hz h1 ht.typed,a,cap,rfl,h2,?_,hm _ _ _ rfl h4⟩;refine h3.imp id ?_;rintro ⟨b,off,r,e1,e2,e3⟩;exact ⟨b,off,r,e1,by rw [hz]; exact e2,e3⟩
theorem YV (t:TypeId) (m:Mk) (n:Nat) (es:List KV) (acc:Nat->KV):∃ tH hO,eJ P iU (.ts t m n es acc) = .ts t .any n tH hO:=⟨_,_,rfl⟩
theorem ao3 {c:CK} {v:KV} (h:kindOk c v=true):leaf c v=v:=by
 cases c <;> cases v <;> simp [kindOk] at h
 ·subst h; rfl
 ·rfl
 ·rfl
 ·rename_i t t' m n es acc
  cases m <;> simp at h;subst h; rfl
theorem VK.nCD {A:aB} {d:CD} {v:KV} {u:Value} (h:VK P E v u) (hd:∀ w,d≠.ref w) (ha:∀ t,d≠.arr t):VK P E (gK P A d v) u:=by
 cases d with
 | ref w=>exact absurd rfl (hd w)
 | arr t=>exact absurd rfl (ha t)
 | k c=>
  show VK P E (cond (kindOk c (K.qq c v)) (K.eJ P iU (leaf c (K.qq c v))) .bG) u;cases hb:kindOk c (K.qq c v) with
  | false=>exact .wD
  | true=>
   rw [ai,ao3 hb];exact VK.eJ _ h.qq
 | lit w=>
  show VK P E (cond (z8 w v) w .bG) u;cases hb:z8 w v with
  | true=>rw [akd hb] at h; exact h
  | false=>exact .wD
 | aZ t=>
  unfold gK;cases v with
  | nS=>have:=h.r5; subst this; exact VK.eJ _ .aoM
  | ts t' m n es acc=>
   cases m with
   | aZ f=>
    show VK P E (cond (Nat.beq t t') _ .bG) u;cases hb:Nat.beq t t' with
    | false=>exact .wD
    | true=>
     have:=bm hb;subst this;exact VK.eJ iU h.asv
   | _=>exact .wD
  | _=>exact .wD
def Lk (E E0:Env) (f:Option Nat) (j:Nat):Prop:=∀ x g,f=some x->E.φ x=some g->E0.φ j=some g
theorem VK.aqp {E0:Env} (hz:E0.z=E.z) {A:aB} {t:TypeId} {v:KV} {u:Value} {j:Nat} (h:VK P E v u) (hg:lF (.aZ t) (gK P A (.aZ t) v)=true) (hl:Lk E E0 (xW P A t v).f j) (cq:(xW P A t v).ok=true):VK P E0 (RM j (gK P A (.aZ t) v)) u:=by
 cases v with
 | nS=>
  have:=h.r5; subst this;have h1:VK P E (K.eJ P iU (.ts t .any 0 [] pI)) (.slice none 0 0):=VK.eJ _ .aoM;obtain ⟨tH,hO,e⟩:=YV (P:=P) t .any 0 [] pI;show VK P E0 (RM j (K.eJ P iU (.ts t .any 0 [] pI))) _;rw [e] at h1 ⊢;exact h1.swap hz fun sz a cap he _=>by
   simp only [Value.slice.injEq] at he;obtain ⟨rfl,_,rfl⟩:=he;exact ⟨rfl,.inl ⟨rfl,rfl⟩⟩
 | ts t' m n es acc=>
  cases m with
  | aZ f=>
   have e1:gK P A (.aZ t) (.ts t' (.aZ f) n es acc)=cond (Nat.beq t t') (K.eJ P iU (.ts t .any n es acc)) .bG:=rfl;rw [e1] at hg ⊢;cases hb:Nat.beq t t' with
   | false=>rw [hb] at hg; simp [lF,kindOk] at hg
   | true=>
    have:=bm hb;subst this;have h1:=VK.eJ (P:=P) iU h.asv;obtain ⟨tH,hO,e⟩:=YV (P:=P) t .any n es acc;rw [ai,e];rw [e] at h1;have hf:(xW P A t (.ts t (.aZ f) n es acc)).f=some f:=by
     revert cq
     unfold xW;simp only;split
     ·intro _; rfl
     ·intro cq; simp at cq
    exact (h.mix h1).swap hz fun sz a cap he hm=>by
     refine ⟨hm.1,hm.2.imp id ?_⟩;rintro ⟨b,r,g,q1,q2,q3,q4,q5⟩;exact ⟨b,r,g,q1,by rw [hz]; exact q2,q3,hl f g hf q4,q5⟩
  | any=>simp [xW] at cq
  | exact=>simp [xW] at cq
 | _=>simp [xW] at cq
def La (E E0:Env) (f:Option Nat) (j:Nat):Prop:=∀ x p,f=some x->E.α x=some p->E0.α j=some p
theorem ao4:K.eJ P iU .bG = .bG:=rfl
theorem acB {A:aB} {t:TypeId} {v:KV} (hg:lF (.arr t) (gK P A (.arr t) v)=true):v = .nS\/∃ b n m N es acc,v = .al t b 0 n/\A.get b=some (.arr (.ts t m N es acc))/\gK P A (.arr t) v=K.eJ P iU (.ts t .any N es acc):=by
 have hu:∀ w,w=KV.bG->lF (.arr t) (K.eJ P iU w)=false:=fun w e=>by rw [e]; rfl
 have hg:lF (.arr t) (K.eJ P iU (UM A t v))=true:=hg;have e0:gK P A (.arr t) v=K.eJ P iU (UM A t v):=rfl;rw [e0];cases v with
 | nS=>exact .inl rfl
 | al t' b o n=>
  have e1:UM A t (.al t' b o n)=(match A.get b with
   | some (.arr (.ts t2 _ N es acc))=>cond (Nat.beq t t'&&Nat.beq t t2&&Nat.beq o 0) (.ts t .any N es acc) .bG
   | _=>.bG):=rfl
  rw [e1] at hg ⊢;split at hg
  ·rename_i t2 m N es acc hb
   cases hc:(Nat.beq t t'&&Nat.beq t t2&&Nat.beq o 0) with
   | false=>rw [hc,aw,hu _ rfl] at hg; simp at hg
   | true=>
    simp only [aD] at hc;have:=bm hc.1.1;subst this;have:=bm hc.1.2;subst this;have:=bm hc.2;subst this;refine .inr ⟨b,n,m,N,es,acc,rfl,hb,?_⟩;rw [ai]
  ·rw [hu _ rfl] at hg; simp at hg
 | _=>exact absurd (hg.symm.trans (hu _ rfl)) (by simp)
theorem VK.asR {E0:Env} {A:aB} {t:TypeId} {v:KV} {u:Value} {j:Nat} (h:VK P E v u) (hg:lF (.arr t) (gK P A (.arr t) v)=true) (hl:La E E0 (Ol P A t v).f j) (cq:(Ol P A t v).ok=true):VK P E0 (Wt j (gK P A (.arr t) v)) u:=by
 rcases acB hg with rfl | ⟨b,n,m,N,es,acc,rfl,hb,he⟩
 ·have:=h.r5; subst this
  exact .XD (.inl ⟨rfl,rfl,rfl⟩)
 ·obtain ⟨tH,hO,e⟩:=YV (P:=P) t .any N es acc
  rw [he,e];have hao:Ol P A t (.al t b 0 n)=⟨ik N n,some b,false⟩:=by simp only [Ol,hb]
  rw [hao] at cq hl;have hN:N=n:=bm cq;subst hN;show VK P E0 (.al t j 0 N) u;rcases h.Bh with ⟨q1,_,q2⟩ | ⟨x,L,M,c,q1,q2⟩
  ·exact .XD (.inl ⟨q1,rfl,q2⟩)
  ·exact .XD (.inr ⟨x,L,M,c,hl b _ rfl q1,q2⟩)
theorem VK.gCD {E0:Env} (hz:E0.z=E.z) {d:CD} {v:KV} {u:Value} (h:VK P E v u) (hg:lF d v=true) (hd:∀ w,d≠.ref w):VK P E0 v u:=by
 cases d with
 | ref w=>exact absurd rfl (hd w)
 | arr t=>exact h.zK (c:=.slice t) hz hg
 | k c=>exact h.zK hz hg
 | lit w=>exact ao2 hg h
 | aZ t=>exact h.zK (c:=.slice t) hz hg
theorem nV {A:aB} : ∀ {ds:List CD} {vs:List KV},vs.length=ds.length->(oE P A ds vs).length=u5 ds
 | [],[],_=>rfl
 | [],_::_,e=>by simp at e
 | _::_,[],e=>by simp at e
 | .k c::ds,v::vs,e=>by simp only [oE,u5]; exact nV (by simpa using e)
 | .lit w::ds,v::vs,e=>by simp only [oE,u5]; exact nV (by simpa using e)
 | .aZ t::ds,v::vs,e=>by simp only [oE,u5,Kg]; rw [nV (by simpa using e)]
 | .arr t::ds,v::vs,e=>by simp only [oE,u5,Kg]; rw [nV (by simpa using e)]
 | .ref w::ds,v::vs,e=>by simp only [oE,u5]; exact nV (by simpa using e)
theorem auw {a b:KV} (h:eqP a b=true):a=b:=by
 unfold eqP at h;split at h
 ·simp only [aD] at h
  rw [bm h.1,bm h.2]
 ·simp at h
theorem ahv:∀ {a b:List KV},ahu a b=true->a=b
 | [],[],_=>rfl
 | [],_::_,h=>by simp [ahu] at h
 | _::_,[],h=>by simp [ahu] at h
 | x::a,y::b,h=>by
  simp only [ahu,aD] at h;rw [auw h.1,ahv h.2]
theorem Wu {a b:KV} (h:UL a b=true):a=b:=by
 unfold UL at h;split at h
 ·simp only [aD] at h
  rw [bm h.1,bm h.2]
 ·simp only [aD] at h
  rw [bm h.1.1,ahv h.1.2,ahv h.2]
 ·simp at h
def Rk (E E0:Env) (nr:Nat) (bs Om:List Nat):Prop:=∀ j x,j < nr->E.κ (bs.getD j 0)=some x->E0.κ (Om.getD j 0)=some x
theorem VK.acy {E0:Env} {nr:Nat} {bs Om:List Nat} (hk:Rk E E0 nr bs Om) {w:KV} {u:Value} (hw:isP nr w=true) (h:VK P E (K.acy bs w) u):VK P E0 (K.acy Om w) u:=by
 cases w <;> simp [isP] at hw;rename_i j o;obtain ⟨x,h1,rfl⟩:=(show VK P E (.ptr (bs.getD j 0) o) u from h).kc;exact .Dz (hk j x hw h1)
theorem bo.Di {E0:Env} {nr:Nat} {bs Om:List Nat} (hk:Rk E E0 nr bs Om):∀ {ws:List KV} {us:List Value},aht nr ws=true->bo P E (K.Di bs ws) us->bo P E0 (K.Di Om ws) us
 | [],us,_,h=>by rw [h.cw]; exact .nil
 | w::ws,us,hw,h=>by
  simp only [aht,aD] at hw;obtain ⟨y,ys,rfl,h1,h2⟩:=bo.cons_inv (show bo P E (K.acy bs w::K.Di bs ws) us from h);exact .cons (VK.acy hk hw.1 h1) (bo.Di hk hw.2 h2)
theorem VK.inst {E0:Env} {nr:Nat} {bs Om:List Nat} (hk:Rk E E0 nr bs Om) {w:KV} {u:Value} (hw:aei nr w=true) (h:VK P E (K.inst bs w) u):VK P E0 (K.inst Om w) u:=by
 cases w with
 | ptr j o=>
  obtain ⟨x,h1,rfl⟩:=(show VK P E (.ptr (bs.getD j 0) o) u from h).kc;exact .Dz (hk j x (by simpa [aei] using hw) h1)
 | fn f first cap=>
  cases f with
  | func f=>
   simp only [aei,aD] at hw;obtain ⟨l,m,rfl,h1,h2⟩:=(show VK P E (.fn (.func f) (K.Di bs first) (K.Di bs cap)) u from h).M9;exact .amH (bo.Di hk hw.1 h1) (bo.Di hk hw.2 h2)
  | _=>simp [aei] at hw
 | _=>simp [aei] at hw
def sL (E E0:Env) (l:List FI) (j:Nat):Prop:=∀ (i:Nat) fi,l[i]? = some fi->fi.ok=true/\(fi.fm=true->Lk E E0 fi.f (j+i))/\La E E0 fi.f (j+i)
theorem sL.left {E0:Env} {l m:List FI} {j:Nat} (h:sL E E0 (l++m) j):sL E E0 l j:=fun i fi e=>h i fi (by rw [ue (dD.1 e).1]; exact e)
theorem sL.right {E0:Env} {l m:List FI} {j:Nat} (h:sL E E0 (l++m) j):sL E E0 m (j+l.length):=fun i fi e=>by
 have:=h (l.length+i) fi (by rw [vU (by omega)]; simpa using e);rw [HL]; exact this
theorem sL.head {E0:Env} {x:FI} {l:List FI} {j:Nat} (h:sL E E0 (x::l) j):x.ok=true/\(x.fm=true->Lk E E0 x.f j)/\La E E0 x.f j:=h 0 x rfl
theorem sL.tail {E0:Env} {x:FI} {l:List FI} {j:Nat} (h:sL E E0 (x::l) j):sL E E0 l (j+1):=fun i fi e=>by
 have:=h (i+1) fi (by simpa using e);rw [show j+1+i=j+(i+1) by omega]; exact this
theorem bo.cellsIn {E0:Env} (hz:E0.z=E.z) {A:aB} {nr:Nat} {bs Om:List Nat} (hk:Rk E E0 nr bs Om):∀ {ds:List CD} {vs:List KV} {us:List Value} {j:Nat},bo P E vs us->vs.length=ds.length->eF ds (gL P A ds vs)=true->sL E E0 (oE P A ds vs) j->Jf nr bs ds vs=true->bo P E0 (uA j Om ds (gL P A ds vs)) us
 | [],[],us,j,h,_,_,_,_=>by rw [h.cw]; exact .nil
 | [],_::_,_,_,_,e,_,_,_=>by simp at e
 | _::_,[],_,_,_,e,_,_,_=>by simp at e
 | d::ds,v::vs,us,j,h,e,hg,hf,hr=>by
  simp only [gL,eF,aD] at hg;obtain ⟨y,ys,rfl,h1,h2⟩:=h.cons_inv;have e' : vs.length=ds.length:=by simpa using e
  cases d with
  | k c=>exact .cons ((h1.nCD (by simp) (by simp)).gCD (d:=.k c) hz hg.1 (by simp)) (bo.cellsIn hz hk h2 e' hg.2 hf hr)
  | lit w=>exact .cons ((h1.nCD (by simp) (by simp)).gCD (d:=.lit w) hz hg.1 (by simp)) (bo.cellsIn hz hk h2 e' hg.2 hf hr)
  | aZ t=>exact .cons (h1.aqp hz hg.1 (hf.head.2.1 (akc ..)) hf.head.1) (bo.cellsIn hz hk h2 e' hg.2 hf.tail hr)
  | arr t=>exact .cons (h1.asR hg.1 hf.head.2.2 hf.head.1) (bo.cellsIn hz hk h2 e' hg.2 hf.tail hr)
  | ref w=>
   simp only [Jf,aD] at hr;exact .cons (VK.inst hk hr.1 (by rw [Wu hr.2.1]; exact h1)) (bo.cellsIn hz hk h2 e' hg.2 hf hr.2.2)
theorem alu {ds:List CD} {v:KV} (h:eF ds [v] = true):∃ d,ds = [d]/\lF d v=true:=by
 cases ds with
 | nil=>simp [eF] at h
 | cons d ds=>
  simp only [eF,aD] at h;cases ds with
  | nil=>exact ⟨d,rfl,h.1⟩
  | cons e ds=>simp [eF] at h
theorem CZ {d:VD} {v:KV} (h:Bi d v=true):(∃ cs,v = .agg cs/\d.agg=true/\eF d.ks cs=true)\/((∀ cs,v≠.agg cs)/\d.agg=false/\∃ c,d.ks = [c]/\lF c v=true):=by
 by_cases ha:∃ cs,v = .agg cs
 ·obtain ⟨cs,rfl⟩:=ha
  simp only [Bi,aD] at h;exact .inl ⟨cs,rfl,h.1,h.2⟩
 ·have h:(!d.agg&&eF d.ks [v])=true:=by
   cases v <;> first | exact h | exact absurd ⟨_,rfl⟩ ha
  simp only [aD,nD] at h;exact .inr ⟨fun cs e=>ha ⟨cs,e⟩,h.1,alu h.2⟩
theorem C0 {A:aB} {d:VD} {v:KV} (h:Bi d (zl P A d v)=true):(∃ cs,v = .agg cs/\cs.length=d.ks.length/\zl P A d v = .agg (gL P A d.ks cs)/\eF d.ks (gL P A d.ks cs)=true)\/
  ((∀ cs,v≠.agg cs)/\∃ c,d.ks = [c]/\zl P A d v=gK P A c v/\lF c (gK P A c v)=true/\v.cells = [v]/\(∀ cs,gK P A c v≠.agg cs)):=by
 have asS:Bi d .bG=false:=by
  cases hb:Bi d .bG with
  | false=>rfl
  | true=>
   rcases CZ hb with ⟨cs,e,_⟩ | ⟨_,_,c,_,hc⟩
   ·simp at e
   ·cases c with
    | k c=>cases c <;> simp [lF,kindOk] at hc
    | lit w=>cases w <;> first | (simp [lF,z8] at hc; done) | (rename_i f a b; cases f <;> cases a <;> cases b <;> simp [lF,z8] at hc)
    | aZ t=>simp [lF,kindOk] at hc
    | arr t=>simp [lF,kindOk] at hc
    | ref w=>
     have hc:UL w .bG=true:=hc;have:=Wu hc;subst this;simp [UL] at hc
 by_cases ha:∃ cs,v = .agg cs
 ·obtain ⟨cs,rfl⟩:=ha
  have e:zl P A d (.agg cs)=cond (d.agg&&Nat.beq cs.length d.ks.length) (.agg (gL P A d.ks cs)) .bG:=rfl;cases hb:(d.agg&&Nat.beq cs.length d.ks.length) with
  | false=>rw [e,hb,aw,asS] at h; simp at h
  | true=>
   rw [e,hb,ai] at h;simp only [aD] at hb;simp only [Bi,aD] at h;exact .inl ⟨cs,rfl,bm hb.2,by rw [e]; simp only [hb.1,hb.2,bD,ai],h.2⟩
 ·have e:zl P A d v=cond d.agg .bG (match d.ks with | [c]=>gK P A c v | _=>.bG):=by
   cases v <;> first | rfl | exact absurd ⟨_,rfl⟩ ha
  have Ba:v.cells = [v]:=by cases v <;> first | rfl | exact absurd ⟨_,rfl⟩ ha
  cases DA:d.agg with
  | true=>rw [e,DA,ai,asS] at h; simp at h
  | false=>
   rw [DA,aw] at e;rw [e] at h;split at h
   ·rename_i c hc
    rw [hc] at e;simp only at e;rcases CZ h with ⟨cs,e2,h2,_⟩ | ⟨h1,_,c',h2,h3⟩
    ·rw [DA] at h2; simp at h2
    ·rw [hc] at h2
     simp only [List.cons.injEq,and_true] at h2;subst h2;exact .inr ⟨fun cs ec=>ha ⟨cs,ec⟩,c,hc,e,h3,Ba,h1⟩
   ·rw [asS] at h; simp at h
theorem Nh {A:aB} {d:VD} {v:KV} (h:Bi d (zl P A d v)=true):v.cells.length=d.ks.length:=by
 rcases C0 h with ⟨cs,rfl,h1,_⟩ | ⟨_,c,h1,_,_,h2,_⟩
 ·exact h1
 ·rw [h1,h2]; rfl
theorem VK.awK {E0:Env} (hz:E0.z=E.z) {A:aB} {nr:Nat} {bs Om:List Nat} (hk:Rk E E0 nr bs Om) {d:VD} {v:KV} {u:Value} {j:Nat} (h:VK P E v u) (hg:Bi d (zl P A d v)=true) (hf:sL E E0 (oE P A d.ks v.cells) j) (hr:Jf nr bs d.ks v.cells=true):VK P E0 (aek j Om d (zl P A d v)) u:=by
 rcases C0 hg with ⟨cs,rfl,h1,h2,h3⟩ | ⟨h0,c,h1,h2,h3,h4,h5⟩
 ·rw [h2]
  obtain ⟨l,rfl,k⟩:=h.pG;exact .tD (bo.cellsIn hz hk k h1 h3 hf hr)
 ·rw [h2]
  have e:aek j Om d (gK P A c v)=(match d.ks with | [.aZ _]=>RM j (gK P A c v) | [.arr _]=>Wt j (gK P A c v) | [.ref w]=>K.inst Om w | _=>gK P A c v):=by
   generalize gK P A c v=w at h5;cases w <;> first | rfl | exact absurd rfl (h5 _)
  rw [e,h1];rw [h1,h4] at hf hr;cases c with
  | k c=>exact (h.nCD (by simp) (by simp)).gCD (d:=.k c) hz h3 (by simp)
  | lit w=>exact (h.nCD (by simp) (by simp)).gCD (d:=.lit w) hz h3 (by simp)
  | aZ t=>exact h.aqp hz h3 (hf.head.2.1 (akc ..)) hf.head.1
  | arr t=>exact h.asR h3 hf.head.2.2 hf.head.1
  | ref w=>
   simp only [Jf,aD] at hr;exact VK.inst hk hr.1 (by rw [Wu hr.2.1]; exact h)
theorem VK.acn {A:aB} {nr:Nat} {bs:List Nat} {d:VD} {t:bL} {i:Tmp} (h:Bi d (zl P A d (valOf t i))=true) (hr:Jf nr bs d.ks (valOf t i).cells=true):∃ v,t.get i=some v:=by
 cases hg:t.get i with
 | some v=>exact ⟨v,rfl⟩
 | none=>
  exfalso;have e:valOf t i = .bG:=by simp [valOf,hg]
  rw [e] at h hr;rcases C0 h with ⟨cs,e2,_⟩ | ⟨_,c,wx,_,h3,_,_⟩
  ·simp at e2
  ·cases c with
   | ref w=>
    rw [wx] at hr;have hr:(aei nr w&&(UL (K.inst bs w) .bG&&true))=true:=hr;simp only [aD] at hr;have h1:=hr.2.1;have:=Wu h1;rw [this] at h1;simp [UL] at h1
   | k c=>
    have h4:kindOk c (K.qq c .bG)=false:=by cases c <;> rfl
    have h5:gK P A (.k c) .bG = .bG:=by
     show cond (kindOk c (K.qq c .bG)) (K.eJ P iU (leaf c (K.qq c .bG))) KV.bG=KV.bG;rw [h4]; rfl
    rw [h5] at h3;cases c <;> simp [lF,kindOk] at h3
   | lit w=>cases w <;> first | (simp [gK,lF,z8] at h3; done) | (rename_i f a b; cases f <;> cases a <;> cases b <;> simp [gK,lF,z8] at h3)
   | aZ t=>simp [gK,lF,kindOk] at h3
   | arr t=>exact absurd h3 (by simp [gK,UM,ao4,lF,kindOk])
end Go.K
end
section
namespace Go.K
open Go Go.aF
variable {P:Program} {E:Env}
theorem ahw:∀ {bs:List Nat},Bj bs=true->∀ (i j b:Nat),bs[i]? = some b->bs[j]? = some b->i=j
 | [],_,i,j,b,hi,_=>by simp at hi
 | a::bs,h,i,j,b,hi,hj=>by
  simp only [Bj,aD,iu,nD] at h;cases i with
  | zero=>
   cases j with
   | zero=>rfl
   | succ j=>
    simp at hi hj; subst hi;have:=h.1 a (jj hj);exact absurd (mK a) (by rw [this]; simp)
  | succ i=>
   cases j with
   | zero=>
    simp at hi hj; subst hj;have:=h.1 a (jj hi);exact absurd (mK a) (by rw [this]; simp)
   | succ j=>
    simp at hi hj;rw [ahw h.2 i j b hi hj]
theorem Aa:∀ {l:List (Option Nat)} {f:Nat},f∈lQ l↔some f∈l
 | [],f=>by simp [lQ]
 | some g::l,f=>by simp [lQ,Aa (l:=l)]
 | none::l,f=>by simp [lQ,Aa (l:=l)]
theorem Bk:∀ {l:List (Option Nat)},Bj (lQ l)=true->∀ (i j f:Nat),l[i]? = some (some f)->l[j]? = some (some f)->i=j
 | [],_,i,j,b,hi,_=>by simp at hi
 | none::l,h,i,j,f,hi,hj=>by
  cases i with
  | zero=>simp at hi
  | succ i=>
   cases j with
   | zero=>simp at hj
   | succ j=>
    simp at hi hj;rw [Bk (l:=l) h i j f hi hj]
 | some g::l,h,i,j,f,hi,hj=>by
  simp only [lQ,Bj,aD,iu,nD] at h;have key:∀ {k:Nat},l[k]? = some (some g)->False:=by
   intro k hk;have:=h.1 g (Aa.2 (jj hk));exact absurd (mK g) (by rw [this]; simp)
  cases i with
  | zero=>
   cases j with
   | zero=>rfl
   | succ j=>
    simp at hi hj; subst hi;exact (key hj).elim
  | succ i=>
   cases j with
   | zero=>
    simp at hi hj; subst hj;exact (key hi).elim
   | succ j=>
    simp at hi hj;rw [Bk (l:=l) h.2 i j f hi hj]
theorem RN:∀ {l:List FI} {i:Nat} {x:FI},l[i]? = some x->(RL l)[i]? = some x.f
 | [],_,_,h=>by simp at h
 | y::l,0,x,h=>by simp at h; subst h; rfl
 | y::l,i+1,x,h=>by simp at h; simpa [RL] using RN h
theorem vC:∀ {l:List FI},(RL l).length=l.length
 | []=>rfl
 | y::l=>by simp [RL,vC]
theorem YW:∀ {l:List FI},acz l=true->∀ x∈l,x.ok=true
 | [],_,x,h=>by simp at h
 | y::l,h,x,hx=>by
  simp only [acz] at h;cases hl:acz l with
  | false=>rw [hl] at h; simp at h
  | true=>
   rw [hl,ai] at h;rcases fp.1 hx with rfl | hx
   ·exact h
   ·exact YW hl x hx
theorem iC:∀ (l:List lg) (A:aB),(wI A l).next=A.next+l.length
 | [],_=>rfl
 | p::l,A=>by rw [wI,iC l]; simp; omega
theorem Kt:∀ {l:List lg} {A:aB} {x:Nat},x < A.next->(wI A l).get x=A.get x
 | [],_,_,_=>rfl
 | p::l,A,x,h=>by rw [wI,Kt (by simp; omega),aB.dQ,ay (by omega)]
theorem UO:∀ {l:List lg} {A:aB} {i:Nat} {p:lg},l[i]? = some p->(wI A l).get (A.next+i)=some p
 | [],_,_,_,h=>by simp at h
 | q::l,A,0,p,h=>by
  simp at h; subst h;rw [wI,zh,Kt (by simp),aB.dQ,aV rfl]
 | q::l,A,i+1,p,h=>by
  simp at h;have:=UO (A:=A.new q) h;rw [aB.cD] at this;rw [wI,show A.next+(i+1)=A.next+1+i by omega];exact this
theorem aas:∀ {l:List lg} {A:aB} {x:Nat} {o:lg},(wI A l).get x=some o->(A.get x=some o/\x < A.next+l.length)\/(x < A.next/\A.get x=some o)\/(∃ i p,x=A.next+i/\l[i]? = some p/\o=p)\/A.get x=some o
 | [],_,_,_,h=>.inr (.inr (.inr h))
 | p::l,A,x,o,h=>by
  rw [wI] at h;have key:(A.new p).get x=some o->(∃ i q,x=A.next+i/\(p::l)[i]? = some q/\o=q)\/A.get x=some o:=by
   intro h;rw [aB.dQ] at h;split at h
   ·rename_i e; simp at h; exact .inl ⟨0,p,by omega,rfl,h.symm⟩
   ·exact .inr h
  rcases aas h with ⟨h,_⟩ | ⟨_,h⟩ | ⟨i,q,e,h1,h2⟩ | h
  ·exact .inr (.inr (key h))
  ·exact .inr (.inr (key h))
  ·exact .inr (.inr (.inl ⟨i+1,q,by rw [e]; simp; omega,by simpa using h1,h2⟩))
  ·exact .inr (.inr (key h))
theorem aat {l:List lg} {A:aB} {x:Nat} {o:lg} (h:(wI A l).get x=some o):A.get x=some o\/∃ i p,x=A.next+i/\l[i]? = some p/\o=p:=by
 rcases aas h with ⟨h,_⟩ | ⟨_,h⟩ | h | h
 ·exact .inl h
 ·exact .inl h
 ·exact .inr h
 ·exact .inl h
theorem Ni:∀ (l:List (Option Nat)) (A:aB),(DK A l).next=A.next
 | [],_=>rfl
 | some f::l,A=>by rw [DK,Ni l]; rfl
 | none::l,A=>by rw [DK,Ni l]
theorem LB:∀ {l:List (Option Nat)} {A:aB} {x:Nat},(DK A l).get x=if x∈lQ l then some .dead else A.get x
 | [],A,x=>by simp [DK,lQ]
 | none::l,A,x=>by rw [DK,LB,lQ]
 | some f::l,A,x=>by
  rw [DK,LB,lQ,aB.cr];by_cases h1:x∈lQ l
  ·rw [aV h1,aV (vV _ h1)]
  ·rw [ay h1]
   by_cases h2:x=f
   ·rw [aV h2,aV (by simp [h2])]
   ·rw [ay h2,ay (by simp [h1,h2])]
theorem YX:∀ (bs:List Nat) (ps:List (Tmp×List CD×Nat)) (rs:List (List KV)) (A:aB),(rM A bs ps rs).next=A.next
 | [],_,_,_=>rfl
 | _::_,[],_,_=>rfl
 | _::_,_::_,[],_=>rfl
 | b::bs,p::ps,r::rs,A=>by rw [rM,YX bs ps rs]; rfl
theorem UQ:∀ {bs:List Nat} {ps:List (Tmp×List CD×Nat)} {rs:List (List KV)} {A:aB} {x:Nat},x ∉ bs->(rM A bs ps rs).get x=A.get x
 | [],_,_,_,_,_=>rfl
 | _::_,[],_,_,_,_=>rfl
 | _::_,_::_,[],_,_,_=>rfl
 | b::bs,p::ps,r::rs,A,x,h=>by
  simp only [fp,not_or] at h;rw [rM,UQ h.2,aB.cr,ay h.1]
theorem anl:∀ {bs:List Nat} {ps:List (Tmp×List CD×Nat)} {rs:List (List KV)} {A:aB} {k b:Nat} {p:Tmp×List CD×Nat} {r:List KV},Bj bs=true->bs[k]? = some b->ps[k]? = some p->rs[k]? = some r->(rM A bs ps rs).get b=some (.row r p.2.2)
 | [],_,_,_,_,_,_,_,_,h,_,_=>by simp at h
 | _::_,[],_,_,_,_,_,_,_,_,h,_=>by simp at h
 | _::_,_::_,[],_,_,_,_,_,_,_,_,h=>by simp at h
 | b::bs,p::ps,r::rs,A,k,x,p',r',hn,hb,hp,hr=>by
  have Rc:=hn;simp only [Bj,aD] at hn;cases k with
  | zero=>
   simp at hb hp hr;subst hb hp hr;rw [rM,UQ,aB.cr,aV rfl];intro hm;have:=iu.1 hn.1 b hm;simp at this
  | succ k=>
   simp only [Wb] at hb hp hr;rw [rM];exact anl hn.2 hb hp hr
theorem ake:∀ {ps:List (Tmp×List CD×Nat)} {rs:List (List KV)} {A:aB},rs.length=ps.length->(u6 A ps rs).next=A.next+ps.length
 | [],[],_,_=>rfl
 | [],_::_,_,h=>by simp at h
 | _::_,[],_,h=>by simp at h
 | p::ps,r::rs,A,h=>by rw [u6,ake (by simpa using h)]; simp; omega
theorem anm:∀ {ps:List (Tmp×List CD×Nat)} {rs:List (List KV)} {A:aB} {x:Nat},x < A.next->(u6 A ps rs).get x=A.get x
 | [],_,_,_,_=>rfl
 | _::_,[],_,_,_=>rfl
 | p::ps,r::rs,A,x,h=>by rw [u6,anm (by simp; omega),aB.dQ,ay (by omega)]
theorem aqq:∀ {ps:List (Tmp×List CD×Nat)} {rs:List (List KV)} {A:aB} {k:Nat} {p:Tmp×List CD×Nat} {r:List KV},ps[k]? = some p->rs[k]? = some r->(u6 A ps rs).get (A.next+k)=some (.row r p.2.2)
 | [],_,_,_,_,_,h,_=>by simp at h
 | _::_,[],_,_,_,_,_,h=>by simp at h
 | p::ps,r::rs,A,k,p',r',hp,hr=>by
  cases k with
  | zero=>
   simp at hp hr; subst hp hr;rw [u6,zh,anm (by simp),aB.dQ,aV rfl]
  | succ k=>
   simp only [Wb] at hp hr;have:=aqq (A:=A.new (.row r p.2.2)) hp hr;rw [u6];simpa [Nat.add_comm,Nat.add_left_comm] using this
theorem ann:∀ {ps:List (Tmp×List CD×Nat)} {rs:List (List KV)} {A:aB} {x:Nat} {o:lg},(u6 A ps rs).get x=some o->A.get x=some o\/∃ k p r,x=A.next+k/\ps[k]? = some p/\rs[k]? = some r/\o = .row r p.2.2
 | [],_,_,_,_,h=>.inl h
 | _::_,[],_,_,_,h=>.inl h
 | p::ps,r::rs,A,x,o,h=>by
  rw [u6] at h;rcases ann h with h | ⟨k,p',r',rfl,h1,h2,h3⟩
  ·rw [aB.dQ] at h
   by_cases e:x=A.next
   ·rw [aV e] at h; simp at h
    exact .inr ⟨0,p,r,by omega,rfl,rfl,h.symm⟩
   ·rw [ay e] at h; exact .inl h
  ·exact .inr ⟨k+1,p',r',by simp; omega,by simpa using h1,by simpa using h2,h3⟩
theorem akf:∀ (n:Nat) (l:List Nat) (k:Nat),(upto n l)[k]? = if k < n then some k else l[k - n]?
 | 0,l,k=>by simp [upto]
 | n+1,l,k=>by
  rw [upto,akf n];by_cases h:k < n
  ·rw [aV h,aV (by omega)]
  ·rw [ay h]
   by_cases h2:k=n
   ·subst h2
    rw [aV (by omega)];simp
   ·rw [ay (by omega),show k - n=(k - (n+1))+1 by omega]
    simp
theorem PH (S:aQ) (k:Nat) (h:k < S.rows.length):S.ids[k]? = some k:=by rw [aQ.ids,akf,aV h]
theorem UR:∀ {a b:List Nat},z9 a b=true->a=b
 | [],[],_=>rfl
 | [],_::_,h=>by simp [z9] at h
 | _::_,[],h=>by simp [z9] at h
 | x::a,y::b,h=>by
  simp only [z9,aD] at h;rw [bm h.1,UR h.2]
theorem Nj {t:bL} {A:aB} {p:Tmp×List CD×Nat} (h:(rowOf t A p).isSome=true):∃ b cs,A.get b=some (.row cs p.2.2)/\cs.length=p.2.1.length/\aqo t A p=b/\Ng t A p=cs:=by
 unfold rowOf at h;split at h
 ·rename_i b hb
  split at h
  ·rename_i cs e hr
   cases hc:(Nat.beq e p.2.2&&Nat.beq cs.length p.2.1.length) with
   | false=>rw [hc] at h; simp at h
   | true=>
    have hro:rowOf t A p=some (b,cs):=by simp only [rowOf,hb,hr,hc,ai]
    simp only [aD] at hc;have he:=bm hc.1;subst he;exact ⟨b,cs,hr,bm hc.2,by simp [aqo,hro],by simp [Ng,hro]⟩
  ·simp at h
 ·simp at h
structure eG (P:Program) (S:aQ) (t:bL) (A:aB) (g:GR):Prop where
 rows:Dj P t A S.rows=true
 nodup:Bj g.bs=true
 aej:Ws t g.bs S.aej=true
 eI:jE S.eI g.vs=true
 af4:Bj (lQ g.fs)=true
 avc:UN S.rows.length g.bs t S.eI=true
 avd:acA S.rows.length g.bs t A S.rows=true
 zi:acz (S.WW P t A)=true
 bs:g.bs=DH t A S.rows
 fs:g.fs=RL (S.WW P t A)
 vs:g.vs=tL P t A S.eI
 rs:g.rs=Oj P t A S.rows
theorem PI {S:aQ} {t:bL} {A:aB} (h:(S.gV P t A).ok=true):eG P S t A (S.gV P t A):=by
 unfold aQ.gV at h ⊢;simp only at h ⊢;cases hc:(Dj P t A S.rows&&Bj (DH t A S.rows)&&Ws t (DH t A S.rows) S.aej&&jE S.eI (tL P t A S.eI)&&Bj (lQ (RL (S.WW P t A)))&&UN S.rows.length (DH t A S.rows) t S.eI&&acA S.rows.length (DH t A S.rows) t A S.rows) with
 | false=>rw [hc] at h; simp at h
 | true=>
  rw [hc,ai] at h;simp only [aD] at hc;exact ⟨hc.1.1.1.1.1.1,hc.1.1.1.1.1.2,hc.1.1.1.1.2,hc.1.1.1.2,hc.1.1.2,hc.1.2,hc.2,h,rfl,rfl,rfl,rfl⟩
theorem ahx {t:bL} {A:aB} : ∀ {ps:List (Tmp×List CD×Nat)} {k:Nat} {p:Tmp×List CD×Nat},ps[k]? = some p->(DH t A ps)[k]? = some (aqo t A p)
 | [],_,_,h=>by simp at h
 | p::ps,0,q,h=>by simp at h; subst h; rfl
 | p::ps,k+1,q,h=>by simp at h; simpa [DH] using ahx h
theorem HY {t:bL} {A:aB} : ∀ {ps:List (Tmp×List CD×Nat)},(DH t A ps).length=ps.length
 | []=>rfl
 | p::ps=>by simp [DH,HY]
theorem XR {t:bL} {A:aB} : ∀ {ps:List (Tmp×List CD×Nat)},(Oj P t A ps).length=ps.length
 | []=>rfl
 | p::ps=>by simp [Oj,XR]
theorem aen {t:bL} {A:aB} : ∀ {ps:List (Tmp×List CD×Nat)},Dj P t A ps=true->∀ {k:Nat} {p:Tmp×List CD×Nat},ps[k]? = some p->(rowOf t A p).isSome=true/\eF p.2.1 (gL P A p.2.1 (Ng t A p))=true
 | [],_,k,p,h=>by simp at h
 | q::ps,h,k,p,hp=>by
  simp only [Dj,aD] at h;cases k with
  | zero=>simp at hp; subst hp; exact ⟨h.1,h.2.1⟩
  | succ k=>simp at hp; exact aen h.2.2 hp
theorem aau:∀ {ps:List (Tmp×List CD×Nat)} {rs:List (List KV)},rs.length=ps.length->∀ (j:Nat) (bs:List Nat),(aem j bs ps rs).length=ps.length
 | [],[],_,_,_=>rfl
 | [],_::_,h,_,_=>by simp at h
 | _::_,[],h,_,_=>by simp at h
 | p::ps,r::rs,h,j,bs=>by simp [aem,aau (by simpa using h)]
def Ek (j:Nat):List (Tmp×List CD×Nat)->Nat->Nat
 | [],_=>j
 | _::_,0=>j
 | p::ps,k+1=>Ek (j+u5 p.2.1) ps k
theorem Wv {bs:List Nat} : ∀ {ps:List (Tmp×List CD×Nat)} {rs:List (List KV)} {j k:Nat} {p:Tmp×List CD×Nat} {r:List KV},ps[k]? = some p->rs[k]? = some r->(aem j bs ps rs)[k]? = some (uA (Ek j ps k) bs p.2.1 r)
 | [],_,_,_,_,_,h,_=>by simp at h
 | _::_,[],_,_,_,_,_,h=>by simp at h
 | p::ps,r::rs,j,0,p',r',h1,h2=>by simp at h1 h2; subst h1 h2; rfl
 | p::ps,r::rs,j,k+1,p',r',h1,h2=>by
  simp at h1 h2;simp only [aem,Wb];exact Wv h1 h2
theorem ahy {E0:Env} {t:bL} {A:aB} : ∀ {ps:List (Tmp×List CD×Nat)} {j:Nat},Dj P t A ps=true->sL E E0 (Lz P t A ps) j->∀ {k:Nat} {p:Tmp×List CD×Nat},ps[k]? = some p->sL E E0 (oE P A p.2.1 (Ng t A p)) (Ek j ps k)
 | [],_,_,_,_,_,h=>by simp at h
 | q::ps,j,hr,hf,k,p,hp=>by
  simp only [Dj,aD] at hr;obtain ⟨b,cs,_,hl,_,hC⟩:=Nj hr.1;cases k with
  | zero=>simp at hp; subst hp; exact hf.left
  | succ k=>
   simp at hp;have:=hf.right;rw [nV (by rw [hC]; exact hl)] at this;exact ahy hr.2.2 this hp
theorem HZ {t:bL} {A:aB} : ∀ {ps:List (Tmp×VD)},jE ps (tL P t A ps)=true->(Je P t A ps).length=qM ps
 | [],_=>rfl
 | p::ps,h=>by
  simp only [tL,jE,aD] at h;simp only [Je,qM,n7];rw [nV (Nh h.1),HZ h.2]
def PJ (P:Program) (A:aB) (x:FI) (q:lg):Prop:=
 (∃ n sz,q = .aZ n sz/\((x.f=none/\n=0)\/∃ f,x.f=some f/\A.get f=some (.aZ n sz)))\/
 ∃ t v,q = .arr v/\((x.f=none/\1<=bp P t/\v=K.eJ P iU (.ts t .any 0 [] pI))\/∃ f m N es acc,x.f=some f/\A.get f=some (.arr (.ts t m N es acc))/\v=K.eJ P iU (.ts t .any N es acc))
theorem asT {A:aB} {t:TypeId} {v:KV} (cq:(Ol P A t v).ok=true) (hg:lF (.arr t) (gK P A (.arr t) v)=true):PJ P A (Ol P A t v) (.arr (gK P A (.arr t) v)):=by
 rcases acB hg with rfl | ⟨b,n,m,N,es,acc,rfl,hb,he⟩
 ·exact .inr ⟨t,_,rfl,.inl ⟨rfl,gD cq,rfl⟩⟩
 ·refine .inr ⟨t,_,rfl,.inr ⟨b,m,N,es,acc,?_,hb,he⟩⟩
  simp only [Ol,hb]
theorem asU {A:aB} {t:TypeId} {v:KV} (cq:(xW P A t v).ok=true) (hg:lF (.aZ t) (gK P A (.aZ t) v)=true):PJ P A (xW P A t v) (.aZ (lenOf (gK P A (.aZ t) v)) (szL P t)):=by
 refine .inl ⟨_,_,rfl,?_⟩;cases v with
 | nS=>exact .inl ⟨rfl,rfl⟩
 | ts t' m n es acc=>
  cases m with
  | aZ f=>
   have e1:gK P A (.aZ t) (.ts t' (.aZ f) n es acc)=cond (Nat.beq t t') (K.eJ P iU (.ts t .any n es acc)) .bG:=rfl;rw [e1] at hg ⊢;cases hb:Nat.beq t t' with
   | false=>rw [hb] at hg; simp [lF,kindOk] at hg
   | true=>
    rw [ai];refine .inr ⟨f,?_,?_⟩
    ·revert cq
     unfold xW;simp only;split
     ·intro _; rfl
     ·intro cq; simp at cq
    ·revert cq
     unfold xW;simp only;split
     ·rename_i top sz he
      intro cq;simp only at cq;cases hs:Nat.beq sz (szL P t) with
      | false=>rw [hs] at cq; simp at cq
      | true=>
       rw [hs,ai] at cq;have h1:=bm hs;have h2:=bm (show Nat.beq top n=true from cq);subst h1 h2;exact he
     ·intro cq; simp at cq
  | any=>simp [xW] at cq
  | exact=>simp [xW] at cq
 | _=>simp [xW] at cq
theorem Ab {A:aB} : ∀ {ds:List CD} {vs:List KV} {i:Nat} {x:FI},vs.length=ds.length->eF ds (gL P A ds vs)=true->(oE P A ds vs)[i]? = some x->x.ok=true->∃ q,(sK P ds (gL P A ds vs))[i]? = some q/\PJ P A x q
 | [],[],_,_,_,_,h,_=>by simp [oE] at h
 | [],_::_,_,_,e,_,_,_=>by simp at e
 | _::_,[],_,_,e,_,_,_=>by simp at e
 | .k c::ds,v::vs,i,x,e,hg,h,cq=>by
  simp only [gL,eF,aD] at hg;have h' : (oE P A ds vs)[i]? = some x:=h;exact Ab (ds:=ds) (vs:=vs) (by simpa using e) hg.2 h' cq
 | .lit c::ds,v::vs,i,x,e,hg,h,cq=>by
  simp only [gL,eF,aD] at hg;have h' : (oE P A ds vs)[i]? = some x:=h;exact Ab (ds:=ds) (vs:=vs) (by simpa using e) hg.2 h' cq
 | .ref c::ds,v::vs,i,x,e,hg,h,cq=>by
  simp only [gL,eF,aD] at hg;have h' : (oE P A ds vs)[i]? = some x:=h;exact Ab (ds:=ds) (vs:=vs) (by simpa using e) hg.2 h' cq
 | .aZ t::ds,v::vs,i,x,e,hg,h,cq=>by
  simp only [gL,eF,aD] at hg;cases i with
  | zero=>
   simp [oE] at h;subst h;exact ⟨_,rfl,asU cq hg.1⟩
  | succ i=>
   simp [oE] at h;obtain ⟨q,h1,h2⟩:=Ab (by simpa using e) hg.2 h cq;exact ⟨q,by simpa [sK,gL] using h1,h2⟩
 | .arr t::ds,v::vs,i,x,e,hg,h,cq=>by
  simp only [gL,eF,aD] at hg;cases i with
  | zero=>
   simp [oE] at h;subst h;exact ⟨_,rfl,asT cq hg.1⟩
  | succ i=>
   simp [oE] at h;obtain ⟨q,h1,h2⟩:=Ab (by simpa using e) hg.2 h cq;exact ⟨q,by simpa [sK,gL] using h1,h2⟩
theorem rm:∀ {ds:List CD} {vs:List KV},vs.length=ds.length->(sK P ds vs).length=u5 ds
 | [],[],_=>rfl
 | [],_::_,e=>by simp at e
 | _::_,[],e=>by simp at e
 | .k c::ds,v::vs,e=>by simp only [sK,u5]; exact rm (by simpa using e)
 | .lit w::ds,v::vs,e=>by simp only [sK,u5]; exact rm (by simpa using e)
 | .ref w::ds,v::vs,e=>by simp only [sK,u5]; exact rm (by simpa using e)
 | .aZ t::ds,v::vs,e=>by simp only [sK,u5,Kg]; rw [rm (by simpa using e)]
 | .arr t::ds,v::vs,e=>by simp only [sK,u5,Kg]; rw [rm (by simpa using e)]
theorem Ku:∀ {ds:List CD} {vs:List KV},eF ds vs=true->vs.length=ds.length
 | [],[],_=>rfl
 | [],_::_,h=>by simp [eF] at h
 | _::_,[],h=>by simp [eF] at h
 | d::ds,v::vs,h=>by
  simp only [eF,aD] at h;simp [Ku h.2]
theorem aeo {d:VD} {v:KV} (h:Bi d v=true):v.cells.length=d.ks.length:=by
 rcases CZ h with ⟨cs,rfl,_,h1⟩ | ⟨h0,_,c,h1,_⟩
 ·exact Ku h1
 ·have:v.cells = [v]:=by cases v <;> first | rfl | exact absurd rfl (h0 _)
  rw [this,h1]; rfl
theorem H0:∀ {ps:List (Tmp×VD)} {vs:List KV},jE ps vs=true->(Ce P ps vs).length=qM ps
 | [],[],_=>rfl
 | [],_::_,h=>by simp [jE] at h
 | _::_,[],h=>by simp [jE] at h
 | p::ps,v::vs,h=>by
  simp only [jE,aD] at h;simp only [Ce,qM,n7];rw [rm (aeo h.1),H0 h.2]
theorem aep {t:bL} {A:aB} : ∀ {ps:List (Tmp×VD)} {i:Nat} {x:FI},jE ps (tL P t A ps)=true->(Je P t A ps)[i]? = some x->x.ok=true->∃ p,(Ce P ps (tL P t A ps))[i]? = some p/\PJ P A x p
 | [],_,_,_,h,_=>by simp [Je] at h
 | p::ps,i,x,hg,h,cq=>by
  simp only [tL,jE,aD] at hg;simp only [Je] at h;have hl:=Nh hg.1;by_cases hi:i < (oE P A p.2.ks (valOf t p.1).cells).length
  ·rw [ue hi] at h
   have hg' : eF p.2.ks (gL P A p.2.ks (valOf t p.1).cells)=true/\(zl P A p.2 (valOf t p.1)).cells=gL P A p.2.ks (valOf t p.1).cells:=by
    rcases C0 hg.1 with ⟨cs,e,_,h2,h3⟩ | ⟨_,c,h1,h2,h3,h4,h5⟩
    ·rw [e] at h2 ⊢; exact ⟨h3,by rw [h2]; rfl⟩
    ·rw [h4,h1]
     refine ⟨by simp [gL,eF,h3],?_⟩;rw [h2];show (gK P A c (valOf t p.1)).cells = [gK P A c (valOf t p.1)];generalize gK P A c (valOf t p.1)=w at h5 ⊢;cases w <;> first | rfl | exact absurd rfl (h5 _)
   obtain ⟨q,h2,h3⟩:=Ab hl hg'.1 h cq;refine ⟨q,?_,h3⟩;simp only [tL,Ce];rw [hg'.2,ue (dD.1 h2).1];exact h2
  ·rw [vU (by omega)] at h
   obtain ⟨q,h1,h2⟩:=aep hg.2 h cq;refine ⟨q,?_,h2⟩;simp only [tL,Ce];have e1:(sK P p.2.ks (zl P A p.2 (valOf t p.1)).cells).length=(oE P A p.2.ks (valOf t p.1).cells).length:=by rw [rm (aeo hg.1),nV hl]
   rw [vU (by omega),e1];exact h1
theorem aeq {t:bL} {A:aB} : ∀ {ps:List (Tmp×List CD×Nat)} {i:Nat} {x:FI},Dj P t A ps=true->(Lz P t A ps)[i]? = some x->x.ok=true->∃ p,(DJ P ps (Oj P t A ps))[i]? = some p/\PJ P A x p
 | [],_,_,_,h,_=>by simp [Lz] at h
 | p::ps,i,x,hg,h,cq=>by
  simp only [Dj,aD] at hg;simp only [Lz] at h;obtain ⟨b,cs,_,hl,_,hC⟩:=Nj hg.1;rw [<- hC] at hl;by_cases hi:i < (oE P A p.2.1 (Ng t A p)).length
  ·rw [ue hi] at h
   obtain ⟨q,h2,h3⟩:=Ab hl hg.2.1 h cq;refine ⟨q,?_,h3⟩;simp only [Oj,DJ];rw [ue (dD.1 h2).1];exact h2
  ·rw [vU (by omega)] at h
   obtain ⟨q,h1,h2⟩:=aeq hg.2.2 h cq;refine ⟨q,?_,h2⟩;simp only [Oj,DJ];have e1:(sK P p.2.1 (gL P A p.2.1 (Ng t A p))).length=(oE P A p.2.1 (Ng t A p)).length:=by rw [rm (Ku hg.2.1),nV hl]
   rw [vU (by omega),e1];exact h1
theorem Oo:∀ {ps:List (Tmp×List CD×Nat)} {rs:List (List KV)},rs.length=ps.length->(∀ (k:Nat) p r,ps[k]? = some p->rs[k]? = some r->eF p.2.1 r=true)->∀ {l:Nat},l=(ps.map fun p=>u5 p.2.1).sum->(DJ P ps rs).length=l
 | [],[],_,_,l,hl=>by subst hl; rfl
 | [],_::_,h,_,_,_=>by simp at h
 | _::_,[],h,_,_,_=>by simp at h
 | p::ps,r::rs,h,hk,l,hl=>by
  simp only [DJ,n7];rw [rm (Ku (hk 0 p r rfl rfl)),Oo (by simpa using h) (fun k p r h1 h2=>hk (k+1) p r (by simpa using h1) (by simpa using h2)) rfl,hl];simp
theorem XS {t:bL} {A:aB} : ∀ {ps:List (Tmp×List CD×Nat)},Dj P t A ps=true->(Lz P t A ps).length=(ps.map fun p=>u5 p.2.1).sum
 | [],_=>rfl
 | p::ps,h=>by
  simp only [Dj,aD] at h;obtain ⟨b,cs,_,hl,_,hC⟩:=Nj h.1;simp only [Lz,n7,List.map_cons,List.sum_cons];rw [nV (by rw [hC]; exact hl),XS h.2.2]
end Go.K
end
section
namespace Go.K
open Go Go.aF
variable {P:Program} {E:Env}
noncomputable def Env.sub (E:Env) (A:aB) (bs:List Nat) (fs:List (Option Nat)) (nr:Nat):Env:=
 { κ:=fun i=>(bs[i]?).bind E.κ,z:=E.z,φ:=fun i=>if nr<=i then (fs[i - nr]?).bind (fun f=>f.bind fun x=>cond (DI (A.get x)) (E.φ x) none) else none,α:=fun i=>if nr<=i then (fs[i - nr]?).bind (fun f=>f.bind E.α) else none }
theorem Ww {E:Env} {A:aB} {x q:Nat} (e:cond (DI (A.get x)) (E.φ x) none=some q):E.φ x=some q/\DI (A.get x)=true:=by
 cases h:DI (A.get x) with
 | true=>rw [h] at e; exact ⟨e,rfl⟩
 | false=>rw [h] at e; simp at e
theorem ano {A:aB} {x:Nat} (h:DI (A.get x)=true):∃ n sz,A.get x=some (.aZ n sz):=by
 unfold DI at h;split at h
 ·rename_i n sz e; exact ⟨n,sz,e⟩
 ·simp at h
theorem Env.ahz {A:aB} {bs:List Nat} {fs:List (Option Nat)} {nr i:Nat} : (E.sub A bs fs nr).φ (nr+i)=(fs[i]?).bind (fun f=>f.bind fun x=>cond (DI (A.get x)) (E.φ x) none):=by
 simp only [Env.sub];rw [aV (by omega),show nr+i - nr=i by omega]
theorem Env.LC {A:aB} {bs:List Nat} {fs:List (Option Nat)} {nr i:Nat} : (E.sub A bs fs nr).α (nr+i)=(fs[i]?).bind (fun f=>f.bind E.α):=by
 simp only [Env.sub];rw [aV (by omega),show nr+i - nr=i by omega]
theorem RO:∀ {l:List (Nat×KV)} {i:Nat} {v:KV},(oL l).get i=some v->(i,v)∈l
 | [],i,v,h=>by simp [oL] at h
 | p::ps,i,v,h=>by
  rw [oL,Trie.sm] at h;split at h
  ·rename_i e
   simp at h; subst h e;simp
  ·exact vV _ (RO h)
theorem nU.oL {ρ:a7} {l:List (Nat×KV)} {N:Nat} {a:Act} (hs:a.tmps.size=N) (h:∀ q∈l,q.1 < N/\VC P E ρ q.2 (a.tmps.getD q.1 undef)):nU P E ρ (K.oL l) N a:=by
 refine ⟨hs,fun i=>?_,fun i hi=>?_⟩
 ·cases hg:(K.oL l).get i with
  | none=>exact .bG
  | some v=>exact (h _ (RO hg)).2
 ·cases hg:(K.oL l).get i with
  | none=>rfl
  | some v=>have:=(h _ (RO hg)).1; exact absurd hi (Nat.not_le_of_lt this)
theorem GW {A:aB} {x:Nat} : ∀ {ds:List CD} {vs:List KV} {fi:FI},fi∈oE P A ds vs->fi.fm=true->fi.f=some x->DI (A.get x)=true
 | [],_,_,h,_,_=>by simp [oE] at h
 | d::ds,[],_,h,_,_=>by cases d <;> simp [oE] at h
 | d::ds,v::vs,fi,h,hm,hx=>by
  cases d <;> simp only [oE,fp] at h
  ·exact GW h hm hx
  ·exact GW h hm hx
  ·rcases h with rfl | h
   ·exact ard hx
   ·exact GW h hm hx
  ·rcases h with rfl | h
   ·rw [arc] at hm; simp at hm
   ·exact GW h hm hx
  ·exact GW h hm hx
theorem aQ.auy (S:aQ) {t:bL} {A:aB} {x:Nat} {fi:FI} (h:fi∈S.WW P t A) (hm:fi.fm=true) (hx:fi.f=some x):DI (A.get x)=true:=by
 have one:∀ {ps:List (Tmp×VD)},fi∈Je P t A ps->DI (A.get x)=true:=by
  intro ps
  induction ps with
  | nil=>intro h; simp [Je] at h
  | cons p ps ih=>
   intro h;simp only [Je,mI] at h;exact h.elim (fun h=>GW h hm hx) ih
 have two:∀ {ps:List (Tmp×List CD×Nat)},fi∈Lz P t A ps->DI (A.get x)=true:=by
  intro ps
  induction ps with
  | nil=>intro h; simp [Lz] at h
  | cons p ps ih=>
   intro h;simp only [Lz,mI] at h;exact h.elim (fun h=>GW h hm hx) ih
 simp only [aQ.WW,mI] at h;exact h.elim one two
theorem eG.hyp {S:aQ} {t:bL} {A:aB} {g:GR} (h:eG P S t A g):sL E (E.sub A g.bs g.fs S.nr) (S.WW P t A) S.nr:=fun i fi hi=>by
 refine ⟨YW h.zi fi (jj hi),fun hm x q hx hq=>?_,fun x q hx hq=>?_⟩
 ·rw [Env.ahz,h.fs,RN hi,gE,hx,gE,S.auy (jj hi) hm hx]
  exact hq
 ·rw [Env.LC,h.fs,RN hi,gE,hx,gE]
  exact hq
theorem anp {E0:Env} {t:bL} {A:aB} {ρ:a7} {N nr:Nat} {bs Om:List Nat} {a:Act} (hz:E0.z=E.z) (hk:Rk E E0 nr bs Om) (ht:nU P E ρ t N a):∀ {ps:List (Tmp×VD)} {j:Nat},jE ps (tL P t A ps)=true->sL E E0 (Je P t A ps) j->UN nr bs t ps=true->∀ q∈ael j Om ps (tL P t A ps),q.1 < N/\VC P E0 ρ q.2 (a.tmps.getD q.1 undef)
 | [],_,_,_,_,q,hq=>by simp [ael] at hq
 | p::ps,j,hg,hf,hr,q,hq=>by
  simp only [UN,aD] at hr;simp only [tL,jE,aD] at hg;simp only [tL,ael,fp] at hq;rcases hq with rfl | hq
  ·refine ⟨?_,?_⟩
   ·obtain ⟨v,hv⟩:=VK.acn hg.1 hr.1
    by_cases hN:N<=p.1
    ·rw [ht.none _ hN] at hv; simp at hv
    ·exact Nat.lt_of_not_le hN
   ·obtain ⟨u,h1,h2⟩:=ht.val p.1
    exact ⟨u,h1.awK hz hk hg.1 hf.left hr.1,h2⟩
  ·have h2:=hf.right
   rw [nV (Nh hg.1)] at h2;exact anp hz hk ht hg.2 h2 hr.2 q hq
theorem XT {bs:List Nat} : ∀ {ps:List (Tmp×Nat×Nat)} {q:Nat×KV},q∈Ej bs ps->∃ p∈ps,q=(p.1,.ptr (bs.getD p.2.1 0) p.2.2)
 | [],_,h=>by simp [Ej] at h
 | p::ps,q,h=>by
  simp only [Ej,fp] at h;rcases h with rfl | h
  ·exact ⟨p,by simp,rfl⟩
  ·obtain ⟨p',h1,h2⟩:=XT h
   exact ⟨p',vV _ h1,h2⟩
theorem UT {t:bL} {bs:List Nat} : ∀ {ps:List (Tmp×Nat×Nat)},Ws t bs ps=true->∀ q∈ps,∃ b,t.get q.1=some (.ptr b q.2.2)/\bs[q.2.1]? = some b
 | [],_,q,hq=>by simp at hq
 | p::ps,h,q,hq=>by
  simp only [Ws,aD] at h;rcases fp.1 hq with rfl | hq
  ·have h1:=h.1
   unfold asQ at h1;split at h1
   ·rename_i b o b' e1 e2
    simp only [aD] at h1;have:=bm h1.1;have:=bm h1.2
    subst_vars
    exact ⟨_,e1,e2⟩
   ·simp at h1
  ·exact UT h.2 q hq
theorem eG.rk {S:aQ} {t:bL} {A:aB} {g:GR} (h:eG P S t A g):Rk E (E.sub A g.bs g.fs S.nr) S.rows.length g.bs S.ids:=fun j x hj e=>by
 have bt:j < g.bs.length:=by rw [h.bs,HY]; exact hj
 rw [iQ,dF bt] at e;rw [iQ,PH S j hj];simp only [Env.sub,bq,dF bt,gE];exact e
theorem eG.tkr {S:aQ} {t:bL} {A:aB} {g:GR} {ρ:a7} {N:Nat} {a:Act} (h:eG P S t A g) (ht:nU P E ρ t N a):nU P (E.sub A g.bs g.fs S.nr) ρ (S.tm S.nr S.ids g.vs) N a:=by
 refine nU.oL ht.size fun q hq=>?_;have hh:sL E (E.sub A g.bs g.fs S.nr) (S.WW P t A) S.nr:=h.hyp;rcases mI.1 hq with hq | hq
 ·rw [h.vs] at hq
  exact anp (E:=E) (E0:=E.sub A g.bs g.fs S.nr) (A:=A) rfl h.rk ht (h.vs ▸ h.eI) hh.left h.avc q hq
 ·obtain ⟨p,hp,rfl⟩:=XT hq
  obtain ⟨b,h1,h2⟩:=UT h.aej p hp;refine ⟨?_,?_⟩
  ·by_cases hN:N<=p.1
   ·rw [ht.none _ hN] at h1; simp at h1
   ·exact Nat.lt_of_not_le hN
  ·have hk:p.2.1 < S.rows.length:=by
    have:=(dD.1 h2).1;rw [h.bs,HY] at this; exact this
   have hv:=ht.val p.1;rw [h1] at hv;obtain ⟨u,h3,h4⟩:=hv;refine ⟨u,?_,h4⟩;obtain ⟨x,h5,rfl⟩:=(show VK P E (.ptr b p.2.2) u from h3).kc;have:S.ids.getD p.2.1 0=p.2.1:=by rw [iQ,PH S _ hk]; rfl
   rw [this];exact .Dz (by simp [Env.sub,h2,h5])
theorem eG.row {S:aQ} {t:bL} {A:aB} {g:GR} (h:eG P S t A g) {k:Nat} {p:Tmp×List CD×Nat} (hp:S.rows[k]? = some p):∃ b cs,g.bs[k]? = some b/\A.get b=some (.row cs p.2.2)/\cs.length=p.2.1.length/\Ng t A p=cs/\g.rs[k]? = some (gL P A p.2.1 cs)/\eF p.2.1 (gL P A p.2.1 cs)=true:=by
 obtain ⟨h1,h2⟩:=aen h.rows hp;obtain ⟨b,cs,h4,h5,h6,h7⟩:=Nj h1;refine ⟨b,cs,by rw [h.bs,ahx hp,h6],h4,h5,h7,?_,by rw [<- h7]; exact h2⟩;have:∀ {ps:List (Tmp×List CD×Nat)} {k:Nat},ps[k]? = some p->(Oj P t A ps)[k]? = some (gL P A p.2.1 (Ng t A p)):=by
  intro ps
  induction ps with
  | nil=>intro k h; simp at h
  | cons q ps ih=>
   intro k h;cases k with
   | zero=>simp at h; subst h; rfl
   | succ k=>simp at h; simpa [Oj] using ih h
 rw [h.rs,this hp,h7]
theorem eG.wK {S:aQ} {t:bL} {A:aB} {g:GR} (h:eG P S t A g):g.rs.length=S.rows.length:=by rw [h.rs,XR]
theorem eG.ahA {S:aQ} {t:bL} {A:aB} {g:GR} (h:eG P S t A g):g.bs.length=S.rows.length:=by rw [h.bs,HY]
theorem eG.B4 {S:aQ} {t:bL} {A:aB} {g:GR} (h:eG P S t A g):∀ (k:Nat) p r,S.rows[k]? = some p->g.rs[k]? = some r->eF p.2.1 r=true:=fun k p r hp hr=>by
 obtain ⟨b,cs,_,_,_,_,h1,h2⟩:=h.row hp;rw [hr] at h1; simp at h1; subst h1; exact h2
theorem eG.lens {S:aQ} {t:bL} {A:aB} {g:GR} (h:eG P S t A g):(S.lens P g.vs g.rs).length=(S.WW P t A).length:=by
 simp only [aQ.lens,aQ.WW,n7];rw [H0 h.eI,Oo h.wK h.B4 rfl,XS h.rows,HZ (h.vs ▸ h.eI)]
theorem eG.fact {S:aQ} {t:bL} {A:aB} {g:GR} (h:eG P S t A g) {i:Nat} {q:lg} (hq:(S.lens P g.vs g.rs)[i]? = some q):∃ fi,(S.WW P t A)[i]? = some fi/\g.fs[i]? = some fi.f/\PJ P A fi q:=by
 have bt:i < (S.WW P t A).length:=by rw [<- h.lens]; exact (dD.1 hq).1
 have hfi:=dF bt;have cq:=YW h.zi _ (Wc bt);refine ⟨_,hfi,by rw [h.fs]; exact RN hfi,?_⟩;have hv:(Je P t A S.eI).length=qM S.eI:=HZ (h.vs ▸ h.eI);have hlv:(Ce P S.eI g.vs).length=qM S.eI:=H0 h.eI;simp only [aQ.lens] at hq;have anq:=hfi;simp only [aQ.WW] at anq;by_cases hi:i < qM S.eI
 ·rw [ue (by omega)] at hq anq
  obtain ⟨p,h1,h2⟩:=aep (h.vs ▸ h.eI) anq cq;rw [h.vs,h1] at hq;simp at hq; subst hq; exact h2
 ·rw [vU (by omega)] at hq anq
  obtain ⟨p,h1,h2⟩:=aeq h.rows anq cq;rw [h.rs,hlv,<- hv,h1] at hq;simp at hq; subst hq; exact h2
theorem YY {t:bL} {A:aB} {nr:Nat} {bs:List Nat} : ∀ {ps:List (Tmp×List CD×Nat)},acA nr bs t A ps=true->∀ {k:Nat} {p:Tmp×List CD×Nat},ps[k]? = some p->Jf nr bs p.2.1 (Ng t A p)=true
 | [],_,k,p,h=>by simp at h
 | q::ps,h,k,p,hp=>by
  simp only [acA,aD] at h;cases k with
  | zero=>simp at hp; subst hp; exact h.1
  | succ k=>simp at hp; exact YY h.2 hp
theorem r7 {S:aQ} {rs:List (List KV)} (h:rs.length=S.rows.length):(u6 .empty S.rows (S.LA S.nr S.ids rs)).next=S.nr:=by
 show (u6 .empty S.rows (aem (S.nr+qM S.eI) S.ids S.rows rs)).next=S.nr;rw [ake (aau h _ _)];simp [aB.empty,aQ.nr]
theorem LD {S:aQ} {vs:List KV} {rs:List (List KV)} (h:rs.length=S.rows.length) {b:Nat} {o:lg} (hb:(S.mem P vs rs).get b=some o) :
  (∃ p r,S.rows[b]? = some p/\rs[b]? = some r/\o = .row (uA (Ek (S.nr+qM S.eI) S.rows b) S.ids p.2.1 r) p.2.2)\/∃ i q,b=S.nr+i/\(S.lens P vs rs)[i]? = some q/\o=q:=by
 rcases aat hb with hb | ⟨i,q,h1,h2,h3⟩
 ·rcases ann hb with e | ⟨k,p,r,rfl,h1,h2,h3⟩
  ·simp [aB.empty,aB.get] at e
  ·have hk:(aB.empty.next+k)=k:=by simp [aB.empty]
   rw [hk];have bt:k < rs.length:=by rw [h]; exact (dD.1 h1).1
   have e1:=dF bt;have e2:=Wv (bs:=S.ids) (j:=S.nr+qM S.eI) h1 e1;have h2:(aem (S.nr+qM S.eI) S.ids S.rows rs)[k]? = some r:=h2;rw [e2] at h2;simp at h2;exact .inl ⟨p,_,h1,e1,by rw [h3,<- h2]⟩
 ·rw [r7 h] at h1
  exact .inr ⟨i,q,h1,h2,h3⟩
theorem UU {t:TypeId} {n:Nat} {es:List KV} {acc:Nat->KV} {bC:List Value} (ht:ko P t n es acc) (h:bo P E es bC):∃ tH hO,K.eJ P iU (.ts t .any n es acc) = .ts t .any n tH hO/\ko P t n tH hO/\bo P E tH bC:=by
 refine ⟨(List.range n).map fun i=>vA P (K.eJ P 5) t (acc i),fun i=>vA P (K.eJ P 5) t (acc i),rfl,?_⟩;have Iv:∀ i,i < n->∃ e e',es[i]? = some e/\bC[i]? = some e'/\acc i=e/\cI (bu P t) e=true/\VK P E e e':=by
  intro i hi;have hl:i < es.length:=by rw [<- ht.len]; exact hi
  have e1:=dF hl;obtain ⟨e',e2,e3⟩:=h.get e1;exact ⟨_,e',e1,e2,by rw [ht.acc i hi,iQ,e1]; rfl,lE ht.typed e1,e3⟩
 have hlen:bC.length=n:=by rw [h.length,ht.len]
 refine ⟨⟨by simp,fun i hi=>?_,?_⟩,?_⟩
 ·rw [iQ,AZ,List.getElem?_range hi]; rfl
 ·refine sY fun i e he=>?_
  rw [AZ] at he;by_cases hi:i < n
  ·rw [List.getElem?_range hi] at he
   simp only [Option.map_some,dG] at he;obtain ⟨x,x',_,_,q3,q4,_⟩:=Iv i hi;rw [<- he,q3,vA];obtain ⟨r1,r2,_⟩:=Rs q4;rw [r1];exact ag3 q4 (Lq 5 r2) (by simp)
  ·rw [List.getElem?_eq_none (by simp; omega)] at he; simp at he
 ·refine bo.ZN (by simp [hlen]) fun i e e' he Iq=>?_
  rw [AZ] at he;by_cases hi:i < n
  ·rw [List.getElem?_range hi] at he
   simp only [Option.map_some,dG] at he;obtain ⟨x,x',_,q2,q3,q4,q5⟩:=Iv i hi;rw [Iq] at q2;simp only [dG] at q2;subst q2;rw [<- he,q3];exact VK.vA 5 q4 q5
  ·rw [List.getElem?_eq_none (by simp; omega)] at he; simp at he
theorem eG.aqr {S:aQ} {t:bL} {A:aB} {g:GR} (h:eG P S t A g) {b:Nat} {v:KV} (hb:(S.mem P g.vs g.rs).get b=some (.arr v)) :
  ∃ i T,b=S.nr+i/\((g.fs[i]? = some none/\1<=bp P T/\v=K.eJ P iU (.ts T .any 0 [] pI))\/∃ f m N es acc,g.fs[i]? = some (some f)/\A.get f=some (.arr (.ts T m N es acc))/\v=K.eJ P iU (.ts T .any N es acc)):=by
 rcases LD h.wK hb with ⟨p,r,_,_,h3⟩ | ⟨i,q,rfl,h2,h3⟩
 ·simp at h3
 ·subst h3
  obtain ⟨fi,h4,h5,h6⟩:=h.fact h2;rcases h6 with ⟨_,_,e,_⟩ | ⟨T,v',e,h6⟩
  ·simp at e
  ·simp only [lg.arr.injEq] at e
   subst e;rcases h6 with ⟨h6,h7⟩ | ⟨f,m,N,es,acc,h6,h7⟩
   ·exact ⟨i,T,rfl,.inl ⟨by rw [h5,h6],h7⟩⟩
   ·exact ⟨i,T,rfl,.inr ⟨f,m,N,es,acc,by rw [h5,h6],h7⟩⟩
theorem eG.LF {S:aQ} {t:bL} {A:aB} {g:GR} (h:eG P S t A g) {b:Nat} {v:KV} (hb:(S.mem P g.vs g.rs).get b=some (.arr v)) {p:Nat×Nat×Nat} (hp:(E.sub A g.bs g.fs S.nr).α b=some p) :
  ∃ i f u,b=S.nr+i/\g.fs[i]? = some (some f)/\A.get f=some (.arr u)/\E.α f=some p:=by
 obtain ⟨i,T,rfl,h1⟩:=h.aqr hb;rw [Env.LC] at hp;rcases h1 with ⟨h1,_⟩ | ⟨f,m,N,es,acc,h1,h2,_⟩
 ·rw [h1] at hp; simp at hp
 ·rw [h1] at hp; exact ⟨i,f,_,rfl,h1,h2,hp⟩
theorem eG.AR {S:aQ} {t:bL} {A:aB} {g:GR} (h:eG P S t A g) {x:Nat} (q:K.AR (S.mem P g.vs g.rs) (E.sub A g.bs g.fs S.nr) x):∃ f u L N,f∈lQ g.fs/\A.get f=some (.arr u)/\E.α f=some (x,L,N):=by
 obtain ⟨b,v,L,N,h1,h2⟩:=q;obtain ⟨i,f,u,_,h3,h4,h5⟩:=h.LF h1 h2;exact ⟨f,u,L,N,Aa.2 (jj h3),h4,h5⟩
theorem eG.ar {S:aQ} {t:bL} {A:aB} {g:GR} (h:eG P S t A g) {x:Nat} (q:K.AR (S.mem P g.vs g.rs) (E.sub A g.bs g.fs S.nr) x):K.AR A E x:=by
 obtain ⟨f,u,L,N,_,h2,h3⟩:=h.AR q;exact ⟨f,u,L,N,h2,h3⟩
theorem eG.AF {S:aQ} {t:bL} {A:aB} {B:St} {g:GR} (h:eG P S t A g) {q:Nat} (k:K.AF (S.mem P g.vs g.rs) (E.sub A g.bs g.fs S.nr) B q):∃ f u x L N cs e own m,f∈lQ g.fs/\A.get f=some (.arr u)/\E.α f=some (x,L,N)/\B.get x=some (.row cs e own (some (q,m))):=by
 obtain ⟨b,v,x,L,N,cs,e,own,m,h1,h2,h3⟩:=k;obtain ⟨i,f,u,_,h4,h5,h6⟩:=h.LF h1 h2;exact ⟨f,u,x,L,N,cs,e,own,m,Aa.2 (jj h4),h5,h6,h3⟩
theorem eG.af {S:aQ} {t:bL} {A:aB} {B:St} {g:GR} (h:eG P S t A g) {q:Nat} (k:K.AF (S.mem P g.vs g.rs) (E.sub A g.bs g.fs S.nr) B q):K.AF A E B q:=by
 obtain ⟨f,u,x,L,N,cs,e,own,m,_,h1,h2,h3⟩:=h.AF k;exact ⟨f,u,x,L,N,cs,e,own,m,h1,h2,h3⟩
theorem eG.at {S:aQ} {t:bL} {A:aB} {B:St} {g:GR} (h:eG P S t A g) {y:Nat} (k:K.AT (S.mem P g.vs g.rs) (E.sub A g.bs g.fs S.nr) B y):K.AT A E B y:=k.imp h.ar fun ⟨q,h1,h2⟩=>⟨q,h.af h1,h2⟩
theorem eG.kV {S:aQ} {t:bL} {A:aB} {B:St} {g:GR} (h:eG P S t A g) (hk:gU P E A B):gU P (E.sub A g.bs g.fs S.nr) (S.mem P g.vs g.rs) B where
 row b cs cc hb:=by
  rcases LD h.wK hb with ⟨p,r,h1,h2,h3⟩ | ⟨i,q,_,h2,h3⟩
  ·simp only [lg.row.injEq] at h3
   obtain ⟨rfl,rfl⟩:=h3;obtain ⟨b',cs,h4,h5,h6,h7,h8,h9⟩:=h.row h1;rw [h2] at h8; simp at h8; subst h8;obtain ⟨x,cm,xU,MT,h12⟩:=hk.row _ _ _ h5;refine ⟨x,cm,by simp [Env.sub,h4,xU],MT,?_⟩;have hh:sL E (E.sub A g.bs g.fs S.nr) (S.WW P t A) S.nr:=h.hyp;have hr:=hh.right;rw [HZ (h.vs ▸ h.eI)] at hr;have:=ahy h.rows hr h1;rw [h7] at this;have hrr:=YY h.avd h1;rw [h7] at hrr;exact bo.cellsIn (E:=E) (E0:=E.sub A g.bs g.fs S.nr) rfl h.rk h12 h6 h9 this hrr
  ·subst h3
   obtain ⟨fi,_,_,h6⟩:=h.fact h2;rcases h6 with ⟨_,_,e,_⟩ | ⟨_,_,e,_⟩ <;> simp at e
 aZ b top sz hb:=by
  rcases LD h.wK hb with ⟨p,r,_,_,h3⟩ | ⟨i,q,rfl,h2,h3⟩
  ·simp at h3
  ·subst h3
   obtain ⟨fi,h4,h5,h6⟩:=h.fact h2;rcases h6 with ⟨_,_,e,h6⟩ | ⟨_,_,e,_⟩
   ·simp only [lg.aZ.injEq] at e
    obtain ⟨rfl,rfl⟩:=e;rw [Env.ahz,h5,gE];rcases h6 with ⟨h6,h7⟩ | ⟨f,h6,h7⟩
    ·rw [h6]; exact .inl ⟨h7,rfl⟩
    ·rw [h6,gE,show DI (A.get f)=true by rw [h7]; rfl,ai]; exact hk.aZ f _ _ h7
   ·simp at e
 z:=hk.z
 apart b x e:=by
  simp only [Env.sub,dr] at e;obtain ⟨b',_,e⟩:=e;exact hk.apart b' x e
 inj b c x e1 e2:=by
  simp only [Env.sub,dr] at e1 e2;obtain ⟨b',h1,e1⟩:=e1;obtain ⟨c',h2,e2⟩:=e2;have:=hk.inj _ _ _ e1 e2;subst this;exact ahw h.nodup _ _ _ h1 h2
 lT b c q tb sb tc sc hb hc e1 e2:=by
  have key:∀ {b t s},(S.mem P g.vs g.rs).get b=some (.aZ t s)->∃ i,b=S.nr+i/\((g.fs[i]? = some none)\/∃ f,g.fs[i]? = some (some f)/\A.get f=some (.aZ t s)):=by
   intro b t s hb;rcases LD h.wK hb with ⟨p,r,_,_,h3⟩ | ⟨i,q1,rfl,h2,h3⟩
   ·simp at h3
   subst h3;obtain ⟨fi,h4,h5,h6⟩:=h.fact h2;rcases h6 with ⟨_,_,e,h6⟩ | ⟨_,_,e,_⟩
   ·simp only [lg.aZ.injEq] at e
    obtain ⟨rfl,rfl⟩:=e;rcases h6 with ⟨h6,_⟩ | ⟨f,h6,h7⟩
    ·exact ⟨i,rfl,.inl (by rw [h5,h6])⟩
    ·exact ⟨i,rfl,.inr ⟨f,by rw [h5,h6],h7⟩⟩
   ·simp at e
  obtain ⟨i,rfl,h1⟩:=key hb;obtain ⟨j,rfl,h2⟩:=key hc;rw [Env.ahz] at e1 e2;rcases h1 with h1 | ⟨f,h1,h3⟩
  ·rw [h1] at e1; simp at e1
  rcases h2 with h2 | ⟨f',h2,h4⟩
  ·rw [h2] at e2; simp at e2
  rw [h1,gE,gE] at e1;rw [h2,gE,gE] at e2;rw [show DI (A.get f)=true by rw [h3]; rfl,ai] at e1;rw [show DI (A.get f')=true by rw [h4]; rfl,ai] at e2;have:=hk.lT f f' q _ _ _ _ h3 h4 e1 e2;subst this;have:=Bk h.af4 i j f h1 h2;omega
 oC b x e:=by
  simp only [Env.sub,dr] at e;obtain ⟨b',h1,_⟩:=e;have:b < g.bs.length:=(dD.1 h1).1;rw [aQ.mem,iC,r7 h.wK];rw [h.ahA] at this;simp only [aQ.nr]; omega
 qJ b q e:=by
  simp only [Env.sub] at e;split at e
  ·rename_i hle
   obtain ⟨f,h1,_⟩:=dr.1 e;have h2:b - S.nr < g.fs.length:=(dD.1 h1).1;rw [h.fs,vC,<- h.lens] at h2;rw [aQ.mem,iC,r7 h.wK];omega
  ·simp at e
 live b o hb:=by
  rw [aQ.mem,iC,r7 h.wK];rcases LD h.wK hb with ⟨p,r,h1,_,_⟩ | ⟨i,q,rfl,h2,h3⟩
  ·have:=(dD.1 h1).1
   simp only [aQ.nr]; omega
  ·have:=(dD.1 h2).1
   omega
 jd b x e:=by
  simp only [Env.sub,dr] at e;obtain ⟨b',_,e⟩:=e;exact hk.jd b' x e
 rb:=hk.rb
 mM b q e:=by
  simp only [Env.sub] at e;split at e
  ·obtain ⟨f,_,e⟩:=dr.1 e
   obtain ⟨f',_,e⟩:=dr.1 e;exact hk.mM _ _ (Ww e).1
  ·simp at e
 fresh:=hk.fresh
 mem:=hk.mem
 ar:=by
  have alv:∀ b p,(E.sub A g.bs g.fs S.nr).α b=some p->S.nr<=b/\b - S.nr < g.fs.length/\∃ f,E.α f=some p:=by
   intro b p e;simp only [Env.sub] at e;split at e
   ·rename_i hle
    obtain ⟨f,h1,e⟩:=dr.1 e;obtain ⟨f',_,e⟩:=dr.1 e;exact ⟨hle,(dD.1 h1).1,f',e⟩
   ·simp at e
  refine ⟨fun b v hb=>?_,fun b v hb=>?_,fun x q=>?_,fun b c v u x L N L' N' h1 h2 h3 h4=>?_,fun b c v u x y L N L' N' cs e own q k cm e' tJ k' h1 h2 h3 h4 h5 h6=>?_,fun b x e=>?_,fun b p e=>?_,fun b x L N e=>?_,fun b v x L N cs e own q k h1 h2 h3=>?_,fun b v hb=>?_⟩
  ·obtain ⟨i,T,rfl,h1⟩:=h.aqr hb
   rcases h1 with ⟨h1,h2,h3⟩ | ⟨f,m,N,es,acc,h1,h2,h3⟩
   ·obtain ⟨tH,hO,e1,e2,_⟩:=UU (P:=P) (E:=E) (t:=T) (n:=0) (es:=[]) (acc:=pI) (bC:=[]) ⟨rfl,fun i hi=>by omega,rfl⟩ .nil
    rw [e1] at h3;refine ⟨T,0,tH,hO,h3,e2,h2,.inl ⟨rfl,?_⟩⟩;rw [Env.LC,h1]; rfl
   ·obtain ⟨T2,N2,tH,hO,e,ht,gI,Cc⟩:=hk.ar.arr f _ h2
    simp only [KV.ts.injEq] at e;obtain ⟨rfl,rfl,rfl,rfl,rfl⟩:=e;rcases Cc with ⟨h4,h5⟩ | ⟨x,cs,bV,bC,h4,h5,h6,h7⟩
    ·subst h4
     have Uw:es = []:=qv.1 ht.len.symm;subst Uw;obtain ⟨tH,hO,e1,e2,_⟩:=UU (P:=P) (E:=E) (bC:=[]) ht .nil;rw [e1] at h3;refine ⟨T,0,tH,hO,h3,e2,gI,.inl ⟨rfl,?_⟩⟩;rw [Env.LC,h1]; exact h5
    ·obtain ⟨tH,hO,e1,e2,e3⟩:=UU ht h6
     rw [e1] at h3;refine ⟨T,N,tH,hO,h3,e2,gI,.inr ⟨x,cs,bV,bC,?_,h5,bo.zEs (E:=E) (E0:=E.sub A g.bs g.fs S.nr) rfl e3 e2.typed,h7⟩⟩;rw [Env.LC,h1]; exact h4
  ·rcases LD h.wK hb with ⟨p,r,_,_,h3⟩ | ⟨i,q,rfl,h2,h3⟩
   ·simp at h3
   ·subst h3
    obtain ⟨fi,_,_,h6⟩:=h.fact h2;rcases h6 with ⟨_,_,e,_⟩ | ⟨_,_,e,_⟩ <;> simp at e
  ·obtain ⟨h1,h2⟩:=hk.ar.z x (h.ar q)
   refine ⟨h1,fun c e=>?_⟩;simp only [Env.sub,dr] at e;obtain ⟨b',_,e⟩:=e;exact h2 b' e
  ·obtain ⟨i,f,u1,rfl,k1,k2,k3⟩:=h.LF h1 h3
   obtain ⟨j,f',u2,rfl,k1',k2',k3'⟩:=h.LF h2 h4;have:=hk.ar.inj f f' u1 u2 x L N L' N' k2 k2' k3 k3';subst this;have:=Bk h.af4 i j f k1 k1';omega
  ·obtain ⟨i,f,u1,rfl,k1,k2,k3⟩:=h.LF h1 h3
   obtain ⟨j,f',u2,rfl,k1',k2',k3'⟩:=h.LF h2 h4;have:=hk.ar.zi f f' u1 u2 x y L N L' N' cs e own q k cm e' tJ k' k2 k2' k3 k3' h5 h6;subst this;have:=Bk h.af4 i j f k1 k1';omega
  ·cases uZ:(E.sub A g.bs g.fs S.nr).α b with
   | none=>rfl
   | some p=>
    obtain ⟨h1,_,_⟩:=alv b p uZ;simp only [Env.sub,dr] at e;obtain ⟨b',h2,_⟩:=e;have:b < g.bs.length:=(dD.1 h2).1;rw [h.ahA] at this;simp only [aQ.nr] at h1; omega
  ·obtain ⟨h1,h2,_⟩:=alv b p e
   rw [h.fs,vC,<- h.lens] at h2;rw [aQ.mem,iC,r7 h.wK];omega
  ·obtain ⟨_,_,f,e⟩:=alv b _ e
   exact hk.ar.jd f x L N e
  ·obtain ⟨i,f,u,rfl,k1,k2,k3⟩:=h.LF h1 h2
   obtain ⟨h4,h5,h6⟩:=hk.ar.xB f u x L N cs e own q k k2 k3 h3;refine ⟨h4,fun c e=>?_,fun y hy eY=>?_⟩
   ·simp only [Env.sub] at e
    split at e
    ·obtain ⟨f1,_,e⟩:=dr.1 e
     obtain ⟨f',_,e⟩:=dr.1 e;exact h5 f' (Ww e).1
    ·simp at e
   ·obtain ⟨h7,h8,h9⟩:=h6 y hy eY
    refine ⟨h7,fun q=>h8 (h.ar q),fun c e=>?_⟩;simp only [Env.sub,dr] at e;obtain ⟨b',_,e⟩:=e;exact h9 b' e
  ·rcases LD h.wK hb with ⟨p,r,_,_,h3⟩ | ⟨i,q,rfl,h2,_⟩
   ·simp at h3
   ·refine ⟨?_,?_⟩
    ·rw [aQ.mem,iC,r7 h.wK]
     have:=(dD.1 h2).1;omega
    ·simp only [Env.sub]
     rw [List.getElem?_eq_none (by rw [h.ahA]; simp only [aQ.nr]; omega)];rfl
structure Co (base:Nat) (E:Env) (A:aB) (B:St) (ρ:a7) (w:World) (E' : Env) (A' : aB) (B' : St) (a8:a7) (w' : World):Prop where
 gX:pw base ρ B w a8 B' w'
 z:∀ b r,E.z b=some r->E'.z b=some r
 pF:∀ x,x < B.next->(∀ b,E.κ b≠some x)->¬ AT A E B x->B'.get x=B.get x
 new:∀ b x,E'.κ b=some x->(∃ c,E.κ c=some x)\/B.next<=x
 yp:∀ b r,E'.z b=some r->E.z b=some r\/AR A E b\/B.next<=b
 yq:∀ b g,E'.φ b=some g->(∃ c,E.φ c=some g)\/B.next<=g
 uz:∀ g,g < B.next->(∀ b,E.φ b≠some g)->¬ AF A E B g->B'.members g=B.members g
 qt:∀ x,AR A' E' x->AR A E x\/B.next<=x
 qK:∀ g,AF A' E' B' g->AF A E B g\/B.next<=g
 zX:∀ g y,y∈B'.members g->y∈B.members g\/B.next<=y
 r6:∀ y,AT A' E' B' y->AT A E B y\/B.next<=y
 rows:∀ y,y < B.next->∀ cs e own bV,B'.get y=some (.row cs e own bV)->∃ pE,B.get y=some (.row pE e own bV)/\pE.length=cs.length
theorem Co.trans {base:Nat} {E1 E2 E3:Env} {A1 A2 A3:aB} {B1 B2 B3:St} {qg zY ρ3:a7} {w1 w2 w3:World} (h:Co base E1 A1 B1 qg w1 E2 A2 B2 zY w2) (k:Co base E2 A2 B2 zY w2 E3 A3 B3 ρ3 w3):Co base E1 A1 B1 qg w1 E3 A3 B3 ρ3 w3 where
 gX:=h.gX.trans k.gX
 z b r e:=k.z b r (h.z b r e)
 pF x hx hn ha:=by
  refine (k.pF x (uQ hx h.gX.next) (fun b e=>?_) fun q=>?_).trans (h.pF x hx hn ha)
  ·rcases h.new b x e with ⟨c,e⟩ | e
   ·exact hn c e
   ·omega
  ·rcases h.r6 x q with e | e
   ·exact ha e
   ·omega
 new b x e:=by
  rcases k.new b x e with ⟨c,e⟩ | e
  ·exact h.new c x e
  ·have:=h.gX.next; exact .inr (by omega)
 yp b r e:=by
  rcases k.yp b r e with e | e | e
  ·exact h.yp b r e
  ·exact .inr (h.qt b e)
  ·have:=h.gX.next; exact .inr (.inr (by omega))
 yq b g e:=by
  rcases k.yq b g e with ⟨c,e⟩ | e
  ·exact h.yq c g e
  ·have:=h.gX.next; exact .inr (by omega)
 uz g hg hn ha:=by
  refine (k.uz g (uQ hg h.gX.next) (fun b e=>?_) fun q=>?_).trans (h.uz g hg hn ha)
  ·rcases h.yq b g e with ⟨c,e⟩ | e
   ·exact hn c e
   ·omega
  ·rcases h.qK g q with e | e
   ·exact ha e
   ·omega
 qt x e:=by
  rcases k.qt x e with e | e
  ·exact h.qt x e
  ·have:=h.gX.next; exact .inr (by omega)
 qK g e:=by
  rcases k.qK g e with e | e
  ·exact h.qK g e
  ·have:=h.gX.next; exact .inr (by omega)
 zX g y e:=by
  rcases k.zX g y e with e | e
  ·exact h.zX g y e
  ·have:=h.gX.next; exact .inr (by omega)
 r6 y e:=by
  rcases k.r6 y e with e | e
  ·exact h.r6 y e
  ·have:=h.gX.next; exact .inr (by omega)
 rows y hy cs e own bV q:=by
  obtain ⟨c1,h1,h2⟩:=k.rows y (uQ hy h.gX.next) cs e own bV q;obtain ⟨c0,h3,h4⟩:=h.rows y hy c1 e own bV h1;exact ⟨c0,h3,h4.trans h2⟩
theorem Ev.co {base:Nat} {A A1:aB} {B B1:St} {ρ qg:a7} {w w1:World} {E1:Env} {S:aQ} {t:bL} {g:GR} (h:Ev P base E A B ρ w E1 A1 B1 qg w1) (hG:eG P S t A1 g):Co base E A B ρ w (E1.sub A1 g.bs g.fs S.nr) (S.mem P g.vs g.rs) B1 qg w1 where
 gX:=h.gX
 z:=h.le.z
 pF:=h.pF
 new b x e:=by
  simp only [Env.sub,dr] at e;obtain ⟨b',_,e⟩:=e;exact (h.new b' x e).imp (fun e=>⟨_,e⟩) id
 yp:=h.yp
 yq b g e:=by
  simp only [Env.sub] at e;split at e
  ·obtain ⟨f,_,e⟩:=dr.1 e
   obtain ⟨f',_,e⟩:=dr.1 e;exact h.yq _ _ (Ww e).1
  ·simp at e
 uz:=h.uz
 qt x q:=h.qt x (hG.ar q)
 qK g q:=h.qK g (hG.af q)
 zX:=h.zX
 r6 y q:=h.r6 y (hG.at q)
 rows:=h.rows
def aav (nr:Nat):List CD->Bool
 | []=>true
 | .ref w::ds=>aei nr w&&aav nr ds
 | _::ds=>aav nr ds
theorem LG {nr:Nat} {bs:List Nat} : ∀ {ds:List CD} {vs:List KV},Jf nr bs ds vs=true->vs.length=ds.length->aav nr ds=true
 | [],_,_,_=>rfl
 | _::_,[],_,e=>by simp at e
 | .k c::ds,v::vs,h,e=>LG (ds:=ds) (vs:=vs) h (by simpa using e)
 | .lit c::ds,v::vs,h,e=>LG (ds:=ds) (vs:=vs) h (by simpa using e)
 | .aZ c::ds,v::vs,h,e=>LG (ds:=ds) (vs:=vs) h (by simpa using e)
 | .arr c::ds,v::vs,h,e=>LG (ds:=ds) (vs:=vs) h (by simpa using e)
 | .ref w::ds,v::vs,h,e=>by
  simp only [Jf,aD] at h;simp only [aav,aD];exact ⟨h.1,LG h.2.2 (by simpa using e)⟩
def YZ (E1 E2:Env) (i j n:Nat):Prop:=∀ m,m < n->(∀ g,E1.φ (i+m)=some g->E2.φ (j+m)=some g)/\∀ p,E1.α (i+m)=some p->E2.α (j+m)=some p
theorem YZ.tail {E1 E2:Env} {i j n:Nat} (h:YZ E1 E2 i j (n+1)):YZ E1 E2 (i+1) (j+1) n:=fun m hm=>by
 have:=h (m+1) (by omega);rw [show i+(m+1)=i+1+m by omega,show j+(m+1)=j+1+m by omega] at this;exact this
theorem YZ.left {E1 E2:Env} {i j n n' : Nat} (h:YZ E1 E2 i j n') (hn:n<=n'):YZ E1 E2 i j n:=fun m hm=>h m (by omega)
theorem YZ.right {E1 E2:Env} {i j n n' : Nat} (h:YZ E1 E2 i j (n+n')):YZ E1 E2 (i+n) (j+n) n':=fun m hm=>by
 have:=h (n+m) (by omega);rw [<- HL,<- HL] at this;exact this
theorem bo.El {E1 E2:Env} (hz:E2.z=E1.z) {nr:Nat} {Y0 bs2:List Nat} (hk:Rk E1 E2 nr Y0 bs2):∀ {ds:List CD} {vs:List KV} {us:List Value} {i j:Nat},bo P E1 (uA i Y0 ds vs) us->eF ds vs=true->aav nr ds=true->YZ E1 E2 i j (u5 ds)->bo P E2 (uA j bs2 ds vs) us
 | [],[],us,_,_,h,_,_,_=>by rw [h.cw]; exact .nil
 | [],_::_,_,_,_,_,hg,_,_=>by simp [eF] at hg
 | _::_,[],_,_,_,_,hg,_,_=>by simp [eF] at hg
 | d::ds,v::vs,us,i,j,h,hg,hw,hf=>by
  simp only [eF,aD] at hg;cases d with
  | k c=>
   obtain ⟨y,ys,rfl,h1,h2⟩:=bo.cons_inv (show bo P E1 (v::uA i Y0 ds vs) us from h);exact .cons (h1.gCD (d:=.k c) hz hg.1 (by simp)) (bo.El hz hk h2 hg.2 hw hf)
  | lit w=>
   obtain ⟨y,ys,rfl,h1,h2⟩:=bo.cons_inv (show bo P E1 (v::uA i Y0 ds vs) us from h);exact .cons (h1.gCD (d:=.lit w) hz hg.1 (by simp)) (bo.El hz hk h2 hg.2 hw hf)
  | ref w=>
   simp only [aav,aD] at hw;obtain ⟨y,ys,rfl,h1,h2⟩:=bo.cons_inv (show bo P E1 (inst Y0 w::uA i Y0 ds vs) us from h);exact .cons (VK.inst hk hw.1 h1) (bo.El hz hk h2 hg.2 hw.2 hf)
  | aZ t=>
   obtain ⟨y,ys,rfl,h1,h2⟩:=bo.cons_inv (show bo P E1 (RM i v::uA (i+1) Y0 ds vs) us from h);refine .cons ?_ (bo.El (i:=i+1) (j:=j+1) hz hk h2 hg.2 hw (YZ.tail hf));have hv:∃ n es acc,v = .ts t .any n es acc:=by
    have hg1:kindOk (.slice t) v=true:=hg.1;cases v <;> simp [kindOk] at hg1;rename_i t' m n es acc;cases m <;> simp at hg1;subst hg1; exact ⟨_,_,_,rfl⟩
   obtain ⟨n,es,acc,rfl⟩:=hv;exact VK.swap hz (show VK P E1 (.ts t (.aZ i) n es acc) y from h1) fun sz a cap _ hm=>by
    refine ⟨hm.1,hm.2.imp id ?_⟩;rintro ⟨b,r,g,q1,q2,q3,q4,q5⟩;exact ⟨b,r,g,q1,by rw [hz]; exact q2,q3,(hf 0 (by simp [u5])).1 g q4,q5⟩
  | arr t=>
   obtain ⟨y,ys,rfl,h1,h2⟩:=bo.cons_inv (show bo P E1 (Wt i v::uA (i+1) Y0 ds vs) us from h);refine .cons ?_ (bo.El (i:=i+1) (j:=j+1) hz hk h2 hg.2 hw (YZ.tail hf));have hv:∃ n es acc,v = .ts t .any n es acc:=by
    have hg1:kindOk (.slice t) v=true:=hg.1;cases v <;> simp [kindOk] at hg1;rename_i t' m n es acc;cases m <;> simp at hg1;subst hg1; exact ⟨_,_,_,rfl⟩
   obtain ⟨n,es,acc,rfl⟩:=hv;show VK P E2 (.al t j 0 n) y;rcases (show VK P E1 (.al t i 0 n) y from h1).Bh with ⟨q1,q2,q3⟩ | ⟨x,L,N,c,q1,q2⟩
   ·exact .XD (.inl ⟨q1,q2,q3⟩)
   ·exact .XD (.inr ⟨x,L,N,c,(hf 0 (by simp [u5])).2 _ q1,q2⟩)
theorem are (j:Nat) (bs:List Nat) (d:VD) (cs:List KV):aek j bs d (.agg cs) = .agg (uA j bs d.ks cs):=rfl
theorem akg {j:Nat} {bs:List Nat} {d:VD} {v:KV} (h:∀ cs,v≠.agg cs) {c:CD} (hc:d.ks = [c]) : [aek j bs d v] = uA j bs d.ks [v]:=by
 have e:aek j bs d v=(match d.ks with | [.aZ _]=>RM j v | [.arr _]=>Wt j v | [.ref w]=>inst bs w | _=>v):=by
  cases v <;> first | rfl | exact absurd rfl (h _)
 rw [e,hc];cases c <;> rfl
theorem VK.avL {E1 E2:Env} (hz:E2.z=E1.z) {nr:Nat} {Y0 bs2:List Nat} (hk:Rk E1 E2 nr Y0 bs2) {d:VD} {v:KV} {u:Value} {i j:Nat} (h:VK P E1 (aek i Y0 d v) u) (hg:Bi d v=true) (hw:aav nr d.ks=true) (hf:YZ E1 E2 i j (u5 d.ks)):VK P E2 (aek j bs2 d v) u:=by
 rcases CZ hg with ⟨cs,rfl,_,h2⟩ | ⟨h0,_,c,h1,h2⟩
 ·rw [are] at h ⊢
  obtain ⟨l,rfl,k⟩:=h.pG;exact .tD (bo.El hz hk k h2 hw hf)
 ·have k:bo P E1 (uA i Y0 d.ks [v]) [u]:=by rw [<- akg h0 h1]; exact .cons h .nil
  have k2:=bo.El hz hk k (by rw [h1]; simp [eF,h2]) hw hf;rw [<- akg h0 h1] at k2;obtain ⟨y,e,k3⟩:=k2.gu;simp at e; subst e; exact k3
def zm (P:Program) (E1 E2:Env):List (Nat×KV)->List (Nat×KV)->Prop
 | [],[]=>True
 | x::xs,y::ys=>x.1=y.1/\(∀ u,VK P E1 x.2 u->VK P E2 y.2 u)/\zm P E1 E2 xs ys
 | _,_=>False
theorem zm.append {E1 E2:Env} : ∀ {a b c d:List (Nat×KV)},zm P E1 E2 a b->zm P E1 E2 c d->zm P E1 E2 (a++c) (b++d)
 | [],[],_,_,_,h=>h
 | [],_::_,_,_,h,_=>h.elim
 | _::_,[],_,_,h,_=>h.elim
 | _::_,_::_,_,_,h,k=>⟨h.1,h.2.1,zm.append h.2.2 k⟩
theorem zm.get {E1 E2:Env} : ∀ {a b:List (Nat×KV)},zm P E1 E2 a b->∀ i,((oL a).get i=none/\(oL b).get i=none)\/∃ x y,(oL a).get i=some x/\(oL b).get i=some y/\∀ u,VK P E1 x u->VK P E2 y u
 | [],[],_,i=>.inl (by simp [oL])
 | [],_::_,h,_=>h.elim
 | _::_,[],h,_=>h.elim
 | x::a,y::b,h,i=>by
  rw [oL,oL,Trie.sm,Trie.sm];by_cases e:i=x.1
  ·rw [aV e,aV (by rw [e,h.1])]
   exact .inr ⟨_,_,rfl,rfl,h.2.1⟩
  ·rw [ay e,ay (by rw [<- h.1]; exact e)]
   exact zm.get h.2.2 i
theorem nU.asV {E1 E2:Env} {ρ:a7} {l m:List (Nat×KV)} {N:Nat} {a:Act} (h:nU P E1 ρ (K.oL l) N a) (hp:zm P E1 E2 l m):nU P E2 ρ (K.oL m) N a:=by
 refine ⟨h.size,fun i=>?_,fun i hi=>?_⟩
 ·rcases hp.get i with ⟨_,h2⟩ | ⟨x,y,h1,h2,h3⟩
  ·rw [h2]; exact .bG
  ·have:=h.val i
   rw [h1] at this;rw [h2];obtain ⟨u,k1,k2⟩:=this;exact ⟨u,h3 u k1,k2⟩
 ·rcases hp.get i with ⟨_,h2⟩ | ⟨x,y,h1,h2,h3⟩
  ·exact h2
  ·have:=h.none i hi
   rw [h1] at this; simp at this
def wsV (nr:Nat):List (Tmp×VD)->Bool
 | []=>true
 | p::ps=>aav nr p.2.ks&&wsV nr ps
theorem aqs {A:aB} {t:bL} {nr:Nat} {bs:List Nat} : ∀ {ps:List (Tmp×VD)},UN nr bs t ps=true->jE ps (tL P t A ps)=true->wsV nr ps=true
 | [],_,_=>rfl
 | p::ps,h,hg=>by
  simp only [UN,aD] at h;simp only [tL,jE,aD] at hg;simp only [wsV,aD];exact ⟨LG h.1 (Nh hg.1),aqs h.2 hg.2⟩
theorem akh {E1 E2:Env} (hz:E2.z=E1.z) {nr:Nat} {Y0 bs2:List Nat} (hk:Rk E1 E2 nr Y0 bs2):∀ {ps:List (Tmp×VD)} {vs:List KV} {i j:Nat},jE ps vs=true->wsV nr ps=true->YZ E1 E2 i j (qM ps)->zm P E1 E2 (ael i Y0 ps vs) (ael j bs2 ps vs)
 | [],[],_,_,_,_,_=>trivial
 | [],_::_,_,_,hg,_,_=>by simp [jE] at hg
 | _::_,[],_,_,hg,_,_=>by simp [jE] at hg
 | p::ps,v::vs,i,j,hg,hw,hf=>by
  simp only [wsV,aD] at hw;simp only [jE,aD] at hg;have hf:YZ E1 E2 i j (u5 p.2.ks+qM ps):=hf;exact ⟨rfl,fun u h=>h.avL hz hk hg.1 hw.1 (hf.left (MV _ _)),akh hz hk hg.2 hw.2 hf.right⟩
theorem anr {E1 E2:Env} {ids bs:List Nat} : ∀ {ps:List (Tmp×Nat×Nat)},(∀ p∈ps,∀ x,E1.κ (ids.getD p.2.1 0)=some x->E2.κ (bs.getD p.2.1 0)=some x)->zm P E1 E2 (Ej ids ps) (Ej bs ps)
 | [],_=>trivial
 | p::ps,h=>⟨rfl,fun u k=>by
   obtain ⟨x,h1,rfl⟩:=(show VK P E1 (.ptr (ids.getD p.2.1 0) p.2.2) u from k).kc;exact .Dz (h p (by simp) x h1),anr fun q hq=>h q (by simp [hq])⟩
end Go.K
end
section
namespace Go.K
open Go Go.aF
variable {P:Program} {E:Env}
theorem KZ:∀ (ps:List (Tmp×List CD×Nat)) (j k:Nat),Ek j ps k=j+Ek 0 ps k
 | [],j,k=>by simp [Ek]
 | _::_,j,0=>by simp [Ek]
 | p::ps,j,k+1=>by
  simp only [Ek];rw [KZ ps (j+u5 p.2.1) k,KZ ps (0+u5 p.2.1) k];omega
theorem mem_row {S:aQ} {vs:List KV} {rs:List (List KV)} (h:rs.length=S.rows.length) {k:Nat} {p:Tmp×List CD×Nat} {r:List KV} (hp:S.rows[k]? = some p) (hr:rs[k]? = some r):(S.mem P vs rs).get k=some (.row (uA (Ek (S.nr+qM S.eI) S.rows k) S.ids p.2.1 r) p.2.2):=by
 have hk:k < S.nr:=(dD.1 hp).1;rw [aQ.mem,Kt (by rw [r7 h]; exact hk)];have:=aqq (A:=.empty) hp (show (S.LA S.nr S.ids rs)[k]? = some _ from Wv hp hr);simpa [aB.empty] using this
theorem aaw {S:aQ} {vs:List KV} {rs:List (List KV)} (h:rs.length=S.rows.length) {i:Nat} {q:lg} (hq:(S.lens P vs rs)[i]? = some q):(S.mem P vs rs).get (S.nr+i)=some q:=by
 have:=UO (A:=u6 .empty S.rows (S.LA S.nr S.ids rs)) hq;rw [r7 h] at this;exact this
def Env.up (E E1:Env) (nr nx:Nat):Env:={ κ:=E.κ,z:=E1.z,φ:=fun b=>if nx<=b then E1.φ (nr+(b - nx)) else E.φ b,α:=fun b=>if nx<=b then E1.α (nr+(b - nx)) else E.α b }
theorem Env.Fh {E1:Env} {nr nx j:Nat} : (E.up E1 nr nx).φ (nx+j)=E1.φ (nr+j):=by
 simp only [Env.up];rw [aV (by omega),show nx+j - nx=j by omega]
theorem Env.Fi {E1:Env} {nr nx b:Nat} (h:b < nx):(E.up E1 nr nx).φ b=E.φ b:=by
 simp only [Env.up];rw [ay (by omega)]
theorem Env.PK {E1:Env} {nr nx j:Nat} : (E.up E1 nr nx).α (nx+j)=E1.α (nr+j):=by
 simp only [Env.up];rw [aV (by omega),show nx+j - nx=j by omega]
theorem Env.PL {E1:Env} {nr nx b:Nat} (h:b < nx):(E.up E1 nr nx).α b=E.α b:=by
 simp only [Env.up];rw [ay (by omega)]
theorem gU.awL {A:aB} {B:St} (h:gU P E A B) {b x:Nat} (hx:E.κ b=some x) : ¬ AT A E B x:=by
 rintro (q | ⟨g,⟨c,v,y,L,N,cs,e,own,k,h1,h2,h3⟩,hm⟩)
 ·exact (h.ar.z x q).2 b hx
 ·by_cases CS:x=y
  ·subst CS
   exact (h.ar.z x ⟨c,v,L,N,h1,h2⟩).2 b hx
  ·exact ((h.ar.xB c v y L N cs e own g k h1 h2 h3).2.2 x hm CS).2.2 b hx
theorem aki {S:aQ} {t:bL} {A:aB} {B B1:St} {g:GR} {ρ qg:a7} {base N:Nat} {w w1:World} {a1:Act} {vs:List KV} {rs:List (List KV)} {E1:Env} (hG:eG P S t A g) (hk:gU P E A B)
  (ht:nU P E1 qg (S.tm S.nr S.ids vs) N a1) (hs:gU P E1 (S.mem P vs rs) B1) (Cf:Co base (E.sub A g.bs g.fs S.nr) (S.mem P g.vs g.rs) B ρ w E1 (S.mem P vs rs) B1 qg w1) (MR:∀ k,k < S.rows.length->E1.κ k=(E.sub A g.bs g.fs S.nr).κ k)
  (hv:jE S.eI vs=true) (Ip:rs.length=S.rows.length) (hrg:∀ (k:Nat) p r,S.rows[k]? = some p->rs[k]? = some r->eF p.2.1 r=true) :
  nU P (E.up E1 S.nr A.next) qg (S.tm A.next g.bs vs) N a1/\Ev P base E A B ρ w (E.up E1 S.nr A.next) (S.back P g.bs g.fs vs rs A) B1 qg w1:=by
 have hle:E.le (E.up E1 S.nr A.next):=⟨fun b p e=>by rw [Env.PL (hk.ar.oC b p e)]; exact e,fun _ _ e=>e,fun b r e=>Cf.z b r e,fun b q e=>by rw [Env.Fi (hk.qJ b q e)]; exact e⟩
 have asW:∀ (k b:Nat),g.bs[k]? = some b->E1.κ k=E.κ b:=fun k b hb=>by
  rw [MR k (by rw [<- hG.ahA]; exact (dD.1 hb).1)];simp [Env.sub,hb]
 have kl:(DK (rM A g.bs S.rows (S.LA A.next g.bs rs)) g.fs).next=A.next:=by rw [Ni,YX]
 have RK:∀ x,x < B.next->(∀ (k b:Nat),g.bs[k]? = some b->E.κ b≠some x)->¬ AT (S.mem P g.vs g.rs) (E.sub A g.bs g.fs S.nr) B x->B1.get x=B.get x:=fun x hx eY ha=>Cf.pF x hx (fun k e=>by
  simp only [Env.sub,dr] at e;obtain ⟨b,h1,e⟩:=e;exact eY k b h1 e) ha
 have Jg:∀ f,f∈lQ g.fs->∃ i:Nat,g.fs[i]? = some (some f)/\((∃ n sz,A.get f=some (.aZ n sz))\/∃ v,A.get f=some (.arr v)):=by
  intro f hf;obtain ⟨i,hi⟩:=List.getElem?_of_mem (Aa.1 hf);have bt:i < (S.lens P g.vs g.rs).length:=by rw [hG.lens,<- vC,<- hG.fs]; exact (dD.1 hi).1
  obtain ⟨fi,_,h2,h3⟩:=hG.fact (dF bt);rw [hi] at h2; simp at h2;rcases h3 with ⟨n,sz,_,⟨h3,_⟩ | ⟨f',h3,h4⟩⟩ | ⟨T,v,_,⟨h3,_⟩ | ⟨f',m,N,es,acc,h3,h4,_⟩⟩
  ·rw [h3] at h2; simp at h2
  ·rw [h3] at h2; simp at h2; subst h2; exact ⟨i,hi,.inl ⟨_,_,h4⟩⟩
  ·rw [h3] at h2; simp at h2
  ·rw [h3] at h2; simp at h2; subst h2; exact ⟨i,hi,.inr ⟨_,h4⟩⟩
 have awM:∀ f v,f∈lQ g.fs->A.get f=some v->(∃ n sz,v = .aZ n sz)\/∃ u,v = .arr u:=by
  intro f v hf hv;obtain ⟨_,_,⟨n,sz,h1⟩ | ⟨u,h1⟩⟩:=Jg f hf
  ·rw [hv] at h1; simp at h1; exact .inl ⟨n,sz,h1⟩
  ·rw [hv] at h1; simp at h1; exact .inr ⟨u,h1⟩
 have hrk:Rk E1 (E.up E1 S.nr A.next) S.rows.length S.ids g.bs:=fun j x hj e=>by
  have bt:j < g.bs.length:=by rw [hG.ahA]; exact hj
  rw [iQ,PH S j hj,bq] at e;rw [iQ,dF bt,bq];show E.κ _=some x;rw [<- asW j _ (dF bt)]; exact e
 have aca:∀ (k b:Nat),g.bs[k]? = some b->∃ (p:Tmp×List CD×Nat) (r:List KV) (x:Nat) (cm:List Value),S.rows[k]? = some p/\rs[k]? = some r/\E.κ b=some x/\B1.get x=some (.row cm p.2.2 true none)/\bo P (E.up E1 S.nr A.next) (uA (Ek (A.next+qM S.eI) S.rows k) g.bs p.2.1 r) cm/\
   (DK (rM A g.bs S.rows (S.LA A.next g.bs rs)) g.fs).get b=some (.row (uA (Ek (A.next+qM S.eI) S.rows k) g.bs p.2.1 r) p.2.2)/\b ∉ lQ g.fs:=by
  intro k b hb;have bt:k < S.rows.length:=by rw [<- hG.ahA]; exact (dD.1 hb).1
  have hp:=dF bt;have hr:=dF (show k < rs.length by rw [Ip]; exact bt);obtain ⟨b',cs,q1,q2,_⟩:=hG.row hp;rw [hb] at q1; simp at q1; subst q1;obtain ⟨x,cm,h1,h2,h3⟩:=hs.row k _ _ (mem_row Ip hp hr);have hnf:b ∉ lQ g.fs:=fun hf=>by
   rcases awM b _ hf q2 with ⟨_,_,e⟩ | ⟨_,e⟩ <;> simp at e
  refine ⟨_,_,x,cm,hp,hr,by rw [<- asW k b hb]; exact h1,h2,?_,?_,hnf⟩
  ·have hws:aav S.rows.length S.rows[k].2.1=true:=by
    obtain ⟨_,pE,_,_,Ub,hc0,_,_⟩:=hG.row hp;have:=YY hG.avd hp;rw [hc0] at this;exact LG this Ub
   refine bo.El (E1:=E1) (E2:=E.up E1 S.nr A.next) rfl hrk h3 (hrg _ _ _ hp hr) hws fun m _=>⟨fun q e=>?_,fun q e=>?_⟩
   ·rw [KZ,show A.next+qM S.eI+Ek 0 S.rows k+m=A.next+(qM S.eI+Ek 0 S.rows k+m) by omega,Env.Fh]
    rw [KZ,show S.nr+qM S.eI+Ek 0 S.rows k+m=S.nr+(qM S.eI+Ek 0 S.rows k+m) by omega] at e;exact e
   ·rw [KZ,show A.next+qM S.eI+Ek 0 S.rows k+m=A.next+(qM S.eI+Ek 0 S.rows k+m) by omega,Env.PK]
    rw [KZ,show S.nr+qM S.eI+Ek 0 S.rows k+m=S.nr+(qM S.eI+Ek 0 S.rows k+m) by omega] at e;exact e
  ·rw [LB,ay hnf]
   exact anl hG.nodup hb hp (show (S.LA A.next g.bs rs)[k]? = some _ from Wv hp hr)
 have Gi:∀ b,b∈g.bs->∃ k:Nat,g.bs[k]? = some b:=fun b hb=>List.getElem?_of_mem hb;have Wx:∀ c q,(E.sub A g.bs g.fs S.nr).φ c=some q->∃ f n sz,f∈lQ g.fs/\E.φ f=some q/\A.get f=some (.aZ n sz):=by
  intro c q e;simp only [Env.sub] at e;split at e
  ·obtain ⟨f,h1,e⟩:=dr.1 e
   obtain ⟨f',h2,e⟩:=dr.1 e;subst h2;obtain ⟨e1,e2⟩:=Ww e;obtain ⟨n,sz,e3⟩:=ano e2;exact ⟨f',n,sz,Aa.2 (jj h1),e1,e3⟩
  ·simp at e
 have hinv:∀ b o,(S.back P g.bs g.fs vs rs A).get b=some o->(b∈g.bs/\∃ cs e,o = .row cs e/\(DK (rM A g.bs S.rows (S.LA A.next g.bs rs)) g.fs).get b=some (.row cs e))\/(b ∉ g.bs/\b ∉ lQ g.fs/\A.get b=some o)\/(b∈lQ g.fs/\o = .dead)\/∃ i q,b=A.next+i/\(S.lens P vs rs)[i]? = some q/\o=q:=by
  intro b o hb;rcases aat hb with hb | ⟨i,q,h1,h2,h3⟩
  ·by_cases hbs:b∈g.bs
   ·obtain ⟨k,Ca⟩:=Gi b hbs
    obtain ⟨p,r,x,cm,h1,h2,h3,h4,h5,h6,h7⟩:=aca k b Ca;rw [h6] at hb; simp at hb;exact .inl ⟨hbs,_,_,hb.symm,h6⟩
   ·rw [LB] at hb
    split at hb
    ·rename_i hf; simp at hb; exact .inr (.inr (.inl ⟨hf,hb.symm⟩))
    ·rename_i hf
     rw [UQ hbs] at hb;exact .inr (.inl ⟨hbs,hf,hb⟩)
  ·rw [kl] at h1
   exact .inr (.inr (.inr ⟨i,q,h1,h2,h3⟩))
 have hnewobj:∀ i q,(S.lens P vs rs)[i]? = some q->(S.mem P vs rs).get (S.nr+i)=some q:=fun i q hq=>aaw Ip hq;have aqt:∀ (i:Nat) (q:lg),(S.lens P vs rs)[i]? = some q->(∃ n sz,q=lg.aZ n sz)\/∃ v,q=lg.arr v:=by
  have one:∀ (ds:List CD) (vs:List KV),∀ q∈sK P ds vs,(∃ n sz,q = .aZ n sz)\/∃ v,q = .arr v:=by
   intro ds
   induction ds with
   | nil=>intro vs q hq; simp [sK] at hq
   | cons d ds ih=>
    intro vs q hq;cases vs with
    | nil=>cases d <;> simp [sK] at hq
    | cons v vs=>
     cases d <;> simp only [sK,fp] at hq
     ·exact ih vs q hq
     ·exact ih vs q hq
     ·rcases hq with rfl | hq
      ·exact .inl ⟨_,_,rfl⟩
      ·exact ih vs q hq
     ·rcases hq with rfl | hq
      ·exact .inr ⟨_,rfl⟩
      ·exact ih vs q hq
     ·exact ih vs q hq
  have two:∀ (ps:List (Tmp×VD)) (vs:List KV),∀ q∈Ce P ps vs,(∃ n sz,q = .aZ n sz)\/∃ v,q = .arr v:=by
   intro ps
   induction ps with
   | nil=>intro vs q hq; simp [Ce] at hq
   | cons p ps ih=>
    intro vs q hq;cases vs with
    | nil=>simp [Ce] at hq
    | cons v vs=>
     simp only [Ce,mI] at hq;exact hq.elim (one _ _ q) (ih vs q)
  have three:∀ (ps:List (Tmp×List CD×Nat)) (rs:List (List KV)),∀ q∈DJ P ps rs,(∃ n sz,q = .aZ n sz)\/∃ v,q = .arr v:=by
   intro ps
   induction ps with
   | nil=>intro vs q hq; simp [DJ] at hq
   | cons p ps ih=>
    intro vs q hq;cases vs with
    | nil=>simp [DJ] at hq
    | cons v vs=>
     simp only [DJ,mI] at hq;exact hq.elim (one _ _ q) (ih vs q)
  intro i q hq;have:=jj hq;simp only [aQ.lens,mI] at this;exact this.elim (two _ _ q) (three _ _ q)
 have z0:∀ b v,(S.back P g.bs g.fs vs rs A).get b=some (.arr v)->(b < A.next/\b ∉ lQ g.fs/\A.get b=some (.arr v)/\(E.up E1 S.nr A.next).α b=E.α b)\/∃ i,b=A.next+i/\(S.mem P vs rs).get (S.nr+i)=some (.arr v)/\(E.up E1 S.nr A.next).α b=E1.α (S.nr+i):=by
  intro b v hb;rcases hinv b _ hb with ⟨_,_,_,e,_⟩ | ⟨_,Px,h1⟩ | ⟨_,e⟩ | ⟨i,q,rfl,h2,e⟩
  ·simp at e
  ·exact .inl ⟨hk.live b _ h1,Px,h1,Env.PL (hk.live b _ h1)⟩
  ·simp at e
  ·subst e; exact .inr ⟨i,rfl,aaw Ip h2,Env.PK⟩
 have ave:∀ {b v x L N},b ∉ lQ g.fs->A.get b=some (.arr v)->E.α b=some (x,L,N)->¬ AR (S.mem P g.vs g.rs) (E.sub A g.bs g.fs S.nr) x:=by
  intro b v x L N Px hb hx q;obtain ⟨f,u,L',N',h1,h2,h3⟩:=hG.AR q;have:=hk.ar.inj b f v u x L N L' N' hb h2 hx h3;subst this;exact Px h1
 have awN:∀ {b v x L N},b ∉ lQ g.fs->A.get b=some (.arr v)->E.α b=some (x,L,N)->¬ AT (S.mem P g.vs g.rs) (E.sub A g.bs g.fs S.nr) B x:=by
  intro b v x L N Px hb hx q;rcases q with q | ⟨aZ,q,hm⟩
  ·exact ave Px hb hx q
  ·obtain ⟨f,u,y,L',N',cs,e,own,m,h1,h2,h3,h4⟩:=hG.AF q
   by_cases CS:x=y
   ·subst CS
    have:=hk.ar.inj b f v u x L N L' N' hb h2 hx h3;subst this;exact Px h1
   ·exact ((hk.ar.xB f u y L' N' cs e own aZ m h2 h3 h4).2.2 x hm CS).2.1 ⟨b,v,L,N,hb,hx⟩
 have PM:∀ {b v x L N},b ∉ lQ g.fs->A.get b=some (.arr v)->E.α b=some (x,L,N)->B1.get x=B.get x:=by
  intro b v x L N Px hb hx;exact RK x (hk.ar.jd b x L N hx) (fun k c _ e=>(hk.ar.z x ⟨b,v,L,N,hb,hx⟩).2 c e) (awN Px hb hx)
 have asX:∀ {i v x L N},(S.mem P vs rs).get (S.nr+i)=some (.arr v)->E1.α (S.nr+i)=some (x,L,N)->(∃ f u L' N',f∈lQ g.fs/\A.get f=some (.arr u)/\E.α f=some (x,L',N'))\/B.next<=x:=by
  intro i v x L N h1 h2;rcases Cf.qt x ⟨_,v,L,N,h1,h2⟩ with q | q
  ·obtain ⟨f,u,L',N',q1,q2,q3⟩:=hG.AR q
   exact .inl ⟨f,u,L',N',q1,q2,q3⟩
  ·exact .inr q
 have asY:∀ x,AR (S.back P g.bs g.fs vs rs A) (E.up E1 S.nr A.next) x->AR A E x\/AR (S.mem P vs rs) E1 x:=by
  rintro x ⟨b,v,L,N,h1,h2⟩;rcases z0 b v h1 with ⟨q1,q2,q3,q4⟩ | ⟨i,rfl,q2,q3⟩
  ·rw [q4] at h2; exact .inl ⟨b,v,L,N,q3,h2⟩
  ·rw [q3] at h2; exact .inr ⟨_,v,L,N,q2,h2⟩
 have asZ:∀ q,AF (S.back P g.bs g.fs vs rs A) (E.up E1 S.nr A.next) B1 q->AF A E B q\/AF (S.mem P vs rs) E1 B1 q:=by
  rintro q ⟨b,v,x,L,N,cs,e,own,k,h1,h2,h3⟩;rcases z0 b v h1 with ⟨q1,q2,q3,q4⟩ | ⟨i,rfl,q2,q3⟩
  ·rw [q4] at h2
   rw [PM q2 q3 h2] at h3;exact .inl ⟨b,v,x,L,N,cs,e,own,k,q3,h2,h3⟩
  ·rw [q3] at h2; exact .inr ⟨_,v,x,L,N,cs,e,own,k,q2,h2,h3⟩
 have alw:∀ x,AR (S.back P g.bs g.fs vs rs A) (E.up E1 S.nr A.next) x->AR A E x\/B.next<=x:=fun x q=>by
  rcases asY x q with q | q
  ·exact .inl q
  ·exact (Cf.qt x q).imp hG.ar id
 have aqu:∀ q,AF (S.back P g.bs g.fs vs rs A) (E.up E1 S.nr A.next) B1 q->AF A E B q\/B.next<=q:=fun x q=>by
  rcases asZ x q with q | q
  ·exact .inl q
  ·exact (Cf.qK x q).imp hG.af id
 have as0:∀ x,x < B.next->E.z x=none->¬ AR (S.mem P g.vs g.rs) (E.sub A g.bs g.fs S.nr) x->E1.z x=none:=fun x hx h1 h2=>by
  cases hz:E1.z x with
  | none=>rfl
  | some r=>
   rcases Cf.yp x r hz with e | e | e
   ·have e:E.z x=some r:=e
    rw [h1] at e; simp at e
   ·exact (h2 e).elim
   ·omega
 have avf:∀ {b v x L N cs e own q k},b ∉ lQ g.fs->A.get b=some (.arr v)->E.α b=some (x,L,N)->B.get x=some (.row cs e own (some (q,k)))->¬ AF (S.mem P g.vs g.rs) (E.sub A g.bs g.fs S.nr) B q:=by
  intro b v x L N cs e own q k Px hb hx lD r;obtain ⟨f,u,y,L',N',cm,e',tJ,m,h1,h2,h3,h4⟩:=hG.AF r;have:=hk.ar.zi b f v u x y L N L' N' cs e own q k cm e' tJ m hb h2 hx h3 lD h4;subst this;exact Px h1
 have vB:Ro P (E.up E1 S.nr A.next) (S.back P g.bs g.fs vs rs A) B1:=by
  refine ⟨?_,?_,?_,?_,?_,?_,?_,?_,?_,?_⟩
  ·intro b v hb
   rcases z0 b v hb with ⟨q1,q2,q3,q4⟩ | ⟨i,rfl,q2,q3⟩
   ·obtain ⟨T,N,es,acc,h1,h2,h3,h4⟩:=hk.ar.arr b v q3
    refine ⟨T,N,es,acc,h1,h2,h3,?_⟩;rcases h4 with ⟨h4,h5⟩ | ⟨x,cs,bV,bC,h4,h5,h6,h7⟩
    ·exact .inl ⟨h4,by rw [q4]; exact h5⟩
    ·exact .inr ⟨x,cs,bV,bC,by rw [q4]; exact h4,by rw [PM q2 q3 h4]; exact h5,h6.mono hle,h7⟩
   ·obtain ⟨T,N,es,acc,h1,h2,h3,h4⟩:=hs.ar.arr _ v q2
    refine ⟨T,N,es,acc,h1,h2,h3,?_⟩;rcases h4 with ⟨h4,h5⟩ | ⟨x,cs,bV,bC,h4,h5,h6,h7⟩
    ·exact .inl ⟨h4,by rw [q3]; exact h5⟩
    ·exact .inr ⟨x,cs,bV,bC,by rw [q3]; exact h4,h5,bo.zEs (E:=E1) (E0:=E.up E1 S.nr A.next) rfl h6 h2.typed,h7⟩
  ·intro b v hb
   rcases hinv b _ hb with ⟨_,_,_,e,_⟩ | ⟨_,_,h1⟩ | ⟨_,e⟩ | ⟨i,q,_,h2,e⟩
   ·simp at e
   ·obtain ⟨T,N,es,acc,h2,h3,h4,h5⟩:=hk.ar.lR b v h1
    have uZ:(E.up E1 S.nr A.next).α b=E.α b:=Env.PL (hk.live b _ h1);refine ⟨T,N,es,acc,h2,h3,h4,?_⟩;rcases h5 with ⟨h5,h6⟩ | ⟨x,r,bC,h5,h6,h7,h8,h9⟩
    ·exact .inl ⟨h5,by rw [uZ]; exact h6⟩
    ·exact .inr ⟨x,r,bC,by rw [uZ]; exact h5,Cf.z x r h6,h7,h8.mono hle,h9⟩
   ·simp at e
   ·rcases aqt i q h2 with ⟨_,_,e2⟩ | ⟨_,e2⟩ <;> rw [<- e] at e2 <;> simp at e2
  ·rintro x ⟨b,v,L,N,h1,h2⟩
   rcases z0 b v h1 with ⟨q1,q2,q3,q4⟩ | ⟨i,rfl,q2,q3⟩
   ·rw [q4] at h2
    obtain ⟨h3,h4⟩:=hk.ar.z x ⟨b,v,L,N,q3,h2⟩;exact ⟨as0 x (hk.ar.jd b x L N h2) h3 (ave q2 q3 h2),h4⟩
   ·rw [q3] at h2
    refine ⟨(hs.ar.z x ⟨_,v,L,N,q2,h2⟩).1,fun c e=>?_⟩;rcases Cf.qt x ⟨_,v,L,N,q2,h2⟩ with q | q
    ·exact (hk.ar.z x (hG.ar q)).2 c e
    ·have:=hk.jd c x e; omega
  ·intro b c v u x L N L' N' hb hc e1 e2
   have Lr:∀ {b v c u L N L' N'},b ∉ lQ g.fs->A.get b=some (.arr v)->E.α b=some (x,L,N)->(S.mem P vs rs).get (S.nr+c)=some (.arr u)->E1.α (S.nr+c)=some (x,L',N')->False:=by
    intro b v c u L N L' N' h1 h2 h3 h4 h5;rcases asX h4 h5 with ⟨f,u',L2,N2,k1,k2,k3⟩ | k
    ·have:=hk.ar.inj b f v u' x L N L2 N2 h2 k2 h3 k3
     subst this;exact h1 k1
    ·have:=hk.ar.jd b x L N h3; omega
   rcases z0 b v hb with ⟨q1,q2,q3,q4⟩ | ⟨i,rfl,q2,q3⟩ <;> rcases z0 c u hc with ⟨r1,r2,r3,r4⟩ | ⟨j,rfl,r2,r3⟩
   ·rw [q4] at e1; rw [r4] at e2
    exact hk.ar.inj b c v u x L N L' N' q3 r3 e1 e2
   ·rw [q4] at e1; rw [r3] at e2
    exact (Lr q2 q3 e1 r2 e2).elim
   ·rw [q3] at e1; rw [r4] at e2
    exact (Lr r2 r3 e2 q2 e1).elim
   ·rw [q3] at e1; rw [r3] at e2
    have:=hs.ar.inj _ _ v u x L N L' N' q2 r2 e1 e2;omega
  ·intro b c v u x y L N L' N' cs e own q k cm e' tJ k' hb hc e1 e2 w1 w2
   have Lr:∀ {b v c u x y L N L' N' cs e own k cm e' tJ k'},b ∉ lQ g.fs->A.get b=some (.arr v)->E.α b=some (x,L,N)->(S.mem P vs rs).get (S.nr+c)=some (.arr u)->E1.α (S.nr+c)=some (y,L',N')->B1.get x=some (.row cs e own (some (q,k)))->B1.get y=some (.row cm e' tJ (some (q,k')))->False:=by
    intro b v c u x y L N L' N' cs e own k cm e' tJ k' h1 h2 h3 h4 h5 w1 w2;rw [PM h1 h2 h3] at w1;rcases Cf.qK q ⟨_,u,y,L',N',cm,e',tJ,k',h4,h5,w2⟩ with r | r
    ·exact avf h1 h2 h3 w1 r
    ·have:=(hk.ar.xB b v x L N cs e own q k h2 h3 w1).1; omega
   rcases z0 b v hb with ⟨q1,q2,q3,q4⟩ | ⟨i,rfl,q2,q3⟩ <;> rcases z0 c u hc with ⟨r1,r2,r3,r4⟩ | ⟨j,rfl,r2,r3⟩
   ·rw [q4] at e1; rw [r4] at e2
    rw [PM q2 q3 e1] at w1; rw [PM r2 r3 e2] at w2;exact hk.ar.zi b c v u x y L N L' N' cs e own q k cm e' tJ k' q3 r3 e1 e2 w1 w2
   ·rw [q4] at e1; rw [r3] at e2
    exact (Lr q2 q3 e1 r2 e2 w1 w2).elim
   ·rw [q3] at e1; rw [r4] at e2
    exact (Lr r2 r3 e2 q2 e1 w2 w1).elim
   ·rw [q3] at e1; rw [r3] at e2
    have:=hs.ar.zi _ _ v u x y L N L' N' cs e own q k cm e' tJ k' q2 r2 e1 e2 w1 w2;omega
  ·intro b x hb
   have hb:E.κ b=some x:=hb;rw [Env.PL (hk.oC b x hb)];exact hk.ar.dis b x hb
  ·intro b p hb
   rw [aQ.back,iC,kl];by_cases h1:b < A.next
   ·omega
   ·obtain ⟨i,rfl⟩:=Nat.exists_eq_add_of_le (Nat.le_of_not_lt h1)
    rw [Env.PK] at hb;have:=hs.ar.oC _ _ hb;rw [aQ.mem,iC,r7 Ip] at this;omega
  ·intro b x L N hb
   by_cases h1:b < A.next
   ·rw [Env.PL h1] at hb
    have:=hk.ar.jd b x L N hb; have:=Cf.gX.next; omega
   ·obtain ⟨i,rfl⟩:=Nat.exists_eq_add_of_le (Nat.le_of_not_lt h1)
    rw [Env.PK] at hb;exact hs.ar.jd _ _ _ _ hb
  ·intro b v x L N cs e own q k hb hx lD
   rcases z0 b v hb with ⟨q1,q2,q3,q4⟩ | ⟨i,rfl,q2,q3⟩
   ·rw [q4] at hx
    have ao5:=lD;rw [PM q2 q3 hx] at ao5;obtain ⟨h1,h2,h3⟩:=hk.ar.xB b v x L N cs e own q k q3 hx ao5;have hm:B1.members q=B.members q:=Cf.uz q h1 (fun c e=>by
     obtain ⟨f',_,_,_,k2,_⟩:=Wx c q e;exact h2 f' k2) (avf q2 q3 hx ao5)
    refine ⟨by have:=Cf.gX.next; omega,fun f e=>?_,fun y hy eY=>?_⟩
    ·by_cases hf:f < A.next
     ·rw [Env.Fi hf] at e; exact h2 f e
     ·obtain ⟨j,rfl⟩:=Nat.exists_eq_add_of_le (Nat.le_of_not_lt hf)
      rw [Env.Fh] at e;rcases Cf.yq _ _ e with ⟨c,e⟩ | e
      ·obtain ⟨f',_,_,_,k2,_⟩:=Wx c q e
       exact h2 f' k2
      ·omega
    ·rw [hm] at hy
     obtain ⟨h4,h5,h6⟩:=h3 y hy eY;have bt:=hk.mem q y hy;refine ⟨as0 y bt h4 fun r=>h5 (hG.ar r),fun r=>?_,h6⟩;rcases alw y r with r | r
     ·exact h5 r
     ·omega
   ·rw [q3] at hx
    obtain ⟨h1,h2,h3⟩:=hs.ar.xB _ v x L N cs e own q k q2 hx lD;have EW:=Cf.qK q ⟨_,v,x,L,N,cs,e,own,k,q2,hx,lD⟩;refine ⟨h1,fun f e=>?_,fun y hy eY=>?_⟩
    ·by_cases hf:f < A.next
     ·rw [Env.Fi hf] at e
      rcases EW with r | r
      ·obtain ⟨f0,u,x0,L0,N0,pE,e0,as1,m,k1,k2,k3,k4⟩:=hG.AF r
       exact (hk.ar.xB f0 u x0 L0 N0 pE e0 as1 q m k2 k3 k4).2.1 f e
      ·have:=hk.mM f q e; omega
     ·obtain ⟨j,rfl⟩:=Nat.exists_eq_add_of_le (Nat.le_of_not_lt hf)
      rw [Env.Fh] at e;exact h2 _ e
    ·obtain ⟨h4,h5,h6⟩:=h3 y hy eY
     have Iv:y∈B.members q->(∀ c,c ∉ lQ g.fs->∀ v' L' N',A.get c=some (.arr v')->E.α c≠some (y,L',N'))/\∀ c,E.κ c≠some y:=by
      intro hm;rcases EW with r | r
      ·obtain ⟨f0,u,x0,L0,N0,pE,e0,as1,m,k1,k2,k3,k4⟩:=hG.AF r
       by_cases hy0:y=x0
       ·subst hy0
        refine ⟨fun c hc v' L' N' p1 p2=>?_,(hk.ar.z y ⟨f0,u,L0,N0,k2,k3⟩).2⟩;have:=hk.ar.inj c f0 v' u y L' N' L0 N0 p1 k2 p2 k3;subst this;exact hc k1
       ·obtain ⟨_,p5,p6⟩:=(hk.ar.xB f0 u x0 L0 N0 pE e0 as1 q m k2 k3 k4).2.2 y hm hy0
        exact ⟨fun c _ v' L' N' p1 p2=>p5 ⟨c,v',L',N',p1,p2⟩,p6⟩
      ·rw [hk.fresh q r] at hm; simp at hm
     refine ⟨h4,?_,fun c e=>?_⟩
     ·rintro ⟨c,v',L',N',r1,r2⟩
      rcases z0 c v' r1 with ⟨p1,p2,p3,p4⟩ | ⟨j,rfl,p2,p3⟩
      ·rw [p4] at r2
       rcases Cf.zX q y hy with hm | hm
       ·exact (Iv hm).1 c p2 v' L' N' p3 r2
       ·have:=hk.ar.jd c y L' N' r2; omega
      ·rw [p3] at r2
       exact h5 ⟨_,v',L',N',p2,r2⟩
     ·have e:E.κ c=some y:=e
      rcases Cf.zX q y hy with hm | hm
      ·exact (Iv hm).2 c e
      ·have:=hk.jd c y e; omega
  ·intro b v hb
   rw [aQ.back,iC,kl];rcases z0 b v hb with ⟨q1,q2,q3,q4⟩ | ⟨i,rfl,q2,q3⟩
   ·obtain ⟨k1,k2⟩:=hk.ar.nk b v q3
    exact ⟨by omega,k2⟩
   ·refine ⟨?_,?_⟩
    ·have:=hs.live _ _ q2
     rw [aQ.mem,iC,r7 Ip] at this;omega
    ·show E.κ (A.next+i)=none
     cases hq:E.κ (A.next+i) with
     | none=>rfl
     | some x=>have:=hk.oC _ x hq; omega
 refine ⟨?_,⟨⟨?_,?_,hs.z,?_,hk.inj,?_,?_,?_,?_,?_,hs.rb,?_,hs.fresh,hs.mem,?_⟩,Cf.gX,hle,?_,?_,fun _ _ e=>.inl e,?_,?_,?_,?_,?_,Cf.zX,?_,Cf.rows⟩⟩
 ·refine nU.asV ht (zm.append (akh (E1:=E1) (E2:=E.up E1 S.nr A.next) rfl hrk hv (aqs hG.avc (hG.vs ▸ hG.eI)) fun m _=>⟨fun q e=>by rw [Env.Fh]; exact e,fun q e=>by rw [Env.PK]; exact e⟩) (anr fun p hp x e=>?_))
  obtain ⟨b,_,h2⟩:=UT hG.aej p hp;have bt:p.2.1 < S.rows.length:=by rw [<- hG.ahA]; exact (dD.1 h2).1
  rw [iQ,PH S _ bt] at e;rw [iQ,h2];have e:E1.κ p.2.1=some x:=e;rw [asW _ _ h2] at e;exact e
 ·intro b cs cc hb
  rcases hinv b _ hb with ⟨hbs,_,_,e,h1⟩ | ⟨hbs,_,h1⟩ | ⟨_,e⟩ | ⟨i,q,_,hq,e⟩
  ·obtain ⟨k,Ca⟩:=Gi b hbs
   obtain ⟨p,r,x,cm,q1,q2,q3,q4,q5,q6,q7⟩:=aca k b Ca;rw [h1] at q6;simp only [lg.row.injEq] at e;obtain ⟨rfl,rfl⟩:=e;simp only [dG,lg.row.injEq] at q6;obtain ⟨rfl,rfl⟩:=q6;exact ⟨x,cm,q3,q4,q5⟩
  ·obtain ⟨x,c,q1,q2,q3⟩:=hk.row b cs cc h1
   refine ⟨x,c,q1,?_,q3.mono hle⟩;rw [RK x (hk.jd b x q1) (fun k b' hb' e=>?_) fun q=>hk.awL q1 (hG.at q)]
   ·exact q2
   ·have:=hk.inj _ _ _ q1 e
    subst this;exact hbs (jj hb')
  ·simp at e
  ·rcases aqt i q hq with ⟨_,_,e2⟩ | ⟨_,e2⟩ <;> rw [<- e] at e2 <;> simp at e2
 ·intro b top sz hb
  rcases hinv b _ hb with ⟨_,_,_,e,_⟩ | ⟨hbs,Px,h1⟩ | ⟨_,e⟩ | ⟨i,q,rfl,h2,e⟩
  ·simp at e
  ·rcases hk.aZ b top sz h1 with ⟨h2,h3⟩ | ⟨q,h2,h3,h4⟩
   ·exact .inl ⟨h2,by rw [Env.Fi (hk.live b _ h1)]; exact h3⟩
   ·have hq:=hk.mM b q h2
    refine .inr ⟨q,by rw [Env.Fi (hk.live b _ h1)]; exact h2,h3,fun x hx cs e own f k lD=>?_⟩;have hmq:B1.members q=B.members q:=Cf.uz q hq (fun c e=>by
     obtain ⟨f',_,_,h5,h6,h7⟩:=Wx c q e;have:=hk.lT b f' q _ _ _ _ h1 h7 h2 h6;subst this;exact Px h5) fun k=>by
      obtain ⟨c,v,y,L,N,cs,e,own,m,h5,h6,h7⟩:=hG.af k;exact (hk.ar.xB c v y L N cs e own q m h5 h6 h7).2.1 b h2
    rw [hmq] at hx;obtain ⟨pE,q1,q2⟩:=Cf.rows x (hk.mem q x hx) _ _ _ _ lD;obtain ⟨q3,q4⟩:=h4 x hx pE e own f k q1;exact ⟨q3,by rw [<- q2]; exact q4⟩
  ·simp at e
  ·subst e
   have:=hs.aZ _ _ _ (aaw Ip h2);rw [Env.Fh];exact this
 ·intro b x hb
  have hx:=hk.jd b x hb;show E1.z x=none;cases hz:E1.z x with
  | none=>rfl
  | some r=>
   rcases Cf.yp x r hz with e | e | e
   ·have e:E.z x=some r:=e
    rw [hk.apart b x hb] at e; simp at e
   ·exact absurd hb ((hk.ar.z x (hG.ar e)).2 b)
   ·omega
 ·intro b c q tb sb tc sc hb hc e1 e2
  have key:∀ {b tb sb},(S.back P g.bs g.fs vs rs A).get b=some (.aZ tb sb)->(b < A.next/\b ∉ lQ g.fs/\A.get b=some (.aZ tb sb))\/∃ i,b=A.next+i/\(S.mem P vs rs).get (S.nr+i)=some (.aZ tb sb):=by
   intro b tb sb hb;rcases hinv b _ hb with ⟨_,_,_,e,_⟩ | ⟨_,Px,h1⟩ | ⟨_,e⟩ | ⟨i,q,rfl,h2,e⟩
   ·simp at e
   ·exact .inl ⟨hk.live b _ h1,Px,h1⟩
   ·simp at e
   ·subst e
    exact .inr ⟨i,rfl,aaw Ip h2⟩
  have Lr:∀ {b c tb sb i},b < A.next->b ∉ lQ g.fs->A.get b=some (.aZ tb sb)->c=A.next+i->E.φ b=some q->E1.φ (S.nr+i)=some q->False:=by
   intro b c tb sb i _ h2 h3 _ h5 h6;rcases Cf.yq _ _ h6 with ⟨c',e⟩ | e
   ·obtain ⟨f',_,_,k1,k2,k3⟩:=Wx c' q e
    have:=hk.lT b f' q _ _ _ _ h3 k3 h5 k2;subst this;exact h2 k1
   ·have:=hk.mM b q h5; omega
  rcases key hb with ⟨h1,h2,h3⟩ | ⟨i,rfl,h2⟩ <;> rcases key hc with ⟨k1,k2,k3⟩ | ⟨j,rfl,k2⟩
  ·rw [Env.Fi h1] at e1; rw [Env.Fi k1] at e2
   exact hk.lT b c q _ _ _ _ h3 k3 e1 e2
  ·rw [Env.Fi h1] at e1; rw [Env.Fh] at e2
   exact (Lr h1 h2 h3 rfl e1 e2).elim
  ·rw [Env.Fh] at e1; rw [Env.Fi k1] at e2
   exact (Lr k1 k2 k3 rfl e2 e1).elim
  ·rw [Env.Fh] at e1 e2
   have:=hs.lT _ _ q _ _ _ _ h2 k2 e1 e2;omega
 ·intro b x hb; have h1:=hk.oC b x hb; rw [aQ.back,iC,kl]; omega
 ·intro b q hb
  rw [aQ.back,iC,kl];by_cases h1:b < A.next
  ·omega
  ·obtain ⟨i,rfl⟩:=Nat.exists_eq_add_of_le (Nat.le_of_not_lt h1)
   rw [Env.Fh] at hb;have:=hs.qJ _ _ hb;rw [aQ.mem,iC,r7 Ip] at this;omega
 ·intro b o hb
  rw [aQ.back,iC,kl];rcases hinv b _ hb with ⟨hbs,_⟩ | ⟨_,_,h1⟩ | ⟨h1,_⟩ | ⟨i,q,rfl,h2,_⟩
  ·obtain ⟨k,Ca⟩:=Gi b hbs
   obtain ⟨p,r,x,cm,_,_,h3,_⟩:=aca k b Ca;have:=hk.oC b x h3; omega
  ·have:=hk.live b _ h1; omega
  ·obtain ⟨_,_,⟨_,_,h3⟩ | ⟨_,h3⟩⟩:=Jg b h1
   ·have:=hk.live b _ h3; omega
   ·have:=hk.live b _ h3; omega
  ·have:=(dD.1 h2).1; omega
 ·intro b x hb; have:=hk.jd b x hb; have:=Cf.gX.next; omega
 ·intro b q hb
  by_cases h1:b < A.next
  ·rw [Env.Fi h1] at hb
   have:=hk.mM b q hb; have:=Cf.gX.next; omega
  ·obtain ⟨i,rfl⟩:=Nat.exists_eq_add_of_le (Nat.le_of_not_lt h1)
   rw [Env.Fh] at hb;exact hs.mM _ _ hb
 ·exact vB
 ·rw [aQ.back,iC,kl]; omega
 ·intro x hx eY hna
  exact RK x hx (fun k b _ e=>eY b e) fun q=>hna (hG.at q)
 ·intro b r e
  exact (Cf.yp b r e).imp id (fun e=>e.imp hG.ar id)
 ·intro b q hb
  by_cases h1:b < A.next
  ·rw [Env.Fi h1] at hb; exact .inl ⟨b,hb⟩
  ·obtain ⟨i,rfl⟩:=Nat.exists_eq_add_of_le (Nat.le_of_not_lt h1)
   rw [Env.Fh] at hb;rcases Cf.yq _ _ hb with ⟨c,e⟩ | e
   ·obtain ⟨f',_,_,_,k2,_⟩:=Wx c q e
    exact .inl ⟨f',k2⟩
   ·exact .inr e
 ·intro q hq eY hna
  refine Cf.uz q hq (fun c e=>?_) fun k=>hna (hG.af k);obtain ⟨f',_,_,_,k2,_⟩:=Wx c q e;exact eY f' k2
 ·exact alw
 ·exact aqu
 ·rintro y (q | ⟨q,h1,h2⟩)
  ·exact (alw y q).imp .inl id
  ·rcases Cf.zX q y h2 with h2 | h2
   ·rcases aqu q h1 with h1 | h1
    ·exact .inl (.inr ⟨q,h1,h2⟩)
    ·rw [hk.fresh q h1] at h2; simp at h2
   ·exact .inr h2
theorem restore {S:aQ} {t:bL} {A:aB} {B B1:St} {g:GR} {ρ qg:a7} {base N:Nat} {w w1:World} {a1:Act} {vs:List KV} {rs:List (List KV)} {E1:Env} (hG:eG P S t A g) (hk:gU P E A B)
  (ht:nU P E1 qg (S.tm S.nr S.ids vs) N a1) (hs:gU P E1 (S.mem P vs rs) B1) (Cf:Co base (E.sub A g.bs g.fs S.nr) (S.mem P g.vs g.rs) B ρ w E1 (S.mem P vs rs) B1 qg w1) (MR:∀ k,k < S.rows.length->E1.κ k=(E.sub A g.bs g.fs S.nr).κ k)
  (hv:jE S.eI vs=true) (Ip:rs.length=S.rows.length) (hrg:∀ (k:Nat) p r,S.rows[k]? = some p->rs[k]? = some r->eF p.2.1 r=true) :
  ∃ E',nU P E' qg (S.tm A.next g.bs vs) N a1/\Ev P base E A B ρ w E' (S.back P g.bs g.fs vs rs A) B1 qg w1:=⟨_,aki hG hk ht hs Cf MR hv Ip hrg⟩
end Go.K
end
section
namespace Go.K
open Go Go.aF
variable {P:Program} {E:Env}
structure Gs (P:Program) (S:aQ) (vs:List KV) (rs:List (List KV)):Prop where
 v:jE S.eI vs=true
 wK:rs.length=S.rows.length
 B4:∀ (k:Nat) p r,S.rows[k]? = some p->rs[k]? = some r->eF p.2.1 r=true
 vn:∃ t A,vs=tL P t A S.eI
 rn:∀ (k:Nat) p,S.rows[k]? = some p->∃ A pE,rs[k]? = some (gL P A p.2.1 pE)/\pE.length=p.2.1.length
theorem eG.SU {S:aQ} {t:bL} {A:aB} {g:GR} (h:eG P S t A g):Gs P S g.vs g.rs:=
 ⟨h.eI,h.wK,h.B4,⟨t,A,h.vs⟩,fun _ _ hp=>by obtain ⟨_,cs,_,_,h1,_,h2,_⟩:=h.row hp; exact ⟨A,cs,h2,h1⟩⟩
section
variable {cfg:ga} {L n:Nat} {f:FuncId} {S:aQ} {root body:Code} {p N:Nat}
theorem ao6 (hP:P.funcs.toList.all qx=true) (hm:P.follows .mixedOrders=true) (je:vO P cfg.pc) (og:z7 P cfg) {fn:Func} (hf:P.funcs[f]? = some fn) (hb:fn.body=some root) (hs:Sub root p (.loop body)) (hc:codeOk N body=true)
  {vs cU:List KV} {rs oQ:List (List KV)} {e:aq} (hr:Dk P cfg L n f p body S vs rs=some (e,cU,oQ)) {B:St} {ρ:a7} {base:Nat} {a:Act} {w:World} {Q:Exit->Act->World->Prop} (cq:Gs P S vs rs)
  (ht:nU P E ρ (S.tm S.nr S.ids vs) N a) (hj:KJ P E (S.mem P vs rs) B ρ base w)
  (hq:∀ E' B' a8 a' w',nU P E' a8 (S.tm S.nr S.ids cU) N a'->a'.defers=a.defers->KJ P E' (S.mem P cU oQ) B' a8 base w'->Co base E (S.mem P vs rs) B ρ w E' (S.mem P cU oQ) B' a8 w'->(∀ k,k < S.rows.length->E'.κ k=E.κ k)->Gs P S cU oQ->Q e.out a' w'):body.wp P Q a w:=by
 have zH:=yL (R:=aq×List KV×List (List KV)) hP hm je og L n;refine pM je zH hm (og.2 f fn root hf hb) body (2 * p) hs.loop hc _ _ _ _ E B ρ base a w Q hr ht hj fun e' t' E1 A1 B1 qg a1 w1 h1 h2 h3 h4=>?_;cases hi:z9 (S.gV P t' A1).bs S.ids with
 | false=>
  simp only [hi,aw] at h1;exact absurd h1 (by simp)
 | true=>
  simp only [hi,ai] at h1;cases ho:(S.gV P t' A1).ok with
  | false=>simp only [ho] at h1; exact absurd h1 (by simp)
  | true=>
   simp only [ho,dG,gF] at h1;obtain ⟨rfl,rfl,rfl⟩:=h1;have hG:=PI ho;have as2:=UR hi;refine hq _ B1 qg a1 w1 (hG.tkr h2) h3 ⟨hG.kV h4.kV,h4.gX.kV⟩ (h4.co hG) (fun k hk=>?_) hG.SU;have hp:=dF hk;have hr':=dF (show k < rs.length by rw [cq.wK]; exact hk);obtain ⟨x,_,hx,_⟩:=hj.k.row k _ _ (mem_row cq.wK hp hr');have e1:(E1.sub A1 (S.gV P t' A1).bs (S.gV P t' A1).fs S.nr).κ k=E1.κ k:=by
    simp only [Env.sub];rw [as2,PH S k hk,gE]
   rw [e1,hx];exact h4.le.κ k x hx
theorem akj (hP:P.funcs.toList.all qx=true) (hm:P.follows .mixedOrders=true) (je:vO P cfg.pc) (og:z7 P cfg) {fn:Func} (hf:P.funcs[f]? = some fn) (hb:fn.body=some root) (hs:Sub root p (.loop body)) (hc:codeOk N body=true)
  {e:aq} {cU:List KV} {oQ:List (List KV)} : ∀ (m:Nat) {vs:List KV} {rs:List (List KV)},y7 (Dk P cfg L n f p body S) m vs rs=some (e,cU,oQ)->∀ {E:Env} {B:St} {ρ:a7} {base:Nat} {a:Act} {w:World} {Q:Exit->Act->World->Prop},Gs P S vs rs->
  nU P E ρ (S.tm S.nr S.ids vs) N a->KJ P E (S.mem P vs rs) B ρ base w->
  (∀ E' B' a8 a' w',nU P E' a8 (S.tm S.nr S.ids cU) N a'->a'.defers=a.defers->KJ P E' (S.mem P cU oQ) B' a8 base w'->Co base E (S.mem P vs rs) B ρ w E' (S.mem P cU oQ) B' a8 w'->(∀ k,k < S.rows.length->E'.κ k=E.κ k)->Gs P S cU oQ->Q e.out a' w')->Code.rounds P body Q m a w
 | 0,vs,rs,h,E,B,ρ,base,a,w,Q,cq,ht,hj,hq=>by simp [y7] at h
 | m+1,vs,rs,h,E,B,ρ,base,a,w,Q,cq,ht,hj,hq=>by
  unfold y7 at h;split at h
  ·rename_i e1 vs1 rs1 hr
   rw [rounds_succ];refine ao6 hP hm je og hf hb hs hc hr cq ht hj fun E' B' a8 a' w' h1 h2 h3 h4 h5 h6=>?_;have fin:yM e1=false->some (e1,vs1,rs1)=some (e,cU,oQ)->Q e1.out a' w':=by
    intro _ h;simp only [dG,gF] at h;obtain ⟨rfl,rfl,rfl⟩:=h;exact hq E' B' a8 a' w' h1 h2 h3 h4 h5 h6
   cases e1 with
   | normal=>
    have h:y7 (Dk P cfg L n f p body S) m vs1 rs1=some (e,cU,oQ):=h;exact akj hP hm je og hf hb hs hc m h h6 h1 h3 fun PD RB zQ a'' Pa q1 q2 q3 q4 q5 q6=>hq PD RB zQ a'' Pa q1 (q2.trans h2) q3 (h4.trans q4) (fun k hk=>(q5 k hk).trans (h5 k hk)) q6
   | exit id=>exact fin rfl h
   | goto l=>exact fin rfl h
   | ret=>exact fin rfl h
  ·simp at h
theorem acC {R:Type} {bs:List Nat} {fs:List (Option Nat)} {A:aB} {k:KE R} {r:R} : ∀ (x:wJ),(x.tell P S bs fs A).run k=some r->∃ e cU oQ,x.ev=some (e,cU,oQ)/\k e (S.tm A.next bs cU) (S.back P bs fs cU oQ A)=some r
 | .no,h=>absurd h (by simp [wJ.tell,M7.run])
 | .out e vs rs,h=>⟨e,vs,rs,rfl,h⟩
 | .br c x y,h=>by
  have h:Bool.rec (motive:=fun _=>Option R) ((y.tell P S bs fs A).run k) ((x.tell P S bs fs A).run k) c=some r:=h;cases c with
  | true=>exact acC x h
  | false=>exact acC y h
theorem ao7 (hP:P.funcs.toList.all qx=true) (hm:P.follows .mixedOrders=true) (je:vO P cfg.pc) (og:z7 P cfg) {fn:Func} (hf:P.funcs[f]? = some fn) (hb:fn.body=some root) (hs:Sub root p (.loop body)) (hc:codeOk N body=true) {F:LFn}
  (hF:∀ vs rs e cU oQ,Gs P S vs rs->(F vs rs).ev=some (e,cU,oQ)->∃ m,y7 (Dk P cfg L n f p body S) m vs rs=some (e,cU,oQ)):acx P N body (avb P S F):=by
 intro R k r t A E B ρ base a w Q h ht hj hq;have h:Bool.rec (motive:=fun _=>Option R) none (((F (S.gV P t A).vs (S.gV P t A).rs).tell P S (S.gV P t A).bs (S.gV P t A).fs A).run k) (S.gV P t A).ok=some r:=h;cases ho:(S.gV P t A).ok with
 | false=>rw [ho] at h; exact absurd h (by simp)
 | true=>
  rw [ho] at h;have hG:=PI ho;obtain ⟨e,cU,oQ,h9,xU⟩:=acC _ h;obtain ⟨m,hm'⟩:=hF _ _ e cU oQ hG.SU h9;refine wp_loop_rounds m (akj hP hm je og hf hb hs hc m hm' hG.SU (hG.tkr ht) ⟨hG.kV hj.k,hj.s⟩ fun E' B' a8 a' w' q1 q2 q3 q4 q5 q6=>?_);obtain ⟨E2,r1,r2⟩:=restore hG hj.k q1 q3.k q4 q5 q6.v q6.wK q6.B4;exact hq e _ E2 _ B' a8 a' w' xU r1 q2 r2
end
end Go.K
end
section
namespace Go.K
open Go Go.aF
variable {P:Program} {E:Env}
def Env.re (E:Env) (f n:Nat):Env:={ κ:=E.κ,z:=E.z,φ:=E.φ,α:=fun b=>if b=f then E.α n else E.α b }
theorem Env.as3 {f n:Nat} (h:∀ p,E.α f=some p->E.α n=some p):E.le (E.re f n):=⟨fun b p e=>by
 simp only [Env.re];split
 ·rename_i e1; subst e1; exact h p e
 ·exact e,fun _ _ e=>e,fun _ _ e=>e,fun _ _ e=>e⟩
theorem Env.ao8 {f n:Nat} : (E.re f n).α f=E.α n:=by simp [Env.re]
theorem Env.GX {f n b:Nat} (h:b≠f):(E.re f n).α b=E.α b:=by simp [Env.re,h]
theorem gU.swap {A:aB} {B:St} {f n:Nat} {v:KV} (h:gU P E A B) (hf:A.get f=some .dead) (hn:A.get n=some (.arr v)) (MR:E.κ f=none) (uZ:∀ p,E.α f=some p->E.α n=some p) :
  gU P (E.re f n) ((A.put f (.arr v)).put n .dead) B/\(∀ x,AR ((A.put f (.arr v)).put n .dead) (E.re f n) x->AR A E x)/\∀ g,AF ((A.put f (.arr v)).put n .dead) (E.re f n) B g->AF A E B g:=by
 have eY:f≠n:=fun e=>by rw [e,hn] at hf; simp at hf
 have hle:=Env.as3 uZ;have mi:∀ b o,((A.put f (.arr v)).put n .dead).get b=some o->(b=n/\o = .dead)\/(b=f/\o = .arr v)\/(b≠f/\b≠n/\A.get b=some o):=fun b o hb=>by
  rw [aB.cr] at hb;split at hb
  ·rename_i e; simp at hb; exact .inl ⟨e,hb.symm⟩
  ·rename_i e
   rw [aB.cr] at hb;split at hb
   ·rename_i e2; simp at hb; exact .inr (.inl ⟨e2,hb.symm⟩)
   ·rename_i e2; exact .inr (.inr ⟨e2,e,hb⟩)
 have hA:∀ b u,((A.put f (.arr v)).put n .dead).get b=some (.arr u)->∃ c,A.get c=some (.arr u)/\(E.re f n).α b=E.α c/\((b=f/\c=n)\/(b≠f/\b≠n/\c=b)):=fun b u hb=>by
  rcases mi b _ hb with ⟨_,e⟩ | ⟨e,e2⟩ | ⟨e,e2,e3⟩
  ·simp at e
  ·simp at e2; subst e2 e; exact ⟨n,hn,Env.ao8,.inl ⟨rfl,rfl⟩⟩
  ·exact ⟨b,e3,Env.GX e,.inr ⟨e,e2,rfl⟩⟩
 have ahn:∀ {b c d:Nat},((b=f/\d=n)\/(b≠f/\b≠n/\d=b))->((c=f/\d=n)\/(c≠f/\c≠n/\d=c))->b=c:=fun h1 h2=>by
  rcases h1 with ⟨a1,a2⟩ | ⟨a1,a2,a3⟩ <;> rcases h2 with ⟨b1,b2⟩ | ⟨b1,b2,b3⟩ <;> omega
 have vB:∀ x,AR ((A.put f (.arr v)).put n .dead) (E.re f n) x->AR A E x:=fun x ⟨b,u,L,N,h1,h2⟩=>by
  obtain ⟨c,h3,h4,_⟩:=hA b u h1;exact ⟨c,u,L,N,h3,by rw [<- h4]; exact h2⟩
 have Oh:∀ g,AF ((A.put f (.arr v)).put n .dead) (E.re f n) B g->AF A E B g:=fun g ⟨b,u,x,L,N,cs,e,own,k,h1,h2,h3⟩=>by
  obtain ⟨c,h4,h5,_⟩:=hA b u h1;exact ⟨c,u,x,L,N,cs,e,own,k,h4,by rw [<- h5]; exact h2,h3⟩
 have hold:∀ b o,((A.put f (.arr v)).put n .dead).get b=some o->b < A.next:=fun b o hb=>by
  rcases mi b _ hb with ⟨e,_⟩ | ⟨e,_⟩ | ⟨_,_,e⟩
  ·rw [e]; exact h.live n _ hn
  ·rw [e]; exact h.live f _ hf
  ·exact h.live b o e
 refine ⟨⟨fun b cs cc hb=>?_,fun b top sz hb=>?_,h.z,h.apart,h.inj,fun b c g tb sb tc sc hb hc=>?_,h.oC,h.qJ,hold,h.jd,h.rb,h.mM,h.fresh,h.mem,?_⟩,vB,Oh⟩
 ·rcases mi b _ hb with ⟨_,e⟩ | ⟨_,e⟩ | ⟨_,_,e⟩
  ·simp at e
  ·simp at e
  ·obtain ⟨x,cm,h1,h2,h3⟩:=h.row b cs cc e
   exact ⟨x,cm,h1,h2,h3.mono hle⟩
 ·rcases mi b _ hb with ⟨_,e⟩ | ⟨_,e⟩ | ⟨_,_,e⟩
  ·simp at e
  ·simp at e
  ·exact h.aZ b top sz e
 ·rcases mi b _ hb with ⟨_,e⟩ | ⟨_,e⟩ | ⟨_,_,hb⟩
  ·simp at e
  ·simp at e
  rcases mi c _ hc with ⟨_,e⟩ | ⟨_,e⟩ | ⟨_,_,hc⟩
  ·simp at e
  ·simp at e
  exact h.lT b c g tb sb tc sc hb hc
 ·refine ⟨fun b u hb=>?_,fun b u hb=>?_,fun x q=>h.ar.z x (vB x q),fun b c u u' x L N L' N' h1 h2 h3 h4=>?_,fun b c u u' x y L N L' N' cs e own g k cm e' tJ k' h1 h2 h3 h4 h5 h6=>?_,fun b x e=>?_,fun b p e=>?_,fun b x L N e=>?_,fun b u x L N cs e own g k h1 h2 h3=>?_,fun b u hb=>?_⟩
  ·obtain ⟨c,h1,h2,_⟩:=hA b u hb
   obtain ⟨T,N,es,acc,q1,q2,q3,q4⟩:=h.ar.arr c u h1;refine ⟨T,N,es,acc,q1,q2,q3,?_⟩;rw [h2];exact q4.imp id fun ⟨x,cs,bV,bC,r1,r2,r3,r4⟩=>⟨x,cs,bV,bC,r1,r2,r3.mono hle,r4⟩
  ·rcases mi b _ hb with ⟨_,e⟩ | ⟨_,e⟩ | ⟨e1,_,e⟩
   ·simp at e
   ·simp at e
   ·exact (h.ar.lR b u e).mono hle (Env.GX e1)
  ·obtain ⟨b',k1,k2,k3⟩:=hA b u h1
   obtain ⟨c',l1,l2,l3⟩:=hA c u' h2;rw [k2] at h3; rw [l2] at h4;have:=h.ar.inj b' c' u u' x L N L' N' k1 l1 h3 h4;subst this;exact ahn k3 l3
  ·obtain ⟨b',k1,k2,k3⟩:=hA b u h1
   obtain ⟨c',l1,l2,l3⟩:=hA c u' h2;rw [k2] at h3; rw [l2] at h4;have:=h.ar.zi b' c' u u' x y L N L' N' cs e own g k cm e' tJ k' k1 l1 h3 h4 h5 h6;subst this;exact ahn k3 l3
  ·have hb:b≠f:=fun e2=>by rw [e2] at e; rw [show (E.re f n).κ f=E.κ f from rfl,MR] at e; simp at e
   rw [Env.GX hb];exact h.ar.dis b x e
  ·by_cases hb:b=f
   ·rw [hb]; exact h.live f _ hf
   ·rw [Env.GX hb] at e; exact h.ar.oC b p e
  ·by_cases hb:b=f
   ·rw [hb,Env.ao8] at e; exact h.ar.jd n x L N e
   ·rw [Env.GX hb] at e; exact h.ar.jd b x L N e
  ·obtain ⟨c,k1,k2,_⟩:=hA b u h1
   rw [k2] at h2;obtain ⟨q1,q2,q3⟩:=h.ar.xB c u x L N cs e own g k k1 h2 h3;exact ⟨q1,q2,fun y hy hy2=>⟨(q3 y hy hy2).1,fun q=>(q3 y hy hy2).2.1 (vB y q),(q3 y hy hy2).2.2⟩⟩
  ·refine ⟨hold b _ hb,?_⟩
   rcases mi b _ hb with ⟨_,e⟩ | ⟨e,_⟩ | ⟨_,_,e⟩
   ·simp at e
   ·rw [e]; exact MR
   ·exact (h.ar.nk b u e).2
structure Sw (E:Env) (A:aB) (B:St) (E' : Env) (A' : aB):Prop where
 le:E.le E'
 κ:E'.κ=E.κ
 z:E'.z=E.z
 φ:E'.φ=E.φ
 next:A'.next=A.next
 ar:∀ x,AR A' E' x->AR A E x
 af:∀ g,AF A' E' B g->AF A E B g
theorem Sw.refl {A:aB} {B:St} : Sw E A B E A:=⟨Env.le_refl _,rfl,rfl,rfl,rfl,fun _ h=>h,fun _ h=>h⟩
theorem Sw.trans {E1 E2 E3:Env} {A1 A2 A3:aB} {B:St} (h:Sw E1 A1 B E2 A2) (k:Sw E2 A2 B E3 A3):Sw E1 A1 B E3 A3:=
 ⟨Env.le_trans h.le k.le,k.κ.trans h.κ,k.z.trans h.z,k.φ.trans h.φ,k.next.trans h.next,fun x q=>h.ar x (k.ar x q),fun g q=>h.af g (k.af g q)⟩
theorem Ev.sw {base:Nat} {E1 E2 E3:Env} {A1 A2 A3:aB} {B1 B2:St} {qg zY:a7} {w1 w2:World} (h:Ev P base E1 A1 B1 qg w1 E2 A2 B2 zY w2) (hk:gU P E3 A3 B2) (k:Sw E2 A2 B2 E3 A3):Ev P base E1 A1 B1 qg w1 E3 A3 B2 zY w2 where
 kV:=hk
 gX:=h.gX
 le:=Env.le_trans h.le k.le
 next:=by rw [k.next]; exact h.next
 pF:=h.pF
 new b x e:=h.new b x (by rw [<- k.κ]; exact e)
 yp b r e:=h.yp b r (by rw [<- k.z]; exact e)
 yq b g e:=h.yq b g (by rw [<- k.φ]; exact e)
 uz:=h.uz
 qt x q:=h.qt x (k.ar x q)
 qK g q:=h.qK g (k.af g q)
 zX:=h.zX
 r6 y q:=h.r6 y (q.imp (k.ar y) fun ⟨g,q1,q2⟩=>⟨g,k.af g q1,q2⟩)
 rows:=h.rows
noncomputable section
def Kv:List (Option Nat)->Nat->Bool
 | [],_=>true
 | some f::fs,j=>Nat.beq f j&&Kv fs (Nat.succ j)
 | none::_,_=>false
theorem aer:∀ {fs:List (Option Nat)} {j i:Nat} {x:Option Nat},Kv fs j=true->fs[i]? = some x->x=some (j+i)
 | [],_,_,_,_,e=>by simp at e
 | none::_,_,_,_,h,_=>by simp [Kv] at h
 | some f::fs,j,0,x,h,e=>by
  simp only [Kv,aD] at h;simp at e;rw [<- e,bm h.1];rfl
 | some f::fs,j,i+1,x,h,e=>by
  simp only [Kv,aD] at h;have:=aer (i:=i) (x:=x) h.2 (by simpa using e);rw [this];congr 1;omega
def as4 (A:aB) (f j:Nat) (o:lg):aB:=
 match o with
 | .arr v=>(A.put f (.arr v)).put j .dead
 | _=>A
def Kw (A:aB):List (Option Nat)->Nat->List lg->aB
 | some f::fs,j,o::os=>Kw (as4 A f j o) fs (Nat.succ j) os
 | none::fs,j,_::os=>Kw A fs (Nat.succ j) os
 | _,_,_=>A
structure akk (E:Env) (A:aB) (fs:List (Option Nat)) (j:Nat) (os:List lg):Prop where
 one:∀ (i:Nat) f v,fs[i]? = some (some f)->os[i]? = some (.arr v)->A.get f=some .dead/\E.κ f=none/\A.get (j+i)=some (.arr v)/\∀ p,E.α f=some p->E.α (j+i)=some p
 lt:∀ (i f:Nat),fs[i]? = some (some f)->f < j
 nodup:∀ (i k f:Nat),fs[i]? = some (some f)->fs[k]? = some (some f)->i=k
theorem akk.tail {E1:Env} {A A1:aB} {x:Option Nat} {o:lg} {fs:List (Option Nat)} {os:List lg} {j:Nat} (h:akk E A (x::fs) j (o::os)) (uZ:∀ b,x≠some b->E1.α b=E.α b) (MR:E1.κ=E.κ) (hg:∀ b,x≠some b->b≠j->A1.get b=A.get b):akk E1 A1 fs (Nat.succ j) os where
 one i f v e1 e2:=by
  obtain ⟨h1,h3,h4,h5⟩:=h.one (i+1) f v (by simpa using e1) (by simpa using e2);have bt:=h.lt (i+1) f (by simpa using e1);rw [show j+(i+1)=Nat.succ j+i by omega] at h4 h5;have hf:x≠some f:=fun e=>by have:=h.nodup (i+1) 0 f (by simpa using e1) (by simp [e]); omega
  have hn:x≠some (Nat.succ j+i):=fun e=>by have:=h.lt 0 (Nat.succ j+i) (by simp [e]); omega
  exact ⟨by rw [hg f hf (by omega)]; exact h1,by rw [MR]; exact h3,by rw [hg _ hn (by omega)]; exact h4,fun p e=>by rw [uZ f hf] at e; rw [uZ _ hn]; exact h5 p e⟩
 lt i f e:=by have:=h.lt (i+1) f (by simpa using e); omega
 nodup i k f e1 e2:=by have:=h.nodup (i+1) (k+1) f (by simpa using e1) (by simpa using e2); omega
theorem acD {B:St} : ∀ {fs:List (Option Nat)} {os:List lg} {j:Nat} {E:Env} {A:aB},gU P E A B->akk E A fs j os->∃ E',gU P E' (Kw A fs j os) B/\Sw E A B E' (Kw A fs j os)/\
  (∀ (i:Nat) f v,fs[i]? = some (some f)->os[i]? = some (.arr v)->E'.α f=E.α (j+i))/\(∀ b,(∀ i:Nat,fs[i]?≠some (some b))->E'.α b=E.α b)
 | [],os,j,E,A,h,_=>⟨E,h,.refl,fun i f v e=>by simp at e,fun _ _=>rfl⟩
 | x::fs,[],j,E,A,h,_=>⟨E,by cases x <;> exact h,by cases x <;> exact .refl,fun i f v _ e=>by simp at e,fun _ _=>rfl⟩
 | none::fs,o::os,j,E,A,h,ho=>by
  obtain ⟨E',h1,h2,h3,h4⟩:=acD h (ho.tail (fun _ _=>rfl) rfl fun _ _ _=>rfl);refine ⟨E',h1,h2,fun i f v e1 e2=>?_,fun b hb=>h4 b fun i=>by have:=hb (i+1); simpa using this⟩;cases i with
  | zero=>simp at e1
  | succ i=>
   rw [h3 i f v (by simpa using e1) (by simpa using e2)];congr 1;omega
 | some f0::fs,o::os,j,E,A,h,ho=>by
  have awO:∀ i:Nat,fs[i]?≠some (some f0):=fun i e=>by have:=ho.nodup (i+1) 0 f0 (by simpa using e) (by simp); omega
  have step:∀ {E1:Env} {A1:aB},gU P E1 A1 B->Sw E A B E1 A1->as4 A f0 j o=A1->(∀ b,b≠f0->E1.α b=E.α b)->(∀ v,o = .arr v->E1.α f0=E.α j)->akk E1 A1 fs (Nat.succ j) os->
    ∃ E',gU P E' (Kw A (some f0::fs) j (o::os)) B/\Sw E A B E' (Kw A (some f0::fs) j (o::os))/\(∀ (i:Nat) f v,(some f0::fs)[i]? = some (some f)->(o::os)[i]? = some (.arr v)->E'.α f=E.α (j+i))/\(∀ b,(∀ i:Nat,(some f0::fs)[i]?≠some (some b))->E'.α b=E.α b):=by
   intro E1 A1 k1 k2 k3 k4 k5 k6;obtain ⟨E',h1,h2,h3,h4⟩:=acD k1 k6;have e0:Kw A (some f0::fs) j (o::os)=Kw A1 fs (Nat.succ j) os:=by rw [<- k3]; rfl
   rw [e0];refine ⟨E',h1,k2.trans h2,fun i f v e1 e2=>?_,fun b hb=>?_⟩
   ·cases i with
    | zero=>
     simp at e1 e2;subst e1;rw [h4 f0 awO];exact k5 v e2
    | succ i=>
     rw [h3 i f v (by simpa using e1) (by simpa using e2),k4 _ fun e=>by have:=ho.lt 0 f0 (by simp); omega];congr 1;omega
   ·rw [h4 b fun i=>by have:=hb (i+1); simpa using this]
    exact k4 b fun e=>hb 0 (by simp [e])
  cases o with
  | arr v=>
   obtain ⟨h1,h2,h3,h4⟩:=ho.one 0 f0 v (by simp) (by simp);obtain ⟨q1,q2,q3⟩:=h.swap (n:=j) h1 h3 h2 h4;have qB:∀ b,some f0≠some b->b≠j->((A.put f0 (.arr v)).put j .dead).get b=A.get b:=fun b e1 e2=>by
    rw [aB.cr,ay e2,aB.cr,ay fun e=>e1 (by rw [e])]
   exact step q1 ⟨Env.as3 h4,rfl,rfl,rfl,by rw [aB.wq,aB.wq],q2,q3⟩ rfl (fun b hb=>Env.GX hb) (fun _ _=>Env.ao8) (ho.tail (fun b hb=>Env.GX fun e=>hb (by rw [e])) rfl qB)
  | _=>exact step h .refl rfl (fun _ _=>rfl) (fun v e=>by simp at e) (ho.tail (fun _ _=>rfl) rfl fun _ _ _=>rfl)
def rnB (fs:List (Option Nat)) (nx b:Nat):Nat:=cond (Nat.ble nx b) (match ajY (b - nx) fs with
 | some (some f)=>f
 | _=>b) b
def rn1 (fs:List (Option Nat)) (nx:Nat) (v:KV):KV:=
 match v with
 | .al t b o n=>.al t (rnB fs nx b) o n
 | v=>v
def as5 (fs:List (Option Nat)) (nx:Nat):List KV->List KV
 | []=>[]
 | v::vs=>rn1 fs nx v::as5 fs nx vs
def rnV (fs:List (Option Nat)) (nx:Nat) (v:KV):KV:=
 match v with
 | .agg cs=>.agg (as5 fs nx cs)
 | v=>rn1 fs nx v
def as6 (fs:List (Option Nat)) (nx:Nat):List (Nat×KV)->List (Nat×KV)
 | []=>[]
 | q::qs=>(q.1,rnV fs nx q.2)::as6 fs nx qs
def ans (E1 E2:Env) (fs:List (Option Nat)) (nx:Nat):Prop:=E1.le E2/\∀ (i f:Nat),fs[i]? = some (some f)->∀ p,E1.α (nx+i)=some p->E2.α f=some p
theorem auz {E1 E2:Env} {fs:List (Option Nat)} {nx b:Nat} (h:ans E1 E2 fs nx) {p:Nat×Nat×Nat} (e:E1.α b=some p):E2.α (rnB fs nx b)=some p:=by
 unfold rnB;cases hb:Nat.ble nx b with
 | false=>exact h.1.α b p e
 | true=>
  simp only [ai];have hb:=gD hb;rw [agW];split
  ·rename_i f hf
   exact h.2 _ f hf p (by rw [show nx+(b - nx)=b by omega]; exact e)
  ·exact h.1.α b p e
theorem aqv {E1 E2:Env} {fs:List (Option Nat)} {nx:Nat} (h:ans E1 E2 fs nx) {v:KV} {u:Value} (hv:VK P E1 v u):VK P E2 (rn1 fs nx v) u:=by
 unfold rn1;split
 ·rename_i t b o n
  refine .XD ?_;rcases hv.Bh with q | ⟨x,L,N,c,q1,q2⟩
  ·exact .inl q
  ·exact .inr ⟨x,L,N,c,auz h q1,q2⟩
 ·exact hv.mono h.1
theorem ant {E1 E2:Env} {fs:List (Option Nat)} {nx:Nat} (h:ans E1 E2 fs nx):∀ {vs:List KV} {us:List Value},bo P E1 vs us->bo P E2 (as5 fs nx vs) us
 | [],us,hv=>by rw [hv.cw]; exact .nil
 | v::vs,us,hv=>by
  obtain ⟨u,us',rfl,h1,h2⟩:=hv.cons_inv;exact .cons (aqv h h1) (ant h h2)
theorem auA {E1 E2:Env} {fs:List (Option Nat)} {nx:Nat} (h:ans E1 E2 fs nx) {v:KV} {u:Value} (hv:VK P E1 v u):VK P E2 (rnV fs nx v) u:=by
 unfold rnV;split
 ·obtain ⟨m,rfl,h1⟩:=hv.pG
  exact .tD (ant h h1)
 ·exact aqv h hv
theorem aes {E1 E2:Env} {fs:List (Option Nat)} {nx:Nat} (h:ans E1 E2 fs nx):∀ (l:List (Nat×KV)),zm P E1 E2 l (as6 fs nx l)
 | []=>trivial
 | _::qs=>⟨rfl,fun _ hv=>auA h hv,aes h qs⟩
end
end Go.K
end
section
namespace Go.K
open Go Go.aF
variable {P:Program} {E:Env}
noncomputable section
def aax:List CD->Bool
 | []=>true
 | .aZ _::_=>false
 | _::ds=>aax ds
def af5:List (Tmp×VD)->Bool
 | []=>true
 | p::ps=>aax p.2.ks&&af5 ps
def af6:List (Tmp×List CD×Nat)->Bool
 | []=>true
 | p::ps=>aax p.2.1&&af6 ps
def aQ.stays (S:aQ):Bool:=af5 S.eI&&af6 S.rows
theorem GY:∀ {ds:List CD} {vs:List KV},aax ds=true->∀ q∈sK P ds vs,∃ v,q = .arr v
 | [],_,_,q,hq=>by simp [sK] at hq
 | d::ds,[],_,q,hq=>by cases d <;> simp [sK] at hq
 | d::ds,v::vs,h,q,hq=>by
  cases d <;> simp only [aax,sK,fp] at h hq
  ·exact GY h q hq
  ·exact GY h q hq
  ·simp at h
  ·rcases hq with rfl | hq
   ·exact ⟨_,rfl⟩
   ·exact GY h q hq
  ·exact GY h q hq
theorem ahB:∀ {ps:List (Tmp×VD)} {vs:List KV},af5 ps=true->∀ q∈Ce P ps vs,∃ v,q = .arr v
 | [],_,_,q,hq=>by simp [Ce] at hq
 | p::ps,[],_,q,hq=>by simp [Ce] at hq
 | p::ps,v::vs,h,q,hq=>by
  simp only [af5,aD,Ce,mI] at h hq;exact hq.elim (GY h.1 q) (ahB h.2 q)
theorem ahC:∀ {ps:List (Tmp×List CD×Nat)} {rs:List (List KV)},af6 ps=true->∀ q∈DJ P ps rs,∃ v,q = .arr v
 | [],_,_,q,hq=>by simp [DJ] at hq
 | p::ps,[],_,q,hq=>by simp [DJ] at hq
 | p::ps,r::rs,h,q,hq=>by
  simp only [af6,aD,DJ,mI] at h hq;exact hq.elim (GY h.1 q) (ahC h.2 q)
theorem akl {S:aQ} (h:S.stays=true) {vs:List KV} {rs:List (List KV)} {i:Nat} {q:lg} (hq:(S.lens P vs rs)[i]? = some q):∃ v,q = .arr v:=by
 simp only [aQ.stays,aD] at h;have:=jj hq;simp only [aQ.lens,mI] at this;exact this.elim (ahB h.1 q) (ahC h.2 q)
theorem Wy {S:aQ} {vs:List KV} {rs:List (List KV)} (hv:jE S.eI vs=true) (hl:rs.length=S.rows.length) (hg:∀ (k:Nat) p r,S.rows[k]? = some p->rs[k]? = some r->eF p.2.1 r=true):(S.lens P vs rs).length=qM S.eI+(S.rows.map fun p=>u5 p.2.1).sum:=by
 rw [aQ.lens,n7,H0 hv,Oo hl hg rfl]
def aQ.kd (S:aQ) (nx:Nat) (bs:List Nat) (fs:List (Option Nat)) (vs:List KV):bL:=oL (as6 fs nx (ael nx bs S.eI vs++Ej bs S.aej))
def aQ.ahD (S:aQ) (P:Program) (bs:List Nat) (fs:List (Option Nat)) (vs:List KV) (rs:List (List KV)) (A:aB):aB:=Kw (S.back P bs fs vs rs A) fs A.next (S.lens P vs rs)
def aqw (S:aQ) (E E' : Env):Prop:=∀ (i:Nat) p,E.α (S.nr+i)=some p->E'.α (S.nr+i)=some p
theorem akm {S:aQ} {t:bL} {A:aB} {B B1:St} {g:GR} {ρ qg:a7} {base N:Nat} {w w1:World} {a1:Act} {vs:List KV} {rs:List (List KV)} {E1:Env} (jN:S.stays=true) (hG:eG P S t A g) (hk:gU P E A B)
  (ht:nU P E1 qg (S.tm S.nr S.ids vs) N a1) (hs:gU P E1 (S.mem P vs rs) B1) (Cf:Co base (E.sub A g.bs g.fs S.nr) (S.mem P g.vs g.rs) B ρ w E1 (S.mem P vs rs) B1 qg w1) (MR:∀ k,k < S.rows.length->E1.κ k=(E.sub A g.bs g.fs S.nr).κ k)
  (hpl:aqw S (E.sub A g.bs g.fs S.nr) E1)
  (hv:jE S.eI vs=true) (Ip:rs.length=S.rows.length) (hrg:∀ (k:Nat) p r,S.rows[k]? = some p->rs[k]? = some r->eF p.2.1 r=true) :
  ∃ E',nU P E' qg (S.kd A.next g.bs g.fs vs) N a1/\Ev P base E A B ρ w E' (S.ahD P g.bs g.fs vs rs A) B1 qg w1:=by
 obtain ⟨ht0,tK⟩:=aki hG hk ht hs Cf MR hv Ip hrg;have kl:(DK (rM A g.bs S.rows (S.LA A.next g.bs rs)) g.fs).next=A.next:=by rw [Ni,YX]
 have hlen:(S.lens P vs rs).length=g.fs.length:=by
  rw [Wy hv Ip hrg,hG.fs,vC,<- hG.lens,Wy hG.eI hG.wK hG.B4]
 have hold:∀ (i:Nat) f,g.fs[i]? = some (some f)->∃ u,A.get f=some (.arr u):=by
  intro i f hi;have bt:i < (S.lens P g.vs g.rs).length:=by rw [hG.lens,<- vC,<- hG.fs]; exact (dD.1 hi).1
  obtain ⟨fi,_,h2,h3⟩:=hG.fact (dF bt);rw [hi] at h2; simp at h2;obtain ⟨u0,hu0⟩:=akl jN (dF bt);rcases h3 with ⟨n,sz,e,_⟩ | ⟨T,v,_,⟨h3,_⟩ | ⟨f',m,N,es,acc,h3,h4,_⟩⟩
  ·rw [hu0] at e; simp at e
  ·rw [h3] at h2; simp at h2
  ·rw [h3] at h2; simp at h2; subst h2; exact ⟨_,h4⟩
 have qC:∀ (i f:Nat),g.fs[i]? = some (some f)->∀ p,(E.up E1 S.nr A.next).α f=some p->(E.up E1 S.nr A.next).α (A.next+i)=some p:=fun i f hi p e=>by
  obtain ⟨u,hu⟩:=hold i f hi;rw [Env.PL (hk.live f _ hu)] at e;rw [Env.PK];exact hpl i p (by rw [Env.LC,hi]; exact e)
 have hsw:akk (E.up E1 S.nr A.next) (S.back P g.bs g.fs vs rs A) g.fs A.next (S.lens P vs rs):=by
  refine ⟨fun i f v hi hv=>?_,fun i f hi=>?_,fun i k f h1 h2=>Bk hG.af4 i k f h1 h2⟩
  ·obtain ⟨u,hu⟩:=hold i f hi
   refine ⟨?_,(hk.ar.nk f u hu).2,?_,qC i f hi⟩
   ·rw [aQ.back,Kt (by rw [kl]; exact hk.live f _ hu),LB,aV (Aa.2 (jj hi))]
   ·have:=UO (A:=DK (rM A g.bs S.rows (S.LA A.next g.bs rs)) g.fs) hv
    rw [kl] at this;exact this
  ·obtain ⟨u,hu⟩:=hold i f hi
   exact hk.live f _ hu
 obtain ⟨E',q1,q2,q3,_⟩:=acD tK.kV hsw;refine ⟨E',?_,tK.sw q1 q2⟩;refine nU.asV ht0 (aes ⟨q2.le,fun i f hi p e=>?_⟩ _);have bt:i < (S.lens P vs rs).length:=by rw [hlen]; exact (dD.1 hi).1
 obtain ⟨v,ZV⟩:=akl jN (dF bt);rw [q3 i f v hi (by rw [dF bt,ZV])];exact e
def aQ.akn (S:aQ) (P:Program) (t:bL) (A:aB):Bool:=cond (z9 (S.gV P t A).bs S.ids) (cond (Kv (S.gV P t A).fs S.nr) (S.gV P t A).ok false) false
theorem anu {S:aQ} {t:bL} {A:aB} (h:S.akn P t A=true):z9 (S.gV P t A).bs S.ids=true/\Kv (S.gV P t A).fs S.nr=true/\(S.gV P t A).ok=true:=by
 unfold aQ.akn at h;cases h1:z9 (S.gV P t A).bs S.ids with
 | false=>rw [h1] at h; simp at h
 | true=>
  cases h2:Kv (S.gV P t A).fs S.nr with
  | false=>rw [h1,h2] at h; simp at h
  | true=>rw [h1,h2] at h; exact ⟨rfl,rfl,h⟩
def uh (P:Program) (cfg:ga) (L n:Nat) (f:FuncId) (p:Nat) (body:Code) (S:aQ) (vs:List KV) (rs:List (List KV)):Option (aq×List KV×List (List KV)):=
 uy P cfg (M8 P cfg L n) L f body (2 * p) (fun e t A=>
  Bool.rec (motive:=fun _=>Option (aq×List KV×List (List KV))) none (some (e,(S.gV P t A).vs,(S.gV P t A).rs)) (S.akn P t A)) (S.tm S.nr S.ids vs) (S.mem P vs rs)
theorem anv {S:aQ} {t:bL} {A:aB} {B0:St} {E1:Env} {g:GR} {vs:List KV} {rs:List (List KV)} (hG:eG P S t A g) (hf:Kv g.fs S.nr=true) (cq:Gs P S vs rs) (hs:gU P E (S.mem P vs rs) B0) (hle:E.le E1):aqw S E (E1.sub A g.bs g.fs S.nr):=fun i p e=>by
 have hd:=hs.ar.oC _ p e;rw [aQ.mem,iC,r7 cq.wK,Wy cq.v cq.wK cq.B4] at hd;have bt:i < g.fs.length:=by
  rw [hG.fs,vC,<- hG.lens,Wy hG.eI hG.wK hG.B4];omega
 have h1:=dF bt;rw [Env.LC,h1,aer hf h1];exact hle.α _ p e
section
variable {cfg:ga} {L n:Nat} {f:FuncId} {S:aQ} {root body:Code} {p N:Nat}
theorem ako {t' : bL} {A1:aB} {B B1:St} {ρ qg:a7} {base:Nat} {w w1:World} {E1:Env} {vs:List KV} {rs:List (List KV)} (cq:Gs P S vs rs) (hj:KJ P E (S.mem P vs rs) B ρ base w) (h4:Ev P base E (S.mem P vs rs) B ρ w E1 A1 B1 qg w1) (_:eG P S t' A1 (S.gV P t' A1)) (hi:z9 (S.gV P t' A1).bs S.ids=true) :
  ∀ k,k < S.rows.length->(E1.sub A1 (S.gV P t' A1).bs (S.gV P t' A1).fs S.nr).κ k=E.κ k:=fun k hk=>by
 have as2:=UR hi;have hp:=dF hk;have hr':=dF (show k < rs.length by rw [cq.wK]; exact hk);obtain ⟨x,_,hx,_⟩:=hj.k.row k _ _ (mem_row cq.wK hp hr');have e1:(E1.sub A1 (S.gV P t' A1).bs (S.gV P t' A1).fs S.nr).κ k=E1.κ k:=by
  simp only [Env.sub];rw [as2,PH S k hk,gE]
 rw [e1,hx];exact h4.le.κ k x hx
theorem anw (hP:P.funcs.toList.all qx=true) (hm:P.follows .mixedOrders=true) (je:vO P cfg.pc) (og:z7 P cfg) {fn:Func} (hf:P.funcs[f]? = some fn) (hb:fn.body=some root) (hs:Sub root p (.loop body)) (hc:codeOk N body=true)
  {vs cU:List KV} {rs oQ:List (List KV)} {e:aq} (hr:uh P cfg L n f p body S vs rs=some (e,cU,oQ)) {B:St} {ρ:a7} {base:Nat} {a:Act} {w:World} {Q:Exit->Act->World->Prop} (cq:Gs P S vs rs)
  (ht:nU P E ρ (S.tm S.nr S.ids vs) N a) (hj:KJ P E (S.mem P vs rs) B ρ base w)
  (hq:∀ E' B' a8 a' w',nU P E' a8 (S.tm S.nr S.ids cU) N a'->a'.defers=a.defers->KJ P E' (S.mem P cU oQ) B' a8 base w'->Co base E (S.mem P vs rs) B ρ w E' (S.mem P cU oQ) B' a8 w'->(∀ k,k < S.rows.length->E'.κ k=E.κ k)->Gs P S cU oQ->aqw S E E'->Q e.out a' w'):body.wp P Q a w:=by
 have zH:=yL (R:=aq×List KV×List (List KV)) hP hm je og L n;refine pM je zH hm (og.2 f fn root hf hb) body (2 * p) hs.loop hc _ _ _ _ E B ρ base a w Q hr ht hj fun e' t' E1 A1 B1 qg a1 w1 h1 h2 h3 h4=>?_;cases hi:S.akn P t' A1 with
 | false=>simp only [hi] at h1; exact absurd h1 (by simp)
 | true=>
  simp only [hi,dG,gF] at h1;obtain ⟨rfl,rfl,rfl⟩:=h1;obtain ⟨i1,i2,i3⟩:=anu hi;have hG:=PI i3;exact hq _ B1 qg a1 w1 (hG.tkr h2) h3 ⟨hG.kV h4.kV,h4.gX.kV⟩ (h4.co hG) (ako cq hj h4 hG i1) hG.SU (anv hG i2 cq hj.k h4.le)
theorem ahE (hP:P.funcs.toList.all qx=true) (hm:P.follows .mixedOrders=true) (je:vO P cfg.pc) (og:z7 P cfg) {fn:Func} (hf:P.funcs[f]? = some fn) (hb:fn.body=some root) (hs:Sub root p (.loop body)) (hc:codeOk N body=true)
  {e:aq} {cU:List KV} {oQ:List (List KV)} : ∀ (m:Nat) {vs:List KV} {rs:List (List KV)},y7 (uh P cfg L n f p body S) m vs rs=some (e,cU,oQ)->∀ {E:Env} {B:St} {ρ:a7} {base:Nat} {a:Act} {w:World} {Q:Exit->Act->World->Prop},Gs P S vs rs->
  nU P E ρ (S.tm S.nr S.ids vs) N a->KJ P E (S.mem P vs rs) B ρ base w->
  (∀ E' B' a8 a' w',nU P E' a8 (S.tm S.nr S.ids cU) N a'->a'.defers=a.defers->KJ P E' (S.mem P cU oQ) B' a8 base w'->Co base E (S.mem P vs rs) B ρ w E' (S.mem P cU oQ) B' a8 w'->(∀ k,k < S.rows.length->E'.κ k=E.κ k)->Gs P S cU oQ->aqw S E E'->Q e.out a' w')->Code.rounds P body Q m a w
 | 0,vs,rs,h,E,B,ρ,base,a,w,Q,cq,ht,hj,hq=>by simp [y7] at h
 | m+1,vs,rs,h,E,B,ρ,base,a,w,Q,cq,ht,hj,hq=>by
  unfold y7 at h;split at h
  ·rename_i e1 vs1 rs1 hr
   rw [rounds_succ];refine anw hP hm je og hf hb hs hc hr cq ht hj fun E' B' a8 a' w' h1 h2 h3 h4 h5 h6 h7=>?_;have fin:yM e1=false->some (e1,vs1,rs1)=some (e,cU,oQ)->Q e1.out a' w':=by
    intro _ h;simp only [dG,gF] at h;obtain ⟨rfl,rfl,rfl⟩:=h;exact hq E' B' a8 a' w' h1 h2 h3 h4 h5 h6 h7
   cases e1 with
   | normal=>
    have h:y7 (uh P cfg L n f p body S) m vs1 rs1=some (e,cU,oQ):=h;exact ahE hP hm je og hf hb hs hc m h h6 h1 h3 fun PD RB zQ a'' Pa q1 q2 q3 q4 q5 q6 q7=>hq PD RB zQ a'' Pa q1 (q2.trans h2) q3 (h4.trans q4) (fun k hk=>(q5 k hk).trans (h5 k hk)) q6 fun i p e=>q7 i p (h7 i p e)
   | exit id=>exact fin rfl h
   | goto l=>exact fin rfl h
   | ret=>exact fin rfl h
  ·simp at h
def wJ.UW (P:Program) (S:aQ) (bs:List Nat) (fs:List (Option Nat)) (A:aB):wJ->M7
 | .no=>.no
 | .out e vs rs=>.out e (S.kd A.next bs fs vs) (S.ahD P bs fs vs rs A)
 | .br c x y=>.br c (x.UW P S bs fs A) (y.UW P S bs fs A)
def as7 (P:Program) (S:aQ) (F:LFn):bL->aB->M7:=fun t A=>
 .br (cond S.stays (S.gV P t A).ok false) ((F (S.gV P t A).vs (S.gV P t A).rs).UW P S (S.gV P t A).bs (S.gV P t A).fs A) .no
theorem Y1 {R:Type} {bs:List Nat} {fs:List (Option Nat)} {A:aB} {k:KE R} {r:R} : ∀ (x:wJ),(x.UW P S bs fs A).run k=some r->∃ e cU oQ,x.ev=some (e,cU,oQ)/\k e (S.kd A.next bs fs cU) (S.ahD P bs fs cU oQ A)=some r
 | .no,h=>absurd h (by simp [wJ.UW,M7.run])
 | .out e vs rs,h=>⟨e,vs,rs,rfl,h⟩
 | .br c x y,h=>by
  have h:Bool.rec (motive:=fun _=>Option R) ((y.UW P S bs fs A).run k) ((x.UW P S bs fs A).run k) c=some r:=h;cases c with
  | true=>exact Y1 x h
  | false=>exact Y1 y h
theorem anx (hP:P.funcs.toList.all qx=true) (hm:P.follows .mixedOrders=true) (je:vO P cfg.pc) (og:z7 P cfg) {fn:Func} (hf:P.funcs[f]? = some fn) (hb:fn.body=some root) (hs:Sub root p (.loop body)) (hc:codeOk N body=true) {F:LFn}
  (hF:∀ vs rs e cU oQ,Gs P S vs rs->(F vs rs).ev=some (e,cU,oQ)->∃ m,y7 (uh P cfg L n f p body S) m vs rs=some (e,cU,oQ)):acx P N body (as7 P S F):=by
 intro R k r t A E B ρ base a w Q h ht hj hq;have h:Bool.rec (motive:=fun _=>Option R) none (((F (S.gV P t A).vs (S.gV P t A).rs).UW P S (S.gV P t A).bs (S.gV P t A).fs A).run k) (cond S.stays (S.gV P t A).ok false)=some r:=h;cases jN:S.stays with
 | false=>rw [jN] at h; exact absurd h (by simp)
 | true=>
  rw [jN,ai] at h;cases ho:(S.gV P t A).ok with
  | false=>rw [ho] at h; exact absurd h (by simp)
  | true=>
   rw [ho] at h;have hG:=PI ho;obtain ⟨e,cU,oQ,h9,xU⟩:=Y1 _ h;obtain ⟨m,hm'⟩:=hF _ _ e cU oQ hG.SU h9;refine wp_loop_rounds m (ahE hP hm je og hf hb hs hc m hm' hG.SU (hG.tkr ht) ⟨hG.kV hj.k,hj.s⟩ fun E' B' a8 a' w' q1 q2 q3 q4 q5 q6 q7=>?_);obtain ⟨E2,r1,r2⟩:=akm jN hG hj.k q1 q3.k q4 q5 q7 q6.v q6.wK q6.B4;exact hq e _ E2 _ B' a8 a' w' xU r1 q2 r2
end
def alx:aq->Bool
 | .normal=>true
 | .ret=>true
 | _=>false
def Oq (P:Program) (cfg:ga) (L n:Nat) (g:FuncId) (S:aQ) (vs:List KV) (rs:List (List KV)):Option (aq×List KV×List (List KV)):=
 match P.funcs.toList[g]? with
 | some fn=>match fn.body with
  | some c=>cond fn.results.toList.isEmpty (uy P cfg (M8 P cfg L n) L g c 1 (fun e t A=>
    Bool.rec (motive:=fun _=>Option (aq×List KV×List (List KV))) none (some (.ret,(S.gV P t A).vs,(S.gV P t A).rs)) (cond (alx e) (S.akn P t A) false)) (S.tm S.nr S.ids vs) (S.mem P vs rs)) none
  | none=>none
 | none=>none
def wJ.UX (P:Program) (S:aQ) (bs:List Nat) (fs:List (Option Nat)) (A:aB):wJ->yY
 | .no=>.no
 | .out _ vs rs=>.out (.lP []) (S.ahD P bs fs vs rs A)
 | .br c x y=>.br c (x.UX P S bs fs A) (y.UX P S bs fs A)
def avg (P:Program) (S:aQ) (F:LFn):List KV->aB->yY:=fun args A=>
 .br (cond S.stays (S.gV P (rB args 0 .leaf) A).ok false) ((F (S.gV P (rB args 0 .leaf) A).vs (S.gV P (rB args 0 .leaf) A).rs).UX P S (S.gV P (rB args 0 .leaf) A).bs (S.gV P (rB args 0 .leaf) A).fs A) .no
theorem Y2 {R:Type} {S:aQ} {bs:List Nat} {fs:List (Option Nat)} {A:aB} {k:KV->aB->Option R} {r:R} : ∀ (x:wJ),yY.run k (x.UX P S bs fs A)=some r->∃ e cU oQ,x.ev=some (e,cU,oQ)/\k (.lP []) (S.ahD P bs fs cU oQ A)=some r
 | .no,h=>absurd h (by simp [wJ.UX,yY.run])
 | .out e vs rs,h=>⟨e,vs,rs,rfl,h⟩
 | .br c x y,h=>by
  have h:Bool.rec (motive:=fun _=>Option R) (yY.run k (y.UX P S bs fs A)) (yY.run k (x.UX P S bs fs A)) c=some r:=h;cases c with
  | true=>exact Y2 x h
  | false=>exact Y2 y h
theorem arf {ρ:a7} {args:List KV} {mO:List Value} (hv:Jb P E ρ args mO) (m:Nat):nU P E ρ (rB args 0 .leaf) (max m args.length) { tmps:=mO.toArray++Array.replicate (m - mO.toArray.size) undef,defers:=[] }:=by
 obtain ⟨ao1,ZS,N7⟩:=hv;have hlen:mO.length=args.length:=by rw [N7.length,ZS.length]
 have gI:(mO.toArray++Array.replicate (m - mO.toArray.size) undef).size=max m args.length:=by
  simp [hlen];omega
 refine ⟨gI,fun i=>?_,fun i hi=>?_⟩
 ·rw [Lx]
  simp only [cP,true_and,bh,Nat.sub_zero,Trie.Wd];by_cases hi:i < args.length
  ·rw [aV hi]
   obtain ⟨u,hu⟩:∃ u,args[i]? = some u:=⟨_,dF hi⟩
   obtain ⟨m',h1,h2⟩:=ZS.get hu;obtain ⟨u',h3,h4⟩:=N7.get h1;rw [hu];have:(mO.toArray++Array.replicate (m - mO.toArray.size) undef).getD i undef=u':=by
    rw [ji,Array.getElem?_append_left (by simpa [hlen] using hi)];simp [h3]
   rw [this];exact ⟨m',h2,h4⟩
  ·rw [ay hi]
   exact VC.bG
 ·rw [Lx,ay,Trie.Wd]
  simp only [cP,true_and,bh];have:=Nat.le_max_right m args.length;omega
theorem ao9 {cfg:ga} {L n:Nat} {g:FuncId} {S:aQ} {F:LFn} (hP:P.funcs.toList.all qx=true) (hm:P.follows .mixedOrders=true) (je:vO P cfg.pc) (og:z7 P cfg) (hy:Nat.blt g yB=true)
  (hF:∀ vs rs e cU oQ,Gs P S vs rs->(F vs rs).ev=some (e,cU,oQ)->Oq P cfg L n g S vs rs=some (e,cU,oQ)) {R:Type} {args:List KV} {A:aB} {k:KV->aB->Option R} {r:R} (h:yY.run k (avg P S F args A)=some r):PB P g/\
  ∀ (E:Env) (B:St) (ρ:a7) (base:Nat) (w:World) (mO:List Value),Jb P E ρ args mO->KJ P E A B ρ base w->
   Calls P g mO.toArray w fun e w'=>∃ v v' E' A' B' a8,e = .returned v'/\VC P E' a8 v v'/\Ev P base E A B ρ w E' A' B' a8 w'/\k v A' = some r:=by
 have h:Bool.rec (motive:=fun _=>Option R) none (yY.run k ((F (S.gV P (rB args 0 .leaf) A).vs (S.gV P (rB args 0 .leaf) A).rs).UX P S (S.gV P (rB args 0 .leaf) A).bs (S.gV P (rB args 0 .leaf) A).fs A)) (cond S.stays (S.gV P (rB args 0 .leaf) A).ok false)=some r:=h;cases jN:S.stays with
 | false=>rw [jN] at h; exact absurd h (by simp)
 | true=>
 rw [jN,ai] at h;cases ho:(S.gV P (rB args 0 .leaf) A).ok with
 | false=>rw [ho] at h; exact absurd h (by simp)
 | true=>
 rw [ho] at h;have hG:=PI ho;obtain ⟨e0,cU,oQ,h9,xU⟩:=Y2 _ h;have qh:=hF _ _ e0 cU oQ hG.SU h9;unfold Oq at qh;split at qh
 ·rename_i fn hf
  split at qh
  ·rename_i c hc
   cases hre:fn.results.toList.isEmpty with
   | false=>rw [hre] at qh; exact absurd qh (by simp)
   | true=>
   rw [hre,ai] at qh;have hf' : P.funcs[g]? = some fn:=by simpa using hf
   have cq:=iu.1 hP fn (jj hf);unfold qx at cq;rw [hc] at cq;simp only [aD,nD] at cq;refine ⟨⟨hy,fn,hf',by simp [hc],cq.2⟩,fun E B ρ base w mO hv hj=>?_⟩;refine calls_of_wp hf' hc ?_;have ht:=arf hv fn.ntmps;have aea:codeOk (max fn.ntmps args.length) c=true:=pH (Nat.le_max_left _ _) c cq.1;have zH:=yL (R:=aq×List KV×List (List KV)) hP hm je og L n;refine pM (L:=L) (f:=g) (N:=max fn.ntmps args.length) je zH hm (og.2 g fn c hf' hc) c 1 .root aea _ _ _ _ (E.sub A (S.gV P (rB args 0 .leaf) A).bs (S.gV P (rB args 0 .leaf) A).fs S.nr) B ρ base _ w _ qh (hG.tkr ht) ⟨hG.kV hj.k,hj.s⟩ fun e t' E1 A1 B1 qg a1 w1 h1 h2 h3 h4=>?_;cases he:alx e with
   | false=>simp only [he,aw] at h1; exact absurd h1 (by simp)
   | true=>
   simp only [he,ai] at h1;cases hi:S.akn P t' A1 with
   | false=>simp only [hi] at h1; exact absurd h1 (by simp)
   | true=>
   simp only [hi,dG,gF] at h1;obtain ⟨_,rfl,rfl⟩:=h1;obtain ⟨i1,i2,i3⟩:=anu hi;have hG1:=PI i3;have hj0:KJ P (E.sub A (S.gV P (rB args 0 .leaf) A).bs (S.gV P (rB args 0 .leaf) A).fs S.nr) (S.mem P (S.gV P (rB args 0 .leaf) A).vs (S.gV P (rB args 0 .leaf) A).rs) B ρ base w:=⟨hG.kV hj.k,hj.s⟩
   obtain ⟨E2,_,r2⟩:=akm jN hG hj.k (hG1.tkr h2) (hG1.kV h4.kV) (h4.co hG1) (ako hG.SU hj0 h4 hG1 i1) (anv hG1 i2 hG.SU hj0.k h4.le) hG1.SU.v hG1.SU.wK hG1.SU.B4;have asg:fn.results.toList = []:=List.isEmpty_iff.1 hre;have anh:(results fn a1.tmps).run P w1 = .ok (.tuple #[]) w1:=by
    rw [adX,Sem.run_bind,Array.mapM_eq_mapM_toList,Sem.run_map,asg];rfl
   have ahr:bodyPost P fn (fun e w'=>∃ v v' E' A' B' a8,e = .returned v'/\VC P E' a8 v v'/\Ev P base E A B ρ w E' A' B' a8 w'/\k v A' = some r) .ret a1 w1:=
    ⟨h3,_,anh,_,_,E2,_,B1,qg,rfl,⟨_,.agQ .nil,VR.mkTuple .nil⟩,r2,xU⟩
   cases e with
   | normal=>exact ahr
   | ret=>exact ahr
   | exit id=>simp [alx] at he
   | goto l=>simp [alx] at he
  ·simp at qh
 ·simp at qh
end
end Go.K
end
section
namespace Go.K
open Go Go.aF
variable {P:Program} {E:Env}
def aly:Code->Bool->Option Code
 | .seq a _,false=>some a
 | .seq _ b,true=>some b
 | .cond _ a _,false=>some a
 | .cond _ _ b,true=>some b
 | .block _ a,false=>some a
 | .loop a,false=>some a
 | .scope a,false=>some a
 | _,_=>none
def u7:Nat->Code->Nat->Option Code
 | 0,_,_=>none
 | n+1,root,p=>cond (Nat.ble p 1) (cond (Nat.beq p 1) (some root) none) ((u7 n root (p / 2)).bind fun c=>aly c (Nat.beq (p % 2) 1))
theorem aay:∀ {n:Nat} {root c:Code} {p:Nat},u7 n root p=some c->u7 (n+1) root p=some c
 | 0,_,_,_,h=>by simp [u7] at h
 | n+1,root,c,p,h=>by
  unfold u7 at h ⊢;cases hp:Nat.ble p 1 with
  | true=>rw [hp] at h; exact h
  | false=>
   rw [hp] at h;simp only [aw] at h ⊢;obtain ⟨d,h1,h2⟩:=dr.1 h;exact dr.2 ⟨d,aay h1,h2⟩
theorem Y3 {root c:Code} {p n:Nat} (h:u7 n root p=some c):∀ k,u7 (n+k) root p=some c
 | 0=>h
 | k+1=>aay (Y3 h k)
theorem Sub.pos {root c:Code} {p:Nat} (h:Sub root p c):1<=p:=by induction h <;> omega
theorem Sub.at {root c:Code} {p:Nat} (h:Sub root p c):∃ n,u7 n root p=some c:=by
 have left:∀ {q n:Nat} {d:Code},1<=q->u7 n root q=some d->u7 (n+1) root (2 * q)=aly d false:=by
  intro q n d hq hd;unfold u7;have:Nat.ble (2 * q) 1=false:=by
   cases hb:Nat.ble (2 * q) 1 with
   | false=>rfl
   | true=>have:=gD hb; omega
  rw [this,aw,show 2 * q / 2=q by omega,hd,show 2 * q % 2=0 by omega];rfl
 have right:∀ {q n:Nat} {d:Code},1<=q->u7 n root q=some d->u7 (n+1) root (2 * q+1)=aly d true:=by
  intro q n d hq hd;unfold u7;have:Nat.ble (2 * q+1) 1=false:=by
   cases hb:Nat.ble (2 * q+1) 1 with
   | false=>rfl
   | true=>have:=gD hb; omega
  rw [this,aw,show (2 * q+1) / 2=q by omega,hd,show (2 * q+1) % 2=1 by omega];rfl
 induction h with
 | root=>exact ⟨1,rfl⟩
 | au7 hs ih=>obtain ⟨n,hn⟩:=ih; exact ⟨n+1,left hs.pos hn⟩
 | au8 hs ih=>obtain ⟨n,hn⟩:=ih; exact ⟨n+1,right hs.pos hn⟩
 | asL hs ih=>obtain ⟨n,hn⟩:=ih; exact ⟨n+1,left hs.pos hn⟩
 | asM hs ih=>obtain ⟨n,hn⟩:=ih; exact ⟨n+1,right hs.pos hn⟩
 | block hs ih=>obtain ⟨n,hn⟩:=ih; exact ⟨n+1,left hs.pos hn⟩
 | loop hs ih=>obtain ⟨n,hn⟩:=ih; exact ⟨n+1,left hs.pos hn⟩
 | scope hs ih=>obtain ⟨n,hn⟩:=ih; exact ⟨n+1,left hs.pos hn⟩
theorem Sub.uniq {root c d:Code} {p n:Nat} (h:Sub root p c) (k:u7 n root p=some d):c=d:=by
 obtain ⟨m,hm⟩:=h.at;have h1:=Y3 hm n;have h2:=Y3 k m;rw [Nat.add_comm] at h1;rw [h1] at h2;simpa using h2
def pn (P:Program) (f p:Nat):Code:=
 match P.funcs.toList[f]? with
 | some fn=>match fn.body with
  | some c=>match u7 200 c p with
   | some (.loop b)=>b
   | _=>.skip
  | none=>.skip
 | none=>.skip
structure Lp where
 f:Nat
 p:Nat
 S:aQ
 F:LFn
 st:Bool
noncomputable def aqx (st:Bool) (P:Program) (cfg:ga) (L n:Nat) (f:FuncId) (p:Nat) (body:Code) (S:aQ) (vs:List KV) (rs:List (List KV)):Option (aq×List KV×List (List KV)):=
 cond st (uh P cfg L n f p body S vs rs) (Dk P cfg L n f p body S vs rs)
noncomputable def ahF (P:Program):List Lp->FuncId->Nat->Option (bL->aB->M7)
 | [],_,_=>none
 | l::ls,f,p=>cond (Nat.beq l.f f&&Nat.beq l.p p) (some (cond l.st (as7 P l.S l.F) (avb P l.S l.F))) (ahF P ls f p)
def Lp.Ok (P:Program) (l:Lp):Prop:=∃ cfg L n,vO P cfg.pc/\z7 P cfg/\
 ∀ vs rs e cU oQ,Gs P l.S vs rs->(l.F vs rs).ev=some (e,cU,oQ)->∃ m,y7 (aqx l.st P cfg L n l.f l.p (pn P l.f l.p) l.S) m vs rs=some (e,cU,oQ)
def GZ (P:Program) (f p:Nat):Bool:=
 match P.funcs.toList[f]? with
 | some fn=>match fn.body with
  | some c=>match u7 200 c p with
   | some (.loop _)=>true
   | _=>false
  | none=>false
 | none=>false
theorem aqy (hP:P.funcs.toList.all qx=true) (hm:P.follows .mixedOrders=true) {pc:FuncId->Option (List KV->KR KV)} {x:amz} : ∀ {ls:List Lp},(∀ l∈ls,Lp.Ok P l/\GZ P l.f l.p=true)->∀ f fn c,P.funcs[f]? = some fn->fn.body=some c->aqn P ⟨pc,ahF P ls,x⟩ f c
 | [],_=>fun f fn c hf hb p F body h=>by simp [ahF] at h
 | l::ls,hl=>fun f fn c hf hb p F body h hs N hc=>by
  have h:ahF P (l::ls) f p=some F:=h;unfold ahF at h;cases hk:(Nat.beq l.f f&&Nat.beq l.p p) with
  | false=>
   rw [hk] at h;exact aqy hP hm (pc:=pc) (x:=x) (fun l' tG=>hl l' (vV _ tG)) f fn c hf hb p F body h hs N hc
  | true=>
   rw [hk] at h;simp only [ai,dG] at h;subst h;simp only [aD] at hk;have e1:=bm hk.1;have e2:=bm hk.2;obtain ⟨⟨cfg,L,n,je,og,hF⟩,hth⟩:=hl l (by simp);rw [e1,e2] at hF hth;have hf' : P.funcs.toList[f]? = some fn:=by simpa using hf
   have avM:pn P f p=body:=by
    unfold GZ at hth;unfold pn;simp only [hf',hb] at hth ⊢;split at hth
    ·rename_i b EV
     have:=hs.uniq EV;simp at this;exact this.symm
    ·simp at hth
   rw [avM] at hF;cases jN:l.st with
   | true=>
    rw [jN] at hF;exact anx hP hm je og hf hb hs hc hF
   | false=>
    rw [jN] at hF;exact ao7 hP hm je og hf hb hs hc hF
theorem Wz (hP:P.funcs.toList.all qx=true) (hm:P.follows .mixedOrders=true) {pc:FuncId->Option (List KV->KR KV)} {x:amz} (hx:akb P x.ac) {ls:List Lp} (hl:∀ l∈ls,Lp.Ok P l/\GZ P l.f l.p=true):z7 P ⟨pc,ahF P ls,x⟩:=
 ⟨hx,aqy hP hm hl⟩
structure Fc where
 g:Nat
 S:aQ
 F:LFn
noncomputable def akp (P:Program):List Fc->FuncId->Option (List KV->aB->yY)
 | [],_=>none
 | c::cs,g=>cond (Nat.beq c.g g) (some (avg P c.S c.F)) (akp P cs g)
def Fc.Ok (P:Program) (c:Fc):Prop:=Nat.blt c.g yB=true/\∃ cfg L n,vO P cfg.pc/\z7 P cfg/\
 ∀ vs rs e cU oQ,Gs P c.S vs rs->(c.F vs rs).ev=some (e,cU,oQ)->Oq P cfg L n c.g c.S vs rs=some (e,cU,oQ)
theorem WA (hP:P.funcs.toList.all qx=true) (hm:P.follows .mixedOrders=true):∀ {cs:List Fc},(∀ c∈cs,Fc.Ok P c)->akb P (akp P cs)
 | [],_=>fun g F h=>by simp [akp] at h
 | c::cs,hc=>fun g F h=>by
  have h:akp P (c::cs) g=some F:=h;unfold akp at h;cases hk:Nat.beq c.g g with
  | false=>
   rw [hk] at h;intro R args A k r hr;exact WA hP hm (fun c' hc'=>hc c' (vV _ hc')) g F h args A k r hr
  | true=>
   rw [hk] at h;simp only [ai,dG] at h;subst h;have e1:=bm hk;subst e1;obtain ⟨hy,cfg,L,n,je,og,hF⟩:=hc c (by simp);intro R args A k r hr;exact ao9 hP hm je og hy hF hr
end Go.K
end
