/- Part of the proof of ImageFrags: the machine, shown to be the model's, and plain models. No conditions. -/
import Derived.Test.YtchbpckkmgcgkaaGreatEp
set_option linter.unusedSimpArgs false
set_option linter.unusedVariables false
section
namespace Go.K
open Go Go.aE
variable {P:Program} {E:Env}
theorem aj7 {w v:KV} (h:Aa w v=true):v=w:=by
 unfold Aa at h;split at h <;> simp at h
 ·rename_i f g; rw [h]
 all_goals rfl
theorem aoZ {w v:KV} (h:Aa w v=true) {E0:Env} {u:Value} (k:VK P E v u):VK P E0 v u:=by
 have:=aj7 h;subst this;unfold Aa at h;split at h <;> try (simp at h)
 ·obtain ⟨l,m,rfl,h1,h2⟩:=k.Nf
  rw [h1.cu,h2.cu];exact .amF .nil .nil
 all_goals exact k
theorem VK.mix {T:TypeId} {m m' : Mk} {n:Nat} {es tM:List KV} {acc hJ:Nat->KV} {u:Value} (h:VK P E (.ts T m n es acc) u) (k:VK P E (.ts T m' n tM hJ) u):VK P E (.ts T m n tM hJ) u:=by
 obtain ⟨_,bF,_,a,cap,rfl,h2,_,h4⟩:=h.pH;obtain ⟨ht,awL,k1,a',agr,e,_,k3,_⟩:=k.pH;simp only [Value.slice.injEq] at e;obtain ⟨rfl,_,rfl⟩:=e;simp only [VK];exact ⟨ht,awL,k1,a,cap,rfl,h2,k3,h4⟩
theorem VK.swap {E0:Env} (hz:E0.z=E.z) {T:TypeId} {m m' : Mk} {n:Nat} {es:List KV} {acc:Nat->KV} {u:Value} (h:VK P E (.ts T m n es acc) u) (hm:∀ sz a cap,u = .slice a n cap->Ww E sz a n cap m->Ww E0 sz a n cap m'):VK P E0 (.ts T m' n es acc) u:=by
 obtain ⟨ht,bF,h1,a,cap,rfl,h2,h3,h4⟩:=h.pH;simp only [VK];refine ⟨ht,bF,bp.zEs hz h1 ht.typed,a,cap,rfl,h2,?_,hm _ _ _ rfl h4⟩;refine h3.imp id ?_;rintro ⟨b,off,r,e1,e2,e3⟩;exact ⟨b,off,r,e1,by rw [hz]; exact e2,e3⟩
theorem YW (t:TypeId) (m:Mk) (n:Nat) (es:List KV) (acc:Nat->KV):∃ tM hJ,eG P iV (.ts t m n es acc) = .ts t .any n tM hJ:=⟨_,_,rfl⟩
theorem ao0 {c:CK} {v:KV} (h:kindOk c v=true):leaf c v=v:=by
 cases c <;> cases v <;> simp [kindOk] at h
 ·subst h; rfl
 ·rfl
 ·rfl
 ·rename_i t t' m n es acc
  cases m <;> simp at h;subst h; rfl
theorem VK.nCD {A:aC} {d:CD} {v:KV} {u:Value} (h:VK P E v u) (hd:∀ w,d≠.ref w) (ha:∀ t,d≠.arr t):VK P E (gK P A d v) u:=by
 cases d with
 | ref w=>exact absurd rfl (hd w)
 | arr t=>exact absurd rfl (ha t)
 | k c=>
  show VK P E (cond (kindOk c (K.qn c v)) (K.eG P iV (leaf c (K.qn c v))) .bJ) u;cases hb:kindOk c (K.qn c v) with
  | false=>exact .wM
  | true=>
   rw [ai,ao0 hb];exact VK.eG _ h.qn
 | lit w=>
  show VK P E (cond (Aa w v) w .bJ) u;cases hb:Aa w v with
  | true=>rw [aj7 hb] at h; exact h
  | false=>exact .wM
 | bm t=>
  unfold gK;cases v with
  | nN=>have:=h.r6; subst this; exact VK.eG _ .aoJ
  | ts t' m n es acc=>
   cases m with
   | bm f=>
    show VK P E (cond (Nat.beq t t') _ .bJ) u;cases hb:Nat.beq t t' with
    | false=>exact .wM
    | true=>
     have:=bo hb;subst this;exact VK.eG iV h.aso
   | _=>exact .wM
  | _=>exact .wM
def Lk (E E0:Env) (f:Option Nat) (j:Nat):Prop:=∀ x g,f=some x->E.φ x=some g->E0.φ j=some g
theorem VK.aql {E0:Env} (hz:E0.z=E.z) {A:aC} {t:TypeId} {v:KV} {u:Value} {j:Nat} (h:VK P E v u) (hg:lE (.bm t) (gK P A (.bm t) v)=true) (hl:Lk E E0 (x4 P A t v).f j) (cm:(x4 P A t v).ok=true):VK P E0 (RV j (gK P A (.bm t) v)) u:=by
 cases v with
 | nN=>
  have:=h.r6; subst this;have h1:VK P E (K.eG P iV (.ts t .any 0 [] pE)) (.slice none 0 0):=VK.eG _ .aoJ;obtain ⟨tM,hJ,e⟩:=YW (P:=P) t .any 0 [] pE;show VK P E0 (RV j (K.eG P iV (.ts t .any 0 [] pE))) _;rw [e] at h1 ⊢;exact h1.swap hz fun sz a cap he _=>by
   simp only [Value.slice.injEq] at he;obtain ⟨rfl,_,rfl⟩:=he;exact ⟨rfl,.inl ⟨rfl,rfl⟩⟩
 | ts t' m n es acc=>
  cases m with
  | bm f=>
   have e1:gK P A (.bm t) (.ts t' (.bm f) n es acc)=cond (Nat.beq t t') (K.eG P iV (.ts t .any n es acc)) .bJ:=rfl;rw [e1] at hg ⊢;cases hb:Nat.beq t t' with
   | false=>rw [hb] at hg; simp [lE,kindOk] at hg
   | true=>
    have:=bo hb;subst this;have h1:=VK.eG (P:=P) iV h.aso;obtain ⟨tM,hJ,e⟩:=YW (P:=P) t .any n es acc;rw [ai,e];rw [e] at h1;have hf:(x4 P A t (.ts t (.bm f) n es acc)).f=some f:=by
     revert cm
     unfold x4;simp only;split
     ·intro _; rfl
     ·intro cm; simp at cm
    exact (h.mix h1).swap hz fun sz a cap he hm=>by
     refine ⟨hm.1,hm.2.imp id ?_⟩;rintro ⟨b,r,g,q1,q2,q3,q4,q5⟩;exact ⟨b,r,g,q1,by rw [hz]; exact q2,q3,hl f g hf q4,q5⟩
  | any=>simp [x4] at cm
  | exact=>simp [x4] at cm
 | _=>simp [x4] at cm
def La (E E0:Env) (f:Option Nat) (j:Nat):Prop:=∀ x p,f=some x->E.α x=some p->E0.α j=some p
theorem ao1:K.eG P iV .bJ = .bJ:=rfl
theorem acz {A:aC} {t:TypeId} {v:KV} (hg:lE (.arr t) (gK P A (.arr t) v)=true):v = .nN\/∃ b n m N es acc,v = .al t b 0 n/\A.get b=some (.arr (.ts t m N es acc))/\gK P A (.arr t) v=K.eG P iV (.ts t .any N es acc):=by
 have hu:∀ w,w=KV.bJ->lE (.arr t) (K.eG P iV w)=false:=fun w e=>by rw [e]; rfl
 have hg:lE (.arr t) (K.eG P iV (UW A t v))=true:=hg;have e0:gK P A (.arr t) v=K.eG P iV (UW A t v):=rfl;rw [e0];cases v with
 | nN=>exact .inl rfl
 | al t' b o n=>
  have e1:UW A t (.al t' b o n)=(match A.get b with
   | some (.arr (.ts t2 _ N es acc))=>cond (Nat.beq t t'&&Nat.beq t t2&&Nat.beq o 0) (.ts t .any N es acc) .bJ
   | _=>.bJ):=rfl
  rw [e1] at hg ⊢;split at hg
  ·rename_i t2 m N es acc hb
   cases hc:(Nat.beq t t'&&Nat.beq t t2&&Nat.beq o 0) with
   | false=>rw [hc,aw,hu _ rfl] at hg; simp at hg
   | true=>
    simp only [aD] at hc;have:=bo hc.1.1;subst this;have:=bo hc.1.2;subst this;have:=bo hc.2;subst this;refine .inr ⟨b,n,m,N,es,acc,rfl,hb,?_⟩;rw [ai]
  ·rw [hu _ rfl] at hg; simp at hg
 | _=>exact absurd (hg.symm.trans (hu _ rfl)) (by simp)
theorem VK.asK {E0:Env} {A:aC} {t:TypeId} {v:KV} {u:Value} {j:Nat} (h:VK P E v u) (hg:lE (.arr t) (gK P A (.arr t) v)=true) (hl:La E E0 (Oy P A t v).f j) (cm:(Oy P A t v).ok=true):VK P E0 (WC j (gK P A (.arr t) v)) u:=by
 rcases acz hg with rfl | ⟨b,n,m,N,es,acc,rfl,hb,he⟩
 ·have:=h.r6; subst this
  exact .XD (.inl ⟨rfl,rfl,rfl⟩)
 ·obtain ⟨tM,hJ,e⟩:=YW (P:=P) t .any N es acc
  rw [he,e];have hao:Oy P A t (.al t b 0 n)=⟨ic N n,some b,false⟩:=by simp only [Oy,hb]
  rw [hao] at cm hl;have hN:N=n:=bo cm;subst hN;show VK P E0 (.al t j 0 N) u;rcases h.Bj with ⟨q1,_,q2⟩ | ⟨x,L,M,c,q1,q2⟩
  ·exact .XD (.inl ⟨q1,rfl,q2⟩)
  ·exact .XD (.inr ⟨x,L,M,c,hl b _ rfl q1,q2⟩)
theorem VK.gCD {E0:Env} (hz:E0.z=E.z) {d:CD} {v:KV} {u:Value} (h:VK P E v u) (hg:lE d v=true) (hd:∀ w,d≠.ref w):VK P E0 v u:=by
 cases d with
 | ref w=>exact absurd rfl (hd w)
 | arr t=>exact h.zK (c:=.slice t) hz hg
 | k c=>exact h.zK hz hg
 | lit w=>exact aoZ hg h
 | bm t=>exact h.zK (c:=.slice t) hz hg
theorem nR {A:aC} : ∀ {ds:List CD} {vs:List KV},vs.length=ds.length->(oy P A ds vs).length=vh ds
 | [],[],_=>rfl
 | [],_::_,e=>by simp at e
 | _::_,[],e=>by simp at e
 | .k c::ds,v::vs,e=>by simp only [oy,vh]; exact nR (by simpa using e)
 | .lit w::ds,v::vs,e=>by simp only [oy,vh]; exact nR (by simpa using e)
 | .bm t::ds,v::vs,e=>by simp only [oy,vh,Kh]; rw [nR (by simpa using e)]
 | .arr t::ds,v::vs,e=>by simp only [oy,vh,Kh]; rw [nR (by simpa using e)]
 | .ref w::ds,v::vs,e=>by simp only [oy,vh]; exact nR (by simpa using e)
theorem auv {a b:KV} (h:eqP a b=true):a=b:=by
 unfold eqP at h;split at h
 ·simp only [aD] at h
  rw [bo h.1,bo h.2]
 ·simp at h
theorem ahn:∀ {a b:List KV},ahm a b=true->a=b
 | [],[],_=>rfl
 | [],_::_,h=>by simp [ahm] at h
 | _::_,[],h=>by simp [ahm] at h
 | x::a,y::b,h=>by
  simp only [ahm,aD] at h;rw [auv h.1,ahn h.2]
theorem WD {a b:KV} (h:UU a b=true):a=b:=by
 unfold UU at h;split at h
 ·simp only [aD] at h
  rw [bo h.1,bo h.2]
 ·simp only [aD] at h
  rw [bo h.1.1,ahn h.1.2,ahn h.2]
 ·simp at h
def Rk (E E0:Env) (nr:Nat) (bs Oz:List Nat):Prop:=∀ j x,j < nr->E.κ (bs.getD j 0)=some x->E0.κ (Oz.getD j 0)=some x
theorem VK.acw {E0:Env} {nr:Nat} {bs Oz:List Nat} (hk:Rk E E0 nr bs Oz) {w:KV} {u:Value} (hw:isP nr w=true) (h:VK P E (K.acw bs w) u):VK P E0 (K.acw Oz w) u:=by
 cases w <;> simp [isP] at hw;rename_i j o;obtain ⟨x,h1,rfl⟩:=(show VK P E (.ptr (bs.getD j 0) o) u from h).j8;exact .DA (hk j x hw h1)
theorem bp.Dh {E0:Env} {nr:Nat} {bs Oz:List Nat} (hk:Rk E E0 nr bs Oz):∀ {ws:List KV} {us:List Value},ahl nr ws=true->bp P E (K.Dh bs ws) us->bp P E0 (K.Dh Oz ws) us
 | [],us,_,h=>by rw [h.cu]; exact .nil
 | w::ws,us,hw,h=>by
  simp only [ahl,aD] at hw;obtain ⟨y,ys,rfl,h1,h2⟩:=bp.cons_inv (show bp P E (K.acw bs w::K.Dh bs ws) us from h);exact .cons (VK.acw hk hw.1 h1) (bp.Dh hk hw.2 h2)
theorem VK.inst {E0:Env} {nr:Nat} {bs Oz:List Nat} (hk:Rk E E0 nr bs Oz) {w:KV} {u:Value} (hw:aef nr w=true) (h:VK P E (K.inst bs w) u):VK P E0 (K.inst Oz w) u:=by
 cases w with
 | ptr j o=>
  obtain ⟨x,h1,rfl⟩:=(show VK P E (.ptr (bs.getD j 0) o) u from h).j8;exact .DA (hk j x (by simpa [aef] using hw) h1)
 | fn f first cap=>
  cases f with
  | func f=>
   simp only [aef,aD] at hw;obtain ⟨l,m,rfl,h1,h2⟩:=(show VK P E (.fn (.func f) (K.Dh bs first) (K.Dh bs cap)) u from h).Nf;exact .amF (bp.Dh hk hw.1 h1) (bp.Dh hk hw.2 h2)
  | _=>simp [aef] at hw
 | _=>simp [aef] at hw
def sP (E E0:Env) (l:List FI) (j:Nat):Prop:=∀ (i:Nat) fi,l[i]? = some fi->fi.ok=true/\(fi.fm=true->Lk E E0 fi.f (j+i))/\La E E0 fi.f (j+i)
theorem sP.left {E0:Env} {l m:List FI} {j:Nat} (h:sP E E0 (l++m) j):sP E E0 l j:=fun i fi e=>h i fi (by rw [uk (dB.1 e).1]; exact e)
theorem sP.right {E0:Env} {l m:List FI} {j:Nat} (h:sP E E0 (l++m) j):sP E E0 m (j+l.length):=fun i fi e=>by
 have:=h (l.length+i) fi (by rw [wg (by omega)]; simpa using e);rw [HL]; exact this
theorem sP.head {E0:Env} {x:FI} {l:List FI} {j:Nat} (h:sP E E0 (x::l) j):x.ok=true/\(x.fm=true->Lk E E0 x.f j)/\La E E0 x.f j:=h 0 x rfl
theorem sP.tail {E0:Env} {x:FI} {l:List FI} {j:Nat} (h:sP E E0 (x::l) j):sP E E0 l (j+1):=fun i fi e=>by
 have:=h (i+1) fi (by simpa using e);rw [show j+1+i=j+(i+1) by omega]; exact this
theorem bp.cellsIn {E0:Env} (hz:E0.z=E.z) {A:aC} {nr:Nat} {bs Oz:List Nat} (hk:Rk E E0 nr bs Oz):∀ {ds:List CD} {vs:List KV} {us:List Value} {j:Nat},bp P E vs us->vs.length=ds.length->eC ds (gL P A ds vs)=true->sP E E0 (oy P A ds vs) j->Ji nr bs ds vs=true->bp P E0 (uI j Oz ds (gL P A ds vs)) us
 | [],[],us,j,h,_,_,_,_=>by rw [h.cu]; exact .nil
 | [],_::_,_,_,_,e,_,_,_=>by simp at e
 | _::_,[],_,_,_,e,_,_,_=>by simp at e
 | d::ds,v::vs,us,j,h,e,hg,hf,hr=>by
  simp only [gL,eC,aD] at hg;obtain ⟨y,ys,rfl,h1,h2⟩:=h.cons_inv;have e' : vs.length=ds.length:=by simpa using e
  cases d with
  | k c=>exact .cons ((h1.nCD (by simp) (by simp)).gCD (d:=.k c) hz hg.1 (by simp)) (bp.cellsIn hz hk h2 e' hg.2 hf hr)
  | lit w=>exact .cons ((h1.nCD (by simp) (by simp)).gCD (d:=.lit w) hz hg.1 (by simp)) (bp.cellsIn hz hk h2 e' hg.2 hf hr)
  | bm t=>exact .cons (h1.aql hz hg.1 (hf.head.2.1 (aj6 ..)) hf.head.1) (bp.cellsIn hz hk h2 e' hg.2 hf.tail hr)
  | arr t=>exact .cons (h1.asK hg.1 hf.head.2.2 hf.head.1) (bp.cellsIn hz hk h2 e' hg.2 hf.tail hr)
  | ref w=>
   simp only [Ji,aD] at hr;exact .cons (VK.inst hk hr.1 (by rw [WD hr.2.1]; exact h1)) (bp.cellsIn hz hk h2 e' hg.2 hf hr.2.2)
theorem alo {ds:List CD} {v:KV} (h:eC ds [v] = true):∃ d,ds = [d]/\lE d v=true:=by
 cases ds with
 | nil=>simp [eC] at h
 | cons d ds=>
  simp only [eC,aD] at h;cases ds with
  | nil=>exact ⟨d,rfl,h.1⟩
  | cons e ds=>simp [eC] at h
theorem CV {d:VD} {v:KV} (h:Bk d v=true):(∃ cs,v = .agg cs/\d.agg=true/\eC d.ks cs=true)\/((∀ cs,v≠.agg cs)/\d.agg=false/\∃ c,d.ks = [c]/\lE c v=true):=by
 by_cases ha:∃ cs,v = .agg cs
 ·obtain ⟨cs,rfl⟩:=ha
  simp only [Bk,aD] at h;exact .inl ⟨cs,rfl,h.1,h.2⟩
 ·have h:(!d.agg&&eC d.ks [v])=true:=by
   cases v <;> first | exact h | exact absurd ⟨_,rfl⟩ ha
  simp only [aD,nz] at h;exact .inr ⟨fun cs e=>ha ⟨cs,e⟩,h.1,alo h.2⟩
theorem CW {A:aC} {d:VD} {v:KV} (h:Bk d (zm P A d v)=true):(∃ cs,v = .agg cs/\cs.length=d.ks.length/\zm P A d v = .agg (gL P A d.ks cs)/\eC d.ks (gL P A d.ks cs)=true)\/
  ((∀ cs,v≠.agg cs)/\∃ c,d.ks = [c]/\zm P A d v=gK P A c v/\lE c (gK P A c v)=true/\v.cells = [v]/\(∀ cs,gK P A c v≠.agg cs)):=by
 have asL:Bk d .bJ=false:=by
  cases hb:Bk d .bJ with
  | false=>rfl
  | true=>
   rcases CV hb with ⟨cs,e,_⟩ | ⟨_,_,c,_,hc⟩
   ·simp at e
   ·cases c with
    | k c=>cases c <;> simp [lE,kindOk] at hc
    | lit w=>cases w <;> first | (simp [lE,Aa] at hc; done) | (rename_i f a b; cases f <;> cases a <;> cases b <;> simp [lE,Aa] at hc)
    | bm t=>simp [lE,kindOk] at hc
    | arr t=>simp [lE,kindOk] at hc
    | ref w=>
     have hc:UU w .bJ=true:=hc;have:=WD hc;subst this;simp [UU] at hc
 by_cases ha:∃ cs,v = .agg cs
 ·obtain ⟨cs,rfl⟩:=ha
  have e:zm P A d (.agg cs)=cond (d.agg&&Nat.beq cs.length d.ks.length) (.agg (gL P A d.ks cs)) .bJ:=rfl;cases hb:(d.agg&&Nat.beq cs.length d.ks.length) with
  | false=>rw [e,hb,aw,asL] at h; simp at h
  | true=>
   rw [e,hb,ai] at h;simp only [aD] at hb;simp only [Bk,aD] at h;exact .inl ⟨cs,rfl,bo hb.2,by rw [e]; simp only [hb.1,hb.2,bC,ai],h.2⟩
 ·have e:zm P A d v=cond d.agg .bJ (match d.ks with | [c]=>gK P A c v | _=>.bJ):=by
   cases v <;> first | rfl | exact absurd ⟨_,rfl⟩ ha
  have Bc:v.cells = [v]:=by cases v <;> first | rfl | exact absurd ⟨_,rfl⟩ ha
  cases DB:d.agg with
  | true=>rw [e,DB,ai,asL] at h; simp at h
  | false=>
   rw [DB,aw] at e;rw [e] at h;split at h
   ·rename_i c hc
    rw [hc] at e;simp only at e;rcases CV h with ⟨cs,e2,h2,_⟩ | ⟨h1,_,c',h2,h3⟩
    ·rw [DB] at h2; simp at h2
    ·rw [hc] at h2
     simp only [List.cons.injEq,and_true] at h2;subst h2;exact .inr ⟨fun cs ec=>ha ⟨cs,ec⟩,c,hc,e,h3,Bc,h1⟩
   ·rw [asL] at h; simp at h
theorem Nm {A:aC} {d:VD} {v:KV} (h:Bk d (zm P A d v)=true):v.cells.length=d.ks.length:=by
 rcases CW h with ⟨cs,rfl,h1,_⟩ | ⟨_,c,h1,_,_,h2,_⟩
 ·exact h1
 ·rw [h1,h2]; rfl
theorem VK.awM {E0:Env} (hz:E0.z=E.z) {A:aC} {nr:Nat} {bs Oz:List Nat} (hk:Rk E E0 nr bs Oz) {d:VD} {v:KV} {u:Value} {j:Nat} (h:VK P E v u) (hg:Bk d (zm P A d v)=true) (hf:sP E E0 (oy P A d.ks v.cells) j) (hr:Ji nr bs d.ks v.cells=true):VK P E0 (aeh j Oz d (zm P A d v)) u:=by
 rcases CW hg with ⟨cs,rfl,h1,h2,h3⟩ | ⟨h0,c,h1,h2,h3,h4,h5⟩
 ·rw [h2]
  obtain ⟨l,rfl,k⟩:=h.pC;exact .tI (bp.cellsIn hz hk k h1 h3 hf hr)
 ·rw [h2]
  have e:aeh j Oz d (gK P A c v)=(match d.ks with | [.bm _]=>RV j (gK P A c v) | [.arr _]=>WC j (gK P A c v) | [.ref w]=>K.inst Oz w | _=>gK P A c v):=by
   generalize gK P A c v=w at h5;cases w <;> first | rfl | exact absurd rfl (h5 _)
  rw [e,h1];rw [h1,h4] at hf hr;cases c with
  | k c=>exact (h.nCD (by simp) (by simp)).gCD (d:=.k c) hz h3 (by simp)
  | lit w=>exact (h.nCD (by simp) (by simp)).gCD (d:=.lit w) hz h3 (by simp)
  | bm t=>exact h.aql hz h3 (hf.head.2.1 (aj6 ..)) hf.head.1
  | arr t=>exact h.asK h3 hf.head.2.2 hf.head.1
  | ref w=>
   simp only [Ji,aD] at hr;exact VK.inst hk hr.1 (by rw [WD hr.2.1]; exact h)
theorem VK.ack {A:aC} {nr:Nat} {bs:List Nat} {d:VD} {t:bN} {i:Tmp} (h:Bk d (zm P A d (valOf t i))=true) (hr:Ji nr bs d.ks (valOf t i).cells=true):∃ v,t.get i=some v:=by
 cases hg:t.get i with
 | some v=>exact ⟨v,rfl⟩
 | none=>
  exfalso;have e:valOf t i = .bJ:=by simp [valOf,hg]
  rw [e] at h hr;rcases CW h with ⟨cs,e2,_⟩ | ⟨_,c,wG,_,h3,_,_⟩
  ·simp at e2
  ·cases c with
   | ref w=>
    rw [wG] at hr;have hr:(aef nr w&&(UU (K.inst bs w) .bJ&&true))=true:=hr;simp only [aD] at hr;have h1:=hr.2.1;have:=WD h1;rw [this] at h1;simp [UU] at h1
   | k c=>
    have h4:kindOk c (K.qn c .bJ)=false:=by cases c <;> rfl
    have h5:gK P A (.k c) .bJ = .bJ:=by
     show cond (kindOk c (K.qn c .bJ)) (K.eG P iV (leaf c (K.qn c .bJ))) KV.bJ=KV.bJ;rw [h4]; rfl
    rw [h5] at h3;cases c <;> simp [lE,kindOk] at h3
   | lit w=>cases w <;> first | (simp [gK,lE,Aa] at h3; done) | (rename_i f a b; cases f <;> cases a <;> cases b <;> simp [gK,lE,Aa] at h3)
   | bm t=>simp [gK,lE,kindOk] at h3
   | arr t=>exact absurd h3 (by simp [gK,UW,ao1,lE,kindOk])
end Go.K
end
section
namespace Go.K
open Go Go.aE
variable {P:Program} {E:Env}
theorem aho:∀ {bs:List Nat},Bm bs=true->∀ (i j b:Nat),bs[i]? = some b->bs[j]? = some b->i=j
 | [],_,i,j,b,hi,_=>by simp at hi
 | a::bs,h,i,j,b,hi,hj=>by
  simp only [Bm,aD,im,nz] at h;cases i with
  | zero=>
   cases j with
   | zero=>rfl
   | succ j=>
    simp at hi hj; subst hi;have:=h.1 a (ji hj);exact absurd (nA a) (by rw [this]; simp)
  | succ i=>
   cases j with
   | zero=>
    simp at hi hj; subst hj;have:=h.1 a (ji hi);exact absurd (nA a) (by rw [this]; simp)
   | succ j=>
    simp at hi hj;rw [aho h.2 i j b hi hj]
theorem Ac:∀ {l:List (Option Nat)} {f:Nat},f∈lO l↔some f∈l
 | [],f=>by simp [lO]
 | some g::l,f=>by simp [lO,Ac (l:=l)]
 | none::l,f=>by simp [lO,Ac (l:=l)]
theorem Bn:∀ {l:List (Option Nat)},Bm (lO l)=true->∀ (i j f:Nat),l[i]? = some (some f)->l[j]? = some (some f)->i=j
 | [],_,i,j,b,hi,_=>by simp at hi
 | none::l,h,i,j,f,hi,hj=>by
  cases i with
  | zero=>simp at hi
  | succ i=>
   cases j with
   | zero=>simp at hj
   | succ j=>
    simp at hi hj;rw [Bn (l:=l) h i j f hi hj]
 | some g::l,h,i,j,f,hi,hj=>by
  simp only [lO,Bm,aD,im,nz] at h;have key:∀ {k:Nat},l[k]? = some (some g)->False:=by
   intro k hk;have:=h.1 g (Ac.2 (ji hk));exact absurd (nA g) (by rw [this]; simp)
  cases i with
  | zero=>
   cases j with
   | zero=>rfl
   | succ j=>
    simp at hi hj; subst hi;exact (key hj).elim
  | succ i=>
   cases j with
   | zero=>
    simp at hi hj; subst hj;exact (key hi).elim
   | succ j=>
    simp at hi hj;rw [Bn (l:=l) h.2 i j f hi hj]
theorem RW:∀ {l:List FI} {i:Nat} {x:FI},l[i]? = some x->(RU l)[i]? = some x.f
 | [],_,_,h=>by simp at h
 | y::l,0,x,h=>by simp at h; subst h; rfl
 | y::l,i+1,x,h=>by simp at h; simpa [RU] using RW h
theorem vJ:∀ {l:List FI},(RU l).length=l.length
 | []=>rfl
 | y::l=>by simp [RU,vJ]
theorem YX:∀ {l:List FI},acx l=true->∀ x∈l,x.ok=true
 | [],_,x,h=>by simp at h
 | y::l,h,x,hx=>by
  simp only [acx] at h;cases hl:acx l with
  | false=>rw [hl] at h; simp at h
  | true=>
   rw [hl,ai] at h;rcases ff.1 hx with rfl | hx
   ·exact h
   ·exact YX hl x hx
theorem iz:∀ (l:List la) (A:aC),(wQ A l).next=A.next+l.length
 | [],_=>rfl
 | p::l,A=>by rw [wQ,iz l]; simp; omega
theorem Kv:∀ {l:List la} {A:aC} {x:Nat},x < A.next->(wQ A l).get x=A.get x
 | [],_,_,_=>rfl
 | p::l,A,x,h=>by rw [wQ,Kv (by simp; omega),aC.dN,aB (by omega)]
theorem UY:∀ {l:List la} {A:aC} {i:Nat} {p:la},l[i]? = some p->(wQ A l).get (A.next+i)=some p
 | [],_,_,_,h=>by simp at h
 | q::l,A,0,p,h=>by
  simp at h; subst h;rw [wQ,Db,Kv (by simp),aC.dN,aW rfl]
 | q::l,A,i+1,p,h=>by
  simp at h;have:=UY (A:=A.new q) h;rw [aC.cB] at this;rw [wQ,show A.next+(i+1)=A.next+1+i by omega];exact this
theorem aav:∀ {l:List la} {A:aC} {x:Nat} {o:la},(wQ A l).get x=some o->(A.get x=some o/\x < A.next+l.length)\/(x < A.next/\A.get x=some o)\/(∃ i p,x=A.next+i/\l[i]? = some p/\o=p)\/A.get x=some o
 | [],_,_,_,h=>.inr (.inr (.inr h))
 | p::l,A,x,o,h=>by
  rw [wQ] at h;have key:(A.new p).get x=some o->(∃ i q,x=A.next+i/\(p::l)[i]? = some q/\o=q)\/A.get x=some o:=by
   intro h;rw [aC.dN] at h;split at h
   ·rename_i e; simp at h; exact .inl ⟨0,p,by omega,rfl,h.symm⟩
   ·exact .inr h
  rcases aav h with ⟨h,_⟩ | ⟨_,h⟩ | ⟨i,q,e,h1,h2⟩ | h
  ·exact .inr (.inr (key h))
  ·exact .inr (.inr (key h))
  ·exact .inr (.inr (.inl ⟨i+1,q,by rw [e]; simp; omega,by simpa using h1,h2⟩))
  ·exact .inr (.inr (key h))
theorem aaw {l:List la} {A:aC} {x:Nat} {o:la} (h:(wQ A l).get x=some o):A.get x=some o\/∃ i p,x=A.next+i/\l[i]? = some p/\o=p:=by
 rcases aav h with ⟨h,_⟩ | ⟨_,h⟩ | h | h
 ·exact .inl h
 ·exact .inl h
 ·exact .inr h
 ·exact .inl h
theorem Nn:∀ (l:List (Option Nat)) (A:aC),(DL A l).next=A.next
 | [],_=>rfl
 | some f::l,A=>by rw [DL,Nn l]; rfl
 | none::l,A=>by rw [DL,Nn l]
theorem LF:∀ {l:List (Option Nat)} {A:aC} {x:Nat},(DL A l).get x=if x∈lO l then some .dead else A.get x
 | [],A,x=>by simp [DL,lO]
 | none::l,A,x=>by rw [DL,LF,lO]
 | some f::l,A,x=>by
  rw [DL,LF,lO,aC.cn];by_cases h1:x∈lO l
  ·rw [aW h1,aW (wh _ h1)]
  ·rw [aB h1]
   by_cases h2:x=f
   ·rw [aW h2,aW (by simp [h2])]
   ·rw [aB h2,aB (by simp [h1,h2])]
theorem YY:∀ (bs:List Nat) (ps:List (Tmp×List CD×Nat)) (rs:List (List KV)) (A:aC),(rM A bs ps rs).next=A.next
 | [],_,_,_=>rfl
 | _::_,[],_,_=>rfl
 | _::_,_::_,[],_=>rfl
 | b::bs,p::ps,r::rs,A=>by rw [rM,YY bs ps rs]; rfl
theorem UZ:∀ {bs:List Nat} {ps:List (Tmp×List CD×Nat)} {rs:List (List KV)} {A:aC} {x:Nat},x ∉ bs->(rM A bs ps rs).get x=A.get x
 | [],_,_,_,_,_=>rfl
 | _::_,[],_,_,_,_=>rfl
 | _::_,_::_,[],_,_,_=>rfl
 | b::bs,p::ps,r::rs,A,x,h=>by
  simp only [ff,not_or] at h;rw [rM,UZ h.2,aC.cn,aB h.1]
theorem anj:∀ {bs:List Nat} {ps:List (Tmp×List CD×Nat)} {rs:List (List KV)} {A:aC} {k b:Nat} {p:Tmp×List CD×Nat} {r:List KV},Bm bs=true->bs[k]? = some b->ps[k]? = some p->rs[k]? = some r->(rM A bs ps rs).get b=some (.row r p.2.2)
 | [],_,_,_,_,_,_,_,_,h,_,_=>by simp at h
 | _::_,[],_,_,_,_,_,_,_,_,h,_=>by simp at h
 | _::_,_::_,[],_,_,_,_,_,_,_,_,h=>by simp at h
 | b::bs,p::ps,r::rs,A,k,x,p',r',hn,hb,hp,hr=>by
  have Rm:=hn;simp only [Bm,aD] at hn;cases k with
  | zero=>
   simp at hb hp hr;subst hb hp hr;rw [rM,UZ,aC.cn,aW rfl];intro hm;have:=im.1 hn.1 b hm;simp at this
  | succ k=>
   simp only [Wl] at hb hp hr;rw [rM];exact anj hn.2 hb hp hr
theorem aj8:∀ {ps:List (Tmp×List CD×Nat)} {rs:List (List KV)} {A:aC},rs.length=ps.length->(vi A ps rs).next=A.next+ps.length
 | [],[],_,_=>rfl
 | [],_::_,_,h=>by simp at h
 | _::_,[],_,h=>by simp at h
 | p::ps,r::rs,A,h=>by rw [vi,aj8 (by simpa using h)]; simp; omega
theorem ank:∀ {ps:List (Tmp×List CD×Nat)} {rs:List (List KV)} {A:aC} {x:Nat},x < A.next->(vi A ps rs).get x=A.get x
 | [],_,_,_,_=>rfl
 | _::_,[],_,_,_=>rfl
 | p::ps,r::rs,A,x,h=>by rw [vi,ank (by simp; omega),aC.dN,aB (by omega)]
theorem aqm:∀ {ps:List (Tmp×List CD×Nat)} {rs:List (List KV)} {A:aC} {k:Nat} {p:Tmp×List CD×Nat} {r:List KV},ps[k]? = some p->rs[k]? = some r->(vi A ps rs).get (A.next+k)=some (.row r p.2.2)
 | [],_,_,_,_,_,h,_=>by simp at h
 | _::_,[],_,_,_,_,_,h=>by simp at h
 | p::ps,r::rs,A,k,p',r',hp,hr=>by
  cases k with
  | zero=>
   simp at hp hr; subst hp hr;rw [vi,Db,ank (by simp),aC.dN,aW rfl]
  | succ k=>
   simp only [Wl] at hp hr;have:=aqm (A:=A.new (.row r p.2.2)) hp hr;rw [vi];simpa [Nat.add_comm,Nat.add_left_comm] using this
theorem anl:∀ {ps:List (Tmp×List CD×Nat)} {rs:List (List KV)} {A:aC} {x:Nat} {o:la},(vi A ps rs).get x=some o->A.get x=some o\/∃ k p r,x=A.next+k/\ps[k]? = some p/\rs[k]? = some r/\o = .row r p.2.2
 | [],_,_,_,_,h=>.inl h
 | _::_,[],_,_,_,h=>.inl h
 | p::ps,r::rs,A,x,o,h=>by
  rw [vi] at h;rcases anl h with h | ⟨k,p',r',rfl,h1,h2,h3⟩
  ·rw [aC.dN] at h
   by_cases e:x=A.next
   ·rw [aW e] at h; simp at h
    exact .inr ⟨0,p,r,by omega,rfl,rfl,h.symm⟩
   ·rw [aB e] at h; exact .inl h
  ·exact .inr ⟨k+1,p',r',by simp; omega,by simpa using h1,by simpa using h2,h3⟩
theorem aj9:∀ (n:Nat) (l:List Nat) (k:Nat),(upto n l)[k]? = if k < n then some k else l[k - n]?
 | 0,l,k=>by simp [upto]
 | n+1,l,k=>by
  rw [upto,aj9 n];by_cases h:k < n
  ·rw [aW h,aW (by omega)]
  ·rw [aB h]
   by_cases h2:k=n
   ·subst h2
    rw [aW (by omega)];simp
   ·rw [aB (by omega),show k - n=(k - (n+1))+1 by omega]
    simp
theorem PV (S:aU) (k:Nat) (h:k < S.rows.length):S.ids[k]? = some k:=by rw [aU.ids,aj9,aW h]
theorem U0:∀ {a b:List Nat},Ab a b=true->a=b
 | [],[],_=>rfl
 | [],_::_,h=>by simp [Ab] at h
 | _::_,[],h=>by simp [Ab] at h
 | x::a,y::b,h=>by
  simp only [Ab,aD] at h;rw [bo h.1,U0 h.2]
theorem Np {t:bN} {A:aC} {p:Tmp×List CD×Nat} (h:(rowOf t A p).isSome=true):∃ b cs,A.get b=some (.row cs p.2.2)/\cs.length=p.2.1.length/\aqk t A p=b/\Nl t A p=cs:=by
 unfold rowOf at h;split at h
 ·rename_i b hb
  split at h
  ·rename_i cs e hr
   cases hc:(Nat.beq e p.2.2&&Nat.beq cs.length p.2.1.length) with
   | false=>rw [hc] at h; simp at h
   | true=>
    have hro:rowOf t A p=some (b,cs):=by simp only [rowOf,hb,hr,hc,ai]
    simp only [aD] at hc;have he:=bo hc.1;subst he;exact ⟨b,cs,hr,bo hc.2,by simp [aqk,hro],by simp [Nl,hro]⟩
  ·simp at h
 ·simp at h
structure eD (P:Program) (S:aU) (t:bN) (A:aC) (g:GR):Prop where
 rows:Di P t A S.rows=true
 nodup:Bm g.bs=true
 aeg:WB t g.bs S.aeg=true
 eE:jB S.eE g.vs=true
 afY:Bm (lO g.fs)=true
 avf:UX S.rows.length g.bs t S.eE=true
 avg:acy S.rows.length g.bs t A S.rows=true
 zj:acx (S.W7 P t A)=true
 bs:g.bs=DI t A S.rows
 fs:g.fs=RU (S.W7 P t A)
 vs:g.vs=tQ P t A S.eE
 rs:g.rs=Ox P t A S.rows
theorem PW {S:aU} {t:bN} {A:aC} (h:(S.gV P t A).ok=true):eD P S t A (S.gV P t A):=by
 unfold aU.gV at h ⊢;simp only at h ⊢;cases hc:(Di P t A S.rows&&Bm (DI t A S.rows)&&WB t (DI t A S.rows) S.aeg&&jB S.eE (tQ P t A S.eE)&&Bm (lO (RU (S.W7 P t A)))&&UX S.rows.length (DI t A S.rows) t S.eE&&acy S.rows.length (DI t A S.rows) t A S.rows) with
 | false=>rw [hc] at h; simp at h
 | true=>
  rw [hc,ai] at h;simp only [aD] at hc;exact ⟨hc.1.1.1.1.1.1,hc.1.1.1.1.1.2,hc.1.1.1.1.2,hc.1.1.1.2,hc.1.1.2,hc.1.2,hc.2,h,rfl,rfl,rfl,rfl⟩
theorem ahp {t:bN} {A:aC} : ∀ {ps:List (Tmp×List CD×Nat)} {k:Nat} {p:Tmp×List CD×Nat},ps[k]? = some p->(DI t A ps)[k]? = some (aqk t A p)
 | [],_,_,h=>by simp at h
 | p::ps,0,q,h=>by simp at h; subst h; rfl
 | p::ps,k+1,q,h=>by simp at h; simpa [DI] using ahp h
theorem HY {t:bN} {A:aC} : ∀ {ps:List (Tmp×List CD×Nat)},(DI t A ps).length=ps.length
 | []=>rfl
 | p::ps=>by simp [DI,HY]
theorem XR {t:bN} {A:aC} : ∀ {ps:List (Tmp×List CD×Nat)},(Ox P t A ps).length=ps.length
 | []=>rfl
 | p::ps=>by simp [Ox,XR]
theorem aek {t:bN} {A:aC} : ∀ {ps:List (Tmp×List CD×Nat)},Di P t A ps=true->∀ {k:Nat} {p:Tmp×List CD×Nat},ps[k]? = some p->(rowOf t A p).isSome=true/\eC p.2.1 (gL P A p.2.1 (Nl t A p))=true
 | [],_,k,p,h=>by simp at h
 | q::ps,h,k,p,hp=>by
  simp only [Di,aD] at h;cases k with
  | zero=>simp at hp; subst hp; exact ⟨h.1,h.2.1⟩
  | succ k=>simp at hp; exact aek h.2.2 hp
theorem aax:∀ {ps:List (Tmp×List CD×Nat)} {rs:List (List KV)},rs.length=ps.length->∀ (j:Nat) (bs:List Nat),(aej j bs ps rs).length=ps.length
 | [],[],_,_,_=>rfl
 | [],_::_,h,_,_=>by simp at h
 | _::_,[],h,_,_=>by simp at h
 | p::ps,r::rs,h,j,bs=>by simp [aej,aax (by simpa using h)]
def Ek (j:Nat):List (Tmp×List CD×Nat)->Nat->Nat
 | [],_=>j
 | _::_,0=>j
 | p::ps,k+1=>Ek (j+vh p.2.1) ps k
theorem WG {bs:List Nat} : ∀ {ps:List (Tmp×List CD×Nat)} {rs:List (List KV)} {j k:Nat} {p:Tmp×List CD×Nat} {r:List KV},ps[k]? = some p->rs[k]? = some r->(aej j bs ps rs)[k]? = some (uI (Ek j ps k) bs p.2.1 r)
 | [],_,_,_,_,_,h,_=>by simp at h
 | _::_,[],_,_,_,_,_,h=>by simp at h
 | p::ps,r::rs,j,0,p',r',h1,h2=>by simp at h1 h2; subst h1 h2; rfl
 | p::ps,r::rs,j,k+1,p',r',h1,h2=>by
  simp at h1 h2;simp only [aej,Wl];exact WG h1 h2
theorem ahq {E0:Env} {t:bN} {A:aC} : ∀ {ps:List (Tmp×List CD×Nat)} {j:Nat},Di P t A ps=true->sP E E0 (LC P t A ps) j->∀ {k:Nat} {p:Tmp×List CD×Nat},ps[k]? = some p->sP E E0 (oy P A p.2.1 (Nl t A p)) (Ek j ps k)
 | [],_,_,_,_,_,h=>by simp at h
 | q::ps,j,hr,hf,k,p,hp=>by
  simp only [Di,aD] at hr;obtain ⟨b,cs,_,hl,_,hC⟩:=Np hr.1;cases k with
  | zero=>simp at hp; subst hp; exact hf.left
  | succ k=>
   simp at hp;have:=hf.right;rw [nR (by rw [hC]; exact hl)] at this;exact ahq hr.2.2 this hp
theorem HZ {t:bN} {A:aC} : ∀ {ps:List (Tmp×VD)},jB ps (tQ P t A ps)=true->(Jh P t A ps).length=qG ps
 | [],_=>rfl
 | p::ps,h=>by
  simp only [tQ,jB,aD] at h;simp only [Jh,qG,nY];rw [nR (Nm h.1),HZ h.2]
def PX (P:Program) (A:aC) (x:FI) (q:la):Prop:=
 (∃ n sz,q = .bm n sz/\((x.f=none/\n=0)\/∃ f,x.f=some f/\A.get f=some (.bm n sz)))\/
 ∃ t v,q = .arr v/\((x.f=none/\1<=bq P t/\v=K.eG P iV (.ts t .any 0 [] pE))\/∃ f m N es acc,x.f=some f/\A.get f=some (.arr (.ts t m N es acc))/\v=K.eG P iV (.ts t .any N es acc))
theorem asM {A:aC} {t:TypeId} {v:KV} (cm:(Oy P A t v).ok=true) (hg:lE (.arr t) (gK P A (.arr t) v)=true):PX P A (Oy P A t v) (.arr (gK P A (.arr t) v)):=by
 rcases acz hg with rfl | ⟨b,n,m,N,es,acc,rfl,hb,he⟩
 ·exact .inr ⟨t,_,rfl,.inl ⟨rfl,gD cm,rfl⟩⟩
 ·refine .inr ⟨t,_,rfl,.inr ⟨b,m,N,es,acc,?_,hb,he⟩⟩
  simp only [Oy,hb]
theorem asN {A:aC} {t:TypeId} {v:KV} (cm:(x4 P A t v).ok=true) (hg:lE (.bm t) (gK P A (.bm t) v)=true):PX P A (x4 P A t v) (.bm (lenOf (gK P A (.bm t) v)) (szL P t)):=by
 refine .inl ⟨_,_,rfl,?_⟩;cases v with
 | nN=>exact .inl ⟨rfl,rfl⟩
 | ts t' m n es acc=>
  cases m with
  | bm f=>
   have e1:gK P A (.bm t) (.ts t' (.bm f) n es acc)=cond (Nat.beq t t') (K.eG P iV (.ts t .any n es acc)) .bJ:=rfl;rw [e1] at hg ⊢;cases hb:Nat.beq t t' with
   | false=>rw [hb] at hg; simp [lE,kindOk] at hg
   | true=>
    rw [ai];refine .inr ⟨f,?_,?_⟩
    ·revert cm
     unfold x4;simp only;split
     ·intro _; rfl
     ·intro cm; simp at cm
    ·revert cm
     unfold x4;simp only;split
     ·rename_i top sz he
      intro cm;simp only at cm;cases hs:Nat.beq sz (szL P t) with
      | false=>rw [hs] at cm; simp at cm
      | true=>
       rw [hs,ai] at cm;have h1:=bo hs;have h2:=bo (show Nat.beq top n=true from cm);subst h1 h2;exact he
     ·intro cm; simp at cm
  | any=>simp [x4] at cm
  | exact=>simp [x4] at cm
 | _=>simp [x4] at cm
theorem Ad {A:aC} : ∀ {ds:List CD} {vs:List KV} {i:Nat} {x:FI},vs.length=ds.length->eC ds (gL P A ds vs)=true->(oy P A ds vs)[i]? = some x->x.ok=true->∃ q,(sN P ds (gL P A ds vs))[i]? = some q/\PX P A x q
 | [],[],_,_,_,_,h,_=>by simp [oy] at h
 | [],_::_,_,_,e,_,_,_=>by simp at e
 | _::_,[],_,_,e,_,_,_=>by simp at e
 | .k c::ds,v::vs,i,x,e,hg,h,cm=>by
  simp only [gL,eC,aD] at hg;have h' : (oy P A ds vs)[i]? = some x:=h;exact Ad (ds:=ds) (vs:=vs) (by simpa using e) hg.2 h' cm
 | .lit c::ds,v::vs,i,x,e,hg,h,cm=>by
  simp only [gL,eC,aD] at hg;have h' : (oy P A ds vs)[i]? = some x:=h;exact Ad (ds:=ds) (vs:=vs) (by simpa using e) hg.2 h' cm
 | .ref c::ds,v::vs,i,x,e,hg,h,cm=>by
  simp only [gL,eC,aD] at hg;have h' : (oy P A ds vs)[i]? = some x:=h;exact Ad (ds:=ds) (vs:=vs) (by simpa using e) hg.2 h' cm
 | .bm t::ds,v::vs,i,x,e,hg,h,cm=>by
  simp only [gL,eC,aD] at hg;cases i with
  | zero=>
   simp [oy] at h;subst h;exact ⟨_,rfl,asN cm hg.1⟩
  | succ i=>
   simp [oy] at h;obtain ⟨q,h1,h2⟩:=Ad (by simpa using e) hg.2 h cm;exact ⟨q,by simpa [sN,gL] using h1,h2⟩
 | .arr t::ds,v::vs,i,x,e,hg,h,cm=>by
  simp only [gL,eC,aD] at hg;cases i with
  | zero=>
   simp [oy] at h;subst h;exact ⟨_,rfl,asM cm hg.1⟩
  | succ i=>
   simp [oy] at h;obtain ⟨q,h1,h2⟩:=Ad (by simpa using e) hg.2 h cm;exact ⟨q,by simpa [sN,gL] using h1,h2⟩
theorem rj:∀ {ds:List CD} {vs:List KV},vs.length=ds.length->(sN P ds vs).length=vh ds
 | [],[],_=>rfl
 | [],_::_,e=>by simp at e
 | _::_,[],e=>by simp at e
 | .k c::ds,v::vs,e=>by simp only [sN,vh]; exact rj (by simpa using e)
 | .lit w::ds,v::vs,e=>by simp only [sN,vh]; exact rj (by simpa using e)
 | .ref w::ds,v::vs,e=>by simp only [sN,vh]; exact rj (by simpa using e)
 | .bm t::ds,v::vs,e=>by simp only [sN,vh,Kh]; rw [rj (by simpa using e)]
 | .arr t::ds,v::vs,e=>by simp only [sN,vh,Kh]; rw [rj (by simpa using e)]
theorem Kw:∀ {ds:List CD} {vs:List KV},eC ds vs=true->vs.length=ds.length
 | [],[],_=>rfl
 | [],_::_,h=>by simp [eC] at h
 | _::_,[],h=>by simp [eC] at h
 | d::ds,v::vs,h=>by
  simp only [eC,aD] at h;simp [Kw h.2]
theorem ael {d:VD} {v:KV} (h:Bk d v=true):v.cells.length=d.ks.length:=by
 rcases CV h with ⟨cs,rfl,_,h1⟩ | ⟨h0,_,c,h1,_⟩
 ·exact Kw h1
 ·have:v.cells = [v]:=by cases v <;> first | rfl | exact absurd rfl (h0 _)
  rw [this,h1]; rfl
theorem H0:∀ {ps:List (Tmp×VD)} {vs:List KV},jB ps vs=true->(Cg P ps vs).length=qG ps
 | [],[],_=>rfl
 | [],_::_,h=>by simp [jB] at h
 | _::_,[],h=>by simp [jB] at h
 | p::ps,v::vs,h=>by
  simp only [jB,aD] at h;simp only [Cg,qG,nY];rw [rj (ael h.1),H0 h.2]
theorem aem {t:bN} {A:aC} : ∀ {ps:List (Tmp×VD)} {i:Nat} {x:FI},jB ps (tQ P t A ps)=true->(Jh P t A ps)[i]? = some x->x.ok=true->∃ p,(Cg P ps (tQ P t A ps))[i]? = some p/\PX P A x p
 | [],_,_,_,h,_=>by simp [Jh] at h
 | p::ps,i,x,hg,h,cm=>by
  simp only [tQ,jB,aD] at hg;simp only [Jh] at h;have hl:=Nm hg.1;by_cases hi:i < (oy P A p.2.ks (valOf t p.1).cells).length
  ·rw [uk hi] at h
   have hg' : eC p.2.ks (gL P A p.2.ks (valOf t p.1).cells)=true/\(zm P A p.2 (valOf t p.1)).cells=gL P A p.2.ks (valOf t p.1).cells:=by
    rcases CW hg.1 with ⟨cs,e,_,h2,h3⟩ | ⟨_,c,h1,h2,h3,h4,h5⟩
    ·rw [e] at h2 ⊢; exact ⟨h3,by rw [h2]; rfl⟩
    ·rw [h4,h1]
     refine ⟨by simp [gL,eC,h3],?_⟩;rw [h2];show (gK P A c (valOf t p.1)).cells = [gK P A c (valOf t p.1)];generalize gK P A c (valOf t p.1)=w at h5 ⊢;cases w <;> first | rfl | exact absurd rfl (h5 _)
   obtain ⟨q,h2,h3⟩:=Ad hl hg'.1 h cm;refine ⟨q,?_,h3⟩;simp only [tQ,Cg];rw [hg'.2,uk (dB.1 h2).1];exact h2
  ·rw [wg (by omega)] at h
   obtain ⟨q,h1,h2⟩:=aem hg.2 h cm;refine ⟨q,?_,h2⟩;simp only [tQ,Cg];have e1:(sN P p.2.ks (zm P A p.2 (valOf t p.1)).cells).length=(oy P A p.2.ks (valOf t p.1).cells).length:=by rw [rj (ael hg.1),nR hl]
   rw [wg (by omega),e1];exact h1
theorem aen {t:bN} {A:aC} : ∀ {ps:List (Tmp×List CD×Nat)} {i:Nat} {x:FI},Di P t A ps=true->(LC P t A ps)[i]? = some x->x.ok=true->∃ p,(DK P ps (Ox P t A ps))[i]? = some p/\PX P A x p
 | [],_,_,_,h,_=>by simp [LC] at h
 | p::ps,i,x,hg,h,cm=>by
  simp only [Di,aD] at hg;simp only [LC] at h;obtain ⟨b,cs,_,hl,_,hC⟩:=Np hg.1;rw [<- hC] at hl;by_cases hi:i < (oy P A p.2.1 (Nl t A p)).length
  ·rw [uk hi] at h
   obtain ⟨q,h2,h3⟩:=Ad hl hg.2.1 h cm;refine ⟨q,?_,h3⟩;simp only [Ox,DK];rw [uk (dB.1 h2).1];exact h2
  ·rw [wg (by omega)] at h
   obtain ⟨q,h1,h2⟩:=aen hg.2.2 h cm;refine ⟨q,?_,h2⟩;simp only [Ox,DK];have e1:(sN P p.2.1 (gL P A p.2.1 (Nl t A p))).length=(oy P A p.2.1 (Nl t A p)).length:=by rw [rj (Kw hg.2.1),nR hl]
   rw [wg (by omega),e1];exact h1
theorem OA:∀ {ps:List (Tmp×List CD×Nat)} {rs:List (List KV)},rs.length=ps.length->(∀ (k:Nat) p r,ps[k]? = some p->rs[k]? = some r->eC p.2.1 r=true)->∀ {l:Nat},l=(ps.map fun p=>vh p.2.1).sum->(DK P ps rs).length=l
 | [],[],_,_,l,hl=>by subst hl; rfl
 | [],_::_,h,_,_,_=>by simp at h
 | _::_,[],h,_,_,_=>by simp at h
 | p::ps,r::rs,h,hk,l,hl=>by
  simp only [DK,nY];rw [rj (Kw (hk 0 p r rfl rfl)),OA (by simpa using h) (fun k p r h1 h2=>hk (k+1) p r (by simpa using h1) (by simpa using h2)) rfl,hl];simp
theorem XS {t:bN} {A:aC} : ∀ {ps:List (Tmp×List CD×Nat)},Di P t A ps=true->(LC P t A ps).length=(ps.map fun p=>vh p.2.1).sum
 | [],_=>rfl
 | p::ps,h=>by
  simp only [Di,aD] at h;obtain ⟨b,cs,_,hl,_,hC⟩:=Np h.1;simp only [LC,nY,List.map_cons,List.sum_cons];rw [nR (by rw [hC]; exact hl),XS h.2.2]
end Go.K
end
section
namespace Go.K
open Go Go.aE
variable {P:Program} {E:Env}
noncomputable def Env.sub (E:Env) (A:aC) (bs:List Nat) (fs:List (Option Nat)) (nr:Nat):Env:=
 { κ:=fun i=>(bs[i]?).bind E.κ,z:=E.z,φ:=fun i=>if nr<=i then (fs[i - nr]?).bind (fun f=>f.bind fun x=>cond (DJ (A.get x)) (E.φ x) none) else none,α:=fun i=>if nr<=i then (fs[i - nr]?).bind (fun f=>f.bind E.α) else none }
theorem WH {E:Env} {A:aC} {x q:Nat} (e:cond (DJ (A.get x)) (E.φ x) none=some q):E.φ x=some q/\DJ (A.get x)=true:=by
 cases h:DJ (A.get x) with
 | true=>rw [h] at e; exact ⟨e,rfl⟩
 | false=>rw [h] at e; simp at e
theorem anm {A:aC} {x:Nat} (h:DJ (A.get x)=true):∃ n sz,A.get x=some (.bm n sz):=by
 unfold DJ at h;split at h
 ·rename_i n sz e; exact ⟨n,sz,e⟩
 ·simp at h
theorem Env.ahr {A:aC} {bs:List Nat} {fs:List (Option Nat)} {nr i:Nat} : (E.sub A bs fs nr).φ (nr+i)=(fs[i]?).bind (fun f=>f.bind fun x=>cond (DJ (A.get x)) (E.φ x) none):=by
 simp only [Env.sub];rw [aW (by omega),show nr+i - nr=i by omega]
theorem Env.LG {A:aC} {bs:List Nat} {fs:List (Option Nat)} {nr i:Nat} : (E.sub A bs fs nr).α (nr+i)=(fs[i]?).bind (fun f=>f.bind E.α):=by
 simp only [Env.sub];rw [aW (by omega),show nr+i - nr=i by omega]
theorem RX:∀ {l:List (Nat×KV)} {i:Nat} {v:KV},(oD l).get i=some v->(i,v)∈l
 | [],i,v,h=>by simp [oD] at h
 | p::ps,i,v,h=>by
  rw [oD,Trie.sm] at h;split at h
  ·rename_i e
   simp at h; subst h e;simp
  ·exact wh _ (RX h)
theorem nQ.oD {ρ:a9} {l:List (Nat×KV)} {N:Nat} {a:Act} (hs:a.tmps.size=N) (h:∀ q∈l,q.1 < N/\VC P E ρ q.2 (a.tmps.getD q.1 undef)):nQ P E ρ (K.oD l) N a:=by
 refine ⟨hs,fun i=>?_,fun i hi=>?_⟩
 ·cases hg:(K.oD l).get i with
  | none=>exact .bJ
  | some v=>exact (h _ (RX hg)).2
 ·cases hg:(K.oD l).get i with
  | none=>rfl
  | some v=>have:=(h _ (RX hg)).1; exact absurd hi (Nat.not_le_of_lt this)
theorem GU {A:aC} {x:Nat} : ∀ {ds:List CD} {vs:List KV} {fi:FI},fi∈oy P A ds vs->fi.fm=true->fi.f=some x->DJ (A.get x)=true
 | [],_,_,h,_,_=>by simp [oy] at h
 | d::ds,[],_,h,_,_=>by cases d <;> simp [oy] at h
 | d::ds,v::vs,fi,h,hm,hx=>by
  cases d <;> simp only [oy,ff] at h
  ·exact GU h hm hx
  ·exact GU h hm hx
  ·rcases h with rfl | h
   ·exact aq8 hx
   ·exact GU h hm hx
  ·rcases h with rfl | h
   ·rw [aq7] at hm; simp at hm
   ·exact GU h hm hx
  ·exact GU h hm hx
theorem aU.auw (S:aU) {t:bN} {A:aC} {x:Nat} {fi:FI} (h:fi∈S.W7 P t A) (hm:fi.fm=true) (hx:fi.f=some x):DJ (A.get x)=true:=by
 have one:∀ {ps:List (Tmp×VD)},fi∈Jh P t A ps->DJ (A.get x)=true:=by
  intro ps
  induction ps with
  | nil=>intro h; simp [Jh] at h
  | cons p ps ih=>
   intro h;simp only [Jh,mJ] at h;exact h.elim (fun h=>GU h hm hx) ih
 have two:∀ {ps:List (Tmp×List CD×Nat)},fi∈LC P t A ps->DJ (A.get x)=true:=by
  intro ps
  induction ps with
  | nil=>intro h; simp [LC] at h
  | cons p ps ih=>
   intro h;simp only [LC,mJ] at h;exact h.elim (fun h=>GU h hm hx) ih
 simp only [aU.W7,mJ] at h;exact h.elim one two
theorem eD.hyp {S:aU} {t:bN} {A:aC} {g:GR} (h:eD P S t A g):sP E (E.sub A g.bs g.fs S.nr) (S.W7 P t A) S.nr:=fun i fi hi=>by
 refine ⟨YX h.zj fi (ji hi),fun hm x q hx hq=>?_,fun x q hx hq=>?_⟩
 ·rw [Env.ahr,h.fs,RW hi,gE,hx,gE,S.auw (ji hi) hm hx]
  exact hq
 ·rw [Env.LG,h.fs,RW hi,gE,hx,gE]
  exact hq
theorem ann {E0:Env} {t:bN} {A:aC} {ρ:a9} {N nr:Nat} {bs Oz:List Nat} {a:Act} (hz:E0.z=E.z) (hk:Rk E E0 nr bs Oz) (ht:nQ P E ρ t N a):∀ {ps:List (Tmp×VD)} {j:Nat},jB ps (tQ P t A ps)=true->sP E E0 (Jh P t A ps) j->UX nr bs t ps=true->∀ q∈aei j Oz ps (tQ P t A ps),q.1 < N/\VC P E0 ρ q.2 (a.tmps.getD q.1 undef)
 | [],_,_,_,_,q,hq=>by simp [aei] at hq
 | p::ps,j,hg,hf,hr,q,hq=>by
  simp only [UX,aD] at hr;simp only [tQ,jB,aD] at hg;simp only [tQ,aei,ff] at hq;rcases hq with rfl | hq
  ·refine ⟨?_,?_⟩
   ·obtain ⟨v,hv⟩:=VK.ack hg.1 hr.1
    by_cases hN:N<=p.1
    ·rw [ht.none _ hN] at hv; simp at hv
    ·exact Nat.lt_of_not_le hN
   ·obtain ⟨u,h1,h2⟩:=ht.val p.1
    exact ⟨u,h1.awM hz hk hg.1 hf.left hr.1,h2⟩
  ·have h2:=hf.right
   rw [nR (Nm hg.1)] at h2;exact ann hz hk ht hg.2 h2 hr.2 q hq
theorem XT {bs:List Nat} : ∀ {ps:List (Tmp×Nat×Nat)} {q:Nat×KV},q∈Ej bs ps->∃ p∈ps,q=(p.1,.ptr (bs.getD p.2.1 0) p.2.2)
 | [],_,h=>by simp [Ej] at h
 | p::ps,q,h=>by
  simp only [Ej,ff] at h;rcases h with rfl | h
  ·exact ⟨p,by simp,rfl⟩
  ·obtain ⟨p',h1,h2⟩:=XT h
   exact ⟨p',wh _ h1,h2⟩
theorem U3 {t:bN} {bs:List Nat} : ∀ {ps:List (Tmp×Nat×Nat)},WB t bs ps=true->∀ q∈ps,∃ b,t.get q.1=some (.ptr b q.2.2)/\bs[q.2.1]? = some b
 | [],_,q,hq=>by simp at hq
 | p::ps,h,q,hq=>by
  simp only [WB,aD] at h;rcases ff.1 hq with rfl | hq
  ·have h1:=h.1
   unfold asJ at h1;split at h1
   ·rename_i b o b' e1 e2
    simp only [aD] at h1;have:=bo h1.1;have:=bo h1.2
    subst_vars
    exact ⟨_,e1,e2⟩
   ·simp at h1
  ·exact U3 h.2 q hq
theorem eD.rk {S:aU} {t:bN} {A:aC} {g:GR} (h:eD P S t A g):Rk E (E.sub A g.bs g.fs S.nr) S.rows.length g.bs S.ids:=fun j x hj e=>by
 have bu:j < g.bs.length:=by rw [h.bs,HY]; exact hj
 rw [iQ,dD bu] at e;rw [iQ,PV S j hj];simp only [Env.sub,bc,dD bu,gE];exact e
theorem eD.tkr {S:aU} {t:bN} {A:aC} {g:GR} {ρ:a9} {N:Nat} {a:Act} (h:eD P S t A g) (ht:nQ P E ρ t N a):nQ P (E.sub A g.bs g.fs S.nr) ρ (S.tm S.nr S.ids g.vs) N a:=by
 refine nQ.oD ht.size fun q hq=>?_;have hh:sP E (E.sub A g.bs g.fs S.nr) (S.W7 P t A) S.nr:=h.hyp;rcases mJ.1 hq with hq | hq
 ·rw [h.vs] at hq
  exact ann (E:=E) (E0:=E.sub A g.bs g.fs S.nr) (A:=A) rfl h.rk ht (h.vs ▸ h.eE) hh.left h.avf q hq
 ·obtain ⟨p,hp,rfl⟩:=XT hq
  obtain ⟨b,h1,h2⟩:=U3 h.aeg p hp;refine ⟨?_,?_⟩
  ·by_cases hN:N<=p.1
   ·rw [ht.none _ hN] at h1; simp at h1
   ·exact Nat.lt_of_not_le hN
  ·have hk:p.2.1 < S.rows.length:=by
    have:=(dB.1 h2).1;rw [h.bs,HY] at this; exact this
   have hv:=ht.val p.1;rw [h1] at hv;obtain ⟨u,h3,h4⟩:=hv;refine ⟨u,?_,h4⟩;obtain ⟨x,h5,rfl⟩:=(show VK P E (.ptr b p.2.2) u from h3).j8;have:S.ids.getD p.2.1 0=p.2.1:=by rw [iQ,PV S _ hk]; rfl
   rw [this];exact .DA (by simp [Env.sub,h2,h5])
theorem eD.row {S:aU} {t:bN} {A:aC} {g:GR} (h:eD P S t A g) {k:Nat} {p:Tmp×List CD×Nat} (hp:S.rows[k]? = some p):∃ b cs,g.bs[k]? = some b/\A.get b=some (.row cs p.2.2)/\cs.length=p.2.1.length/\Nl t A p=cs/\g.rs[k]? = some (gL P A p.2.1 cs)/\eC p.2.1 (gL P A p.2.1 cs)=true:=by
 obtain ⟨h1,h2⟩:=aek h.rows hp;obtain ⟨b,cs,h4,h5,h6,h7⟩:=Np h1;refine ⟨b,cs,by rw [h.bs,ahp hp,h6],h4,h5,h7,?_,by rw [<- h7]; exact h2⟩;have:∀ {ps:List (Tmp×List CD×Nat)} {k:Nat},ps[k]? = some p->(Ox P t A ps)[k]? = some (gL P A p.2.1 (Nl t A p)):=by
  intro ps
  induction ps with
  | nil=>intro k h; simp at h
  | cons q ps ih=>
   intro k h;cases k with
   | zero=>simp at h; subst h; rfl
   | succ k=>simp at h; simpa [Ox] using ih h
 rw [h.rs,this hp,h7]
theorem eD.wS {S:aU} {t:bN} {A:aC} {g:GR} (h:eD P S t A g):g.rs.length=S.rows.length:=by rw [h.rs,XR]
theorem eD.ahs {S:aU} {t:bN} {A:aC} {g:GR} (h:eD P S t A g):g.bs.length=S.rows.length:=by rw [h.bs,HY]
theorem eD.B6 {S:aU} {t:bN} {A:aC} {g:GR} (h:eD P S t A g):∀ (k:Nat) p r,S.rows[k]? = some p->g.rs[k]? = some r->eC p.2.1 r=true:=fun k p r hp hr=>by
 obtain ⟨b,cs,_,_,_,_,h1,h2⟩:=h.row hp;rw [hr] at h1; simp at h1; subst h1; exact h2
theorem eD.lens {S:aU} {t:bN} {A:aC} {g:GR} (h:eD P S t A g):(S.lens P g.vs g.rs).length=(S.W7 P t A).length:=by
 simp only [aU.lens,aU.W7,nY];rw [H0 h.eE,OA h.wS h.B6 rfl,XS h.rows,HZ (h.vs ▸ h.eE)]
theorem eD.fact {S:aU} {t:bN} {A:aC} {g:GR} (h:eD P S t A g) {i:Nat} {q:la} (hq:(S.lens P g.vs g.rs)[i]? = some q):∃ fi,(S.W7 P t A)[i]? = some fi/\g.fs[i]? = some fi.f/\PX P A fi q:=by
 have bu:i < (S.W7 P t A).length:=by rw [<- h.lens]; exact (dB.1 hq).1
 have hfi:=dD bu;have cm:=YX h.zj _ (Wm bu);refine ⟨_,hfi,by rw [h.fs]; exact RW hfi,?_⟩;have hv:(Jh P t A S.eE).length=qG S.eE:=HZ (h.vs ▸ h.eE);have hlv:(Cg P S.eE g.vs).length=qG S.eE:=H0 h.eE;simp only [aU.lens] at hq;have ano:=hfi;simp only [aU.W7] at ano;by_cases hi:i < qG S.eE
 ·rw [uk (by omega)] at hq ano
  obtain ⟨p,h1,h2⟩:=aem (h.vs ▸ h.eE) ano cm;rw [h.vs,h1] at hq;simp at hq; subst hq; exact h2
 ·rw [wg (by omega)] at hq ano
  obtain ⟨p,h1,h2⟩:=aen h.rows ano cm;rw [h.rs,hlv,<- hv,h1] at hq;simp at hq; subst hq; exact h2
theorem YZ {t:bN} {A:aC} {nr:Nat} {bs:List Nat} : ∀ {ps:List (Tmp×List CD×Nat)},acy nr bs t A ps=true->∀ {k:Nat} {p:Tmp×List CD×Nat},ps[k]? = some p->Ji nr bs p.2.1 (Nl t A p)=true
 | [],_,k,p,h=>by simp at h
 | q::ps,h,k,p,hp=>by
  simp only [acy,aD] at h;cases k with
  | zero=>simp at hp; subst hp; exact h.1
  | succ k=>simp at hp; exact YZ h.2 hp
theorem r8 {S:aU} {rs:List (List KV)} (h:rs.length=S.rows.length):(vi .empty S.rows (S.LD S.nr S.ids rs)).next=S.nr:=by
 show (vi .empty S.rows (aej (S.nr+qG S.eE) S.ids S.rows rs)).next=S.nr;rw [aj8 (aax h _ _)];simp [aC.empty,aU.nr]
theorem LH {S:aU} {vs:List KV} {rs:List (List KV)} (h:rs.length=S.rows.length) {b:Nat} {o:la} (hb:(S.mem P vs rs).get b=some o) :
  (∃ p r,S.rows[b]? = some p/\rs[b]? = some r/\o = .row (uI (Ek (S.nr+qG S.eE) S.rows b) S.ids p.2.1 r) p.2.2)\/∃ i q,b=S.nr+i/\(S.lens P vs rs)[i]? = some q/\o=q:=by
 rcases aaw hb with hb | ⟨i,q,h1,h2,h3⟩
 ·rcases anl hb with e | ⟨k,p,r,rfl,h1,h2,h3⟩
  ·simp [aC.empty,aC.get] at e
  ·have hk:(aC.empty.next+k)=k:=by simp [aC.empty]
   rw [hk];have bu:k < rs.length:=by rw [h]; exact (dB.1 h1).1
   have e1:=dD bu;have e2:=WG (bs:=S.ids) (j:=S.nr+qG S.eE) h1 e1;have h2:(aej (S.nr+qG S.eE) S.ids S.rows rs)[k]? = some r:=h2;rw [e2] at h2;simp at h2;exact .inl ⟨p,_,h1,e1,by rw [h3,<- h2]⟩
 ·rw [r8 h] at h1
  exact .inr ⟨i,q,h1,h2,h3⟩
theorem U4 {t:TypeId} {n:Nat} {es:List KV} {acc:Nat->KV} {bF:List Value} (ht:ku P t n es acc) (h:bp P E es bF):∃ tM hJ,K.eG P iV (.ts t .any n es acc) = .ts t .any n tM hJ/\ku P t n tM hJ/\bp P E tM bF:=by
 refine ⟨(List.range n).map fun i=>vH P (K.eG P 5) t (acc i),fun i=>vH P (K.eG P 5) t (acc i),rfl,?_⟩;have Iw:∀ i,i < n->∃ e e',es[i]? = some e/\bF[i]? = some e'/\acc i=e/\cG (bw P t) e=true/\VK P E e e':=by
  intro i hi;have hl:i < es.length:=by rw [<- ht.len]; exact hi
  have e1:=dD hl;obtain ⟨e',e2,e3⟩:=h.get e1;exact ⟨_,e',e1,e2,by rw [ht.acc i hi,iQ,e1]; rfl,lD ht.typed e1,e3⟩
 have hlen:bF.length=n:=by rw [h.length,ht.len]
 refine ⟨⟨by simp,fun i hi=>?_,?_⟩,?_⟩
 ·rw [iQ,A5,List.getElem?_range hi]; rfl
 ·refine s6 fun i e he=>?_
  rw [A5] at he;by_cases hi:i < n
  ·rw [List.getElem?_range hi] at he
   simp only [Option.map_some,dE] at he;obtain ⟨x,x',_,_,q3,q4,_⟩:=Iw i hi;rw [<- he,q3,vH];obtain ⟨r1,r2,_⟩:=RB q4;rw [r1];exact agV q4 (Lt 5 r2) (by simp)
  ·rw [List.getElem?_eq_none (by simp; omega)] at he; simp at he
 ·refine bp.ZQ (by simp [hlen]) fun i e e' he Ir=>?_
  rw [A5] at he;by_cases hi:i < n
  ·rw [List.getElem?_range hi] at he
   simp only [Option.map_some,dE] at he;obtain ⟨x,x',_,q2,q3,q4,q5⟩:=Iw i hi;rw [Ir] at q2;simp only [dE] at q2;subst q2;rw [<- he,q3];exact VK.vH 5 q4 q5
  ·rw [List.getElem?_eq_none (by simp; omega)] at he; simp at he
theorem eD.aqn {S:aU} {t:bN} {A:aC} {g:GR} (h:eD P S t A g) {b:Nat} {v:KV} (hb:(S.mem P g.vs g.rs).get b=some (.arr v)) :
  ∃ i T,b=S.nr+i/\((g.fs[i]? = some none/\1<=bq P T/\v=K.eG P iV (.ts T .any 0 [] pE))\/∃ f m N es acc,g.fs[i]? = some (some f)/\A.get f=some (.arr (.ts T m N es acc))/\v=K.eG P iV (.ts T .any N es acc)):=by
 rcases LH h.wS hb with ⟨p,r,_,_,h3⟩ | ⟨i,q,rfl,h2,h3⟩
 ·simp at h3
 ·subst h3
  obtain ⟨fi,h4,h5,h6⟩:=h.fact h2;rcases h6 with ⟨_,_,e,_⟩ | ⟨T,v',e,h6⟩
  ·simp at e
  ·simp only [la.arr.injEq] at e
   subst e;rcases h6 with ⟨h6,h7⟩ | ⟨f,m,N,es,acc,h6,h7⟩
   ·exact ⟨i,T,rfl,.inl ⟨by rw [h5,h6],h7⟩⟩
   ·exact ⟨i,T,rfl,.inr ⟨f,m,N,es,acc,by rw [h5,h6],h7⟩⟩
theorem eD.LI {S:aU} {t:bN} {A:aC} {g:GR} (h:eD P S t A g) {b:Nat} {v:KV} (hb:(S.mem P g.vs g.rs).get b=some (.arr v)) {p:Nat×Nat×Nat} (hp:(E.sub A g.bs g.fs S.nr).α b=some p) :
  ∃ i f u,b=S.nr+i/\g.fs[i]? = some (some f)/\A.get f=some (.arr u)/\E.α f=some p:=by
 obtain ⟨i,T,rfl,h1⟩:=h.aqn hb;rw [Env.LG] at hp;rcases h1 with ⟨h1,_⟩ | ⟨f,m,N,es,acc,h1,h2,_⟩
 ·rw [h1] at hp; simp at hp
 ·rw [h1] at hp; exact ⟨i,f,_,rfl,h1,h2,hp⟩
theorem eD.AR {S:aU} {t:bN} {A:aC} {g:GR} (h:eD P S t A g) {x:Nat} (q:K.AR (S.mem P g.vs g.rs) (E.sub A g.bs g.fs S.nr) x):∃ f u L N,f∈lO g.fs/\A.get f=some (.arr u)/\E.α f=some (x,L,N):=by
 obtain ⟨b,v,L,N,h1,h2⟩:=q;obtain ⟨i,f,u,_,h3,h4,h5⟩:=h.LI h1 h2;exact ⟨f,u,L,N,Ac.2 (ji h3),h4,h5⟩
theorem eD.ar {S:aU} {t:bN} {A:aC} {g:GR} (h:eD P S t A g) {x:Nat} (q:K.AR (S.mem P g.vs g.rs) (E.sub A g.bs g.fs S.nr) x):K.AR A E x:=by
 obtain ⟨f,u,L,N,_,h2,h3⟩:=h.AR q;exact ⟨f,u,L,N,h2,h3⟩
theorem eD.AF {S:aU} {t:bN} {A:aC} {B:St} {g:GR} (h:eD P S t A g) {q:Nat} (k:K.AF (S.mem P g.vs g.rs) (E.sub A g.bs g.fs S.nr) B q):∃ f u x L N cs e own m,f∈lO g.fs/\A.get f=some (.arr u)/\E.α f=some (x,L,N)/\B.get x=some (.row cs e own (some (q,m))):=by
 obtain ⟨b,v,x,L,N,cs,e,own,m,h1,h2,h3⟩:=k;obtain ⟨i,f,u,_,h4,h5,h6⟩:=h.LI h1 h2;exact ⟨f,u,x,L,N,cs,e,own,m,Ac.2 (ji h4),h5,h6,h3⟩
theorem eD.af {S:aU} {t:bN} {A:aC} {B:St} {g:GR} (h:eD P S t A g) {q:Nat} (k:K.AF (S.mem P g.vs g.rs) (E.sub A g.bs g.fs S.nr) B q):K.AF A E B q:=by
 obtain ⟨f,u,x,L,N,cs,e,own,m,_,h1,h2,h3⟩:=h.AF k;exact ⟨f,u,x,L,N,cs,e,own,m,h1,h2,h3⟩
theorem eD.at {S:aU} {t:bN} {A:aC} {B:St} {g:GR} (h:eD P S t A g) {y:Nat} (k:K.AT (S.mem P g.vs g.rs) (E.sub A g.bs g.fs S.nr) B y):K.AT A E B y:=k.imp h.ar fun ⟨q,h1,h2⟩=>⟨q,h.af h1,h2⟩
theorem eD.kW {S:aU} {t:bN} {A:aC} {B:St} {g:GR} (h:eD P S t A g) (hk:gU P E A B):gU P (E.sub A g.bs g.fs S.nr) (S.mem P g.vs g.rs) B where
 row b cs ca hb:=by
  rcases LH h.wS hb with ⟨p,r,h1,h2,h3⟩ | ⟨i,q,_,h2,h3⟩
  ·simp only [la.row.injEq] at h3
   obtain ⟨rfl,rfl⟩:=h3;obtain ⟨b',cs,h4,h5,h6,h7,h8,h9⟩:=h.row h1;rw [h2] at h8; simp at h8; subst h8;obtain ⟨x,ck,xY,MZ,h12⟩:=hk.row _ _ _ h5;refine ⟨x,ck,by simp [Env.sub,h4,xY],MZ,?_⟩;have hh:sP E (E.sub A g.bs g.fs S.nr) (S.W7 P t A) S.nr:=h.hyp;have hr:=hh.right;rw [HZ (h.vs ▸ h.eE)] at hr;have:=ahq h.rows hr h1;rw [h7] at this;have hrr:=YZ h.avg h1;rw [h7] at hrr;exact bp.cellsIn (E:=E) (E0:=E.sub A g.bs g.fs S.nr) rfl h.rk h12 h6 h9 this hrr
  ·subst h3
   obtain ⟨fi,_,_,h6⟩:=h.fact h2;rcases h6 with ⟨_,_,e,_⟩ | ⟨_,_,e,_⟩ <;> simp at e
 bm b top sz hb:=by
  rcases LH h.wS hb with ⟨p,r,_,_,h3⟩ | ⟨i,q,rfl,h2,h3⟩
  ·simp at h3
  ·subst h3
   obtain ⟨fi,h4,h5,h6⟩:=h.fact h2;rcases h6 with ⟨_,_,e,h6⟩ | ⟨_,_,e,_⟩
   ·simp only [la.bm.injEq] at e
    obtain ⟨rfl,rfl⟩:=e;rw [Env.ahr,h5,gE];rcases h6 with ⟨h6,h7⟩ | ⟨f,h6,h7⟩
    ·rw [h6]; exact .inl ⟨h7,rfl⟩
    ·rw [h6,gE,show DJ (A.get f)=true by rw [h7]; rfl,ai]; exact hk.bm f _ _ h7
   ·simp at e
 z:=hk.z
 apart b x e:=by
  simp only [Env.sub,dm] at e;obtain ⟨b',_,e⟩:=e;exact hk.apart b' x e
 inj b c x e1 e2:=by
  simp only [Env.sub,dm] at e1 e2;obtain ⟨b',h1,e1⟩:=e1;obtain ⟨c',h2,e2⟩:=e2;have:=hk.inj _ _ _ e1 e2;subst this;exact aho h.nodup _ _ _ h1 h2
 lT b c q tb sb tc sc hb hc e1 e2:=by
  have key:∀ {b t s},(S.mem P g.vs g.rs).get b=some (.bm t s)->∃ i,b=S.nr+i/\((g.fs[i]? = some none)\/∃ f,g.fs[i]? = some (some f)/\A.get f=some (.bm t s)):=by
   intro b t s hb;rcases LH h.wS hb with ⟨p,r,_,_,h3⟩ | ⟨i,q1,rfl,h2,h3⟩
   ·simp at h3
   subst h3;obtain ⟨fi,h4,h5,h6⟩:=h.fact h2;rcases h6 with ⟨_,_,e,h6⟩ | ⟨_,_,e,_⟩
   ·simp only [la.bm.injEq] at e
    obtain ⟨rfl,rfl⟩:=e;rcases h6 with ⟨h6,_⟩ | ⟨f,h6,h7⟩
    ·exact ⟨i,rfl,.inl (by rw [h5,h6])⟩
    ·exact ⟨i,rfl,.inr ⟨f,by rw [h5,h6],h7⟩⟩
   ·simp at e
  obtain ⟨i,rfl,h1⟩:=key hb;obtain ⟨j,rfl,h2⟩:=key hc;rw [Env.ahr] at e1 e2;rcases h1 with h1 | ⟨f,h1,h3⟩
  ·rw [h1] at e1; simp at e1
  rcases h2 with h2 | ⟨f',h2,h4⟩
  ·rw [h2] at e2; simp at e2
  rw [h1,gE,gE] at e1;rw [h2,gE,gE] at e2;rw [show DJ (A.get f)=true by rw [h3]; rfl,ai] at e1;rw [show DJ (A.get f')=true by rw [h4]; rfl,ai] at e2;have:=hk.lT f f' q _ _ _ _ h3 h4 e1 e2;subst this;have:=Bn h.afY i j f h1 h2;omega
 ow b x e:=by
  simp only [Env.sub,dm] at e;obtain ⟨b',h1,_⟩:=e;have:b < g.bs.length:=(dB.1 h1).1;rw [aU.mem,iz,r8 h.wS];rw [h.ahs] at this;simp only [aU.nr]; omega
 qD b q e:=by
  simp only [Env.sub] at e;split at e
  ·rename_i hle
   obtain ⟨f,h1,_⟩:=dm.1 e;have h2:b - S.nr < g.fs.length:=(dB.1 h1).1;rw [h.fs,vJ,<- h.lens] at h2;rw [aU.mem,iz,r8 h.wS];omega
  ·simp at e
 live b o hb:=by
  rw [aU.mem,iz,r8 h.wS];rcases LH h.wS hb with ⟨p,r,h1,_,_⟩ | ⟨i,q,rfl,h2,h3⟩
  ·have:=(dB.1 h1).1
   simp only [aU.nr]; omega
  ·have:=(dB.1 h2).1
   omega
 jc b x e:=by
  simp only [Env.sub,dm] at e;obtain ⟨b',_,e⟩:=e;exact hk.jc b' x e
 qX:=hk.qX
 mL b q e:=by
  simp only [Env.sub] at e;split at e
  ·obtain ⟨f,_,e⟩:=dm.1 e
   obtain ⟨f',_,e⟩:=dm.1 e;exact hk.mL _ _ (WH e).1
  ·simp at e
 fresh:=hk.fresh
 mem:=hk.mem
 ar:=by
  have alp:∀ b p,(E.sub A g.bs g.fs S.nr).α b=some p->S.nr<=b/\b - S.nr < g.fs.length/\∃ f,E.α f=some p:=by
   intro b p e;simp only [Env.sub] at e;split at e
   ·rename_i hle
    obtain ⟨f,h1,e⟩:=dm.1 e;obtain ⟨f',_,e⟩:=dm.1 e;exact ⟨hle,(dB.1 h1).1,f',e⟩
   ·simp at e
  refine ⟨fun b v hb=>?_,fun b v hb=>?_,fun x q=>?_,fun b c v u x L N L' N' h1 h2 h3 h4=>?_,fun b c v u x y L N L' N' cs e own q k ck e' tP k' h1 h2 h3 h4 h5 h6=>?_,fun b x e=>?_,fun b p e=>?_,fun b x L N e=>?_,fun b v x L N cs e own q k h1 h2 h3=>?_,fun b v hb=>?_⟩
  ·obtain ⟨i,T,rfl,h1⟩:=h.aqn hb
   rcases h1 with ⟨h1,h2,h3⟩ | ⟨f,m,N,es,acc,h1,h2,h3⟩
   ·obtain ⟨tM,hJ,e1,e2,_⟩:=U4 (P:=P) (E:=E) (t:=T) (n:=0) (es:=[]) (acc:=pE) (bF:=[]) ⟨rfl,fun i hi=>by omega,rfl⟩ .nil
    rw [e1] at h3;refine ⟨T,0,tM,hJ,h3,e2,h2,.inl ⟨rfl,?_⟩⟩;rw [Env.LG,h1]; rfl
   ·obtain ⟨T2,N2,tM,hJ,e,ht,gI,Ce⟩:=hk.ar.arr f _ h2
    simp only [KV.ts.injEq] at e;obtain ⟨rfl,rfl,rfl,rfl,rfl⟩:=e;rcases Ce with ⟨h4,h5⟩ | ⟨x,cs,bV,bF,h4,h5,h6,h7⟩
    ·subst h4
     have UD:es = []:=pq.1 ht.len.symm;subst UD;obtain ⟨tM,hJ,e1,e2,_⟩:=U4 (P:=P) (E:=E) (bF:=[]) ht .nil;rw [e1] at h3;refine ⟨T,0,tM,hJ,h3,e2,gI,.inl ⟨rfl,?_⟩⟩;rw [Env.LG,h1]; exact h5
    ·obtain ⟨tM,hJ,e1,e2,e3⟩:=U4 ht h6
     rw [e1] at h3;refine ⟨T,N,tM,hJ,h3,e2,gI,.inr ⟨x,cs,bV,bF,?_,h5,bp.zEs (E:=E) (E0:=E.sub A g.bs g.fs S.nr) rfl e3 e2.typed,h7⟩⟩;rw [Env.LG,h1]; exact h4
  ·rcases LH h.wS hb with ⟨p,r,_,_,h3⟩ | ⟨i,q,rfl,h2,h3⟩
   ·simp at h3
   ·subst h3
    obtain ⟨fi,_,_,h6⟩:=h.fact h2;rcases h6 with ⟨_,_,e,_⟩ | ⟨_,_,e,_⟩ <;> simp at e
  ·obtain ⟨h1,h2⟩:=hk.ar.z x (h.ar q)
   refine ⟨h1,fun c e=>?_⟩;simp only [Env.sub,dm] at e;obtain ⟨b',_,e⟩:=e;exact h2 b' e
  ·obtain ⟨i,f,u1,rfl,k1,k2,k3⟩:=h.LI h1 h3
   obtain ⟨j,f',u2,rfl,k1',k2',k3'⟩:=h.LI h2 h4;have:=hk.ar.inj f f' u1 u2 x L N L' N' k2 k2' k3 k3';subst this;have:=Bn h.afY i j f k1 k1';omega
  ·obtain ⟨i,f,u1,rfl,k1,k2,k3⟩:=h.LI h1 h3
   obtain ⟨j,f',u2,rfl,k1',k2',k3'⟩:=h.LI h2 h4;have:=hk.ar.zj f f' u1 u2 x y L N L' N' cs e own q k ck e' tP k' k2 k2' k3 k3' h5 h6;subst this;have:=Bn h.afY i j f k1 k1';omega
  ·cases ve:(E.sub A g.bs g.fs S.nr).α b with
   | none=>rfl
   | some p=>
    obtain ⟨h1,_,_⟩:=alp b p ve;simp only [Env.sub,dm] at e;obtain ⟨b',h2,_⟩:=e;have:b < g.bs.length:=(dB.1 h2).1;rw [h.ahs] at this;simp only [aU.nr] at h1; omega
  ·obtain ⟨h1,h2,_⟩:=alp b p e
   rw [h.fs,vJ,<- h.lens] at h2;rw [aU.mem,iz,r8 h.wS];omega
  ·obtain ⟨_,_,f,e⟩:=alp b _ e
   exact hk.ar.jc f x L N e
  ·obtain ⟨i,f,u,rfl,k1,k2,k3⟩:=h.LI h1 h2
   obtain ⟨h4,h5,h6⟩:=hk.ar.xG f u x L N cs e own q k k2 k3 h3;refine ⟨h4,fun c e=>?_,fun y hy eU=>?_⟩
   ·simp only [Env.sub] at e
    split at e
    ·obtain ⟨f1,_,e⟩:=dm.1 e
     obtain ⟨f',_,e⟩:=dm.1 e;exact h5 f' (WH e).1
    ·simp at e
   ·obtain ⟨h7,h8,h9⟩:=h6 y hy eU
    refine ⟨h7,fun q=>h8 (h.ar q),fun c e=>?_⟩;simp only [Env.sub,dm] at e;obtain ⟨b',_,e⟩:=e;exact h9 b' e
  ·rcases LH h.wS hb with ⟨p,r,_,_,h3⟩ | ⟨i,q,rfl,h2,_⟩
   ·simp at h3
   ·refine ⟨?_,?_⟩
    ·rw [aU.mem,iz,r8 h.wS]
     have:=(dB.1 h2).1;omega
    ·simp only [Env.sub]
     rw [List.getElem?_eq_none (by rw [h.ahs]; simp only [aU.nr]; omega)];rfl
structure Co (base:Nat) (E:Env) (A:aC) (B:St) (ρ:a9) (w:World) (E' : Env) (A' : aC) (B' : St) (ba:a9) (w' : World):Prop where
 gX:pk base ρ B w ba B' w'
 z:∀ b r,E.z b=some r->E'.z b=some r
 pB:∀ x,x < B.next->(∀ b,E.κ b≠some x)->¬ AT A E B x->B'.get x=B.get x
 new:∀ b x,E'.κ b=some x->(∃ c,E.κ c=some x)\/B.next<=x
 yw:∀ b r,E'.z b=some r->E.z b=some r\/AR A E b\/B.next<=b
 yx:∀ b g,E'.φ b=some g->(∃ c,E.φ c=some g)\/B.next<=g
 uH:∀ g,g < B.next->(∀ b,E.φ b≠some g)->¬ AF A E B g->B'.members g=B.members g
 qo:∀ x,AR A' E' x->AR A E x\/B.next<=x
 qE:∀ g,AF A' E' B' g->AF A E B g\/B.next<=g
 zZ:∀ g y,y∈B'.members g->y∈B.members g\/B.next<=y
 r7:∀ y,AT A' E' B' y->AT A E B y\/B.next<=y
 rows:∀ y,y < B.next->∀ cs e own bV,B'.get y=some (.row cs e own bV)->∃ pz,B.get y=some (.row pz e own bV)/\pz.length=cs.length
theorem Co.trans {base:Nat} {E1 E2 E3:Env} {A1 A2 A3:aC} {B1 B2 B3:St} {qd z0 ρ3:a9} {w1 w2 w3:World} (h:Co base E1 A1 B1 qd w1 E2 A2 B2 z0 w2) (k:Co base E2 A2 B2 z0 w2 E3 A3 B3 ρ3 w3):Co base E1 A1 B1 qd w1 E3 A3 B3 ρ3 w3 where
 gX:=h.gX.trans k.gX
 z b r e:=k.z b r (h.z b r e)
 pB x hx hn ha:=by
  refine (k.pB x (u3 hx h.gX.next) (fun b e=>?_) fun q=>?_).trans (h.pB x hx hn ha)
  ·rcases h.new b x e with ⟨c,e⟩ | e
   ·exact hn c e
   ·omega
  ·rcases h.r7 x q with e | e
   ·exact ha e
   ·omega
 new b x e:=by
  rcases k.new b x e with ⟨c,e⟩ | e
  ·exact h.new c x e
  ·have:=h.gX.next; exact .inr (by omega)
 yw b r e:=by
  rcases k.yw b r e with e | e | e
  ·exact h.yw b r e
  ·exact .inr (h.qo b e)
  ·have:=h.gX.next; exact .inr (.inr (by omega))
 yx b g e:=by
  rcases k.yx b g e with ⟨c,e⟩ | e
  ·exact h.yx c g e
  ·have:=h.gX.next; exact .inr (by omega)
 uH g hg hn ha:=by
  refine (k.uH g (u3 hg h.gX.next) (fun b e=>?_) fun q=>?_).trans (h.uH g hg hn ha)
  ·rcases h.yx b g e with ⟨c,e⟩ | e
   ·exact hn c e
   ·omega
  ·rcases h.qE g q with e | e
   ·exact ha e
   ·omega
 qo x e:=by
  rcases k.qo x e with e | e
  ·exact h.qo x e
  ·have:=h.gX.next; exact .inr (by omega)
 qE g e:=by
  rcases k.qE g e with e | e
  ·exact h.qE g e
  ·have:=h.gX.next; exact .inr (by omega)
 zZ g y e:=by
  rcases k.zZ g y e with e | e
  ·exact h.zZ g y e
  ·have:=h.gX.next; exact .inr (by omega)
 r7 y e:=by
  rcases k.r7 y e with e | e
  ·exact h.r7 y e
  ·have:=h.gX.next; exact .inr (by omega)
 rows y hy cs e own bV q:=by
  obtain ⟨c1,h1,h2⟩:=k.rows y (u3 hy h.gX.next) cs e own bV q;obtain ⟨c0,h3,h4⟩:=h.rows y hy c1 e own bV h1;exact ⟨c0,h3,h4.trans h2⟩
theorem Ev.co {base:Nat} {A A1:aC} {B B1:St} {ρ qd:a9} {w w1:World} {E1:Env} {S:aU} {t:bN} {g:GR} (h:Ev P base E A B ρ w E1 A1 B1 qd w1) (hG:eD P S t A1 g):Co base E A B ρ w (E1.sub A1 g.bs g.fs S.nr) (S.mem P g.vs g.rs) B1 qd w1 where
 gX:=h.gX
 z:=h.le.z
 pB:=h.pB
 new b x e:=by
  simp only [Env.sub,dm] at e;obtain ⟨b',_,e⟩:=e;exact (h.new b' x e).imp (fun e=>⟨_,e⟩) id
 yw:=h.yw
 yx b g e:=by
  simp only [Env.sub] at e;split at e
  ·obtain ⟨f,_,e⟩:=dm.1 e
   obtain ⟨f',_,e⟩:=dm.1 e;exact h.yx _ _ (WH e).1
  ·simp at e
 uH:=h.uH
 qo x q:=h.qo x (hG.ar q)
 qE g q:=h.qE g (hG.af q)
 zZ:=h.zZ
 r7 y q:=h.r7 y (hG.at q)
 rows:=h.rows
def aay (nr:Nat):List CD->Bool
 | []=>true
 | .ref w::ds=>aef nr w&&aay nr ds
 | _::ds=>aay nr ds
theorem LJ {nr:Nat} {bs:List Nat} : ∀ {ds:List CD} {vs:List KV},Ji nr bs ds vs=true->vs.length=ds.length->aay nr ds=true
 | [],_,_,_=>rfl
 | _::_,[],_,e=>by simp at e
 | .k c::ds,v::vs,h,e=>LJ (ds:=ds) (vs:=vs) h (by simpa using e)
 | .lit c::ds,v::vs,h,e=>LJ (ds:=ds) (vs:=vs) h (by simpa using e)
 | .bm c::ds,v::vs,h,e=>LJ (ds:=ds) (vs:=vs) h (by simpa using e)
 | .arr c::ds,v::vs,h,e=>LJ (ds:=ds) (vs:=vs) h (by simpa using e)
 | .ref w::ds,v::vs,h,e=>by
  simp only [Ji,aD] at h;simp only [aay,aD];exact ⟨h.1,LJ h.2.2 (by simpa using e)⟩
def Y0 (E1 E2:Env) (i j n:Nat):Prop:=∀ m,m < n->(∀ g,E1.φ (i+m)=some g->E2.φ (j+m)=some g)/\∀ p,E1.α (i+m)=some p->E2.α (j+m)=some p
theorem Y0.tail {E1 E2:Env} {i j n:Nat} (h:Y0 E1 E2 i j (n+1)):Y0 E1 E2 (i+1) (j+1) n:=fun m hm=>by
 have:=h (m+1) (by omega);rw [show i+(m+1)=i+1+m by omega,show j+(m+1)=j+1+m by omega] at this;exact this
theorem Y0.left {E1 E2:Env} {i j n n' : Nat} (h:Y0 E1 E2 i j n') (hn:n<=n'):Y0 E1 E2 i j n:=fun m hm=>h m (by omega)
theorem Y0.right {E1 E2:Env} {i j n n' : Nat} (h:Y0 E1 E2 i j (n+n')):Y0 E1 E2 (i+n) (j+n) n':=fun m hm=>by
 have:=h (n+m) (by omega);rw [<- HL,<- HL] at this;exact this
theorem bp.El {E1 E2:Env} (hz:E2.z=E1.z) {nr:Nat} {Y1 bs2:List Nat} (hk:Rk E1 E2 nr Y1 bs2):∀ {ds:List CD} {vs:List KV} {us:List Value} {i j:Nat},bp P E1 (uI i Y1 ds vs) us->eC ds vs=true->aay nr ds=true->Y0 E1 E2 i j (vh ds)->bp P E2 (uI j bs2 ds vs) us
 | [],[],us,_,_,h,_,_,_=>by rw [h.cu]; exact .nil
 | [],_::_,_,_,_,_,hg,_,_=>by simp [eC] at hg
 | _::_,[],_,_,_,_,hg,_,_=>by simp [eC] at hg
 | d::ds,v::vs,us,i,j,h,hg,hw,hf=>by
  simp only [eC,aD] at hg;cases d with
  | k c=>
   obtain ⟨y,ys,rfl,h1,h2⟩:=bp.cons_inv (show bp P E1 (v::uI i Y1 ds vs) us from h);exact .cons (h1.gCD (d:=.k c) hz hg.1 (by simp)) (bp.El hz hk h2 hg.2 hw hf)
  | lit w=>
   obtain ⟨y,ys,rfl,h1,h2⟩:=bp.cons_inv (show bp P E1 (v::uI i Y1 ds vs) us from h);exact .cons (h1.gCD (d:=.lit w) hz hg.1 (by simp)) (bp.El hz hk h2 hg.2 hw hf)
  | ref w=>
   simp only [aay,aD] at hw;obtain ⟨y,ys,rfl,h1,h2⟩:=bp.cons_inv (show bp P E1 (inst Y1 w::uI i Y1 ds vs) us from h);exact .cons (VK.inst hk hw.1 h1) (bp.El hz hk h2 hg.2 hw.2 hf)
  | bm t=>
   obtain ⟨y,ys,rfl,h1,h2⟩:=bp.cons_inv (show bp P E1 (RV i v::uI (i+1) Y1 ds vs) us from h);refine .cons ?_ (bp.El (i:=i+1) (j:=j+1) hz hk h2 hg.2 hw (Y0.tail hf));have hv:∃ n es acc,v = .ts t .any n es acc:=by
    have hg1:kindOk (.slice t) v=true:=hg.1;cases v <;> simp [kindOk] at hg1;rename_i t' m n es acc;cases m <;> simp at hg1;subst hg1; exact ⟨_,_,_,rfl⟩
   obtain ⟨n,es,acc,rfl⟩:=hv;exact VK.swap hz (show VK P E1 (.ts t (.bm i) n es acc) y from h1) fun sz a cap _ hm=>by
    refine ⟨hm.1,hm.2.imp id ?_⟩;rintro ⟨b,r,g,q1,q2,q3,q4,q5⟩;exact ⟨b,r,g,q1,by rw [hz]; exact q2,q3,(hf 0 (by simp [vh])).1 g q4,q5⟩
  | arr t=>
   obtain ⟨y,ys,rfl,h1,h2⟩:=bp.cons_inv (show bp P E1 (WC i v::uI (i+1) Y1 ds vs) us from h);refine .cons ?_ (bp.El (i:=i+1) (j:=j+1) hz hk h2 hg.2 hw (Y0.tail hf));have hv:∃ n es acc,v = .ts t .any n es acc:=by
    have hg1:kindOk (.slice t) v=true:=hg.1;cases v <;> simp [kindOk] at hg1;rename_i t' m n es acc;cases m <;> simp at hg1;subst hg1; exact ⟨_,_,_,rfl⟩
   obtain ⟨n,es,acc,rfl⟩:=hv;show VK P E2 (.al t j 0 n) y;rcases (show VK P E1 (.al t i 0 n) y from h1).Bj with ⟨q1,q2,q3⟩ | ⟨x,L,N,c,q1,q2⟩
   ·exact .XD (.inl ⟨q1,q2,q3⟩)
   ·exact .XD (.inr ⟨x,L,N,c,(hf 0 (by simp [vh])).2 _ q1,q2⟩)
theorem aq9 (j:Nat) (bs:List Nat) (d:VD) (cs:List KV):aeh j bs d (.agg cs) = .agg (uI j bs d.ks cs):=rfl
theorem aka {j:Nat} {bs:List Nat} {d:VD} {v:KV} (h:∀ cs,v≠.agg cs) {c:CD} (hc:d.ks = [c]) : [aeh j bs d v] = uI j bs d.ks [v]:=by
 have e:aeh j bs d v=(match d.ks with | [.bm _]=>RV j v | [.arr _]=>WC j v | [.ref w]=>inst bs w | _=>v):=by
  cases v <;> first | rfl | exact absurd rfl (h _)
 rw [e,hc];cases c <;> rfl
theorem VK.avP {E1 E2:Env} (hz:E2.z=E1.z) {nr:Nat} {Y1 bs2:List Nat} (hk:Rk E1 E2 nr Y1 bs2) {d:VD} {v:KV} {u:Value} {i j:Nat} (h:VK P E1 (aeh i Y1 d v) u) (hg:Bk d v=true) (hw:aay nr d.ks=true) (hf:Y0 E1 E2 i j (vh d.ks)):VK P E2 (aeh j bs2 d v) u:=by
 rcases CV hg with ⟨cs,rfl,_,h2⟩ | ⟨h0,_,c,h1,h2⟩
 ·rw [aq9] at h ⊢
  obtain ⟨l,rfl,k⟩:=h.pC;exact .tI (bp.El hz hk k h2 hw hf)
 ·have k:bp P E1 (uI i Y1 d.ks [v]) [u]:=by rw [<- aka h0 h1]; exact .cons h .nil
  have k2:=bp.El hz hk k (by rw [h1]; simp [eC,h2]) hw hf;rw [<- aka h0 h1] at k2;obtain ⟨y,e,k3⟩:=k2.gi;simp at e; subst e; exact k3
def zn (P:Program) (E1 E2:Env):List (Nat×KV)->List (Nat×KV)->Prop
 | [],[]=>True
 | x::xs,y::ys=>x.1=y.1/\(∀ u,VK P E1 x.2 u->VK P E2 y.2 u)/\zn P E1 E2 xs ys
 | _,_=>False
theorem zn.append {E1 E2:Env} : ∀ {a b c d:List (Nat×KV)},zn P E1 E2 a b->zn P E1 E2 c d->zn P E1 E2 (a++c) (b++d)
 | [],[],_,_,_,h=>h
 | [],_::_,_,_,h,_=>h.elim
 | _::_,[],_,_,h,_=>h.elim
 | _::_,_::_,_,_,h,k=>⟨h.1,h.2.1,zn.append h.2.2 k⟩
theorem zn.get {E1 E2:Env} : ∀ {a b:List (Nat×KV)},zn P E1 E2 a b->∀ i,((oD a).get i=none/\(oD b).get i=none)\/∃ x y,(oD a).get i=some x/\(oD b).get i=some y/\∀ u,VK P E1 x u->VK P E2 y u
 | [],[],_,i=>.inl (by simp [oD])
 | [],_::_,h,_=>h.elim
 | _::_,[],h,_=>h.elim
 | x::a,y::b,h,i=>by
  rw [oD,oD,Trie.sm,Trie.sm];by_cases e:i=x.1
  ·rw [aW e,aW (by rw [e,h.1])]
   exact .inr ⟨_,_,rfl,rfl,h.2.1⟩
  ·rw [aB e,aB (by rw [<- h.1]; exact e)]
   exact zn.get h.2.2 i
theorem nQ.asO {E1 E2:Env} {ρ:a9} {l m:List (Nat×KV)} {N:Nat} {a:Act} (h:nQ P E1 ρ (K.oD l) N a) (hp:zn P E1 E2 l m):nQ P E2 ρ (K.oD m) N a:=by
 refine ⟨h.size,fun i=>?_,fun i hi=>?_⟩
 ·rcases hp.get i with ⟨_,h2⟩ | ⟨x,y,h1,h2,h3⟩
  ·rw [h2]; exact .bJ
  ·have:=h.val i
   rw [h1] at this;rw [h2];obtain ⟨u,k1,k2⟩:=this;exact ⟨u,h3 u k1,k2⟩
 ·rcases hp.get i with ⟨_,h2⟩ | ⟨x,y,h1,h2,h3⟩
  ·exact h2
  ·have:=h.none i hi
   rw [h1] at this; simp at this
def wsV (nr:Nat):List (Tmp×VD)->Bool
 | []=>true
 | p::ps=>aay nr p.2.ks&&wsV nr ps
theorem aqo {A:aC} {t:bN} {nr:Nat} {bs:List Nat} : ∀ {ps:List (Tmp×VD)},UX nr bs t ps=true->jB ps (tQ P t A ps)=true->wsV nr ps=true
 | [],_,_=>rfl
 | p::ps,h,hg=>by
  simp only [UX,aD] at h;simp only [tQ,jB,aD] at hg;simp only [wsV,aD];exact ⟨LJ h.1 (Nm hg.1),aqo h.2 hg.2⟩
theorem akb {E1 E2:Env} (hz:E2.z=E1.z) {nr:Nat} {Y1 bs2:List Nat} (hk:Rk E1 E2 nr Y1 bs2):∀ {ps:List (Tmp×VD)} {vs:List KV} {i j:Nat},jB ps vs=true->wsV nr ps=true->Y0 E1 E2 i j (qG ps)->zn P E1 E2 (aei i Y1 ps vs) (aei j bs2 ps vs)
 | [],[],_,_,_,_,_=>trivial
 | [],_::_,_,_,hg,_,_=>by simp [jB] at hg
 | _::_,[],_,_,hg,_,_=>by simp [jB] at hg
 | p::ps,v::vs,i,j,hg,hw,hf=>by
  simp only [wsV,aD] at hw;simp only [jB,aD] at hg;have hf:Y0 E1 E2 i j (vh p.2.ks+qG ps):=hf;exact ⟨rfl,fun u h=>h.avP hz hk hg.1 hw.1 (hf.left (M1 _ _)),akb hz hk hg.2 hw.2 hf.right⟩
theorem anp {E1 E2:Env} {ids bs:List Nat} : ∀ {ps:List (Tmp×Nat×Nat)},(∀ p∈ps,∀ x,E1.κ (ids.getD p.2.1 0)=some x->E2.κ (bs.getD p.2.1 0)=some x)->zn P E1 E2 (Ej ids ps) (Ej bs ps)
 | [],_=>trivial
 | p::ps,h=>⟨rfl,fun u k=>by
   obtain ⟨x,h1,rfl⟩:=(show VK P E1 (.ptr (ids.getD p.2.1 0) p.2.2) u from k).j8;exact .DA (h p (by simp) x h1),anp fun q hq=>h q (by simp [hq])⟩
end Go.K
end
section
namespace Go.K
open Go Go.aE
variable {P:Program} {E:Env}
theorem K1:∀ (ps:List (Tmp×List CD×Nat)) (j k:Nat),Ek j ps k=j+Ek 0 ps k
 | [],j,k=>by simp [Ek]
 | _::_,j,0=>by simp [Ek]
 | p::ps,j,k+1=>by
  simp only [Ek];rw [K1 ps (j+vh p.2.1) k,K1 ps (0+vh p.2.1) k];omega
theorem mem_row {S:aU} {vs:List KV} {rs:List (List KV)} (h:rs.length=S.rows.length) {k:Nat} {p:Tmp×List CD×Nat} {r:List KV} (hp:S.rows[k]? = some p) (hr:rs[k]? = some r):(S.mem P vs rs).get k=some (.row (uI (Ek (S.nr+qG S.eE) S.rows k) S.ids p.2.1 r) p.2.2):=by
 have hk:k < S.nr:=(dB.1 hp).1;rw [aU.mem,Kv (by rw [r8 h]; exact hk)];have:=aqm (A:=.empty) hp (show (S.LD S.nr S.ids rs)[k]? = some _ from WG hp hr);simpa [aC.empty] using this
theorem aaz {S:aU} {vs:List KV} {rs:List (List KV)} (h:rs.length=S.rows.length) {i:Nat} {q:la} (hq:(S.lens P vs rs)[i]? = some q):(S.mem P vs rs).get (S.nr+i)=some q:=by
 have:=UY (A:=vi .empty S.rows (S.LD S.nr S.ids rs)) hq;rw [r8 h] at this;exact this
def Env.up (E E1:Env) (nr nx:Nat):Env:={ κ:=E.κ,z:=E1.z,φ:=fun b=>if nx<=b then E1.φ (nr+(b - nx)) else E.φ b,α:=fun b=>if nx<=b then E1.α (nr+(b - nx)) else E.α b }
theorem Env.Fh {E1:Env} {nr nx j:Nat} : (E.up E1 nr nx).φ (nx+j)=E1.φ (nr+j):=by
 simp only [Env.up];rw [aW (by omega),show nx+j - nx=j by omega]
theorem Env.Fi {E1:Env} {nr nx b:Nat} (h:b < nx):(E.up E1 nr nx).φ b=E.φ b:=by
 simp only [Env.up];rw [aB (by omega)]
theorem Env.PY {E1:Env} {nr nx j:Nat} : (E.up E1 nr nx).α (nx+j)=E1.α (nr+j):=by
 simp only [Env.up];rw [aW (by omega),show nx+j - nx=j by omega]
theorem Env.PZ {E1:Env} {nr nx b:Nat} (h:b < nx):(E.up E1 nr nx).α b=E.α b:=by
 simp only [Env.up];rw [aB (by omega)]
theorem gU.awN {A:aC} {B:St} (h:gU P E A B) {b x:Nat} (hx:E.κ b=some x) : ¬ AT A E B x:=by
 rintro (q | ⟨g,⟨c,v,y,L,N,cs,e,own,k,h1,h2,h3⟩,hm⟩)
 ·exact (h.ar.z x q).2 b hx
 ·by_cases ET:x=y
  ·subst ET
   exact (h.ar.z x ⟨c,v,L,N,h1,h2⟩).2 b hx
  ·exact ((h.ar.xG c v y L N cs e own g k h1 h2 h3).2.2 x hm ET).2.2 b hx
theorem akc {S:aU} {t:bN} {A:aC} {B B1:St} {g:GR} {ρ qd:a9} {base N:Nat} {w w1:World} {a1:Act} {vs:List KV} {rs:List (List KV)} {E1:Env} (hG:eD P S t A g) (hk:gU P E A B)
  (ht:nQ P E1 qd (S.tm S.nr S.ids vs) N a1) (hs:gU P E1 (S.mem P vs rs) B1) (Ch:Co base (E.sub A g.bs g.fs S.nr) (S.mem P g.vs g.rs) B ρ w E1 (S.mem P vs rs) B1 qd w1) (MW:∀ k,k < S.rows.length->E1.κ k=(E.sub A g.bs g.fs S.nr).κ k)
  (hv:jB S.eE vs=true) (Iq:rs.length=S.rows.length) (hrg:∀ (k:Nat) p r,S.rows[k]? = some p->rs[k]? = some r->eC p.2.1 r=true) :
  nQ P (E.up E1 S.nr A.next) qd (S.tm A.next g.bs vs) N a1/\Ev P base E A B ρ w (E.up E1 S.nr A.next) (S.back P g.bs g.fs vs rs A) B1 qd w1:=by
 have hle:E.le (E.up E1 S.nr A.next):=⟨fun b p e=>by rw [Env.PZ (hk.ar.ow b p e)]; exact e,fun _ _ e=>e,fun b r e=>Ch.z b r e,fun b q e=>by rw [Env.Fi (hk.qD b q e)]; exact e⟩
 have asP:∀ (k b:Nat),g.bs[k]? = some b->E1.κ k=E.κ b:=fun k b hb=>by
  rw [MW k (by rw [<- hG.ahs]; exact (dB.1 hb).1)];simp [Env.sub,hb]
 have kr:(DL (rM A g.bs S.rows (S.LD A.next g.bs rs)) g.fs).next=A.next:=by rw [Nn,YY]
 have RS:∀ x,x < B.next->(∀ (k b:Nat),g.bs[k]? = some b->E.κ b≠some x)->¬ AT (S.mem P g.vs g.rs) (E.sub A g.bs g.fs S.nr) B x->B1.get x=B.get x:=fun x hx eU ha=>Ch.pB x hx (fun k e=>by
  simp only [Env.sub,dm] at e;obtain ⟨b,h1,e⟩:=e;exact eU k b h1 e) ha
 have Jj:∀ f,f∈lO g.fs->∃ i:Nat,g.fs[i]? = some (some f)/\((∃ n sz,A.get f=some (.bm n sz))\/∃ v,A.get f=some (.arr v)):=by
  intro f hf;obtain ⟨i,hi⟩:=List.getElem?_of_mem (Ac.1 hf);have bu:i < (S.lens P g.vs g.rs).length:=by rw [hG.lens,<- vJ,<- hG.fs]; exact (dB.1 hi).1
  obtain ⟨fi,_,h2,h3⟩:=hG.fact (dD bu);rw [hi] at h2; simp at h2;rcases h3 with ⟨n,sz,_,⟨h3,_⟩ | ⟨f',h3,h4⟩⟩ | ⟨T,v,_,⟨h3,_⟩ | ⟨f',m,N,es,acc,h3,h4,_⟩⟩
  ·rw [h3] at h2; simp at h2
  ·rw [h3] at h2; simp at h2; subst h2; exact ⟨i,hi,.inl ⟨_,_,h4⟩⟩
  ·rw [h3] at h2; simp at h2
  ·rw [h3] at h2; simp at h2; subst h2; exact ⟨i,hi,.inr ⟨_,h4⟩⟩
 have awO:∀ f v,f∈lO g.fs->A.get f=some v->(∃ n sz,v = .bm n sz)\/∃ u,v = .arr u:=by
  intro f v hf hv;obtain ⟨_,_,⟨n,sz,h1⟩ | ⟨u,h1⟩⟩:=Jj f hf
  ·rw [hv] at h1; simp at h1; exact .inl ⟨n,sz,h1⟩
  ·rw [hv] at h1; simp at h1; exact .inr ⟨u,h1⟩
 have hrk:Rk E1 (E.up E1 S.nr A.next) S.rows.length S.ids g.bs:=fun j x hj e=>by
  have bu:j < g.bs.length:=by rw [hG.ahs]; exact hj
  rw [iQ,PV S j hj,bc] at e;rw [iQ,dD bu,bc];show E.κ _=some x;rw [<- asP j _ (dD bu)]; exact e
 have ab8:∀ (k b:Nat),g.bs[k]? = some b->∃ (p:Tmp×List CD×Nat) (r:List KV) (x:Nat) (ck:List Value),S.rows[k]? = some p/\rs[k]? = some r/\E.κ b=some x/\B1.get x=some (.row ck p.2.2 true none)/\bp P (E.up E1 S.nr A.next) (uI (Ek (A.next+qG S.eE) S.rows k) g.bs p.2.1 r) ck/\
   (DL (rM A g.bs S.rows (S.LD A.next g.bs rs)) g.fs).get b=some (.row (uI (Ek (A.next+qG S.eE) S.rows k) g.bs p.2.1 r) p.2.2)/\b ∉ lO g.fs:=by
  intro k b hb;have bu:k < S.rows.length:=by rw [<- hG.ahs]; exact (dB.1 hb).1
  have hp:=dD bu;have hr:=dD (show k < rs.length by rw [Iq]; exact bu);obtain ⟨b',cs,q1,q2,_⟩:=hG.row hp;rw [hb] at q1; simp at q1; subst q1;obtain ⟨x,ck,h1,h2,h3⟩:=hs.row k _ _ (mem_row Iq hp hr);have hnf:b ∉ lO g.fs:=fun hf=>by
   rcases awO b _ hf q2 with ⟨_,_,e⟩ | ⟨_,e⟩ <;> simp at e
  refine ⟨_,_,x,ck,hp,hr,by rw [<- asP k b hb]; exact h1,h2,?_,?_,hnf⟩
  ·have hws:aay S.rows.length S.rows[k].2.1=true:=by
    obtain ⟨_,pz,_,_,Ui,hc0,_,_⟩:=hG.row hp;have:=YZ hG.avg hp;rw [hc0] at this;exact LJ this Ui
   refine bp.El (E1:=E1) (E2:=E.up E1 S.nr A.next) rfl hrk h3 (hrg _ _ _ hp hr) hws fun m _=>⟨fun q e=>?_,fun q e=>?_⟩
   ·rw [K1,show A.next+qG S.eE+Ek 0 S.rows k+m=A.next+(qG S.eE+Ek 0 S.rows k+m) by omega,Env.Fh]
    rw [K1,show S.nr+qG S.eE+Ek 0 S.rows k+m=S.nr+(qG S.eE+Ek 0 S.rows k+m) by omega] at e;exact e
   ·rw [K1,show A.next+qG S.eE+Ek 0 S.rows k+m=A.next+(qG S.eE+Ek 0 S.rows k+m) by omega,Env.PY]
    rw [K1,show S.nr+qG S.eE+Ek 0 S.rows k+m=S.nr+(qG S.eE+Ek 0 S.rows k+m) by omega] at e;exact e
  ·rw [LF,aB hnf]
   exact anj hG.nodup hb hp (show (S.LD A.next g.bs rs)[k]? = some _ from WG hp hr)
 have Dz:∀ b,b∈g.bs->∃ k:Nat,g.bs[k]? = some b:=fun b hb=>List.getElem?_of_mem hb;have WI:∀ c q,(E.sub A g.bs g.fs S.nr).φ c=some q->∃ f n sz,f∈lO g.fs/\E.φ f=some q/\A.get f=some (.bm n sz):=by
  intro c q e;simp only [Env.sub] at e;split at e
  ·obtain ⟨f,h1,e⟩:=dm.1 e
   obtain ⟨f',h2,e⟩:=dm.1 e;subst h2;obtain ⟨e1,e2⟩:=WH e;obtain ⟨n,sz,e3⟩:=anm e2;exact ⟨f',n,sz,Ac.2 (ji h1),e1,e3⟩
  ·simp at e
 have hinv:∀ b o,(S.back P g.bs g.fs vs rs A).get b=some o->(b∈g.bs/\∃ cs e,o = .row cs e/\(DL (rM A g.bs S.rows (S.LD A.next g.bs rs)) g.fs).get b=some (.row cs e))\/(b ∉ g.bs/\b ∉ lO g.fs/\A.get b=some o)\/(b∈lO g.fs/\o = .dead)\/∃ i q,b=A.next+i/\(S.lens P vs rs)[i]? = some q/\o=q:=by
  intro b o hb;rcases aaw hb with hb | ⟨i,q,h1,h2,h3⟩
  ·by_cases hbs:b∈g.bs
   ·obtain ⟨k,Cc⟩:=Dz b hbs
    obtain ⟨p,r,x,ck,h1,h2,h3,h4,h5,h6,h7⟩:=ab8 k b Cc;rw [h6] at hb; simp at hb;exact .inl ⟨hbs,_,_,hb.symm,h6⟩
   ·rw [LF] at hb
    split at hb
    ·rename_i hf; simp at hb; exact .inr (.inr (.inl ⟨hf,hb.symm⟩))
    ·rename_i hf
     rw [UZ hbs] at hb;exact .inr (.inl ⟨hbs,hf,hb⟩)
  ·rw [kr] at h1
   exact .inr (.inr (.inr ⟨i,q,h1,h2,h3⟩))
 have hnewobj:∀ i q,(S.lens P vs rs)[i]? = some q->(S.mem P vs rs).get (S.nr+i)=some q:=fun i q hq=>aaz Iq hq;have aqp:∀ (i:Nat) (q:la),(S.lens P vs rs)[i]? = some q->(∃ n sz,q=la.bm n sz)\/∃ v,q=la.arr v:=by
  have one:∀ (ds:List CD) (vs:List KV),∀ q∈sN P ds vs,(∃ n sz,q = .bm n sz)\/∃ v,q = .arr v:=by
   intro ds
   induction ds with
   | nil=>intro vs q hq; simp [sN] at hq
   | cons d ds ih=>
    intro vs q hq;cases vs with
    | nil=>cases d <;> simp [sN] at hq
    | cons v vs=>
     cases d <;> simp only [sN,ff] at hq
     ·exact ih vs q hq
     ·exact ih vs q hq
     ·rcases hq with rfl | hq
      ·exact .inl ⟨_,_,rfl⟩
      ·exact ih vs q hq
     ·rcases hq with rfl | hq
      ·exact .inr ⟨_,rfl⟩
      ·exact ih vs q hq
     ·exact ih vs q hq
  have two:∀ (ps:List (Tmp×VD)) (vs:List KV),∀ q∈Cg P ps vs,(∃ n sz,q = .bm n sz)\/∃ v,q = .arr v:=by
   intro ps
   induction ps with
   | nil=>intro vs q hq; simp [Cg] at hq
   | cons p ps ih=>
    intro vs q hq;cases vs with
    | nil=>simp [Cg] at hq
    | cons v vs=>
     simp only [Cg,mJ] at hq;exact hq.elim (one _ _ q) (ih vs q)
  have three:∀ (ps:List (Tmp×List CD×Nat)) (rs:List (List KV)),∀ q∈DK P ps rs,(∃ n sz,q = .bm n sz)\/∃ v,q = .arr v:=by
   intro ps
   induction ps with
   | nil=>intro vs q hq; simp [DK] at hq
   | cons p ps ih=>
    intro vs q hq;cases vs with
    | nil=>simp [DK] at hq
    | cons v vs=>
     simp only [DK,mJ] at hq;exact hq.elim (one _ _ q) (ih vs q)
  intro i q hq;have:=ji hq;simp only [aU.lens,mJ] at this;exact this.elim (two _ _ q) (three _ _ q)
 have z7:∀ b v,(S.back P g.bs g.fs vs rs A).get b=some (.arr v)->(b < A.next/\b ∉ lO g.fs/\A.get b=some (.arr v)/\(E.up E1 S.nr A.next).α b=E.α b)\/∃ i,b=A.next+i/\(S.mem P vs rs).get (S.nr+i)=some (.arr v)/\(E.up E1 S.nr A.next).α b=E1.α (S.nr+i):=by
  intro b v hb;rcases hinv b _ hb with ⟨_,_,_,e,_⟩ | ⟨_,PL,h1⟩ | ⟨_,e⟩ | ⟨i,q,rfl,h2,e⟩
  ·simp at e
  ·exact .inl ⟨hk.live b _ h1,PL,h1,Env.PZ (hk.live b _ h1)⟩
  ·simp at e
  ·subst e; exact .inr ⟨i,rfl,aaz Iq h2,Env.PY⟩
 have avh:∀ {b v x L N},b ∉ lO g.fs->A.get b=some (.arr v)->E.α b=some (x,L,N)->¬ AR (S.mem P g.vs g.rs) (E.sub A g.bs g.fs S.nr) x:=by
  intro b v x L N PL hb hx q;obtain ⟨f,u,L',N',h1,h2,h3⟩:=hG.AR q;have:=hk.ar.inj b f v u x L N L' N' hb h2 hx h3;subst this;exact PL h1
 have awP:∀ {b v x L N},b ∉ lO g.fs->A.get b=some (.arr v)->E.α b=some (x,L,N)->¬ AT (S.mem P g.vs g.rs) (E.sub A g.bs g.fs S.nr) B x:=by
  intro b v x L N PL hb hx q;rcases q with q | ⟨bm,q,hm⟩
  ·exact avh PL hb hx q
  ·obtain ⟨f,u,y,L',N',cs,e,own,m,h1,h2,h3,h4⟩:=hG.AF q
   by_cases ET:x=y
   ·subst ET
    have:=hk.ar.inj b f v u x L N L' N' hb h2 hx h3;subst this;exact PL h1
   ·exact ((hk.ar.xG f u y L' N' cs e own bm m h2 h3 h4).2.2 x hm ET).2.1 ⟨b,v,L,N,hb,hx⟩
 have P0:∀ {b v x L N},b ∉ lO g.fs->A.get b=some (.arr v)->E.α b=some (x,L,N)->B1.get x=B.get x:=by
  intro b v x L N PL hb hx;exact RS x (hk.ar.jc b x L N hx) (fun k c _ e=>(hk.ar.z x ⟨b,v,L,N,hb,hx⟩).2 c e) (awP PL hb hx)
 have asQ:∀ {i v x L N},(S.mem P vs rs).get (S.nr+i)=some (.arr v)->E1.α (S.nr+i)=some (x,L,N)->(∃ f u L' N',f∈lO g.fs/\A.get f=some (.arr u)/\E.α f=some (x,L',N'))\/B.next<=x:=by
  intro i v x L N h1 h2;rcases Ch.qo x ⟨_,v,L,N,h1,h2⟩ with q | q
  ·obtain ⟨f,u,L',N',q1,q2,q3⟩:=hG.AR q
   exact .inl ⟨f,u,L',N',q1,q2,q3⟩
  ·exact .inr q
 have asR:∀ x,AR (S.back P g.bs g.fs vs rs A) (E.up E1 S.nr A.next) x->AR A E x\/AR (S.mem P vs rs) E1 x:=by
  rintro x ⟨b,v,L,N,h1,h2⟩;rcases z7 b v h1 with ⟨q1,q2,q3,q4⟩ | ⟨i,rfl,q2,q3⟩
  ·rw [q4] at h2; exact .inl ⟨b,v,L,N,q3,h2⟩
  ·rw [q3] at h2; exact .inr ⟨_,v,L,N,q2,h2⟩
 have asS:∀ q,AF (S.back P g.bs g.fs vs rs A) (E.up E1 S.nr A.next) B1 q->AF A E B q\/AF (S.mem P vs rs) E1 B1 q:=by
  rintro q ⟨b,v,x,L,N,cs,e,own,k,h1,h2,h3⟩;rcases z7 b v h1 with ⟨q1,q2,q3,q4⟩ | ⟨i,rfl,q2,q3⟩
  ·rw [q4] at h2
   rw [P0 q2 q3 h2] at h3;exact .inl ⟨b,v,x,L,N,cs,e,own,k,q3,h2,h3⟩
  ·rw [q3] at h2; exact .inr ⟨_,v,x,L,N,cs,e,own,k,q2,h2,h3⟩
 have alq:∀ x,AR (S.back P g.bs g.fs vs rs A) (E.up E1 S.nr A.next) x->AR A E x\/B.next<=x:=fun x q=>by
  rcases asR x q with q | q
  ·exact .inl q
  ·exact (Ch.qo x q).imp hG.ar id
 have aqq:∀ q,AF (S.back P g.bs g.fs vs rs A) (E.up E1 S.nr A.next) B1 q->AF A E B q\/B.next<=q:=fun x q=>by
  rcases asS x q with q | q
  ·exact .inl q
  ·exact (Ch.qE x q).imp hG.af id
 have asT:∀ x,x < B.next->E.z x=none->¬ AR (S.mem P g.vs g.rs) (E.sub A g.bs g.fs S.nr) x->E1.z x=none:=fun x hx h1 h2=>by
  cases hz:E1.z x with
  | none=>rfl
  | some r=>
   rcases Ch.yw x r hz with e | e | e
   ·have e:E.z x=some r:=e
    rw [h1] at e; simp at e
   ·exact (h2 e).elim
   ·omega
 have avi:∀ {b v x L N cs e own q k},b ∉ lO g.fs->A.get b=some (.arr v)->E.α b=some (x,L,N)->B.get x=some (.row cs e own (some (q,k)))->¬ AF (S.mem P g.vs g.rs) (E.sub A g.bs g.fs S.nr) B q:=by
  intro b v x L N cs e own q k PL hb hx lC r;obtain ⟨f,u,y,L',N',ck,e',tP,m,h1,h2,h3,h4⟩:=hG.AF r;have:=hk.ar.zj b f v u x y L N L' N' cs e own q k ck e' tP m hb h2 hx h3 lC h4;subst this;exact PL h1
 have vI:Rx P (E.up E1 S.nr A.next) (S.back P g.bs g.fs vs rs A) B1:=by
  refine ⟨?_,?_,?_,?_,?_,?_,?_,?_,?_,?_⟩
  ·intro b v hb
   rcases z7 b v hb with ⟨q1,q2,q3,q4⟩ | ⟨i,rfl,q2,q3⟩
   ·obtain ⟨T,N,es,acc,h1,h2,h3,h4⟩:=hk.ar.arr b v q3
    refine ⟨T,N,es,acc,h1,h2,h3,?_⟩;rcases h4 with ⟨h4,h5⟩ | ⟨x,cs,bV,bF,h4,h5,h6,h7⟩
    ·exact .inl ⟨h4,by rw [q4]; exact h5⟩
    ·exact .inr ⟨x,cs,bV,bF,by rw [q4]; exact h4,by rw [P0 q2 q3 h4]; exact h5,h6.mono hle,h7⟩
   ·obtain ⟨T,N,es,acc,h1,h2,h3,h4⟩:=hs.ar.arr _ v q2
    refine ⟨T,N,es,acc,h1,h2,h3,?_⟩;rcases h4 with ⟨h4,h5⟩ | ⟨x,cs,bV,bF,h4,h5,h6,h7⟩
    ·exact .inl ⟨h4,by rw [q3]; exact h5⟩
    ·exact .inr ⟨x,cs,bV,bF,by rw [q3]; exact h4,h5,bp.zEs (E:=E1) (E0:=E.up E1 S.nr A.next) rfl h6 h2.typed,h7⟩
  ·intro b v hb
   rcases hinv b _ hb with ⟨_,_,_,e,_⟩ | ⟨_,_,h1⟩ | ⟨_,e⟩ | ⟨i,q,_,h2,e⟩
   ·simp at e
   ·obtain ⟨T,N,es,acc,h2,h3,h4,h5⟩:=hk.ar.lR b v h1
    have ve:(E.up E1 S.nr A.next).α b=E.α b:=Env.PZ (hk.live b _ h1);refine ⟨T,N,es,acc,h2,h3,h4,?_⟩;rcases h5 with ⟨h5,h6⟩ | ⟨x,r,bF,h5,h6,h7,h8,h9⟩
    ·exact .inl ⟨h5,by rw [ve]; exact h6⟩
    ·exact .inr ⟨x,r,bF,by rw [ve]; exact h5,Ch.z x r h6,h7,h8.mono hle,h9⟩
   ·simp at e
   ·rcases aqp i q h2 with ⟨_,_,e2⟩ | ⟨_,e2⟩ <;> rw [<- e] at e2 <;> simp at e2
  ·rintro x ⟨b,v,L,N,h1,h2⟩
   rcases z7 b v h1 with ⟨q1,q2,q3,q4⟩ | ⟨i,rfl,q2,q3⟩
   ·rw [q4] at h2
    obtain ⟨h3,h4⟩:=hk.ar.z x ⟨b,v,L,N,q3,h2⟩;exact ⟨asT x (hk.ar.jc b x L N h2) h3 (avh q2 q3 h2),h4⟩
   ·rw [q3] at h2
    refine ⟨(hs.ar.z x ⟨_,v,L,N,q2,h2⟩).1,fun c e=>?_⟩;rcases Ch.qo x ⟨_,v,L,N,q2,h2⟩ with q | q
    ·exact (hk.ar.z x (hG.ar q)).2 c e
    ·have:=hk.jc c x e; omega
  ·intro b c v u x L N L' N' hb hc e1 e2
   have Lu:∀ {b v c u L N L' N'},b ∉ lO g.fs->A.get b=some (.arr v)->E.α b=some (x,L,N)->(S.mem P vs rs).get (S.nr+c)=some (.arr u)->E1.α (S.nr+c)=some (x,L',N')->False:=by
    intro b v c u L N L' N' h1 h2 h3 h4 h5;rcases asQ h4 h5 with ⟨f,u',L2,N2,k1,k2,k3⟩ | k
    ·have:=hk.ar.inj b f v u' x L N L2 N2 h2 k2 h3 k3
     subst this;exact h1 k1
    ·have:=hk.ar.jc b x L N h3; omega
   rcases z7 b v hb with ⟨q1,q2,q3,q4⟩ | ⟨i,rfl,q2,q3⟩ <;> rcases z7 c u hc with ⟨r1,r2,r3,r4⟩ | ⟨j,rfl,r2,r3⟩
   ·rw [q4] at e1; rw [r4] at e2
    exact hk.ar.inj b c v u x L N L' N' q3 r3 e1 e2
   ·rw [q4] at e1; rw [r3] at e2
    exact (Lu q2 q3 e1 r2 e2).elim
   ·rw [q3] at e1; rw [r4] at e2
    exact (Lu r2 r3 e2 q2 e1).elim
   ·rw [q3] at e1; rw [r3] at e2
    have:=hs.ar.inj _ _ v u x L N L' N' q2 r2 e1 e2;omega
  ·intro b c v u x y L N L' N' cs e own q k ck e' tP k' hb hc e1 e2 w1 w2
   have Lu:∀ {b v c u x y L N L' N' cs e own k ck e' tP k'},b ∉ lO g.fs->A.get b=some (.arr v)->E.α b=some (x,L,N)->(S.mem P vs rs).get (S.nr+c)=some (.arr u)->E1.α (S.nr+c)=some (y,L',N')->B1.get x=some (.row cs e own (some (q,k)))->B1.get y=some (.row ck e' tP (some (q,k')))->False:=by
    intro b v c u x y L N L' N' cs e own k ck e' tP k' h1 h2 h3 h4 h5 w1 w2;rw [P0 h1 h2 h3] at w1;rcases Ch.qE q ⟨_,u,y,L',N',ck,e',tP,k',h4,h5,w2⟩ with r | r
    ·exact avi h1 h2 h3 w1 r
    ·have:=(hk.ar.xG b v x L N cs e own q k h2 h3 w1).1; omega
   rcases z7 b v hb with ⟨q1,q2,q3,q4⟩ | ⟨i,rfl,q2,q3⟩ <;> rcases z7 c u hc with ⟨r1,r2,r3,r4⟩ | ⟨j,rfl,r2,r3⟩
   ·rw [q4] at e1; rw [r4] at e2
    rw [P0 q2 q3 e1] at w1; rw [P0 r2 r3 e2] at w2;exact hk.ar.zj b c v u x y L N L' N' cs e own q k ck e' tP k' q3 r3 e1 e2 w1 w2
   ·rw [q4] at e1; rw [r3] at e2
    exact (Lu q2 q3 e1 r2 e2 w1 w2).elim
   ·rw [q3] at e1; rw [r4] at e2
    exact (Lu r2 r3 e2 q2 e1 w2 w1).elim
   ·rw [q3] at e1; rw [r3] at e2
    have:=hs.ar.zj _ _ v u x y L N L' N' cs e own q k ck e' tP k' q2 r2 e1 e2 w1 w2;omega
  ·intro b x hb
   have hb:E.κ b=some x:=hb;rw [Env.PZ (hk.ow b x hb)];exact hk.ar.dis b x hb
  ·intro b p hb
   rw [aU.back,iz,kr];by_cases h1:b < A.next
   ·omega
   ·obtain ⟨i,rfl⟩:=Nat.exists_eq_add_of_le (Nat.le_of_not_lt h1)
    rw [Env.PY] at hb;have:=hs.ar.ow _ _ hb;rw [aU.mem,iz,r8 Iq] at this;omega
  ·intro b x L N hb
   by_cases h1:b < A.next
   ·rw [Env.PZ h1] at hb
    have:=hk.ar.jc b x L N hb; have:=Ch.gX.next; omega
   ·obtain ⟨i,rfl⟩:=Nat.exists_eq_add_of_le (Nat.le_of_not_lt h1)
    rw [Env.PY] at hb;exact hs.ar.jc _ _ _ _ hb
  ·intro b v x L N cs e own q k hb hx lC
   rcases z7 b v hb with ⟨q1,q2,q3,q4⟩ | ⟨i,rfl,q2,q3⟩
   ·rw [q4] at hx
    have ao2:=lC;rw [P0 q2 q3 hx] at ao2;obtain ⟨h1,h2,h3⟩:=hk.ar.xG b v x L N cs e own q k q3 hx ao2;have hm:B1.members q=B.members q:=Ch.uH q h1 (fun c e=>by
     obtain ⟨f',_,_,_,k2,_⟩:=WI c q e;exact h2 f' k2) (avi q2 q3 hx ao2)
    refine ⟨by have:=Ch.gX.next; omega,fun f e=>?_,fun y hy eU=>?_⟩
    ·by_cases hf:f < A.next
     ·rw [Env.Fi hf] at e; exact h2 f e
     ·obtain ⟨j,rfl⟩:=Nat.exists_eq_add_of_le (Nat.le_of_not_lt hf)
      rw [Env.Fh] at e;rcases Ch.yx _ _ e with ⟨c,e⟩ | e
      ·obtain ⟨f',_,_,_,k2,_⟩:=WI c q e
       exact h2 f' k2
      ·omega
    ·rw [hm] at hy
     obtain ⟨h4,h5,h6⟩:=h3 y hy eU;have bu:=hk.mem q y hy;refine ⟨asT y bu h4 fun r=>h5 (hG.ar r),fun r=>?_,h6⟩;rcases alq y r with r | r
     ·exact h5 r
     ·omega
   ·rw [q3] at hx
    obtain ⟨h1,h2,h3⟩:=hs.ar.xG _ v x L N cs e own q k q2 hx lC;have EW:=Ch.qE q ⟨_,v,x,L,N,cs,e,own,k,q2,hx,lC⟩;refine ⟨h1,fun f e=>?_,fun y hy eU=>?_⟩
    ·by_cases hf:f < A.next
     ·rw [Env.Fi hf] at e
      rcases EW with r | r
      ·obtain ⟨f0,u,x0,L0,N0,pz,e0,asU,m,k1,k2,k3,k4⟩:=hG.AF r
       exact (hk.ar.xG f0 u x0 L0 N0 pz e0 asU q m k2 k3 k4).2.1 f e
      ·have:=hk.mL f q e; omega
     ·obtain ⟨j,rfl⟩:=Nat.exists_eq_add_of_le (Nat.le_of_not_lt hf)
      rw [Env.Fh] at e;exact h2 _ e
    ·obtain ⟨h4,h5,h6⟩:=h3 y hy eU
     have Iw:y∈B.members q->(∀ c,c ∉ lO g.fs->∀ v' L' N',A.get c=some (.arr v')->E.α c≠some (y,L',N'))/\∀ c,E.κ c≠some y:=by
      intro hm;rcases EW with r | r
      ·obtain ⟨f0,u,x0,L0,N0,pz,e0,asU,m,k1,k2,k3,k4⟩:=hG.AF r
       by_cases hy0:y=x0
       ·subst hy0
        refine ⟨fun c hc v' L' N' p1 p2=>?_,(hk.ar.z y ⟨f0,u,L0,N0,k2,k3⟩).2⟩;have:=hk.ar.inj c f0 v' u y L' N' L0 N0 p1 k2 p2 k3;subst this;exact hc k1
       ·obtain ⟨_,p5,p6⟩:=(hk.ar.xG f0 u x0 L0 N0 pz e0 asU q m k2 k3 k4).2.2 y hm hy0
        exact ⟨fun c _ v' L' N' p1 p2=>p5 ⟨c,v',L',N',p1,p2⟩,p6⟩
      ·rw [hk.fresh q r] at hm; simp at hm
     refine ⟨h4,?_,fun c e=>?_⟩
     ·rintro ⟨c,v',L',N',r1,r2⟩
      rcases z7 c v' r1 with ⟨p1,p2,p3,p4⟩ | ⟨j,rfl,p2,p3⟩
      ·rw [p4] at r2
       rcases Ch.zZ q y hy with hm | hm
       ·exact (Iw hm).1 c p2 v' L' N' p3 r2
       ·have:=hk.ar.jc c y L' N' r2; omega
      ·rw [p3] at r2
       exact h5 ⟨_,v',L',N',p2,r2⟩
     ·have e:E.κ c=some y:=e
      rcases Ch.zZ q y hy with hm | hm
      ·exact (Iw hm).2 c e
      ·have:=hk.jc c y e; omega
  ·intro b v hb
   rw [aU.back,iz,kr];rcases z7 b v hb with ⟨q1,q2,q3,q4⟩ | ⟨i,rfl,q2,q3⟩
   ·obtain ⟨k1,k2⟩:=hk.ar.nk b v q3
    exact ⟨by omega,k2⟩
   ·refine ⟨?_,?_⟩
    ·have:=hs.live _ _ q2
     rw [aU.mem,iz,r8 Iq] at this;omega
    ·show E.κ (A.next+i)=none
     cases hq:E.κ (A.next+i) with
     | none=>rfl
     | some x=>have:=hk.ow _ x hq; omega
 refine ⟨?_,⟨⟨?_,?_,hs.z,?_,hk.inj,?_,?_,?_,?_,?_,hs.qX,?_,hs.fresh,hs.mem,?_⟩,Ch.gX,hle,?_,?_,fun _ _ e=>.inl e,?_,?_,?_,?_,?_,Ch.zZ,?_,Ch.rows⟩⟩
 ·refine nQ.asO ht (zn.append (akb (E1:=E1) (E2:=E.up E1 S.nr A.next) rfl hrk hv (aqo hG.avf (hG.vs ▸ hG.eE)) fun m _=>⟨fun q e=>by rw [Env.Fh]; exact e,fun q e=>by rw [Env.PY]; exact e⟩) (anp fun p hp x e=>?_))
  obtain ⟨b,_,h2⟩:=U3 hG.aeg p hp;have bu:p.2.1 < S.rows.length:=by rw [<- hG.ahs]; exact (dB.1 h2).1
  rw [iQ,PV S _ bu] at e;rw [iQ,h2];have e:E1.κ p.2.1=some x:=e;rw [asP _ _ h2] at e;exact e
 ·intro b cs ca hb
  rcases hinv b _ hb with ⟨hbs,_,_,e,h1⟩ | ⟨hbs,_,h1⟩ | ⟨_,e⟩ | ⟨i,q,_,hq,e⟩
  ·obtain ⟨k,Cc⟩:=Dz b hbs
   obtain ⟨p,r,x,ck,q1,q2,q3,q4,q5,q6,q7⟩:=ab8 k b Cc;rw [h1] at q6;simp only [la.row.injEq] at e;obtain ⟨rfl,rfl⟩:=e;simp only [dE,la.row.injEq] at q6;obtain ⟨rfl,rfl⟩:=q6;exact ⟨x,ck,q3,q4,q5⟩
  ·obtain ⟨x,c,q1,q2,q3⟩:=hk.row b cs ca h1
   refine ⟨x,c,q1,?_,q3.mono hle⟩;rw [RS x (hk.jc b x q1) (fun k b' hb' e=>?_) fun q=>hk.awN q1 (hG.at q)]
   ·exact q2
   ·have:=hk.inj _ _ _ q1 e
    subst this;exact hbs (ji hb')
  ·simp at e
  ·rcases aqp i q hq with ⟨_,_,e2⟩ | ⟨_,e2⟩ <;> rw [<- e] at e2 <;> simp at e2
 ·intro b top sz hb
  rcases hinv b _ hb with ⟨_,_,_,e,_⟩ | ⟨hbs,PL,h1⟩ | ⟨_,e⟩ | ⟨i,q,rfl,h2,e⟩
  ·simp at e
  ·rcases hk.bm b top sz h1 with ⟨h2,h3⟩ | ⟨q,h2,h3,h4⟩
   ·exact .inl ⟨h2,by rw [Env.Fi (hk.live b _ h1)]; exact h3⟩
   ·have hq:=hk.mL b q h2
    refine .inr ⟨q,by rw [Env.Fi (hk.live b _ h1)]; exact h2,h3,fun x hx cs e own f k lC=>?_⟩;have hmq:B1.members q=B.members q:=Ch.uH q hq (fun c e=>by
     obtain ⟨f',_,_,h5,h6,h7⟩:=WI c q e;have:=hk.lT b f' q _ _ _ _ h1 h7 h2 h6;subst this;exact PL h5) fun k=>by
      obtain ⟨c,v,y,L,N,cs,e,own,m,h5,h6,h7⟩:=hG.af k;exact (hk.ar.xG c v y L N cs e own q m h5 h6 h7).2.1 b h2
    rw [hmq] at hx;obtain ⟨pz,q1,q2⟩:=Ch.rows x (hk.mem q x hx) _ _ _ _ lC;obtain ⟨q3,q4⟩:=h4 x hx pz e own f k q1;exact ⟨q3,by rw [<- q2]; exact q4⟩
  ·simp at e
  ·subst e
   have:=hs.bm _ _ _ (aaz Iq h2);rw [Env.Fh];exact this
 ·intro b x hb
  have hx:=hk.jc b x hb;show E1.z x=none;cases hz:E1.z x with
  | none=>rfl
  | some r=>
   rcases Ch.yw x r hz with e | e | e
   ·have e:E.z x=some r:=e
    rw [hk.apart b x hb] at e; simp at e
   ·exact absurd hb ((hk.ar.z x (hG.ar e)).2 b)
   ·omega
 ·intro b c q tb sb tc sc hb hc e1 e2
  have key:∀ {b tb sb},(S.back P g.bs g.fs vs rs A).get b=some (.bm tb sb)->(b < A.next/\b ∉ lO g.fs/\A.get b=some (.bm tb sb))\/∃ i,b=A.next+i/\(S.mem P vs rs).get (S.nr+i)=some (.bm tb sb):=by
   intro b tb sb hb;rcases hinv b _ hb with ⟨_,_,_,e,_⟩ | ⟨_,PL,h1⟩ | ⟨_,e⟩ | ⟨i,q,rfl,h2,e⟩
   ·simp at e
   ·exact .inl ⟨hk.live b _ h1,PL,h1⟩
   ·simp at e
   ·subst e
    exact .inr ⟨i,rfl,aaz Iq h2⟩
  have Lu:∀ {b c tb sb i},b < A.next->b ∉ lO g.fs->A.get b=some (.bm tb sb)->c=A.next+i->E.φ b=some q->E1.φ (S.nr+i)=some q->False:=by
   intro b c tb sb i _ h2 h3 _ h5 h6;rcases Ch.yx _ _ h6 with ⟨c',e⟩ | e
   ·obtain ⟨f',_,_,k1,k2,k3⟩:=WI c' q e
    have:=hk.lT b f' q _ _ _ _ h3 k3 h5 k2;subst this;exact h2 k1
   ·have:=hk.mL b q h5; omega
  rcases key hb with ⟨h1,h2,h3⟩ | ⟨i,rfl,h2⟩ <;> rcases key hc with ⟨k1,k2,k3⟩ | ⟨j,rfl,k2⟩
  ·rw [Env.Fi h1] at e1; rw [Env.Fi k1] at e2
   exact hk.lT b c q _ _ _ _ h3 k3 e1 e2
  ·rw [Env.Fi h1] at e1; rw [Env.Fh] at e2
   exact (Lu h1 h2 h3 rfl e1 e2).elim
  ·rw [Env.Fh] at e1; rw [Env.Fi k1] at e2
   exact (Lu k1 k2 k3 rfl e2 e1).elim
  ·rw [Env.Fh] at e1 e2
   have:=hs.lT _ _ q _ _ _ _ h2 k2 e1 e2;omega
 ·intro b x hb; have h1:=hk.ow b x hb; rw [aU.back,iz,kr]; omega
 ·intro b q hb
  rw [aU.back,iz,kr];by_cases h1:b < A.next
  ·omega
  ·obtain ⟨i,rfl⟩:=Nat.exists_eq_add_of_le (Nat.le_of_not_lt h1)
   rw [Env.Fh] at hb;have:=hs.qD _ _ hb;rw [aU.mem,iz,r8 Iq] at this;omega
 ·intro b o hb
  rw [aU.back,iz,kr];rcases hinv b _ hb with ⟨hbs,_⟩ | ⟨_,_,h1⟩ | ⟨h1,_⟩ | ⟨i,q,rfl,h2,_⟩
  ·obtain ⟨k,Cc⟩:=Dz b hbs
   obtain ⟨p,r,x,ck,_,_,h3,_⟩:=ab8 k b Cc;have:=hk.ow b x h3; omega
  ·have:=hk.live b _ h1; omega
  ·obtain ⟨_,_,⟨_,_,h3⟩ | ⟨_,h3⟩⟩:=Jj b h1
   ·have:=hk.live b _ h3; omega
   ·have:=hk.live b _ h3; omega
  ·have:=(dB.1 h2).1; omega
 ·intro b x hb; have:=hk.jc b x hb; have:=Ch.gX.next; omega
 ·intro b q hb
  by_cases h1:b < A.next
  ·rw [Env.Fi h1] at hb
   have:=hk.mL b q hb; have:=Ch.gX.next; omega
  ·obtain ⟨i,rfl⟩:=Nat.exists_eq_add_of_le (Nat.le_of_not_lt h1)
   rw [Env.Fh] at hb;exact hs.mL _ _ hb
 ·exact vI
 ·rw [aU.back,iz,kr]; omega
 ·intro x hx eU hna
  exact RS x hx (fun k b _ e=>eU b e) fun q=>hna (hG.at q)
 ·intro b r e
  exact (Ch.yw b r e).imp id (fun e=>e.imp hG.ar id)
 ·intro b q hb
  by_cases h1:b < A.next
  ·rw [Env.Fi h1] at hb; exact .inl ⟨b,hb⟩
  ·obtain ⟨i,rfl⟩:=Nat.exists_eq_add_of_le (Nat.le_of_not_lt h1)
   rw [Env.Fh] at hb;rcases Ch.yx _ _ hb with ⟨c,e⟩ | e
   ·obtain ⟨f',_,_,_,k2,_⟩:=WI c q e
    exact .inl ⟨f',k2⟩
   ·exact .inr e
 ·intro q hq eU hna
  refine Ch.uH q hq (fun c e=>?_) fun k=>hna (hG.af k);obtain ⟨f',_,_,_,k2,_⟩:=WI c q e;exact eU f' k2
 ·exact alq
 ·exact aqq
 ·rintro y (q | ⟨q,h1,h2⟩)
  ·exact (alq y q).imp .inl id
  ·rcases Ch.zZ q y h2 with h2 | h2
   ·rcases aqq q h1 with h1 | h1
    ·exact .inl (.inr ⟨q,h1,h2⟩)
    ·rw [hk.fresh q h1] at h2; simp at h2
   ·exact .inr h2
theorem restore {S:aU} {t:bN} {A:aC} {B B1:St} {g:GR} {ρ qd:a9} {base N:Nat} {w w1:World} {a1:Act} {vs:List KV} {rs:List (List KV)} {E1:Env} (hG:eD P S t A g) (hk:gU P E A B)
  (ht:nQ P E1 qd (S.tm S.nr S.ids vs) N a1) (hs:gU P E1 (S.mem P vs rs) B1) (Ch:Co base (E.sub A g.bs g.fs S.nr) (S.mem P g.vs g.rs) B ρ w E1 (S.mem P vs rs) B1 qd w1) (MW:∀ k,k < S.rows.length->E1.κ k=(E.sub A g.bs g.fs S.nr).κ k)
  (hv:jB S.eE vs=true) (Iq:rs.length=S.rows.length) (hrg:∀ (k:Nat) p r,S.rows[k]? = some p->rs[k]? = some r->eC p.2.1 r=true) :
  ∃ E',nQ P E' qd (S.tm A.next g.bs vs) N a1/\Ev P base E A B ρ w E' (S.back P g.bs g.fs vs rs A) B1 qd w1:=⟨_,akc hG hk ht hs Ch MW hv Iq hrg⟩
end Go.K
end
section
namespace Go.K
open Go Go.aE
variable {P:Program} {E:Env}
structure Gs (P:Program) (S:aU) (vs:List KV) (rs:List (List KV)):Prop where
 v:jB S.eE vs=true
 wS:rs.length=S.rows.length
 B6:∀ (k:Nat) p r,S.rows[k]? = some p->rs[k]? = some r->eC p.2.1 r=true
 vn:∃ t A,vs=tQ P t A S.eE
 rn:∀ (k:Nat) p,S.rows[k]? = some p->∃ A pz,rs[k]? = some (gL P A p.2.1 pz)/\pz.length=p.2.1.length
theorem eD.S4 {S:aU} {t:bN} {A:aC} {g:GR} (h:eD P S t A g):Gs P S g.vs g.rs:=
 ⟨h.eE,h.wS,h.B6,⟨t,A,h.vs⟩,fun _ _ hp=>by obtain ⟨_,cs,_,_,h1,_,h2,_⟩:=h.row hp; exact ⟨A,cs,h2,h1⟩⟩
section
variable {cfg:fW} {L n:Nat} {f:FuncId} {S:aU} {root body:Code} {p N:Nat}
theorem ao3 (hP:P.funcs.toList.all qq=true) (hm:P.follows .mixedOrders=true) (je:vZ P cfg.pc) (n7:z9 P cfg) {fn:Func} (hf:P.funcs[f]? = some fn) (hb:fn.body=some root) (hs:Sub root p (.loop body)) (hc:codeOk N body=true)
  {vs cP:List KV} {rs oI:List (List KV)} {e:aq} (hr:Dj P cfg L n f p body S vs rs=some (e,cP,oI)) {B:St} {ρ:a9} {base:Nat} {a:Act} {w:World} {Q:Exit->Act->World->Prop} (cm:Gs P S vs rs)
  (ht:nQ P E ρ (S.tm S.nr S.ids vs) N a) (hj:KJ P E (S.mem P vs rs) B ρ base w)
  (hq:∀ E' B' ba a' w',nQ P E' ba (S.tm S.nr S.ids cP) N a'->a'.defers=a.defers->KJ P E' (S.mem P cP oI) B' ba base w'->Co base E (S.mem P vs rs) B ρ w E' (S.mem P cP oI) B' ba w'->(∀ k,k < S.rows.length->E'.κ k=E.κ k)->Gs P S cP oI->Q e.out a' w'):body.wp P Q a w:=by
 have zH:=yR (R:=aq×List KV×List (List KV)) hP hm je n7 L n;refine pI je zH hm (n7.2 f fn root hf hb) body (2 * p) hs.loop hc _ _ _ _ E B ρ base a w Q hr ht hj fun e' t' E1 A1 B1 qd a1 w1 h1 h2 h3 h4=>?_;cases hi:Ab (S.gV P t' A1).bs S.ids with
 | false=>
  simp only [hi,aw] at h1;exact absurd h1 (by simp)
 | true=>
  simp only [hi,ai] at h1;cases ho:(S.gV P t' A1).ok with
  | false=>simp only [ho] at h1; exact absurd h1 (by simp)
  | true=>
   simp only [ho,dE,gF] at h1;obtain ⟨rfl,rfl,rfl⟩:=h1;have hG:=PW ho;have asV:=U0 hi;refine hq _ B1 qd a1 w1 (hG.tkr h2) h3 ⟨hG.kW h4.kW,h4.gX.kW⟩ (h4.co hG) (fun k hk=>?_) hG.S4;have hp:=dD hk;have hr':=dD (show k < rs.length by rw [cm.wS]; exact hk);obtain ⟨x,_,hx,_⟩:=hj.k.row k _ _ (mem_row cm.wS hp hr');have e1:(E1.sub A1 (S.gV P t' A1).bs (S.gV P t' A1).fs S.nr).κ k=E1.κ k:=by
    simp only [Env.sub];rw [asV,PV S k hk,gE]
   rw [e1,hx];exact h4.le.κ k x hx
theorem akd (hP:P.funcs.toList.all qq=true) (hm:P.follows .mixedOrders=true) (je:vZ P cfg.pc) (n7:z9 P cfg) {fn:Func} (hf:P.funcs[f]? = some fn) (hb:fn.body=some root) (hs:Sub root p (.loop body)) (hc:codeOk N body=true)
  {e:aq} {cP:List KV} {oI:List (List KV)} : ∀ (m:Nat) {vs:List KV} {rs:List (List KV)},zd (Dj P cfg L n f p body S) m vs rs=some (e,cP,oI)->∀ {E:Env} {B:St} {ρ:a9} {base:Nat} {a:Act} {w:World} {Q:Exit->Act->World->Prop},Gs P S vs rs->
  nQ P E ρ (S.tm S.nr S.ids vs) N a->KJ P E (S.mem P vs rs) B ρ base w->
  (∀ E' B' ba a' w',nQ P E' ba (S.tm S.nr S.ids cP) N a'->a'.defers=a.defers->KJ P E' (S.mem P cP oI) B' ba base w'->Co base E (S.mem P vs rs) B ρ w E' (S.mem P cP oI) B' ba w'->(∀ k,k < S.rows.length->E'.κ k=E.κ k)->Gs P S cP oI->Q e.out a' w')->Code.rounds P body Q m a w
 | 0,vs,rs,h,E,B,ρ,base,a,w,Q,cm,ht,hj,hq=>by simp [zd] at h
 | m+1,vs,rs,h,E,B,ρ,base,a,w,Q,cm,ht,hj,hq=>by
  unfold zd at h;split at h
  ·rename_i e1 vs1 rs1 hr
   rw [rounds_succ];refine ao3 hP hm je n7 hf hb hs hc hr cm ht hj fun E' B' ba a' w' h1 h2 h3 h4 h5 h6=>?_;have fin:yS e1=false->some (e1,vs1,rs1)=some (e,cP,oI)->Q e1.out a' w':=by
    intro _ h;simp only [dE,gF] at h;obtain ⟨rfl,rfl,rfl⟩:=h;exact hq E' B' ba a' w' h1 h2 h3 h4 h5 h6
   cases e1 with
   | normal=>
    have h:zd (Dj P cfg L n f p body S) m vs1 rs1=some (e,cP,oI):=h;exact akd hP hm je n7 hf hb hs hc m h h6 h1 h3 fun PS RK zS a'' Po q1 q2 q3 q4 q5 q6=>hq PS RK zS a'' Po q1 (q2.trans h2) q3 (h4.trans q4) (fun k hk=>(q5 k hk).trans (h5 k hk)) q6
   | exit id=>exact fin rfl h
   | goto l=>exact fin rfl h
   | ret=>exact fin rfl h
  ·simp at h
theorem acA {R:Type} {bs:List Nat} {fs:List (Option Nat)} {A:aC} {k:KE R} {r:R} : ∀ (x:wR),(x.tell P S bs fs A).run k=some r->∃ e cP oI,x.ev=some (e,cP,oI)/\k e (S.tm A.next bs cP) (S.back P bs fs cP oI A)=some r
 | .no,h=>absurd h (by simp [wR.tell,Nc.run])
 | .out e vs rs,h=>⟨e,vs,rs,rfl,h⟩
 | .br c x y,h=>by
  have h:Bool.rec (motive:=fun _=>Option R) ((y.tell P S bs fs A).run k) ((x.tell P S bs fs A).run k) c=some r:=h;cases c with
  | true=>exact acA x h
  | false=>exact acA y h
theorem ao4 (hP:P.funcs.toList.all qq=true) (hm:P.follows .mixedOrders=true) (je:vZ P cfg.pc) (n7:z9 P cfg) {fn:Func} (hf:P.funcs[f]? = some fn) (hb:fn.body=some root) (hs:Sub root p (.loop body)) (hc:codeOk N body=true) {F:LFn}
  (hF:∀ vs rs e cP oI,Gs P S vs rs->(F vs rs).ev=some (e,cP,oI)->∃ m,zd (Dj P cfg L n f p body S) m vs rs=some (e,cP,oI)):acv P N body (ave P S F):=by
 intro R k r t A E B ρ base a w Q h ht hj hq;have h:Bool.rec (motive:=fun _=>Option R) none (((F (S.gV P t A).vs (S.gV P t A).rs).tell P S (S.gV P t A).bs (S.gV P t A).fs A).run k) (S.gV P t A).ok=some r:=h;cases ho:(S.gV P t A).ok with
 | false=>rw [ho] at h; exact absurd h (by simp)
 | true=>
  rw [ho] at h;have hG:=PW ho;obtain ⟨e,cP,oI,h9,xY⟩:=acA _ h;obtain ⟨m,hm'⟩:=hF _ _ e cP oI hG.S4 h9;refine wp_loop_rounds m (akd hP hm je n7 hf hb hs hc m hm' hG.S4 (hG.tkr ht) ⟨hG.kW hj.k,hj.s⟩ fun E' B' ba a' w' q1 q2 q3 q4 q5 q6=>?_);obtain ⟨E2,r1,r2⟩:=restore hG hj.k q1 q3.k q4 q5 q6.v q6.wS q6.B6;exact hq e _ E2 _ B' ba a' w' xY r1 q2 r2
end
end Go.K
end
section
namespace Go.K
open Go Go.aE
variable {P:Program} {E:Env}
def Env.re (E:Env) (f n:Nat):Env:={ κ:=E.κ,z:=E.z,φ:=E.φ,α:=fun b=>if b=f then E.α n else E.α b }
theorem Env.asW {f n:Nat} (h:∀ p,E.α f=some p->E.α n=some p):E.le (E.re f n):=⟨fun b p e=>by
 simp only [Env.re];split
 ·rename_i e1; subst e1; exact h p e
 ·exact e,fun _ _ e=>e,fun _ _ e=>e,fun _ _ e=>e⟩
theorem Env.ao5 {f n:Nat} : (E.re f n).α f=E.α n:=by simp [Env.re]
theorem Env.GV {f n b:Nat} (h:b≠f):(E.re f n).α b=E.α b:=by simp [Env.re,h]
theorem gU.swap {A:aC} {B:St} {f n:Nat} {v:KV} (h:gU P E A B) (hf:A.get f=some .dead) (hn:A.get n=some (.arr v)) (MW:E.κ f=none) (ve:∀ p,E.α f=some p->E.α n=some p) :
  gU P (E.re f n) ((A.put f (.arr v)).put n .dead) B/\(∀ x,AR ((A.put f (.arr v)).put n .dead) (E.re f n) x->AR A E x)/\∀ g,AF ((A.put f (.arr v)).put n .dead) (E.re f n) B g->AF A E B g:=by
 have eU:f≠n:=fun e=>by rw [e,hn] at hf; simp at hf
 have hle:=Env.asW ve;have mi:∀ b o,((A.put f (.arr v)).put n .dead).get b=some o->(b=n/\o = .dead)\/(b=f/\o = .arr v)\/(b≠f/\b≠n/\A.get b=some o):=fun b o hb=>by
  rw [aC.cn] at hb;split at hb
  ·rename_i e; simp at hb; exact .inl ⟨e,hb.symm⟩
  ·rename_i e
   rw [aC.cn] at hb;split at hb
   ·rename_i e2; simp at hb; exact .inr (.inl ⟨e2,hb.symm⟩)
   ·rename_i e2; exact .inr (.inr ⟨e2,e,hb⟩)
 have hA:∀ b u,((A.put f (.arr v)).put n .dead).get b=some (.arr u)->∃ c,A.get c=some (.arr u)/\(E.re f n).α b=E.α c/\((b=f/\c=n)\/(b≠f/\b≠n/\c=b)):=fun b u hb=>by
  rcases mi b _ hb with ⟨_,e⟩ | ⟨e,e2⟩ | ⟨e,e2,e3⟩
  ·simp at e
  ·simp at e2; subst e2 e; exact ⟨n,hn,Env.ao5,.inl ⟨rfl,rfl⟩⟩
  ·exact ⟨b,e3,Env.GV e,.inr ⟨e,e2,rfl⟩⟩
 have ahf:∀ {b c d:Nat},((b=f/\d=n)\/(b≠f/\b≠n/\d=b))->((c=f/\d=n)\/(c≠f/\c≠n/\d=c))->b=c:=fun h1 h2=>by
  rcases h1 with ⟨a1,a2⟩ | ⟨a1,a2,a3⟩ <;> rcases h2 with ⟨b1,b2⟩ | ⟨b1,b2,b3⟩ <;> omega
 have vI:∀ x,AR ((A.put f (.arr v)).put n .dead) (E.re f n) x->AR A E x:=fun x ⟨b,u,L,N,h1,h2⟩=>by
  obtain ⟨c,h3,h4,_⟩:=hA b u h1;exact ⟨c,u,L,N,h3,by rw [<- h4]; exact h2⟩
 have Ov:∀ g,AF ((A.put f (.arr v)).put n .dead) (E.re f n) B g->AF A E B g:=fun g ⟨b,u,x,L,N,cs,e,own,k,h1,h2,h3⟩=>by
  obtain ⟨c,h4,h5,_⟩:=hA b u h1;exact ⟨c,u,x,L,N,cs,e,own,k,h4,by rw [<- h5]; exact h2,h3⟩
 have hold:∀ b o,((A.put f (.arr v)).put n .dead).get b=some o->b < A.next:=fun b o hb=>by
  rcases mi b _ hb with ⟨e,_⟩ | ⟨e,_⟩ | ⟨_,_,e⟩
  ·rw [e]; exact h.live n _ hn
  ·rw [e]; exact h.live f _ hf
  ·exact h.live b o e
 refine ⟨⟨fun b cs ca hb=>?_,fun b top sz hb=>?_,h.z,h.apart,h.inj,fun b c g tb sb tc sc hb hc=>?_,h.ow,h.qD,hold,h.jc,h.qX,h.mL,h.fresh,h.mem,?_⟩,vI,Ov⟩
 ·rcases mi b _ hb with ⟨_,e⟩ | ⟨_,e⟩ | ⟨_,_,e⟩
  ·simp at e
  ·simp at e
  ·obtain ⟨x,ck,h1,h2,h3⟩:=h.row b cs ca e
   exact ⟨x,ck,h1,h2,h3.mono hle⟩
 ·rcases mi b _ hb with ⟨_,e⟩ | ⟨_,e⟩ | ⟨_,_,e⟩
  ·simp at e
  ·simp at e
  ·exact h.bm b top sz e
 ·rcases mi b _ hb with ⟨_,e⟩ | ⟨_,e⟩ | ⟨_,_,hb⟩
  ·simp at e
  ·simp at e
  rcases mi c _ hc with ⟨_,e⟩ | ⟨_,e⟩ | ⟨_,_,hc⟩
  ·simp at e
  ·simp at e
  exact h.lT b c g tb sb tc sc hb hc
 ·refine ⟨fun b u hb=>?_,fun b u hb=>?_,fun x q=>h.ar.z x (vI x q),fun b c u u' x L N L' N' h1 h2 h3 h4=>?_,fun b c u u' x y L N L' N' cs e own g k ck e' tP k' h1 h2 h3 h4 h5 h6=>?_,fun b x e=>?_,fun b p e=>?_,fun b x L N e=>?_,fun b u x L N cs e own g k h1 h2 h3=>?_,fun b u hb=>?_⟩
  ·obtain ⟨c,h1,h2,_⟩:=hA b u hb
   obtain ⟨T,N,es,acc,q1,q2,q3,q4⟩:=h.ar.arr c u h1;refine ⟨T,N,es,acc,q1,q2,q3,?_⟩;rw [h2];exact q4.imp id fun ⟨x,cs,bV,bF,r1,r2,r3,r4⟩=>⟨x,cs,bV,bF,r1,r2,r3.mono hle,r4⟩
  ·rcases mi b _ hb with ⟨_,e⟩ | ⟨_,e⟩ | ⟨e1,_,e⟩
   ·simp at e
   ·simp at e
   ·exact (h.ar.lR b u e).mono hle (Env.GV e1)
  ·obtain ⟨b',k1,k2,k3⟩:=hA b u h1
   obtain ⟨c',l1,l2,l3⟩:=hA c u' h2;rw [k2] at h3; rw [l2] at h4;have:=h.ar.inj b' c' u u' x L N L' N' k1 l1 h3 h4;subst this;exact ahf k3 l3
  ·obtain ⟨b',k1,k2,k3⟩:=hA b u h1
   obtain ⟨c',l1,l2,l3⟩:=hA c u' h2;rw [k2] at h3; rw [l2] at h4;have:=h.ar.zj b' c' u u' x y L N L' N' cs e own g k ck e' tP k' k1 l1 h3 h4 h5 h6;subst this;exact ahf k3 l3
  ·have hb:b≠f:=fun e2=>by rw [e2] at e; rw [show (E.re f n).κ f=E.κ f from rfl,MW] at e; simp at e
   rw [Env.GV hb];exact h.ar.dis b x e
  ·by_cases hb:b=f
   ·rw [hb]; exact h.live f _ hf
   ·rw [Env.GV hb] at e; exact h.ar.ow b p e
  ·by_cases hb:b=f
   ·rw [hb,Env.ao5] at e; exact h.ar.jc n x L N e
   ·rw [Env.GV hb] at e; exact h.ar.jc b x L N e
  ·obtain ⟨c,k1,k2,_⟩:=hA b u h1
   rw [k2] at h2;obtain ⟨q1,q2,q3⟩:=h.ar.xG c u x L N cs e own g k k1 h2 h3;exact ⟨q1,q2,fun y hy hy2=>⟨(q3 y hy hy2).1,fun q=>(q3 y hy hy2).2.1 (vI y q),(q3 y hy hy2).2.2⟩⟩
  ·refine ⟨hold b _ hb,?_⟩
   rcases mi b _ hb with ⟨_,e⟩ | ⟨e,_⟩ | ⟨_,_,e⟩
   ·simp at e
   ·rw [e]; exact MW
   ·exact (h.ar.nk b u e).2
structure Sw (E:Env) (A:aC) (B:St) (E' : Env) (A' : aC):Prop where
 le:E.le E'
 κ:E'.κ=E.κ
 z:E'.z=E.z
 φ:E'.φ=E.φ
 next:A'.next=A.next
 ar:∀ x,AR A' E' x->AR A E x
 af:∀ g,AF A' E' B g->AF A E B g
theorem Sw.refl {A:aC} {B:St} : Sw E A B E A:=⟨Env.le_refl _,rfl,rfl,rfl,rfl,fun _ h=>h,fun _ h=>h⟩
theorem Sw.trans {E1 E2 E3:Env} {A1 A2 A3:aC} {B:St} (h:Sw E1 A1 B E2 A2) (k:Sw E2 A2 B E3 A3):Sw E1 A1 B E3 A3:=
 ⟨Env.le_trans h.le k.le,k.κ.trans h.κ,k.z.trans h.z,k.φ.trans h.φ,k.next.trans h.next,fun x q=>h.ar x (k.ar x q),fun g q=>h.af g (k.af g q)⟩
theorem Ev.sw {base:Nat} {E1 E2 E3:Env} {A1 A2 A3:aC} {B1 B2:St} {qd z0:a9} {w1 w2:World} (h:Ev P base E1 A1 B1 qd w1 E2 A2 B2 z0 w2) (hk:gU P E3 A3 B2) (k:Sw E2 A2 B2 E3 A3):Ev P base E1 A1 B1 qd w1 E3 A3 B2 z0 w2 where
 kW:=hk
 gX:=h.gX
 le:=Env.le_trans h.le k.le
 next:=by rw [k.next]; exact h.next
 pB:=h.pB
 new b x e:=h.new b x (by rw [<- k.κ]; exact e)
 yw b r e:=h.yw b r (by rw [<- k.z]; exact e)
 yx b g e:=h.yx b g (by rw [<- k.φ]; exact e)
 uH:=h.uH
 qo x q:=h.qo x (k.ar x q)
 qE g q:=h.qE g (k.af g q)
 zZ:=h.zZ
 r7 y q:=h.r7 y (q.imp (k.ar y) fun ⟨g,q1,q2⟩=>⟨g,k.af g q1,q2⟩)
 rows:=h.rows
noncomputable section
def Kx:List (Option Nat)->Nat->Bool
 | [],_=>true
 | some f::fs,j=>Nat.beq f j&&Kx fs (Nat.succ j)
 | none::_,_=>false
theorem aeo:∀ {fs:List (Option Nat)} {j i:Nat} {x:Option Nat},Kx fs j=true->fs[i]? = some x->x=some (j+i)
 | [],_,_,_,_,e=>by simp at e
 | none::_,_,_,_,h,_=>by simp [Kx] at h
 | some f::fs,j,0,x,h,e=>by
  simp only [Kx,aD] at h;simp at e;rw [<- e,bo h.1];rfl
 | some f::fs,j,i+1,x,h,e=>by
  simp only [Kx,aD] at h;have:=aeo (i:=i) (x:=x) h.2 (by simpa using e);rw [this];congr 1;omega
def asX (A:aC) (f j:Nat) (o:la):aC:=
 match o with
 | .arr v=>(A.put f (.arr v)).put j .dead
 | _=>A
def Ky (A:aC):List (Option Nat)->Nat->List la->aC
 | some f::fs,j,o::os=>Ky (asX A f j o) fs (Nat.succ j) os
 | none::fs,j,_::os=>Ky A fs (Nat.succ j) os
 | _,_,_=>A
structure ake (E:Env) (A:aC) (fs:List (Option Nat)) (j:Nat) (os:List la):Prop where
 one:∀ (i:Nat) f v,fs[i]? = some (some f)->os[i]? = some (.arr v)->A.get f=some .dead/\E.κ f=none/\A.get (j+i)=some (.arr v)/\∀ p,E.α f=some p->E.α (j+i)=some p
 lt:∀ (i f:Nat),fs[i]? = some (some f)->f < j
 nodup:∀ (i k f:Nat),fs[i]? = some (some f)->fs[k]? = some (some f)->i=k
theorem ake.tail {E1:Env} {A A1:aC} {x:Option Nat} {o:la} {fs:List (Option Nat)} {os:List la} {j:Nat} (h:ake E A (x::fs) j (o::os)) (ve:∀ b,x≠some b->E1.α b=E.α b) (MW:E1.κ=E.κ) (hg:∀ b,x≠some b->b≠j->A1.get b=A.get b):ake E1 A1 fs (Nat.succ j) os where
 one i f v e1 e2:=by
  obtain ⟨h1,h3,h4,h5⟩:=h.one (i+1) f v (by simpa using e1) (by simpa using e2);have bu:=h.lt (i+1) f (by simpa using e1);rw [show j+(i+1)=Nat.succ j+i by omega] at h4 h5;have hf:x≠some f:=fun e=>by have:=h.nodup (i+1) 0 f (by simpa using e1) (by simp [e]); omega
  have hn:x≠some (Nat.succ j+i):=fun e=>by have:=h.lt 0 (Nat.succ j+i) (by simp [e]); omega
  exact ⟨by rw [hg f hf (by omega)]; exact h1,by rw [MW]; exact h3,by rw [hg _ hn (by omega)]; exact h4,fun p e=>by rw [ve f hf] at e; rw [ve _ hn]; exact h5 p e⟩
 lt i f e:=by have:=h.lt (i+1) f (by simpa using e); omega
 nodup i k f e1 e2:=by have:=h.nodup (i+1) (k+1) f (by simpa using e1) (by simpa using e2); omega
theorem acB {B:St} : ∀ {fs:List (Option Nat)} {os:List la} {j:Nat} {E:Env} {A:aC},gU P E A B->ake E A fs j os->∃ E',gU P E' (Ky A fs j os) B/\Sw E A B E' (Ky A fs j os)/\
  (∀ (i:Nat) f v,fs[i]? = some (some f)->os[i]? = some (.arr v)->E'.α f=E.α (j+i))/\(∀ b,(∀ i:Nat,fs[i]?≠some (some b))->E'.α b=E.α b)
 | [],os,j,E,A,h,_=>⟨E,h,.refl,fun i f v e=>by simp at e,fun _ _=>rfl⟩
 | x::fs,[],j,E,A,h,_=>⟨E,by cases x <;> exact h,by cases x <;> exact .refl,fun i f v _ e=>by simp at e,fun _ _=>rfl⟩
 | none::fs,o::os,j,E,A,h,ho=>by
  obtain ⟨E',h1,h2,h3,h4⟩:=acB h (ho.tail (fun _ _=>rfl) rfl fun _ _ _=>rfl);refine ⟨E',h1,h2,fun i f v e1 e2=>?_,fun b hb=>h4 b fun i=>by have:=hb (i+1); simpa using this⟩;cases i with
  | zero=>simp at e1
  | succ i=>
   rw [h3 i f v (by simpa using e1) (by simpa using e2)];congr 1;omega
 | some f0::fs,o::os,j,E,A,h,ho=>by
  have awQ:∀ i:Nat,fs[i]?≠some (some f0):=fun i e=>by have:=ho.nodup (i+1) 0 f0 (by simpa using e) (by simp); omega
  have step:∀ {E1:Env} {A1:aC},gU P E1 A1 B->Sw E A B E1 A1->asX A f0 j o=A1->(∀ b,b≠f0->E1.α b=E.α b)->(∀ v,o = .arr v->E1.α f0=E.α j)->ake E1 A1 fs (Nat.succ j) os->
    ∃ E',gU P E' (Ky A (some f0::fs) j (o::os)) B/\Sw E A B E' (Ky A (some f0::fs) j (o::os))/\(∀ (i:Nat) f v,(some f0::fs)[i]? = some (some f)->(o::os)[i]? = some (.arr v)->E'.α f=E.α (j+i))/\(∀ b,(∀ i:Nat,(some f0::fs)[i]?≠some (some b))->E'.α b=E.α b):=by
   intro E1 A1 k1 k2 k3 k4 k5 k6;obtain ⟨E',h1,h2,h3,h4⟩:=acB k1 k6;have e0:Ky A (some f0::fs) j (o::os)=Ky A1 fs (Nat.succ j) os:=by rw [<- k3]; rfl
   rw [e0];refine ⟨E',h1,k2.trans h2,fun i f v e1 e2=>?_,fun b hb=>?_⟩
   ·cases i with
    | zero=>
     simp at e1 e2;subst e1;rw [h4 f0 awQ];exact k5 v e2
    | succ i=>
     rw [h3 i f v (by simpa using e1) (by simpa using e2),k4 _ fun e=>by have:=ho.lt 0 f0 (by simp); omega];congr 1;omega
   ·rw [h4 b fun i=>by have:=hb (i+1); simpa using this]
    exact k4 b fun e=>hb 0 (by simp [e])
  cases o with
  | arr v=>
   obtain ⟨h1,h2,h3,h4⟩:=ho.one 0 f0 v (by simp) (by simp);obtain ⟨q1,q2,q3⟩:=h.swap (n:=j) h1 h3 h2 h4;have qu:∀ b,some f0≠some b->b≠j->((A.put f0 (.arr v)).put j .dead).get b=A.get b:=fun b e1 e2=>by
    rw [aC.cn,aB e2,aC.cn,aB fun e=>e1 (by rw [e])]
   exact step q1 ⟨Env.asW h4,rfl,rfl,rfl,by rw [aC.wC,aC.wC],q2,q3⟩ rfl (fun b hb=>Env.GV hb) (fun _ _=>Env.ao5) (ho.tail (fun b hb=>Env.GV fun e=>hb (by rw [e])) rfl qu)
  | _=>exact step h .refl rfl (fun _ _=>rfl) (fun v e=>by simp at e) (ho.tail (fun _ _=>rfl) rfl fun _ _ _=>rfl)
def rnB (fs:List (Option Nat)) (nx b:Nat):Nat:=cond (Nat.ble nx b) (match ajS (b - nx) fs with
 | some (some f)=>f
 | _=>b) b
def rn1 (fs:List (Option Nat)) (nx:Nat) (v:KV):KV:=
 match v with
 | .al t b o n=>.al t (rnB fs nx b) o n
 | v=>v
def asY (fs:List (Option Nat)) (nx:Nat):List KV->List KV
 | []=>[]
 | v::vs=>rn1 fs nx v::asY fs nx vs
def rnV (fs:List (Option Nat)) (nx:Nat) (v:KV):KV:=
 match v with
 | .agg cs=>.agg (asY fs nx cs)
 | v=>rn1 fs nx v
def asZ (fs:List (Option Nat)) (nx:Nat):List (Nat×KV)->List (Nat×KV)
 | []=>[]
 | q::qs=>(q.1,rnV fs nx q.2)::asZ fs nx qs
def anq (E1 E2:Env) (fs:List (Option Nat)) (nx:Nat):Prop:=E1.le E2/\∀ (i f:Nat),fs[i]? = some (some f)->∀ p,E1.α (nx+i)=some p->E2.α f=some p
theorem auy {E1 E2:Env} {fs:List (Option Nat)} {nx b:Nat} (h:anq E1 E2 fs nx) {p:Nat×Nat×Nat} (e:E1.α b=some p):E2.α (rnB fs nx b)=some p:=by
 unfold rnB;cases hb:Nat.ble nx b with
 | false=>exact h.1.α b p e
 | true=>
  simp only [ai];have hb:=gD hb;rw [agO];split
  ·rename_i f hf
   exact h.2 _ f hf p (by rw [show nx+(b - nx)=b by omega]; exact e)
  ·exact h.1.α b p e
theorem aqr {E1 E2:Env} {fs:List (Option Nat)} {nx:Nat} (h:anq E1 E2 fs nx) {v:KV} {u:Value} (hv:VK P E1 v u):VK P E2 (rn1 fs nx v) u:=by
 unfold rn1;split
 ·rename_i t b o n
  refine .XD ?_;rcases hv.Bj with q | ⟨x,L,N,c,q1,q2⟩
  ·exact .inl q
  ·exact .inr ⟨x,L,N,c,auy h q1,q2⟩
 ·exact hv.mono h.1
theorem anr {E1 E2:Env} {fs:List (Option Nat)} {nx:Nat} (h:anq E1 E2 fs nx):∀ {vs:List KV} {us:List Value},bp P E1 vs us->bp P E2 (asY fs nx vs) us
 | [],us,hv=>by rw [hv.cu]; exact .nil
 | v::vs,us,hv=>by
  obtain ⟨u,us',rfl,h1,h2⟩:=hv.cons_inv;exact .cons (aqr h h1) (anr h h2)
theorem auz {E1 E2:Env} {fs:List (Option Nat)} {nx:Nat} (h:anq E1 E2 fs nx) {v:KV} {u:Value} (hv:VK P E1 v u):VK P E2 (rnV fs nx v) u:=by
 unfold rnV;split
 ·obtain ⟨m,rfl,h1⟩:=hv.pC
  exact .tI (anr h h1)
 ·exact aqr h hv
theorem aep {E1 E2:Env} {fs:List (Option Nat)} {nx:Nat} (h:anq E1 E2 fs nx):∀ (l:List (Nat×KV)),zn P E1 E2 l (asZ fs nx l)
 | []=>trivial
 | _::qs=>⟨rfl,fun _ hv=>auz h hv,aep h qs⟩
end
end Go.K
end
section
namespace Go.K
open Go Go.aE
variable {P:Program} {E:Env}
noncomputable section
def aaA:List CD->Bool
 | []=>true
 | .bm _::_=>false
 | _::ds=>aaA ds
def afZ:List (Tmp×VD)->Bool
 | []=>true
 | p::ps=>aaA p.2.ks&&afZ ps
def af0:List (Tmp×List CD×Nat)->Bool
 | []=>true
 | p::ps=>aaA p.2.1&&af0 ps
def aU.stays (S:aU):Bool:=afZ S.eE&&af0 S.rows
theorem GW:∀ {ds:List CD} {vs:List KV},aaA ds=true->∀ q∈sN P ds vs,∃ v,q = .arr v
 | [],_,_,q,hq=>by simp [sN] at hq
 | d::ds,[],_,q,hq=>by cases d <;> simp [sN] at hq
 | d::ds,v::vs,h,q,hq=>by
  cases d <;> simp only [aaA,sN,ff] at h hq
  ·exact GW h q hq
  ·exact GW h q hq
  ·simp at h
  ·rcases hq with rfl | hq
   ·exact ⟨_,rfl⟩
   ·exact GW h q hq
  ·exact GW h q hq
theorem aht:∀ {ps:List (Tmp×VD)} {vs:List KV},afZ ps=true->∀ q∈Cg P ps vs,∃ v,q = .arr v
 | [],_,_,q,hq=>by simp [Cg] at hq
 | p::ps,[],_,q,hq=>by simp [Cg] at hq
 | p::ps,v::vs,h,q,hq=>by
  simp only [afZ,aD,Cg,mJ] at h hq;exact hq.elim (GW h.1 q) (aht h.2 q)
theorem ahu:∀ {ps:List (Tmp×List CD×Nat)} {rs:List (List KV)},af0 ps=true->∀ q∈DK P ps rs,∃ v,q = .arr v
 | [],_,_,q,hq=>by simp [DK] at hq
 | p::ps,[],_,q,hq=>by simp [DK] at hq
 | p::ps,r::rs,h,q,hq=>by
  simp only [af0,aD,DK,mJ] at h hq;exact hq.elim (GW h.1 q) (ahu h.2 q)
theorem akf {S:aU} (h:S.stays=true) {vs:List KV} {rs:List (List KV)} {i:Nat} {q:la} (hq:(S.lens P vs rs)[i]? = some q):∃ v,q = .arr v:=by
 simp only [aU.stays,aD] at h;have:=ji hq;simp only [aU.lens,mJ] at this;exact this.elim (aht h.1 q) (ahu h.2 q)
theorem WJ {S:aU} {vs:List KV} {rs:List (List KV)} (hv:jB S.eE vs=true) (hl:rs.length=S.rows.length) (hg:∀ (k:Nat) p r,S.rows[k]? = some p->rs[k]? = some r->eC p.2.1 r=true):(S.lens P vs rs).length=qG S.eE+(S.rows.map fun p=>vh p.2.1).sum:=by
 rw [aU.lens,nY,H0 hv,OA hl hg rfl]
def aU.j9 (S:aU) (nx:Nat) (bs:List Nat) (fs:List (Option Nat)) (vs:List KV):bN:=oD (asZ fs nx (aei nx bs S.eE vs++Ej bs S.aeg))
def aU.ahv (S:aU) (P:Program) (bs:List Nat) (fs:List (Option Nat)) (vs:List KV) (rs:List (List KV)) (A:aC):aC:=Ky (S.back P bs fs vs rs A) fs A.next (S.lens P vs rs)
def aqs (S:aU) (E E' : Env):Prop:=∀ (i:Nat) p,E.α (S.nr+i)=some p->E'.α (S.nr+i)=some p
theorem akg {S:aU} {t:bN} {A:aC} {B B1:St} {g:GR} {ρ qd:a9} {base N:Nat} {w w1:World} {a1:Act} {vs:List KV} {rs:List (List KV)} {E1:Env} (jL:S.stays=true) (hG:eD P S t A g) (hk:gU P E A B)
  (ht:nQ P E1 qd (S.tm S.nr S.ids vs) N a1) (hs:gU P E1 (S.mem P vs rs) B1) (Ch:Co base (E.sub A g.bs g.fs S.nr) (S.mem P g.vs g.rs) B ρ w E1 (S.mem P vs rs) B1 qd w1) (MW:∀ k,k < S.rows.length->E1.κ k=(E.sub A g.bs g.fs S.nr).κ k)
  (hpl:aqs S (E.sub A g.bs g.fs S.nr) E1)
  (hv:jB S.eE vs=true) (Iq:rs.length=S.rows.length) (hrg:∀ (k:Nat) p r,S.rows[k]? = some p->rs[k]? = some r->eC p.2.1 r=true) :
  ∃ E',nQ P E' qd (S.j9 A.next g.bs g.fs vs) N a1/\Ev P base E A B ρ w E' (S.ahv P g.bs g.fs vs rs A) B1 qd w1:=by
 obtain ⟨ht0,sM⟩:=akc hG hk ht hs Ch MW hv Iq hrg;have kr:(DL (rM A g.bs S.rows (S.LD A.next g.bs rs)) g.fs).next=A.next:=by rw [Nn,YY]
 have hlen:(S.lens P vs rs).length=g.fs.length:=by
  rw [WJ hv Iq hrg,hG.fs,vJ,<- hG.lens,WJ hG.eE hG.wS hG.B6]
 have hold:∀ (i:Nat) f,g.fs[i]? = some (some f)->∃ u,A.get f=some (.arr u):=by
  intro i f hi;have bu:i < (S.lens P g.vs g.rs).length:=by rw [hG.lens,<- vJ,<- hG.fs]; exact (dB.1 hi).1
  obtain ⟨fi,_,h2,h3⟩:=hG.fact (dD bu);rw [hi] at h2; simp at h2;obtain ⟨u0,hu0⟩:=akf jL (dD bu);rcases h3 with ⟨n,sz,e,_⟩ | ⟨T,v,_,⟨h3,_⟩ | ⟨f',m,N,es,acc,h3,h4,_⟩⟩
  ·rw [hu0] at e; simp at e
  ·rw [h3] at h2; simp at h2
  ·rw [h3] at h2; simp at h2; subst h2; exact ⟨_,h4⟩
 have qv:∀ (i f:Nat),g.fs[i]? = some (some f)->∀ p,(E.up E1 S.nr A.next).α f=some p->(E.up E1 S.nr A.next).α (A.next+i)=some p:=fun i f hi p e=>by
  obtain ⟨u,hu⟩:=hold i f hi;rw [Env.PZ (hk.live f _ hu)] at e;rw [Env.PY];exact hpl i p (by rw [Env.LG,hi]; exact e)
 have hsw:ake (E.up E1 S.nr A.next) (S.back P g.bs g.fs vs rs A) g.fs A.next (S.lens P vs rs):=by
  refine ⟨fun i f v hi hv=>?_,fun i f hi=>?_,fun i k f h1 h2=>Bn hG.afY i k f h1 h2⟩
  ·obtain ⟨u,hu⟩:=hold i f hi
   refine ⟨?_,(hk.ar.nk f u hu).2,?_,qv i f hi⟩
   ·rw [aU.back,Kv (by rw [kr]; exact hk.live f _ hu),LF,aW (Ac.2 (ji hi))]
   ·have:=UY (A:=DL (rM A g.bs S.rows (S.LD A.next g.bs rs)) g.fs) hv
    rw [kr] at this;exact this
  ·obtain ⟨u,hu⟩:=hold i f hi
   exact hk.live f _ hu
 obtain ⟨E',q1,q2,q3,_⟩:=acB sM.kW hsw;refine ⟨E',?_,sM.sw q1 q2⟩;refine nQ.asO ht0 (aep ⟨q2.le,fun i f hi p e=>?_⟩ _);have bu:i < (S.lens P vs rs).length:=by rw [hlen]; exact (dB.1 hi).1
 obtain ⟨v,ZY⟩:=akf jL (dD bu);rw [q3 i f v hi (by rw [dD bu,ZY])];exact e
def aU.akh (S:aU) (P:Program) (t:bN) (A:aC):Bool:=cond (Ab (S.gV P t A).bs S.ids) (cond (Kx (S.gV P t A).fs S.nr) (S.gV P t A).ok false) false
theorem ans {S:aU} {t:bN} {A:aC} (h:S.akh P t A=true):Ab (S.gV P t A).bs S.ids=true/\Kx (S.gV P t A).fs S.nr=true/\(S.gV P t A).ok=true:=by
 unfold aU.akh at h;cases h1:Ab (S.gV P t A).bs S.ids with
 | false=>rw [h1] at h; simp at h
 | true=>
  cases h2:Kx (S.gV P t A).fs S.nr with
  | false=>rw [h1,h2] at h; simp at h
  | true=>rw [h1,h2] at h; exact ⟨rfl,rfl,h⟩
def ur (P:Program) (cfg:fW) (L n:Nat) (f:FuncId) (p:Nat) (body:Code) (S:aU) (vs:List KV) (rs:List (List KV)):Option (aq×List KV×List (List KV)):=
 uG P cfg (Nd P cfg L n) L f body (2 * p) (fun e t A=>
  Bool.rec (motive:=fun _=>Option (aq×List KV×List (List KV))) none (some (e,(S.gV P t A).vs,(S.gV P t A).rs)) (S.akh P t A)) (S.tm S.nr S.ids vs) (S.mem P vs rs)
theorem ant {S:aU} {t:bN} {A:aC} {B0:St} {E1:Env} {g:GR} {vs:List KV} {rs:List (List KV)} (hG:eD P S t A g) (hf:Kx g.fs S.nr=true) (cm:Gs P S vs rs) (hs:gU P E (S.mem P vs rs) B0) (hle:E.le E1):aqs S E (E1.sub A g.bs g.fs S.nr):=fun i p e=>by
 have hd:=hs.ar.ow _ p e;rw [aU.mem,iz,r8 cm.wS,WJ cm.v cm.wS cm.B6] at hd;have bu:i < g.fs.length:=by
  rw [hG.fs,vJ,<- hG.lens,WJ hG.eE hG.wS hG.B6];omega
 have h1:=dD bu;rw [Env.LG,h1,aeo hf h1];exact hle.α _ p e
section
variable {cfg:fW} {L n:Nat} {f:FuncId} {S:aU} {root body:Code} {p N:Nat}
theorem aki {t' : bN} {A1:aC} {B B1:St} {ρ qd:a9} {base:Nat} {w w1:World} {E1:Env} {vs:List KV} {rs:List (List KV)} (cm:Gs P S vs rs) (hj:KJ P E (S.mem P vs rs) B ρ base w) (h4:Ev P base E (S.mem P vs rs) B ρ w E1 A1 B1 qd w1) (_:eD P S t' A1 (S.gV P t' A1)) (hi:Ab (S.gV P t' A1).bs S.ids=true) :
  ∀ k,k < S.rows.length->(E1.sub A1 (S.gV P t' A1).bs (S.gV P t' A1).fs S.nr).κ k=E.κ k:=fun k hk=>by
 have asV:=U0 hi;have hp:=dD hk;have hr':=dD (show k < rs.length by rw [cm.wS]; exact hk);obtain ⟨x,_,hx,_⟩:=hj.k.row k _ _ (mem_row cm.wS hp hr');have e1:(E1.sub A1 (S.gV P t' A1).bs (S.gV P t' A1).fs S.nr).κ k=E1.κ k:=by
  simp only [Env.sub];rw [asV,PV S k hk,gE]
 rw [e1,hx];exact h4.le.κ k x hx
theorem anu (hP:P.funcs.toList.all qq=true) (hm:P.follows .mixedOrders=true) (je:vZ P cfg.pc) (n7:z9 P cfg) {fn:Func} (hf:P.funcs[f]? = some fn) (hb:fn.body=some root) (hs:Sub root p (.loop body)) (hc:codeOk N body=true)
  {vs cP:List KV} {rs oI:List (List KV)} {e:aq} (hr:ur P cfg L n f p body S vs rs=some (e,cP,oI)) {B:St} {ρ:a9} {base:Nat} {a:Act} {w:World} {Q:Exit->Act->World->Prop} (cm:Gs P S vs rs)
  (ht:nQ P E ρ (S.tm S.nr S.ids vs) N a) (hj:KJ P E (S.mem P vs rs) B ρ base w)
  (hq:∀ E' B' ba a' w',nQ P E' ba (S.tm S.nr S.ids cP) N a'->a'.defers=a.defers->KJ P E' (S.mem P cP oI) B' ba base w'->Co base E (S.mem P vs rs) B ρ w E' (S.mem P cP oI) B' ba w'->(∀ k,k < S.rows.length->E'.κ k=E.κ k)->Gs P S cP oI->aqs S E E'->Q e.out a' w'):body.wp P Q a w:=by
 have zH:=yR (R:=aq×List KV×List (List KV)) hP hm je n7 L n;refine pI je zH hm (n7.2 f fn root hf hb) body (2 * p) hs.loop hc _ _ _ _ E B ρ base a w Q hr ht hj fun e' t' E1 A1 B1 qd a1 w1 h1 h2 h3 h4=>?_;cases hi:S.akh P t' A1 with
 | false=>simp only [hi] at h1; exact absurd h1 (by simp)
 | true=>
  simp only [hi,dE,gF] at h1;obtain ⟨rfl,rfl,rfl⟩:=h1;obtain ⟨i1,i2,i3⟩:=ans hi;have hG:=PW i3;exact hq _ B1 qd a1 w1 (hG.tkr h2) h3 ⟨hG.kW h4.kW,h4.gX.kW⟩ (h4.co hG) (aki cm hj h4 hG i1) hG.S4 (ant hG i2 cm hj.k h4.le)
theorem ahw (hP:P.funcs.toList.all qq=true) (hm:P.follows .mixedOrders=true) (je:vZ P cfg.pc) (n7:z9 P cfg) {fn:Func} (hf:P.funcs[f]? = some fn) (hb:fn.body=some root) (hs:Sub root p (.loop body)) (hc:codeOk N body=true)
  {e:aq} {cP:List KV} {oI:List (List KV)} : ∀ (m:Nat) {vs:List KV} {rs:List (List KV)},zd (ur P cfg L n f p body S) m vs rs=some (e,cP,oI)->∀ {E:Env} {B:St} {ρ:a9} {base:Nat} {a:Act} {w:World} {Q:Exit->Act->World->Prop},Gs P S vs rs->
  nQ P E ρ (S.tm S.nr S.ids vs) N a->KJ P E (S.mem P vs rs) B ρ base w->
  (∀ E' B' ba a' w',nQ P E' ba (S.tm S.nr S.ids cP) N a'->a'.defers=a.defers->KJ P E' (S.mem P cP oI) B' ba base w'->Co base E (S.mem P vs rs) B ρ w E' (S.mem P cP oI) B' ba w'->(∀ k,k < S.rows.length->E'.κ k=E.κ k)->Gs P S cP oI->aqs S E E'->Q e.out a' w')->Code.rounds P body Q m a w
 | 0,vs,rs,h,E,B,ρ,base,a,w,Q,cm,ht,hj,hq=>by simp [zd] at h
 | m+1,vs,rs,h,E,B,ρ,base,a,w,Q,cm,ht,hj,hq=>by
  unfold zd at h;split at h
  ·rename_i e1 vs1 rs1 hr
   rw [rounds_succ];refine anu hP hm je n7 hf hb hs hc hr cm ht hj fun E' B' ba a' w' h1 h2 h3 h4 h5 h6 h7=>?_;have fin:yS e1=false->some (e1,vs1,rs1)=some (e,cP,oI)->Q e1.out a' w':=by
    intro _ h;simp only [dE,gF] at h;obtain ⟨rfl,rfl,rfl⟩:=h;exact hq E' B' ba a' w' h1 h2 h3 h4 h5 h6 h7
   cases e1 with
   | normal=>
    have h:zd (ur P cfg L n f p body S) m vs1 rs1=some (e,cP,oI):=h;exact ahw hP hm je n7 hf hb hs hc m h h6 h1 h3 fun PS RK zS a'' Po q1 q2 q3 q4 q5 q6 q7=>hq PS RK zS a'' Po q1 (q2.trans h2) q3 (h4.trans q4) (fun k hk=>(q5 k hk).trans (h5 k hk)) q6 fun i p e=>q7 i p (h7 i p e)
   | exit id=>exact fin rfl h
   | goto l=>exact fin rfl h
   | ret=>exact fin rfl h
  ·simp at h
def wR.U5 (P:Program) (S:aU) (bs:List Nat) (fs:List (Option Nat)) (A:aC):wR->Nc
 | .no=>.no
 | .out e vs rs=>.out e (S.j9 A.next bs fs vs) (S.ahv P bs fs vs rs A)
 | .br c x y=>.br c (x.U5 P S bs fs A) (y.U5 P S bs fs A)
def as0 (P:Program) (S:aU) (F:LFn):bN->aC->Nc:=fun t A=>
 .br (cond S.stays (S.gV P t A).ok false) ((F (S.gV P t A).vs (S.gV P t A).rs).U5 P S (S.gV P t A).bs (S.gV P t A).fs A) .no
theorem Y2 {R:Type} {bs:List Nat} {fs:List (Option Nat)} {A:aC} {k:KE R} {r:R} : ∀ (x:wR),(x.U5 P S bs fs A).run k=some r->∃ e cP oI,x.ev=some (e,cP,oI)/\k e (S.j9 A.next bs fs cP) (S.ahv P bs fs cP oI A)=some r
 | .no,h=>absurd h (by simp [wR.U5,Nc.run])
 | .out e vs rs,h=>⟨e,vs,rs,rfl,h⟩
 | .br c x y,h=>by
  have h:Bool.rec (motive:=fun _=>Option R) ((y.U5 P S bs fs A).run k) ((x.U5 P S bs fs A).run k) c=some r:=h;cases c with
  | true=>exact Y2 x h
  | false=>exact Y2 y h
theorem anv (hP:P.funcs.toList.all qq=true) (hm:P.follows .mixedOrders=true) (je:vZ P cfg.pc) (n7:z9 P cfg) {fn:Func} (hf:P.funcs[f]? = some fn) (hb:fn.body=some root) (hs:Sub root p (.loop body)) (hc:codeOk N body=true) {F:LFn}
  (hF:∀ vs rs e cP oI,Gs P S vs rs->(F vs rs).ev=some (e,cP,oI)->∃ m,zd (ur P cfg L n f p body S) m vs rs=some (e,cP,oI)):acv P N body (as0 P S F):=by
 intro R k r t A E B ρ base a w Q h ht hj hq;have h:Bool.rec (motive:=fun _=>Option R) none (((F (S.gV P t A).vs (S.gV P t A).rs).U5 P S (S.gV P t A).bs (S.gV P t A).fs A).run k) (cond S.stays (S.gV P t A).ok false)=some r:=h;cases jL:S.stays with
 | false=>rw [jL] at h; exact absurd h (by simp)
 | true=>
  rw [jL,ai] at h;cases ho:(S.gV P t A).ok with
  | false=>rw [ho] at h; exact absurd h (by simp)
  | true=>
   rw [ho] at h;have hG:=PW ho;obtain ⟨e,cP,oI,h9,xY⟩:=Y2 _ h;obtain ⟨m,hm'⟩:=hF _ _ e cP oI hG.S4 h9;refine wp_loop_rounds m (ahw hP hm je n7 hf hb hs hc m hm' hG.S4 (hG.tkr ht) ⟨hG.kW hj.k,hj.s⟩ fun E' B' ba a' w' q1 q2 q3 q4 q5 q6 q7=>?_);obtain ⟨E2,r1,r2⟩:=akg jL hG hj.k q1 q3.k q4 q5 q7 q6.v q6.wS q6.B6;exact hq e _ E2 _ B' ba a' w' xY r1 q2 r2
end
def alr:aq->Bool
 | .normal=>true
 | .ret=>true
 | _=>false
def OB (P:Program) (cfg:fW) (L n:Nat) (g:FuncId) (S:aU) (vs:List KV) (rs:List (List KV)):Option (aq×List KV×List (List KV)):=
 match P.funcs.toList[g]? with
 | some fn=>match fn.body with
  | some c=>cond fn.results.toList.isEmpty (uG P cfg (Nd P cfg L n) L g c 1 (fun e t A=>
    Bool.rec (motive:=fun _=>Option (aq×List KV×List (List KV))) none (some (.ret,(S.gV P t A).vs,(S.gV P t A).rs)) (cond (alr e) (S.akh P t A) false)) (S.tm S.nr S.ids vs) (S.mem P vs rs)) none
  | none=>none
 | none=>none
def wR.U6 (P:Program) (S:aU) (bs:List Nat) (fs:List (Option Nat)) (A:aC):wR->y9
 | .no=>.no
 | .out _ vs rs=>.out (.jd []) (S.ahv P bs fs vs rs A)
 | .br c x y=>.br c (x.U6 P S bs fs A) (y.U6 P S bs fs A)
def avj (P:Program) (S:aU) (F:LFn):List KV->aC->y9:=fun args A=>
 .br (cond S.stays (S.gV P (rA args 0 .leaf) A).ok false) ((F (S.gV P (rA args 0 .leaf) A).vs (S.gV P (rA args 0 .leaf) A).rs).U6 P S (S.gV P (rA args 0 .leaf) A).bs (S.gV P (rA args 0 .leaf) A).fs A) .no
theorem Y3 {R:Type} {S:aU} {bs:List Nat} {fs:List (Option Nat)} {A:aC} {k:KV->aC->Option R} {r:R} : ∀ (x:wR),y9.run k (x.U6 P S bs fs A)=some r->∃ e cP oI,x.ev=some (e,cP,oI)/\k (.jd []) (S.ahv P bs fs cP oI A)=some r
 | .no,h=>absurd h (by simp [wR.U6,y9.run])
 | .out e vs rs,h=>⟨e,vs,rs,rfl,h⟩
 | .br c x y,h=>by
  have h:Bool.rec (motive:=fun _=>Option R) (y9.run k (y.U6 P S bs fs A)) (y9.run k (x.U6 P S bs fs A)) c=some r:=h;cases c with
  | true=>exact Y3 x h
  | false=>exact Y3 y h
theorem ara {ρ:a9} {args:List KV} {mN:List Value} (hv:Je P E ρ args mN) (m:Nat):nQ P E ρ (rA args 0 .leaf) (max m args.length) { tmps:=mN.toArray++Array.replicate (m - mN.toArray.size) undef,defers:=[] }:=by
 obtain ⟨aoY,ZV,Oh⟩:=hv;have hlen:mN.length=args.length:=by rw [Oh.length,ZV.length]
 have gI:(mN.toArray++Array.replicate (m - mN.toArray.size) undef).size=max m args.length:=by
  simp [hlen];omega
 refine ⟨gI,fun i=>?_,fun i hi=>?_⟩
 ·rw [LA]
  simp only [dq,true_and,bk,Nat.sub_zero,Trie.Wn];by_cases hi:i < args.length
  ·rw [aW hi]
   obtain ⟨u,hu⟩:∃ u,args[i]? = some u:=⟨_,dD hi⟩
   obtain ⟨m',h1,h2⟩:=ZV.get hu;obtain ⟨u',h3,h4⟩:=Oh.get h1;rw [hu];have:(mN.toArray++Array.replicate (m - mN.toArray.size) undef).getD i undef=u':=by
    rw [jh,Array.getElem?_append_left (by simpa [hlen] using hi)];simp [h3]
   rw [this];exact ⟨m',h2,h4⟩
  ·rw [aB hi]
   exact VC.bJ
 ·rw [LA,aB,Trie.Wn]
  simp only [dq,true_and,bk];have:=Nat.le_max_right m args.length;omega
theorem ao6 {cfg:fW} {L n:Nat} {g:FuncId} {S:aU} {F:LFn} (hP:P.funcs.toList.all qq=true) (hm:P.follows .mixedOrders=true) (je:vZ P cfg.pc) (n7:z9 P cfg) (hy:Nat.blt g yB=true)
  (hF:∀ vs rs e cP oI,Gs P S vs rs->(F vs rs).ev=some (e,cP,oI)->OB P cfg L n g S vs rs=some (e,cP,oI)) {R:Type} {args:List KV} {A:aC} {k:KV->aC->Option R} {r:R} (h:y9.run k (avj P S F args A)=some r):PQ P g/\
  ∀ (E:Env) (B:St) (ρ:a9) (base:Nat) (w:World) (mN:List Value),Je P E ρ args mN->KJ P E A B ρ base w->
   Calls P g mN.toArray w fun e w'=>∃ v v' E' A' B' ba,e = .returned v'/\VC P E' ba v v'/\Ev P base E A B ρ w E' A' B' ba w'/\k v A' = some r:=by
 have h:Bool.rec (motive:=fun _=>Option R) none (y9.run k ((F (S.gV P (rA args 0 .leaf) A).vs (S.gV P (rA args 0 .leaf) A).rs).U6 P S (S.gV P (rA args 0 .leaf) A).bs (S.gV P (rA args 0 .leaf) A).fs A)) (cond S.stays (S.gV P (rA args 0 .leaf) A).ok false)=some r:=h;cases jL:S.stays with
 | false=>rw [jL] at h; exact absurd h (by simp)
 | true=>
 rw [jL,ai] at h;cases ho:(S.gV P (rA args 0 .leaf) A).ok with
 | false=>rw [ho] at h; exact absurd h (by simp)
 | true=>
 rw [ho] at h;have hG:=PW ho;obtain ⟨e0,cP,oI,h9,xY⟩:=Y3 _ h;have qe:=hF _ _ e0 cP oI hG.S4 h9;unfold OB at qe;split at qe
 ·rename_i fn hf
  split at qe
  ·rename_i c hc
   cases hre:fn.results.toList.isEmpty with
   | false=>rw [hre] at qe; exact absurd qe (by simp)
   | true=>
   rw [hre,ai] at qe;have hf' : P.funcs[g]? = some fn:=by simpa using hf
   have cm:=im.1 hP fn (ji hf);unfold qq at cm;rw [hc] at cm;simp only [aD,nz] at cm;refine ⟨⟨hy,fn,hf',by simp [hc],cm.2⟩,fun E B ρ base w mN hv hj=>?_⟩;refine calls_of_wp hf' hc ?_;have ht:=ara hv fn.ntmps;have ad7:codeOk (max fn.ntmps args.length) c=true:=pD (Nat.le_max_left _ _) c cm.1;have zH:=yR (R:=aq×List KV×List (List KV)) hP hm je n7 L n;refine pI (L:=L) (f:=g) (N:=max fn.ntmps args.length) je zH hm (n7.2 g fn c hf' hc) c 1 .root ad7 _ _ _ _ (E.sub A (S.gV P (rA args 0 .leaf) A).bs (S.gV P (rA args 0 .leaf) A).fs S.nr) B ρ base _ w _ qe (hG.tkr ht) ⟨hG.kW hj.k,hj.s⟩ fun e t' E1 A1 B1 qd a1 w1 h1 h2 h3 h4=>?_;cases he:alr e with
   | false=>simp only [he,aw] at h1; exact absurd h1 (by simp)
   | true=>
   simp only [he,ai] at h1;cases hi:S.akh P t' A1 with
   | false=>simp only [hi] at h1; exact absurd h1 (by simp)
   | true=>
   simp only [hi,dE,gF] at h1;obtain ⟨_,rfl,rfl⟩:=h1;obtain ⟨i1,i2,i3⟩:=ans hi;have hG1:=PW i3;have hj0:KJ P (E.sub A (S.gV P (rA args 0 .leaf) A).bs (S.gV P (rA args 0 .leaf) A).fs S.nr) (S.mem P (S.gV P (rA args 0 .leaf) A).vs (S.gV P (rA args 0 .leaf) A).rs) B ρ base w:=⟨hG.kW hj.k,hj.s⟩
   obtain ⟨E2,_,r2⟩:=akg jL hG hj.k (hG1.tkr h2) (hG1.kW h4.kW) (h4.co hG1) (aki hG.S4 hj0 h4 hG1 i1) (ant hG1 i2 hG.S4 hj0.k h4.le) hG1.S4.v hG1.S4.wS hG1.S4.B6;have ar9:fn.results.toList = []:=List.isEmpty_iff.1 hre;have anf:(results fn a1.tmps).run P w1 = .ok (.tuple #[]) w1:=by
    rw [adU,Sem.run_bind,Array.mapM_eq_mapM_toList,Sem.run_map,ar9];rfl
   have ahj:bodyPost P fn (fun e w'=>∃ v v' E' A' B' ba,e = .returned v'/\VC P E' ba v v'/\Ev P base E A B ρ w E' A' B' ba w'/\k v A' = some r) .ret a1 w1:=
    ⟨h3,_,anf,_,_,E2,_,B1,qd,rfl,⟨_,.agI .nil,VR.mkTuple .nil⟩,r2,xY⟩
   cases e with
   | normal=>exact ahj
   | ret=>exact ahj
   | exit id=>simp [alr] at he
   | goto l=>simp [alr] at he
  ·simp at qe
 ·simp at qe
end
end Go.K
end
section
namespace Go.K
open Go Go.aE
variable {P:Program} {E:Env}
def als:Code->Bool->Option Code
 | .seq a _,false=>some a
 | .seq _ b,true=>some b
 | .cond _ a _,false=>some a
 | .cond _ _ b,true=>some b
 | .block _ a,false=>some a
 | .loop a,false=>some a
 | .scope a,false=>some a
 | _,_=>none
def vj:Nat->Code->Nat->Option Code
 | 0,_,_=>none
 | n+1,root,p=>cond (Nat.ble p 1) (cond (Nat.beq p 1) (some root) none) ((vj n root (p / 2)).bind fun c=>als c (Nat.beq (p % 2) 1))
theorem aaB:∀ {n:Nat} {root c:Code} {p:Nat},vj n root p=some c->vj (n+1) root p=some c
 | 0,_,_,_,h=>by simp [vj] at h
 | n+1,root,c,p,h=>by
  unfold vj at h ⊢;cases hp:Nat.ble p 1 with
  | true=>rw [hp] at h; exact h
  | false=>
   rw [hp] at h;simp only [aw] at h ⊢;obtain ⟨d,h1,h2⟩:=dm.1 h;exact dm.2 ⟨d,aaB h1,h2⟩
theorem Y4 {root c:Code} {p n:Nat} (h:vj n root p=some c):∀ k,vj (n+k) root p=some c
 | 0=>h
 | k+1=>aaB (Y4 h k)
theorem Sub.pos {root c:Code} {p:Nat} (h:Sub root p c):1<=p:=by induction h <;> omega
theorem Sub.at {root c:Code} {p:Nat} (h:Sub root p c):∃ n,vj n root p=some c:=by
 have left:∀ {q n:Nat} {d:Code},1<=q->vj n root q=some d->vj (n+1) root (2 * q)=als d false:=by
  intro q n d hq hd;unfold vj;have:Nat.ble (2 * q) 1=false:=by
   cases hb:Nat.ble (2 * q) 1 with
   | false=>rfl
   | true=>have:=gD hb; omega
  rw [this,aw,show 2 * q / 2=q by omega,hd,show 2 * q % 2=0 by omega];rfl
 have right:∀ {q n:Nat} {d:Code},1<=q->vj n root q=some d->vj (n+1) root (2 * q+1)=als d true:=by
  intro q n d hq hd;unfold vj;have:Nat.ble (2 * q+1) 1=false:=by
   cases hb:Nat.ble (2 * q+1) 1 with
   | false=>rfl
   | true=>have:=gD hb; omega
  rw [this,aw,show (2 * q+1) / 2=q by omega,hd,show (2 * q+1) % 2=1 by omega];rfl
 induction h with
 | root=>exact ⟨1,rfl⟩
 | ava hs ih=>obtain ⟨n,hn⟩:=ih; exact ⟨n+1,left hs.pos hn⟩
 | avb hs ih=>obtain ⟨n,hn⟩:=ih; exact ⟨n+1,right hs.pos hn⟩
 | asE hs ih=>obtain ⟨n,hn⟩:=ih; exact ⟨n+1,left hs.pos hn⟩
 | asF hs ih=>obtain ⟨n,hn⟩:=ih; exact ⟨n+1,right hs.pos hn⟩
 | block hs ih=>obtain ⟨n,hn⟩:=ih; exact ⟨n+1,left hs.pos hn⟩
 | loop hs ih=>obtain ⟨n,hn⟩:=ih; exact ⟨n+1,left hs.pos hn⟩
 | scope hs ih=>obtain ⟨n,hn⟩:=ih; exact ⟨n+1,left hs.pos hn⟩
theorem Sub.uniq {root c d:Code} {p n:Nat} (h:Sub root p c) (k:vj n root p=some d):c=d:=by
 obtain ⟨m,hm⟩:=h.at;have h1:=Y4 hm n;have h2:=Y4 k m;rw [Nat.add_comm] at h1;rw [h1] at h2;simpa using h2
def pd (P:Program) (f p:Nat):Code:=
 match P.funcs.toList[f]? with
 | some fn=>match fn.body with
  | some c=>match vj 200 c p with
   | some (.loop b)=>b
   | _=>.skip
  | none=>.skip
 | none=>.skip
structure Lp where
 f:Nat
 p:Nat
 S:aU
 F:LFn
 st:Bool
noncomputable def aqt (st:Bool) (P:Program) (cfg:fW) (L n:Nat) (f:FuncId) (p:Nat) (body:Code) (S:aU) (vs:List KV) (rs:List (List KV)):Option (aq×List KV×List (List KV)):=
 cond st (ur P cfg L n f p body S vs rs) (Dj P cfg L n f p body S vs rs)
noncomputable def ahx (P:Program):List Lp->FuncId->Nat->Option (bN->aC->Nc)
 | [],_,_=>none
 | l::ls,f,p=>cond (Nat.beq l.f f&&Nat.beq l.p p) (some (cond l.st (as0 P l.S l.F) (ave P l.S l.F))) (ahx P ls f p)
def Lp.Ok (P:Program) (l:Lp):Prop:=∃ cfg L n,vZ P cfg.pc/\z9 P cfg/\
 ∀ vs rs e cP oI,Gs P l.S vs rs->(l.F vs rs).ev=some (e,cP,oI)->∃ m,zd (aqt l.st P cfg L n l.f l.p (pd P l.f l.p) l.S) m vs rs=some (e,cP,oI)
def GX (P:Program) (f p:Nat):Bool:=
 match P.funcs.toList[f]? with
 | some fn=>match fn.body with
  | some c=>match vj 200 c p with
   | some (.loop _)=>true
   | _=>false
  | none=>false
 | none=>false
theorem aqu (hP:P.funcs.toList.all qq=true) (hm:P.follows .mixedOrders=true) {pc:FuncId->Option (List KV->KR KV)} {x:amx} : ∀ {ls:List Lp},(∀ l∈ls,Lp.Ok P l/\GX P l.f l.p=true)->∀ f fn c,P.funcs[f]? = some fn->fn.body=some c->aqj P ⟨pc,ahx P ls,x⟩ f c
 | [],_=>fun f fn c hf hb p F body h=>by simp [ahx] at h
 | l::ls,hl=>fun f fn c hf hb p F body h hs N hc=>by
  have h:ahx P (l::ls) f p=some F:=h;unfold ahx at h;cases hk:(Nat.beq l.f f&&Nat.beq l.p p) with
  | false=>
   rw [hk] at h;exact aqu hP hm (pc:=pc) (x:=x) (fun l' tL=>hl l' (wh _ tL)) f fn c hf hb p F body h hs N hc
  | true=>
   rw [hk] at h;simp only [ai,dE] at h;subst h;simp only [aD] at hk;have e1:=bo hk.1;have e2:=bo hk.2;obtain ⟨⟨cfg,L,n,je,n7,hF⟩,hth⟩:=hl l (by simp);rw [e1,e2] at hF hth;have hf' : P.funcs.toList[f]? = some fn:=by simpa using hf
   have avQ:pd P f p=body:=by
    unfold GX at hth;unfold pd;simp only [hf',hb] at hth ⊢;split at hth
    ·rename_i b EV
     have:=hs.uniq EV;simp at this;exact this.symm
    ·simp at hth
   rw [avQ] at hF;cases jL:l.st with
   | true=>
    rw [jL] at hF;exact anv hP hm je n7 hf hb hs hc hF
   | false=>
    rw [jL] at hF;exact ao4 hP hm je n7 hf hb hs hc hF
theorem WK (hP:P.funcs.toList.all qq=true) (hm:P.follows .mixedOrders=true) {pc:FuncId->Option (List KV->KR KV)} {x:amx} (hx:aj5 P x.ac) {ls:List Lp} (hl:∀ l∈ls,Lp.Ok P l/\GX P l.f l.p=true):z9 P ⟨pc,ahx P ls,x⟩:=
 ⟨hx,aqu hP hm hl⟩
structure Fc where
 g:Nat
 S:aU
 F:LFn
noncomputable def akj (P:Program):List Fc->FuncId->Option (List KV->aC->y9)
 | [],_=>none
 | c::cs,g=>cond (Nat.beq c.g g) (some (avj P c.S c.F)) (akj P cs g)
def Fc.Ok (P:Program) (c:Fc):Prop:=Nat.blt c.g yB=true/\∃ cfg L n,vZ P cfg.pc/\z9 P cfg/\
 ∀ vs rs e cP oI,Gs P c.S vs rs->(c.F vs rs).ev=some (e,cP,oI)->OB P cfg L n c.g c.S vs rs=some (e,cP,oI)
theorem WL (hP:P.funcs.toList.all qq=true) (hm:P.follows .mixedOrders=true):∀ {cs:List Fc},(∀ c∈cs,Fc.Ok P c)->aj5 P (akj P cs)
 | [],_=>fun g F h=>by simp [akj] at h
 | c::cs,hc=>fun g F h=>by
  have h:akj P (c::cs) g=some F:=h;unfold akj at h;cases hk:Nat.beq c.g g with
  | false=>
   rw [hk] at h;intro R args A k r hr;exact WL hP hm (fun c' hc'=>hc c' (wh _ hc')) g F h args A k r hr
  | true=>
   rw [hk] at h;simp only [ai,dE] at h;subst h;have e1:=bo hk;subst e1;obtain ⟨hy,cfg,L,n,je,n7,hF⟩:=hc c (by simp);intro R args A k r hr;exact ao6 hP hm je n7 hy hF hr
end Go.K
end
