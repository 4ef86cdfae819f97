/- Part of the proof of PathsWhole: the machine, shown to be the model's, and plain models. No conditions. -/
import Derived.Test.YtckbdndhmcoihaaGreatCq
import Derived.LoopNIn
import Derived.RangeFuncRecord
import Derived.Scope
set_option linter.unusedSimpArgs false
set_option linter.unusedVariables false
section
namespace Go.aA
noncomputable section
open Go
def EvR (ρ:Ren) (ev ck:Operand->Value):Prop:=∀ x,VR ρ (ev x) (ck x)
theorem EvR.on {ρ:Ren} {ev ck:Operand->Value} (h:EvR ρ ev ck) (xs:List Operand):qK ρ ev ck xs:=fun x _=>h x
theorem TR.ev {ρ:Ren} {t:Tm} {N:Nat} {a:Act} (h:TR ρ t N a):EvR ρ (lJ t) a.eval:=by
 intro x;cases x with
 | tmp i=>exact h.val i
 | const v=>
  simp only [lJ,Act.eval];cases hf:flat v with
  | true=>exact VR.of_flat hf
  | false=>simp [VR]
 | global g=>exact h.lK.ev g
 | func f=>exact VR.JW (l:=[]) (m:=[]) (.func f) rfl .nil .nil
theorem TR.mono {ρ ak:Ren} {t:Tm} {N:Nat} {a:Act} (h:TR ρ t N a) (hle:ρ.le ak):TR ak t N a:=⟨h.size,fun i=>(h.val i).mono hle,h.none,h.lK.mono hle⟩
theorem TR.put {ρ:Ren} {t:Tm} {N:Nat} {a:Act} {dst:Option Tmp} {v v' : Value} (h:TR ρ t N a) (hd:∀ d,dst=some d->d < N) (hv:VR ρ v v'):TR ρ (wj t dst v) N (a.put dst v'):=by
 cases dst with
 | none=>exact h
 | some d=>
  have hd:=hd d rfl;refine ⟨by simp [Act.put,h.size],fun i=>?_,fun i hi=>?_,h.lK⟩
  ·simp only [wj,Trie.iY,Act.put]
   by_cases e:i=d
   ·subst e
    have:i < a.tmps.size:=by rw [h.size]; exact hd
    simp [dF,this,hv]
   ·have:=h.val i
    simp only [ae e];simpa [dF,Array.getElem?_setIfInBounds_ne (Ne.symm e)] using this
  ·simp only [wj,Trie.iY]
   have bA:i≠d:=fun e=>absurd hi (by rw [e]; exact Nat.not_le_of_lt hd);rw [ae bA];exact h.none i hi
theorem put_defers (a:Act) (dst:Option Tmp) (v:Value):(a.put dst v).defers=a.defers:=by cases dst <;> rfl
theorem WO {ρ:Ren} {t:Tm} {N:Nat} {a:Act} {all:List Oper} {o:Oper} {wd:Bool} (h:TR ρ t N a) (hw:wk all t o.guard=some wd) :
  Region.wanted o (yielded ⟨all⟩ a.tmps)=wd:=by
 unfold wk at hw;unfold Region.wanted;split at hw
 ·rename_i hg; simp at hw; rw [hg]; exact hw.symm
 ·rename_i j want hg
  rw [hg];simp only;unfold yielded;have e:(⟨all⟩:Array Oper)[j]? = all[j]?:=by simp
  rw [e];cases hd:(all[j]?).bind (·.dst) with
  | none=>rw [hd] at hw; simp [jo] at hw; subst hw; simp
  | some d=>
   rw [hd] at hw;simp only [cA] at hw ⊢;have hv:=h.val d;cases ht:t.get d with
   | none=>
    rw [ht] at hw hv;simp [jo] at hw; subst hw;simp only [Option.getD_none] at hv;have hu:a.tmps.getD d undef=undef:=hv.jZ (by simp [undef,flat,wh,nL]);cases hc:a.tmps[d]? with
    | none=>simp
    | some u=>
     have:a.tmps.getD d undef=u:=by simp [dF,hc]
     rw [hu] at this;subst this;simp [undef]
   | some v=>
    rw [ht] at hw hv;simp only [iD] at hv;have aI:d < N:=by
     rcases Nat.lt_or_ge d N with h1 | h1
     ·exact h1
     ·have:=h.none d h1; rw [ht] at this; simp at this
    have hc:a.tmps[d]? = some (a.tmps.getD d undef):=by
     have:d < a.tmps.size:=by rw [h.size]; exact aI
     simp [dF,this]
    rw [hc];generalize a.tmps.getD d undef=u at hv;cases v with
    | bool b=>
     simp [jo] at hw;have:=hv.dq;subst this;subst hw;cases b <;> cases want <;> rfl
    | tuple cs=>
     simp [jo] at hw;obtain ⟨b5,rfl,_⟩:=hv.BD;subst hw;rfl
    | _=>simp [jo] at hw
theorem adv {P:Program} {call:cZ} {rd:Option Nat} (dR:rE P call) {o:Oper} {t:Tm} {A B:St} {v:Value} {N base:Nat} {ρ:Ren} {a:Act} {w:World} {next:Act->World->Prop} {Q:Exit->Act->World->Prop}
  (h:og call t A (compile P o.op)=some (v,B)) (ht:TR ρ t N a) (hs:iv ρ A base w)
  (hk:∀ ak v' w',VR ak v v'->cq base ρ A w ak B w'->next (a.put o.dst v') w'):o.wpIn (Fr rd) 0 P a w next Q:=by
 have bL:=nf P o;have ma:=ht.ev;refine aaX (fun c e=>by rw [e] at h; simp [compile,og] at h) ?_;generalize compile P o.op=ins at h bL;cases ins with
 | pure f xs=>
  obtain ⟨u,hu,he⟩:=aU.1 h;simp at he;obtain ⟨rfl,rfl⟩:=he;obtain ⟨v',h1,h2⟩:=bL ρ _ _ _ (ma.on _) hu;rw [h2 w];exact hk ρ v' w h1 (.refl hs)
 | read f xs=>
  obtain ⟨u,hu,he⟩:=aU.1 h;simp at he;obtain ⟨rfl,rfl⟩:=he;obtain ⟨v',h1,h2⟩:=bL ρ A base w _ _ _ hs.rel (ma.on _) hu;rw [h2];exact hk ρ v' w h1 (.refl hs)
 | make f xs=>
  obtain ⟨⟨obj,mk⟩,hu,he⟩:=aU.1 h;simp at he;obtain ⟨rfl,rfl⟩:=he;obtain ⟨c,mk',h1,h2,h3⟩:=bL ρ _ _ _ _ (ma.on _) hu;rw [h2 w];exact hk _ _ _ (h3 _ _ _ (Ren.dj _ _ _)) (h1.gG hs)
 | act f xs=>
  obtain ⟨ak,v',nx,w',h1,h2,h3,h4⟩:=bL ρ A B base w _ _ _ hs (ma.on _) h;rw [h1];cases nx with
  | value u=>
   have:u=v':=h2;subst this;exact hk ak u w' h3 h4
  | skip=>
   have:v' = undef:=h2;subst this;exact hk ak undef w' h3 h4
  | _=>exact h2.elim
 | call f args=>
  obtain ⟨⟨g,vs⟩,Hd,hu⟩:=aO.1 h;exact aaY bL dR (ma.on _) Hd hu hs hk
 | bad=>simp [og] at h
theorem Mi {P:Program} {call:cZ} {rd:Option Nat} (dR:rE P call) {N base:Nat} {Q:Exit->Act->World->Prop} {all:List Oper} (hd:all.all (tF N)=true) :
  ∀ (os:List Oper) (k:Nat) (t t' : Tm) (A B:St) (ρ:Ren) (a:Act) (w:World),all.drop k=os->opsV P call all os t A=some (t',B)->TR ρ t N a->iv ρ A base w->
   (∀ ak a' w',TR ak t' N a'->a'.defers=a.defers->cq base ρ A w ak B w'->Q .normal a' w')->wpOpsIn (Fr rd) 0 P ⟨all⟩ Q (List.range' k os.length) a w
 | [],k,t,t',A,B,ρ,a,w,_,h,ht,hs,hq=>by
  simp only [Xv,aR,bG] at h;obtain ⟨rfl,rfl⟩:=h;exact hq ρ a w ht rfl (.refl hs)
 | o::os,k,t,t',A,B,ρ,a,w,hk,h,ht,hs,hq=>by
  have ho:(⟨all⟩:Array Oper)[k]? = some o:=by
   have:(all.drop k)[0]? = some o:=by rw [hk]; rfl
   rw [lE] at this;simpa using this
  have pb:all.drop (k+1)=os:=by
   rw [<- List.drop_drop,hk];rfl
  have pY:∀ d,o.dst=some d->d < N:=by
   intro d e;have hm:o∈all:=eW (by simpa using ho);have:=dS.1 hd o hm;unfold tF at this;rw [e] at this;simp only at this;rw [b8] at this;exact this
  rw [lF,List.range'_succ];simp only [wpOpsIn,ho];simp only [TK] at h;obtain ⟨wd,HG,h⟩:=aO.1 h;rw [WO ht HG];cases wd with
  | true=>
   rw [ah] at h;obtain ⟨⟨v,C⟩,h1,h2⟩:=aO.1 h;refine adv dR h1 ht hs fun ak v' w' hv hg=>?_;refine Mi dR hd os (k+1) _ _ C B ak _ w' pb h2 ((ht.mono (hg.le hs)).put pY hv) hg.dI fun mF BM xZ wB xI DQ=>?_;exact hq mF BM xZ wB (by rw [xI,put_defers]) (hg.trans DQ)
  | false=>
   rw [ay] at h;refine ⟨fun _ _=>trivial,Mi dR hd os (k+1) _ _ A B ρ _ w pb h (ht.put pY VR.undef) hs fun mF BM xZ wB xI DQ=>?_⟩;exact hq mF BM xZ wB (by rw [xI,put_defers]) DQ
def aa.out:aa->Exit
 | .normal=>.normal
 | .exit id=>.exit id
 | .goto l=>.goto l
 | .ret=>.ret
theorem aa1 {ρ:Ren} {t:Tm} {N:Nat} {a:Act} {c:Operand} {x:Bool} (ht:TR ρ t N a) (h:lJ t c = .bool x):a.eval c = .bool x:=by
 have:=ht.ev c;rw [h] at this;exact this.dq
def mark (D:Nat):Deferred:={ target:=.collected D,args:=#[] }
def Defs (n0:Nat) (a a' : Act) (ρ:Ren) (A:St) (w:World):Prop:=
 ∃ Ds:List Nat,a'.defers=Ds.map mark++a.defers/\(∀ D∈Ds,n0<=D/\w.heap[D]? = some (.deferred (some []))/\¬ EO ρ A D)/\Ds.Nodup
theorem Defs.same {n0:Nat} {a a' : Act} {ρ:Ren} {A:St} {w:World} (h:a'.defers=a.defers):Defs n0 a a' ρ A w:=⟨[],by simpa using h,by simp,by simp⟩
theorem Defs.refl (n0:Nat) (a:Act) (ρ:Ren) (A:St) (w:World):Defs n0 a a ρ A w:=.same rfl
theorem Defs.di {n0 base:Nat} {a a' : Act} {ρ ak:Ren} {A B:St} {w w' : World} (h:Defs n0 a a' ρ A w) (hg:cq base ρ A w ak B w'):Defs n0 a a' ak B w':=by
 obtain ⟨Ds,h1,h2,h3⟩:=h;refine ⟨Ds,h1,fun D hD=>?_,h3⟩;obtain ⟨h4,h5,h6⟩:=h2 D hD;have aI:D < w.heap.size:=(jh.1 h5).1;exact ⟨h4,by rw [hg.kept.block D aI h6]; exact h5,fun h=>h6 (hg.SF D aI h)⟩
theorem Defs.trans {n0 base:Nat} {a a1 a2:Act} {fH nv:Ren} {A1 A2:St} {w1 w2:World} (h:Defs n0 a a1 fH A1 w1) (hg:cq base fH A1 w1 nv A2 w2) (hn:n0<=w1.heap.size) (k:Defs w1.heap.size a1 a2 nv A2 w2):Defs n0 a a2 nv A2 w2:=by
 have aI:∀ D∈h.choose,D < w1.heap.size:=fun D hD=>(jh.1 (h.choose_spec.2.1 D hD).2.1).1;obtain ⟨h1,h2,h3⟩:=h.choose_spec;generalize h.choose=Ds at aI h1 h2 h3;obtain ⟨Es,k1,k2,k3⟩:=k;refine ⟨Es++Ds,by rw [k1,h1]; simp,fun D hD=>?_,?_⟩
 ·rcases eP.1 hD with hD | hD
  ·obtain ⟨k4,k5,k6⟩:=k2 D hD
   exact ⟨dx hn k4,k5,k6⟩
  ·obtain ⟨h4,h5,h6⟩:=h2 D hD
   exact ⟨h4,by rw [hg.kept.block D (aI D hD) h6]; exact h5,fun h=>h6 (hg.SF D (aI D hD) h)⟩
 ·rw [List.nodup_append]
  refine ⟨k3,h3,fun D hD E hE e=>?_⟩;have h7:=(k2 D hD).1;have h8:=aI E hE;omega
def Ge (P:Program) (N:Nat) (c:Code) (f:Tm->St->Option (aa×Tm×St)):Prop:=
 ∀ (rd:Option Nat) (t t' : Tm) (A B:St) (e:aa) (ρ:Ren) (base:Nat) (a:Act) (w:World) (Q:Exit->Act->World->Prop),(rd=none\/eM c=true)->f t A=some (e,t',B)->TR ρ t N a->iv ρ A base w->
  (∀ ak a' w',TR ak t' N a'->Defs w.heap.size a a' ak B w'->cq base ρ A w ak B w'->Q e.out a' w')->c.wpIn (Fr rd) 0 P Q a w
theorem RJ {P:Program} {N:Nat} {c:Code} {f:Tm->St->Option (aa×Tm×St)} (hf:Ge P N c f) :
  ∀ (n:Nat) (rd:Option Nat) (t t' : Tm) (A B:St) (e:aa) (ρ:Ren) (base:Nat) (a:Act) (w:World) (Q:Exit->Act->World->Prop),(rd=none\/eM c=true)->LY f n t A=some (e,t',B)->TR ρ t N a->iv ρ A base w->
  (∀ ak a' w',TR ak t' N a'->Defs w.heap.size a a' ak B w'->cq base ρ A w ak B w'->Q e.out a' w')->Code.roundsIn (Fr rd) 0 P c Q n a w
 | 0,rd,t,t',A,B,e,ρ,base,a,w,Q,hr,h,ht,hs,hq=>by simp [aaH] at h
 | n+1,rd,t,t',A,B,e,ρ,base,a,w,Q,hr,h,ht,hs,hq=>by
  rw [roundsIn_succ];simp only [aaI,Xw] at h;split at h
  ·rename_i t1 C h1
   refine hf rd t t1 A C .normal ρ base a w _ hr h1 ht hs fun ak a' w' wB xI hg=>?_;refine RJ hf n rd t1 t' C B e ak base a' w' Q hr h wB hg.dI fun mF BM xZ aik ail DQ=>?_;exact hq mF BM xZ aik (xI.trans DQ hg.kept.size ail) (hg.trans DQ)
  ·rename_i bA
   refine hf rd t t' A B e ρ base a w _ hr h ht hs fun ak a' w' wB xI hg=>?_;have HH:=hq ak a' w' wB xI hg;cases e with
   | normal=>exact absurd h (bA t' B)
   | exit id=>exact HH
   | goto l=>exact HH
   | ret=>exact HH
section
variable {P:Program} {b:Frame} {a:Act} {k:List Item} {cs:List Frame} {w:World}
theorem Y5 {c:Code} : step P (lone (b.atR a (.code (.scope c)::k)) cs w) = .next (lone (b.atR a (.code c::.inScope c::k)) cs w):=
 step_lone_go (by simp [stepG,stepG.exec,Frame.atR])
theorem Ir {c:Code} : step P (lone (b.atR a (.inScope c::k)) cs w) = .next (lone (b.atR a k) cs w):=
 step_lone_go (by simp [stepG,stepG.exec,Frame.atR])
end
def J1 (rd:Option Nat) (P:Program) (c:Code) (Q:Exit->Act->World->Prop):Nat->Exit->Act->World->Prop
 | 0,.goto _,_,_=>False
 | n+1,.goto l,a,w=>match findLabel c l with
  | some rest=>rest.wpIn (Fr rd) 0 P (J1 rd P c Q n) a w
  | none=>Q (.goto l) a w
 | _,e,a,w=>Q e a w
theorem aa2 {rd:Option Nat} {P:Program} {c:Code} {Q:Exit->Act->World->Prop} {a:Act} {w:World} (n:Nat) (h:c.wpIn (Fr rd) 0 P (J1 rd P c Q n) a w):(Code.scope c).wpIn (Fr rd) 0 P Q a w:=by
 intro b k cs WN hb hr;have key:∀ n e a w,J1 rd P c Q n e a w->∀ m,ArrivesIn (Machine.fenced P (Fr rd)) P m b (.inScope c::k) cs e a w->∃ e' a' w',Q e' a' w'/\ArrivesIn (Machine.fenced P (Fr rd)) P m b k cs e' a' w':=by
  have hx:∀ id,exitTo id (.inScope c::k)=exitTo id k:=fun id=>by simp [exitTo]
  intro n
  induction n with
  | zero=>
   intro e a w hq m iP;cases e with
   | normal=>exact ⟨.normal,a,w,hq,StepsIn.trans iP (.one (fenced_calm hb hr rfl) Ir)⟩
   | exit id=>exact ⟨.exit id,a,w,hq,fun k' hk=>iP.1 k' (by rw [hx]; exact hk),fun vZ hk=>iP.2 vZ (by rw [hx]; exact hk)⟩
   | goto l=>exact hq.elim
   | ret=>exact ⟨_,a,w,hq,iP⟩
   | panic ch=>exact ⟨_,a,w,hq,iP⟩
   | outgrown=>exact ⟨_,a,w,hq,iP⟩
  | succ n ih=>
   intro e a w hq m iP;cases e with
   | normal=>exact ⟨.normal,a,w,hq,StepsIn.trans iP (.one (fenced_calm hb hr rfl) Ir)⟩
   | exit id=>exact ⟨.exit id,a,w,hq,fun k' hk=>iP.1 k' (by rw [hx]; exact hk),fun vZ hk=>iP.2 vZ (by rw [hx]; exact hk)⟩
   | goto l=>
    simp only [J1] at hq;cases hf:findLabel c l with
    | none=>
     rw [hf] at hq;have hg:gotoIn l (.inScope c::k)=gotoIn l k:=by simp [gotoIn,hf]
     exact ⟨.goto l,a,w,hq,fun k' hk=>iP.1 k' (by rw [hg]; exact hk),fun vZ hk=>iP.2 vZ (by rw [hg]; exact hk)⟩
    | some rest=>
     rw [hf] at hq;have hg:gotoIn l (.inScope c::k)=some (.code rest::.inScope c::k):=by simp [gotoIn,hf]
     obtain ⟨am2,am3,aim,al6,ain⟩:=hq b (.inScope c::k) cs WN hb hr;obtain ⟨am4,am5,aio,al7,aip⟩:=ih am2 am3 aim al6 _ ain;exact ⟨am4,am5,aio,al7,.of_steps (iP.1 _ hg) aip⟩
   | ret=>exact ⟨_,a,w,hq,iP⟩
   | panic ch=>exact ⟨_,a,w,hq,iP⟩
   | outgrown=>exact ⟨_,a,w,hq,iP⟩
 obtain ⟨e,am6,aiq,hq,iP⟩:=h b (.inScope c::k) cs WN hb hr;obtain ⟨e',a',w',HH,al8⟩:=key n e am6 aiq hq _ iP;exact ⟨e',a',w',HH,.of_steps (.one (fenced_calm hb hr rfl) Y5) al8⟩
def Y6 (P:Program) (N:Nat) (c:Code) (l:Nat):Option (Tm->St->l9)->Prop
 | some f=>∃ rest,findLabel c l=some rest/\(eM c=true->eM rest=true)/\Ge P N rest f
 | none=>findLabel c l=none
theorem Ow {P:Program} {N:Nat} {c:Code} {jump:Nat->Option (Tm->St->l9)} (hj:∀ l,Y6 P N c l (jump l)) {base:Nat} {rd:Option Nat} (j5:rd=none\/eM c=true) {Q:Exit->Act->World->Prop} :
  ∀ (n:Nat) (r:l9) (t' : Tm) (A B:St) (e:aa) (ρ:Ren) (a0:Act) (w0:World),wo jump n r=some (e,t',B)->iv ρ A base w0->
   (∀ ak a' w',TR ak t' N a'->Defs w0.heap.size a0 a' ak B w'->cq base ρ A w0 ak B w'->Q e.out a' w')->
   ∀ t1 C e1,r=some (e1,t1,C)->∀ fH a1 w1,TR fH t1 N a1->Defs w0.heap.size a0 a1 fH C w1->cq base ρ A w0 fH C w1->J1 rd P c Q n e1.out a1 w1
 | 0,r,t',A,B,e,ρ,a0,w0,h,hs,hq=>by simp [wo] at h
 | n+1,r,t',A,B,e,ρ,a0,w0,h,hs,hq=>by
  intro t1 C e1 hr fH a1 w1 ht xI hg;subst hr;cases e1 with
  | goto l=>
   simp only [wo] at h;have hjl:=hj l;simp only [aa.out,J1];split at h
   ·rename_i f hf
    rw [hf] at hjl;obtain ⟨rest,h1,h1r,h2⟩:=hjl;rw [h1];simp only;have Y7:∃ e2 t2 D,f t1 C=some (e2,t2,D):=by
     cases x8:f t1 C with
     | none=>rw [x8] at h; cases n <;> simp [wo] at h
     | some p=>exact ⟨p.1,p.2.1,p.2.2,rfl⟩
    obtain ⟨e2,t2,D,x8⟩:=Y7;refine h2 rd t1 t2 C D e2 fH base a1 w1 _ (j5.imp id h1r) x8 ht hg.dI fun nv a2 w2 DR air ye=>?_;exact Ow hj j5 n (f t1 C) t' A B e ρ a0 w0 h hs hq t2 D e2 x8 nv a2 w2 DR (xI.trans ye hg.kept.size air) (hg.trans ye)
   ·rename_i hf
    rw [hf] at hjl;have hjl:findLabel c l=none:=hjl;rw [hjl];simp only [aR,bG] at h;obtain ⟨rfl,rfl,rfl⟩:=h;exact hq fH a1 w1 ht xI hg
  | normal=>
   simp only [wo,aR,bG] at h;obtain ⟨rfl,rfl,rfl⟩:=h;exact hq fH a1 w1 ht xI hg
  | exit id=>
   simp only [wo,aR,bG] at h;obtain ⟨rfl,rfl,rfl⟩:=h;exact hq fH a1 w1 ht xI hg
  | ret=>
   simp only [wo,aR,bG] at h;obtain ⟨rfl,rfl,rfl⟩:=h;exact hq fH a1 w1 ht xI hg
theorem Uk {P:Program} {N:Nat} {x y:Code} {f g:Tm->St->l9} (hx:Ge P N x f) (hy:Ge P N y g):Ge P N (.seq x y) fun t A=>xY (f t A) g:=by
 intro rd t t' A B e ρ base a w Q hr h ht hs hq;have hrx:rd=none\/eM x=true:=hr.imp id fun h=>(Bool.and_eq_true_iff.1 (by simpa only [eM] using h)).1;have hry:rd=none\/eM y=true:=hr.imp id fun h=>(Bool.and_eq_true_iff.1 (by simpa only [eM] using h)).2;refine wpIn_seq ?_;have h:xY (f t A) g=some (e,t',B):=h;unfold xY at h;split at h
 ·rename_i t1 C h1
  refine hx rd t t1 A C .normal ρ base a w _ hrx h1 ht hs fun ak a' w' wB xI hg=>?_;refine hy rd t1 t' C B e ak base a' w' Q hry h wB hg.dI fun mF BM xZ aik ail DQ=>?_;exact hq mF BM xZ aik (xI.trans DQ hg.kept.size ail) (hg.trans DQ)
 ·rename_i bA
  refine hx rd t t' A B e ρ base a w _ hrx h ht hs fun ak a' w' wB xI hg=>?_;have HH:=hq ak a' w' wB xI hg;cases e with
  | normal=>exact absurd h (bA t' B)
  | exit id=>exact HH
  | goto l=>exact HH
  | ret=>exact HH
theorem World.heap_alloc_old (w:World) (o:Obj) {k:Nat} (h:k < w.heap.size):(w.alloc o).heap[k]? = w.heap[k]?:=RowKit.Below.heap_alloc _ _ _ h
theorem aa3 {ρ:Ren} {A:St} {base:Nat} {w:World} (hs:iv ρ A base w) (o:Obj):cq base ρ A w ρ A (w.alloc o):=
 ⟨⟨.qe (fun b o' hg hd=>by obtain ⟨l,h1,h2⟩:=hs.rel.obj hg hd; exact ⟨l,h1,h2.di (Ren.le_refl _) (World.heap_alloc_old _ _ (h2.lt hd)) (by simp)⟩) hs.rel.apart hs.rel.aX,hs.fZ,dx hs.size (by simp),hs.lK⟩,
  fun _ _=>rfl,⟨rfl,rfl,rfl,by simp,fun k hk _=>World.heap_alloc_old _ _ hk⟩,ao _,ao _,fun _ _ _=>rfl,fun _ _ h=>h⟩
theorem iv.akq {ρ:Ren} {A:St} {base:Nat} {w:World} (hs:iv ρ A base w) {k:Nat} (h:EO ρ A k):k < w.heap.size:=by
 obtain ⟨b,o,l,hg,hm,hr,rfl⟩:=h;have hd:o≠.dead:=by intro e; subst e; simp [aY.ct] at hm
 obtain ⟨l2,e,ok⟩:=hs.rel.obj hg hd;rw [hr] at e; simp at e; subst e;exact ok.lt hd
theorem adw {ρ ak:Ren} {A B:St} {base D:Nat} {w0 w:World} (hg:cq base ρ A w0 ak B w) (hD:w0.heap.size<=D) (hb:base<=D) (hn : ¬ EO ak B D) (o:Obj):cq base ρ A w0 ak B (w.putObj D o):=by
 have C0:∀ b o' l,B.get b=some o'->o'≠.dead->ak b=some l->o9 ak base w l o'->l.cb≠D:=by
  intro b o' l hgb hd hr ok e;cases hm:o'.ct with
  | true=>exact hn ⟨b,o',l,hgb,hm,hr,e⟩
  | false=>
   cases o' with
   | row cs aQ own aZ=>
    have fP:lL ak base w l cs aQ own aZ:=ok;have:=fP.nu hm;omega
   | map _=>simp [aY.ct] at hm
   | iter _ _=>simp [aY.ct] at hm
   | dead=>exact hd rfl
   | loop _ _ _ _ _ _=>simp [aY.ct] at hm
 refine ⟨⟨.qe (fun b o' hgb hd=>?_) hg.dI.rel.apart hg.dI.rel.aX,hg.dI.fZ,by simpa using hg.dI.size,hg.dI.lK⟩,hg.ext,⟨hg.kept.os,hg.kept.tape,hg.kept.output,by simpa using hg.kept.size,fun k hk hnk=>?_⟩,hg.next,hg.low,hg.same,hg.SF⟩
 ·obtain ⟨l,h1,h2⟩:=hg.dI.rel.obj hgb hd
  exact ⟨l,h1,h2.di (Ren.le_refl _) (World.putObj_heap_other (C0 b o' l hgb hd h1 h2)) (by simp)⟩
 ·rw [World.putObj_heap_other (by omega)]
  exact hg.kept.block k hk hnk
theorem DS {ρ:Ren} {A:St} {base:Nat} {w:World} {r st:Nat} {e:aa} {t:Tm} {ps:List Nat} {a b:Code} {l:Loc} (hs:iv ρ A base w) (hg:A.get r=some (.loop st e t ps a b)) (iZ:ρ r=some l)
  (o2:aY) (obj:Obj) (KD:o2.hO=none) (bL:o2≠.dead->o9 ρ base (w.putObj l.cb obj) l o2):cq base ρ A w ρ (A.put r o2) (w.putObj l.cb obj):=by
 obtain ⟨l',iL,ok⟩:=hs.rel.loop _ _ _ _ _ _ _ hg;rw [iZ] at iL; simp at iL; subst iL;have wz:aY.ct (.loop st e t ps a b)=true:=rfl;have hold:∀ k,k≠l.cb->(w.putObj l.cb obj).heap[k]? = w.heap[k]?:=fun k hk=>World.putObj_heap_other hk;have hB:∀ x,(A.put r o2).get x=if x=r then some o2 else A.get x:=fun x=>St.b6 _ _ _ _;have C0:∀ x o l2,x≠r->A.get x=some o->o≠.dead->ρ x=some l2->o9 ρ base w l2 o->l2.cb≠l.cb:=by
  intro x o l2 hx eV hd pR fP e;cases Ig:o.ct with
  | true=>
   obtain ⟨_,_,_,_,e1,_⟩:=hs.rel.apart x r o _ l2 l hx eV hg Ig wz pR iZ e;simp [aY.hO] at e1
  | false=>
   cases o with
   | row cs aQ own aZ=>
    have fP:lL ρ base w l2 cs aQ own aZ:=fP;have h1:own=false:=Ig;have:=fP.nu h1;have:=ok.ct;omega
   | map _=>simp [aY.ct] at Ig
   | iter _ _=>simp [aY.ct] at Ig
   | dead=>exact hd rfl
   | loop _ _ _ _ _ _=>simp [aY.ct] at Ig
 refine ⟨⟨.qe ?_ ?_ ?_,fun b l2 h=>hs.fZ b l2 h,by simpa using hs.size,hs.lK⟩,fun _ _=>rfl,⟨rfl,rfl,rfl,by simp,fun k hk hn=>hold k (fun e=>hn ⟨r,_,l,hg,wz,iZ,e.symm⟩)⟩,ao _,Nat.min_le_left _ _,fun x hx hxl=>?_,?_⟩
 ·intro x o eV hd
  rw [hB] at eV;split at eV
  ·rename_i e; subst e; simp at eV; subst eV
   exact ⟨l,iZ,bL hd⟩
  ·rename_i e
   obtain ⟨l2,pR,fP⟩:=hs.rel.obj eV hd;exact ⟨l2,pR,fP.di (Ren.le_refl _) (hold _ (C0 x o l2 e eV hd pR fP)) (by simp)⟩
 ·have DJ:∀ x o,(A.put r o2).get x=some o->o.ct=true->∃ o',A.get x=some o'/\o'.ct=true/\o'.hO=o.hO:=by
   intro x o hx hm;rw [hB] at hx;split at hx
   ·rename_i e; subst e; simp at hx; subst hx; exact ⟨_,hg,rfl,KD.symm⟩
   ·exact ⟨o,hx,hm,rfl⟩
  intro b1 b2 o1 o2 l1 l2 bA g1 g2 m1 m2 r1 r2 vW;obtain ⟨p1,q1,n1,k1⟩:=DJ _ _ g1 m1;obtain ⟨p2,q2,n2,k2⟩:=DJ _ _ g2 m2;rw [<- k1,<- k2];exact hs.rel.apart b1 b2 p1 p2 l1 l2 bA q1 q2 n1 n2 r1 r2 vW
 ·intro x o aF f eV hk
  rw [hB] at eV;split at eV
  ·rename_i e; subst e; simp at eV; subst eV; rw [KD] at hk; simp at hk
  ·exact hs.rel.aX x o aF f eV hk
 ·rw [St.NS] at hxl
  have:Nat.min A.low r<=r:=Nat.min_le_right _ _;rw [hB,ae (by omega)]
 ·rintro k hk ⟨x,o,l2,eV,hm,pR,rfl⟩
  rw [hB] at eV;split at eV
  ·rename_i e; subst e
   rw [iZ] at pR; simp at pR; subst pR;exact ⟨x,_,l,hg,wz,iZ,rfl⟩
  ·exact ⟨x,o,l2,eV,hm,pR,rfl⟩
theorem iv.Ox {ρ:Ren} {A:St} {base:Nat} {w:World} {r st:Nat} {e:aa} {t:Tm} {ps:List Nat} {a b:Code} {l:Loc} (hs:iv ρ A base w) (hg:A.get r=some (.loop st e t ps a b)) (iZ:ρ r=some l):CZ ρ base w l st e t ps a b:=by
 obtain ⟨l',iL,ok⟩:=hs.rel.loop _ _ _ _ _ _ _ hg;rw [iZ] at iL; simp at iL; subst iL;exact ok
theorem Y8 {P:Program} {call:cZ} (dR:rE P call) {N:Nat} {g:Operand} {ps:Array Tmp} {assign body:Code} (hps:ps.toList.all (fun p=>Nat.blt p N)=true) (hca:codeOk N assign=true) (vW:codeOk N body=true) (zQ:eM assign=true) (hnb:eM body=true) :
  Ge P N (.rangeFunc g ps assign body) (Td call g ps.toList assign body):=by
 intro rd t t' A B e ρ base a w Q hr h ht hs hq;have j5:rd=none:=hr.resolve_right (by simp [eM]);subst j5;unfold Td at h;split at h
 ·rename_i f first cap hg
  cases hb:Nat.blt f yB with
  | false=>rw [hb] at h; simp at h
  | true=>
   rw [hb,ah] at h;obtain ⟨⟨v,C⟩,h1,h2⟩:=aO.1 h;have ma:=ht.ev g;rw [hg] at ma;obtain ⟨f',c',tY,ma,hf1,hf2,Qa⟩:=ma.yb;have Qa:tY = .func f:=Qa;subst Qa;refine wpIn_rangeFunc fun fn _=>?_;obtain ⟨rec,fR⟩:∃ rec:Loop,rec = { state:=.ready,pending:=none,fn,tmps:=a.tmps,params:=ps,assign,body,defers:=w.heap.size }:=⟨_,rfl⟩
   let l:Loc:=⟨w.heap.size+1,0,0,0⟩
   have xH:cq base ρ A w ρ A (w.alloc (.deferred (some []))):=aa3 hs _;have hs1:cq base ρ A (w.alloc (.deferred (some []))) (ρ.set A.next l) (A.new (.loop 0 .normal t ps.toList assign body)) ((w.alloc (.deferred (some []))).alloc (.loop rec)):=by
    refine x9 (o:=.loop 0 .normal t ps.toList assign body) xH.dI (fun x=>by simp) (fun f x h=>by simpa using h) (fun aF f h=>by simp [aY.hO] at h) (by simp) (by simp) (fun x hx _=>by simp; omega) (by simp [l]) ?_;refine ⟨dx hs.size (Nat.le_succ _),fn,a.tmps,w.heap.size,N,?_,⟨ht.size,fun i=>(ht.val i).mono (xH.dI.uy _),ht.none,hps,hca,vW,zQ,hnb⟩⟩;have:=World.alloc_heap_new (w.alloc (.deferred (some []))) (.loop rec);rw [World.size_alloc] at this;rw [fR] at this;simpa [l,F3,aa.code,fR] using this
   have Ul:Defs w.heap.size a { a with defers:=[mark w.heap.size]++a.defers } ρ A (w.alloc (.deferred (some []))):=
    ⟨[w.heap.size],rfl,fun D hD=>by
     rw [List.mem_singleton] at hD; subst hD;exact ⟨ao _,World.alloc_heap_new w _,fun hi=>absurd (hs.akq hi) (Nat.lt_irrefl _)⟩,by simp⟩
   have adx:cD (ρ.set A.next l) (first.toList++[Value.func (.yield A.next) ⟨[]⟩ ⟨[]⟩]++cap.toList) (f'.toList++[Value.func (.yield (w.heap.size+1)) #[] #[]]++c'.toList):=by
    have hle:=xH.dI.uy l;refine cD.append (cD.append (hf1.mono hle) (.cons ?_ .nil)) (hf2.mono hle);simp only [VR];exact ⟨#[],#[],by simp [oh,cD],by simp [oh,cD],.yield (w.heap.size+1),⟨l,Ren.dj _ _ _,rfl⟩,rfl⟩
   obtain ⟨Qa,hc⟩:=dR _ _ _ _ _ h1;obtain ⟨fnf,h4,h5,h6⟩:=Qa hb;have DN:fnf.body.isNone=false:=by simpa using h5
   have hh : ¬(fnf.name = "runtime.NumGoroutine") := by simpa using h6
   have akr:=(hc _ _ base _ adx hs1.dI).1 hb;refine ⟨w.heap.size+1,[mark w.heap.size],(w.alloc (.deferred (some []))).alloc (.loop rec),{ target:=.fn (.func f) c',args:=f'++#[.func (.yield (w.heap.size+1)) #[] #[]] },(w.alloc (.deferred (some []))).alloc (.loop rec),f,
    (f'.toList++[Value.func (.yield (w.heap.size+1)) #[] #[]]++c'.toList).toArray,(w.alloc (.deferred (some []))).alloc (.loop rec),?_,?_,fun _ _=>trivial,?_,fun h=>by simp [Fence.wide] at h,?_⟩
   ·rw [fR]; exact run_enterLoop_outer _ _ _ _ _
   ·simp only [resolve,Deferred.ofValue,ma,Sem.run_pure]
    simp [Act.eval]
   ·simp only [invoke,callFunc,Sem.run_bind,fF,run_program,h4]
    simp [hh,DN]
   ·refine CallsIn.mono (F:=Fr none) (n:=0) (R:=fun e w'=>∃ ak v',e = .returned v'/\VR ak v v'/\cq base (ρ.set A.next l) (A.new (.loop 0 .normal t ps.toList assign body)) ((w.alloc (.deferred (some []))).alloc (.loop rec)) ak C w') ((callsIn_wide (n:=0)).2 akr) ?_
    rintro ee w' ⟨ak,v',rfl,vX,DQ⟩;have iL:ak A.next=some l:=by rw [DQ.ext A.next (by simp)]; exact Ren.dj _ _ _
    have gV:=(xH.trans hs1).trans DQ;have wB:TR ak t N { a with defers:=[mark w.heap.size]++a.defers }:=⟨ht.size,fun i=>(ht.val i).mono (gV.le hs),ht.none,ht.lK.mono (gV.le hs)⟩
    have ae0:=(Ul.di hs1).di DQ;have fin:∀ {st:Nat} {e0:aa} {t0:Tm} {ps0:List Nat} {a0 b0:Code},C.get A.next=some (.loop st e0 t0 ps0 a0 b0)->st≠1->∃ w4,(Instr.endLoop (w.heap.size+1)).run P w' = .ok e0.code w4/\cq base ak C w' ak (C.put A.next .dead) w4:=by
     intro st e0 t0 ps0 a0 b0 fA eZ;obtain ⟨fn2,tmps2,D2,N2,h7,_⟩:=(DQ.dI.Ox fA iL).gF;refine ⟨_,run_endLoop (l:=w.heap.size+1) h7 (by cases st with | zero=>simp [F3] | succ n=>cases n with | zero=>exact absurd rfl eZ | succ n=>simp [F3]),?_⟩;exact DS DQ.dI fA iL .dead _ rfl (fun h=>absurd rfl h)
    unfold Xy at h2;split at h2
    ·rename_i fA
     simp only [aR,bG] at h2;obtain ⟨rfl,rfl,rfl⟩:=h2;obtain ⟨w4,h7,h8⟩:=fin fA (by simp);exact ⟨_,w4,h7,hq ak _ w4 wB (ae0.di h8) (gV.trans h8)⟩
    ·rename_i e0 _ _ _ _ fA
     simp only [aR,bG] at h2;obtain ⟨rfl,rfl,rfl⟩:=h2;obtain ⟨w4,h7,h8⟩:=fin fA (by simp);have HH:=hq ak _ w4 wB (ae0.di h8) (gV.trans h8);refine ⟨_,w4,h7,?_⟩;cases e0 with
     | normal=>exact HH
     | exit id=>exact wpIn_exit HH
     | goto l=>exact wpIn_goto HH
     | ret=>exact wpIn_ret HH
    ·simp at h2
 ·simp at h
mutual
theorem ky {P:Program} {call:cZ} (dR:rE P call) (hm:P.follows .mixedOrders=true) (L N:Nat):∀ (c:Code),codeOk N c=true->Ge P N c (jr P call L c)
 | .skip,_=>by
  intro rd t t' A B e ρ base a w Q hr h ht hs hq;simp only [aaK,aR,bG] at h;obtain ⟨rfl,rfl,rfl⟩:=h;exact wpIn_skip (hq ρ a w ht (.refl _ _ _ _ _) (.refl hs))
 | .ret,_=>by
  intro rd t t' A B e ρ base a w Q hr h ht hs hq;simp only [ade,aR,bG] at h;obtain ⟨rfl,rfl,rfl⟩:=h;exact wpIn_ret (hq ρ a w ht (.refl _ _ _ _ _) (.refl hs))
 | .exit id,_=>by
  intro rd t t' A B e ρ base a w Q hr h ht hs hq;simp only [aaL,aR,bG] at h;obtain ⟨rfl,rfl,rfl⟩:=h;exact wpIn_exit (hq ρ a w ht (.refl _ _ _ _ _) (.refl hs))
 | .region id ops false,hc=>by
  intro rd t t' A B e ρ base a w Q hr h ht hs hq;simp only [adf] at h;obtain ⟨⟨t1,C⟩,h1,he⟩:=aU.1 h;simp at he;obtain ⟨rfl,rfl,rfl⟩:=he;refine wpIn_region ?_;have:=Mi (rd:=rd) (Q:=Q) dR (N:=N) (all:=ops.toList) hc ops.toList 0 t t1 A C ρ a w (by simp) h1 ht hs fun ak a' w' h1 h2 h3=>hq ak a' w' h1 (.same h2) h3;rw [List.range_eq_range'];simpa using this
 | .region id ops true,hc=>by
  intro rd t t' A B e ρ base a w Q hr h ht hs hq;simp only [YF] at h;obtain ⟨⟨t1,C⟩,h1,he⟩:=aU.1 h;simp at he;obtain ⟨rfl,rfl,rfl⟩:=he;cases hqv:JT P ops.toList with
  | true=>rw [hqv,ah] at h1; exact Y3 (all:=ops.toList) dR hm hc hqv h1 ht hs fun ak a' w' h1 h2 h3=>hq ak a' w' h1 (.same h2) h3
  | false=>
   rw [hqv,ay] at h1;cases hov:vE P ops.toList with
   | true=>rw [hov,ah] at h1; exact Uj (all:=ops.toList) dR hm hc hov h1 ht hs fun ak a' w' h1 h2 h3=>hq ak a' w' h1 (.same h2) h3
   | false=>rw [hov,ay] at h1; exact Y1 (all:=ops.toList) dR hm hc h1 ht hs fun ak a' w' h1 h2 h3=>hq ak a' w' h1 (.same h2) h3
 | .seq x y,hc=>by
  simp only [codeOk,aj] at hc;have:=Uk (ky dR hm L N x hc.1) (ky dR hm L N y hc.2);intro rd t t' A B e ρ base a w Q hr h ht hs hq;simp only [adg] at h;exact this rd t t' A B e ρ base a w Q hr h ht hs hq
 | .cond c x y,hc=>by
  simp only [codeOk,aj] at hc;intro rd t t' A B e ρ base a w Q hr h ht hs hq;simp only [aaN] at h;split at h
  ·rename_i b hb
   have hb:=aa1 ht hb;cases b with
   | true=>exact wpIn_cond_true hb (ky dR hm L N x hc.1 rd t t' A B e ρ base a w Q (hr.imp id fun h=>(Bool.and_eq_true_iff.1 (by simpa only [eM] using h)).1) h ht hs hq)
   | false=>exact wpIn_cond_false hb (ky dR hm L N y hc.2 rd t t' A B e ρ base a w Q (hr.imp id fun h=>(Bool.and_eq_true_iff.1 (by simpa only [eM] using h)).2) h ht hs hq)
  ·simp at h
 | .block id x,hc=>by
  have hc:codeOk N x=true:=hc;intro rd t t' A B e ρ base a w Q hr h ht hs hq;simp only [YG] at h;refine wpIn_block ?_;split at h
  ·rename_i oY t1 C h1
   refine ky dR hm L N x hc rd t t1 A C (.exit oY) ρ base a w _ hr h1 ht hs fun ak a' w' wB xI hg=>?_;cases hb:Nat.beq oY id with
   | true=>
    rw [hb,ah] at h;simp only [aR,bG] at h;obtain ⟨rfl,rfl,rfl⟩:=h;have:=aE hb;simp only [aa.out,Exit.inBlock,ax this];exact hq ak a' w' wB xI hg
   | false=>
    rw [hb,ay] at h;simp only [aR,bG] at h;obtain ⟨rfl,rfl,rfl⟩:=h;have:=Nat.ne_of_beq_eq_false hb;simp only [aa.out,Exit.inBlock,ae this];exact hq ak a' w' wB xI hg
  ·rename_i bA
   refine ky dR hm L N x hc rd t t' A B e ρ base a w _ hr h ht hs fun ak a' w' wB xI hg=>?_;have HH:=hq ak a' w' wB xI hg;cases e with
   | normal=>exact HH
   | exit oY=>exact absurd h (bA oY t' B)
   | goto l=>exact HH
   | ret=>exact HH
 | .loop x,hc=>by
  have hc:codeOk N x=true:=hc;intro rd t t' A B e ρ base a w Q hr h ht hs hq;simp only [aaO] at h;exact wpIn_loop_rounds L (RJ (ky dR hm L N x hc) L rd t t' A B e ρ base a w Q hr h ht hs hq)
 | .label l,_=>by
  intro rd t t' A B e ρ base a w Q hr h ht hs hq;simp only [YE,aR,bG] at h;obtain ⟨rfl,rfl,rfl⟩:=h;exact wpIn_label (hq ρ a w ht (.refl _ _ _ _ _) (.refl hs))
 | .goto l,_=>by
  intro rd t t' A B e ρ base a w Q hr h ht hs hq;simp only [aaM,aR,bG] at h;obtain ⟨rfl,rfl,rfl⟩:=h;exact wpIn_goto (hq ρ a w ht (.refl _ _ _ _ _) (.refl hs))
 | .scope x,hc=>by
  have hc:codeOk N x=true:=hc;intro rd t t' A B e ρ base a w Q hr h ht hs hq;simp only [YH] at h;refine aa2 L ?_;have Y7:∃ e2 t2 D,jr P call L x t A=some (e2,t2,D):=by
   cases x8:jr P call L x t A with
   | none=>rw [x8] at h; cases L <;> simp [wo] at h
   | some p=>exact ⟨p.1,p.2.1,p.2.2,rfl⟩
  obtain ⟨e2,t2,D,x8⟩:=Y7;refine ky dR hm L N x hc rd t t2 A D e2 ρ base a w _ hr x8 ht hs fun nv a2 w2 DR air ye=>?_;exact Ow (fun l=>Iu dR hm L N x hc l) hr L _ t' A B e ρ a w h hs hq t2 D e2 x8 nv a2 w2 DR air ye
 | .rangeFunc g ps x y,hc=>by
  simp only [codeOk,aj] at hc;intro rd t t' A B e ρ base a w Q hr h ht hs hq;simp only [P8] at h;cases hn:(eM x&&eM y) with
  | false=>rw [hn,ay] at h; simp [ada] at h
  | true=>
   rw [hn,ah] at h;obtain ⟨Qd,T7⟩:=Bool.and_eq_true_iff.1 hn;exact Y8 dR hc.1 hc.2.1 hc.2.2 Qd T7 rd t t' A B e ρ base a w Q hr h ht hs hq
 | .refuse _,_=>by
  intro rd t t' A B e ρ base a w Q hr h ht hs hq;simp [Wz] at h
theorem Iu {P:Program} {call:cZ} (dR:rE P call) (hm:P.follows .mixedOrders=true) (L N:Nat):∀ (c:Code),codeOk N c=true->∀ l,Y6 P N c l (F2 P call L c l)
 | .seq x y,hc,l=>by
  simp only [codeOk,aj] at hc;have hx:=Iu dR hm L N x hc.1 l;have hy:=Iu dR hm L N y hc.2 l;simp only [adh];cases hf:F2 P call L x l with
  | some f=>
   rw [hf] at hx;obtain ⟨rest,h1,h1r,h2⟩:=hx;exact ⟨.seq rest y,by simp [findLabel,h1],fun h=>by simp only [eM,aj] at h ⊢; exact ⟨h1r h.1,h.2⟩,Uk h2 (ky dR hm L N y hc.2)⟩
  | none=>
   rw [hf] at hx;have hx:findLabel x l=none:=hx;simp only;cases hg:F2 P call L y l with
   | some f=>
    rw [hg] at hy;obtain ⟨rest,h1,h1r,h2⟩:=hy;exact ⟨rest,by simp [findLabel,hx,h1],fun h=>h1r (Bool.and_eq_true_iff.1 (by simpa only [eM] using h)).2,h2⟩
   | none=>
    rw [hg] at hy;have hy:findLabel y l=none:=hy;show findLabel (.seq x y) l=none;simp [findLabel,hx,hy]
 | .label l',_,l=>by
  simp only [YI];cases hb:(l'==l) with
  | true=>
   rw [ah];refine ⟨.skip,by simp [findLabel,hb],fun _=>rfl,?_⟩;intro rd t t' A B e ρ base a w Q hr h ht hs hq;simp only [aR,bG] at h;obtain ⟨rfl,rfl,rfl⟩:=h;exact wpIn_skip (hq ρ a w ht (.refl _ _ _ _ _) (.refl hs))
  | false=>
   rw [ay];show findLabel (.label l') l=none;simp [findLabel,hb]
 | .skip,_,_ | .ret,_,_ | .exit _,_,_ | .goto _,_,_ | .region _ _ _,_,_ | .cond _ _ _,_,_ | .block _ _,_,_ | .loop _,_,_ | .scope _,_,_ | .rangeFunc _ _ _ _,_,_ | .refuse _,_,_=>by
  first | rfl | (rw [aaP]; rfl) | simp [Y6,findLabel]
end
theorem Gf:∀ (l:List Value) (i k:Nat) (t:Tm),(zb l i t).get k=if i<=k/\k < i+l.length then l[k - i]? else t.get k
 | [],i,k,t=>by
  rw [zb,ae];simp
 | v::l,i,k,t=>by
  rw [zb,Gf l (i+1) k,Trie.iY];by_cases h1:k=i
  ·subst h1
   rw [ae (by omega),ax rfl,ax (by simp)];simp
  ·by_cases h2:i+1<=k/\k < i+1+l.length
   ·rw [ax h2,ax (by simp; omega),show k - i=(k - (i+1))+1 by omega]
    simp
   ·rw [ae h2,ae h1,ae (by simp; omega)]
def Gg (a:Act):ResultVar->Sem Value
 | .tmp t=>pure (a.tmps.getD t undef)
 | .cell ad ty=>do loadVar ty (<- asAddr (a.tmps.getD ad undef))
theorem Iv (fn:Func) (a:Act):results fn a.tmps=(do let vs <- fn.results.mapM (Gg a); pure (if h:vs.size=1 then vs[0] else .tuple vs)):=by
 unfold results;congr 1
theorem BN {P:Program} {ρ:Ren} {A:St} {base N:Nat} {w:World} {t:Tm} {a:Act} (hs:iv ρ A base w) (ht:TR ρ t N a):∀ (rs:List ResultVar) (vs:List Value),vF P A t rs=some vs->
  ∃ bw,cD ρ vs bw/\(rs.mapM (Gg a)).run P w=Result.ok bw w
 | [],vs,h=>by simp [vF] at h; subst h; exact ⟨[],.nil,by simp⟩
 | .tmp x::rs,vs,h=>by
  simp only [vF] at h;obtain ⟨us,hu,rfl⟩:=aU.1 h;obtain ⟨WQ,h1,h2⟩:=BN hs ht rs us hu;refine ⟨_::WQ,.cons (ht.ev (.tmp x)) h1,?_⟩;simp [List.mapM_cons,h2,Act.eval,Gg]
 | .cell x ty::rs,vs,h=>by
  simp only [vF] at h;obtain ⟨v,hv,h⟩:=aO.1 h;obtain ⟨us,hu,rfl⟩:=aU.1 h;obtain ⟨WQ,h1,h2⟩:=BN hs ht rs us hu;obtain ⟨ad,h3,v',h4,h5⟩:=DK (P:=P) hs.rel (ht.ev (.tmp x)) hv;refine ⟨v'::WQ,.cons h4 h1,?_⟩;have h3:a.tmps.getD x undef = .pointer (some ad):=h3;simp only [List.mapM_cons,Sem.run_bind,Gg,h3,asAddr,Sem.run_pure,fF,h5,h2]
theorem cq.leave {base:Nat} {ρ ak:Ren} {A B:St} {w w' : World} {v v' : Value} (hs:iv ρ A base w) (h:cq base ρ A.enter w ak B w') (hv:VR ak v v') :
  ∃ mF,VR mF v v'/\cq base ρ A w mF (A.leave B v) w':=by
 have aeU:∀ k,EO ρ A.enter k↔EO ρ A k:=fun k=>Iff.rfl;rw [St.agx];cases hc:(flat v&&Nat.ble A.next B.low) with
 | true=>
  rw [ah];obtain ⟨hf,hl⟩:=Bool.and_eq_true_iff.1 hc;have hl:A.next<=B.low:=cL hl;have fA:∀ b o,A.get b=some o->o≠.dead->b < A.next:=fun b o hg hd=>by
   obtain ⟨l,e,_⟩:=hs.rel.obj hg hd;exact hs.fZ _ _ e
  have zM:∀ b,b < A.next->B.get b=A.get b:=fun b hb=>h.same b hb (by omega);have ale:∀ b,b < A.next->ak b=ρ b:=h.ext;refine ⟨ρ,by rw [hv.jZ hf]; exact VR.of_flat hf,?_⟩;refine ⟨⟨.qe ?_ hs.rel.apart hs.rel.aX,hs.fZ,dx hs.size h.kept.size,hs.lK⟩,fun _ _=>rfl,⟨h.kept.os,h.kept.tape,h.kept.output,h.kept.size,fun k hk hn=>h.kept.block k hk hn⟩,ao _,ao _,fun _ _ _=>rfl,fun _ _ hk=>hk⟩;intro b o hg hd;have hb:=fA b o hg hd;obtain ⟨l,e,ok⟩:=h.dI.rel.obj (b:=b) (o:=o) (by rw [zM b hb]; exact hg) hd;refine ⟨l,by rw [<- ale b hb]; exact e,?_⟩;obtain ⟨l0,e0,ok0⟩:=hs.rel.obj hg hd;have hll:l=l0:=by rw [ale b hb,e0] at e; simpa using e.symm
  subst hll;exact o9.back (h.le ⟨hs.rel,hs.fZ,hs.size,hs.lK⟩) ok0 ok
 | false=>
  rw [ay];refine ⟨ak,hv,⟨h.dI.rel,h.dI.fZ,h.dI.size,h.dI.lK⟩,h.ext,⟨h.kept.os,h.kept.tape,h.kept.output,h.kept.size,h.kept.block⟩,h.next,Nat.min_le_left _ _,fun b hb hl=>?_,h.SF⟩;exact h.same b hb (dG hl (Nat.min_le_right _ _))
theorem jy {n m:Nat} (h:n<=m):∀ (c:Code),codeOk n c=true->codeOk m c=true
 | .region id ops d,hc=>by
  simp only [codeOk,dS] at hc ⊢;intro o ho;have:=hc o ho;unfold tF at this ⊢;split at this
  ·rename_i d e
   rw [b8] at this ⊢;omega
  ·rfl
 | .seq a b,hc=>by simp only [codeOk,aj] at hc ⊢; exact ⟨jy h a hc.1,jy h b hc.2⟩
 | .cond _ a b,hc=>by simp only [codeOk,aj] at hc ⊢; exact ⟨jy h a hc.1,jy h b hc.2⟩
 | .block _ a,hc=>jy h a hc
 | .loop a,hc=>jy h a hc
 | .rangeFunc _ ps a b,hc=>by
  simp only [codeOk,aj,dS,b8] at hc ⊢;exact ⟨fun p hp=>dG (hc.1 p hp) h,jy h a hc.2.1,jy h b hc.2.2⟩
 | .scope a,hc=>jy h a hc
 | .skip,_ | .exit _,_ | .label _,_ | .goto _,_ | .ret,_ | .refuse _,_=>rfl
theorem Lo {P:Program} {fn:Func} {tmps:Array Value} {R:Ending->World->Prop} {ρ ak:Ren} {A B:St} {base:Nat} {w0:World} :
  ∀ (Ds:List Nat) {w:World},(∀ D∈Ds,w0.heap.size<=D/\base<=D/\w.heap[D]? = some (.deferred (some []))/\¬ EO ak B D)->Ds.Nodup->cq base ρ A w0 ak B w->
   (∀ w',cq base ρ A w0 ak B w'->LeavesIn Fence.wide 0 P fn tmps R [] .returning w')->LeavesInM Fence.wide 0 P fn tmps R (Ds.map mark) .returning w
 | [],w,_,_,hg,h=>h w hg
 | D::Ds,w,hD,hn,hg,h=>by
  obtain ⟨h1,h2,h3,h4⟩:=hD D (by simp);rw [List.nodup_cons] at hn;refine ⟨by simp,.inl ⟨D,w.putObj D (.deferred none),rfl,run_takeDeferred h3,Lo Ds (fun E hE=>?_) hn.2 (adw hg h1 h2 h4 _) h⟩⟩;obtain ⟨k1,k2,k3,k4⟩:=hD E (by simp [hE]);exact ⟨k1,k2,by rw [World.putObj_heap_other (fun e=>hn.1 (by rw [<- e]; exact hE))]; exact k3,k4⟩
theorem aa4 {P:Program} {call:cZ} (dR:rE P call) (hm:P.follows .mixedOrders=true) (L:Nat) {f:FuncId} {fn:Func} {c:Code} {args:List Value} {A B:St} {v:Value} (hf:P.funcs[f]? = some fn) (hb:fn.body=some c) (bL:codeOk fn.ntmps c=true)
  (h:TQ P call L fn args A c=some (v,B)) {ρ:Ren} {bM:List Value} {base:Nat} {w:World} (hv:cD ρ args bM) (hs:iv ρ A base w) :
  Calls P f bM.toArray w fun e w'=>∃ ak v',e = .returned v'/\VR ak v v'/\cq base ρ A w ak B w':=by
 refine callsIn_wide.1 (callsIn_of_wp_marks (F:=Fence.wide) (n:=0) hf hb trivial ?_);have hlen:bM.length=args.length:=hv.length;have NX:iv ρ A.enter base w:=⟨hs.rel,hs.fZ,hs.size,hs.lK⟩
 have ht:TR ρ (zb args 0 .leaf) (max fn.ntmps args.length) { tmps:=bM.toArray++Array.replicate (fn.ntmps - bM.toArray.size) undef,defers:=[] }:=by
  have cS:(bM.toArray++Array.replicate (fn.ntmps - bM.toArray.size) undef).size=max fn.ntmps args.length:=by
   simp [hlen];omega
  refine ⟨cS,fun i=>?_,fun i hi=>?_,hs.lK⟩
  ·rw [Gf]
   simp only [mf,true_and,bF,Nat.sub_zero,Trie.Bj];by_cases hi:i < args.length
   ·rw [ax hi]
    obtain ⟨u,hu⟩:∃ u,args[i]? = some u:=⟨_,cl hi⟩
    obtain ⟨u',h1,h2⟩:=hv.get hu;rw [hu];have:(bM.toArray++Array.replicate (fn.ntmps - bM.toArray.size) undef).getD i undef=u':=by
     rw [dF,Array.getElem?_append_left (by simpa [hlen] using hi)];simp [h1]
    rw [this];exact h2
   ·rw [ae hi]
    have:(bM.toArray++Array.replicate (fn.ntmps - bM.toArray.size) undef).getD i undef=undef:=by
     rw [dF,Array.getElem?_append_right (by simpa [hlen] using hi)];rw [Array.getElem?_replicate];split <;> rfl
    rw [this];exact VR.undef
  ·rw [Gf,ae,Trie.Bj]
   simp only [mf,true_and,bF];have:=Nat.le_max_right fn.ntmps args.length;omega
 have RK:codeOk (max fn.ntmps args.length) c=true:=jy (Nat.le_max_left _ _) c bL;rw [agy] at h;split at h
 ·simp at h
 ·simp at h
 ·rename_i e t B' bA ais hc
  obtain ⟨vs,hr,he⟩:=aU.1 h;simp at he;obtain ⟨rfl,rfl⟩:=he;refine ky dR hm L _ c RK none _ _ _ _ _ ρ base _ w _ (.inl rfl) hc ht NX fun ak a' w' wB xI hg=>?_;obtain ⟨Ds,hD1,hD2,hD3⟩:=xI;have hD1:a'.defers=Ds.map mark:=by simpa using hD1
  have ae1:LeavesInM Fence.wide 0 P fn a'.tmps (fun e w'=>∃ ak v',e = .returned v'/\VR ak (qc vs) v'/\cq base ρ A w ak (A.leave B' (qc vs)) w') a'.defers .returning w':=by
   rw [hD1];refine Lo Ds (fun D hD=>⟨(hD2 D hD).1,dx hs.size (hD2 D hD).1,(hD2 D hD).2⟩) hD3 hg fun w' hg=>?_;obtain ⟨bw,h1,h2⟩:=BN (P:=P) hg.dI wB _ _ hr;have al9:VR ak (qc vs) (if h:bw.toArray.size=1 then bw.toArray[0] else .tuple bw.toArray):=by
    cases vs with
    | nil=>rw [h1.bz]; exact VR.mkTuple .nil
    | cons x xs=>
     obtain ⟨y,ys,rfl,h3,h4⟩:=h1.cons_inv;cases xs with
     | nil=>rw [h4.bz]; exact h3
     | cons x2 xs2=>
      obtain ⟨y2,ys2,rfl,h5,h6⟩:=h4.cons_inv;rw [dif_neg (by simp)];exact VR.mkTuple (.cons h3 (.cons h5 h6))
   obtain ⟨mF,h3,h4⟩:=hg.leave hs al9;have C7:(results fn a'.tmps).run P w' = .ok (if h:bw.toArray.size=1 then bw.toArray[0] else .tuple bw.toArray) w':=by
    rw [Iv,Sem.run_bind,Array.mapM_eq_mapM_toList,Sem.run_map,h2];rfl
   exact ⟨_,C7,mF,_,rfl,h3,h4⟩
  cases e with
  | normal=>exact ae1
  | ret=>exact ae1
  | exit id=>exact (bA id rfl).elim
  | goto l=>exact (ais l rfl).elim
 ·simp at h
theorem XI {ρ:Ren} {N:Nat} : ∀ (ps:List Nat) (vs bw:List Value) (t:Tm) (tmps:Array Value),ps.all (fun p=>Nat.blt p N)=true->cD ρ vs bw->TR ρ t N { tmps:=tmps,defers:=[] }->
  TR ρ (L3 ps vs t) N { tmps:=(ps.zip bw).foldl (fun t (p,v)=>t.setIfInBounds p v) tmps,defers:=[] }
 | [],vs,bw,t,tmps,_,_,h=>by simpa [L3] using h
 | p::ps,[],bw,t,tmps,_,hv,h=>by rw [hv.bz]; simpa [L3] using h
 | p::ps,v::vs,bw,t,tmps,hp,hv,h=>by
  obtain ⟨v',ws',rfl,h1,h2⟩:=hv.cons_inv;rw [List.all_cons,aj,b8] at hp;simp only [L3,List.zip_cons_cons,List.foldl_cons];refine XI ps vs ws' (t.set v p) (tmps.setIfInBounds p v') hp.2 h2 ?_;have:=h.put (dst:=some p) (fun d e=>by have e:p=d:=wa e; rw [<- e]; exact hp.1) h1;exact this
theorem Y9 {P:Program} {call:cZ} (dR:rE P call) (hm:P.follows .mixedOrders=true) (L:Nat) {l:Nat} {args:List Value} {A B:St} {v:Value} (h:Te (fun c t A=>jr P call L c t A) l args A=some (v,B))
  {ρ:Ren} {bM:List Value} {base:Nat} {w:World} (hv:cD ρ args bM) (hs:iv ρ A base w) {loc:Loc} (hl:ρ l=some loc) :
  Round P loc.cb bM.toArray w fun e w'=>∃ ak v',e = .returned v'/\VR ak v v'/\cq base ρ A w ak B w':=by
 unfold Te at h;split at h
 ·rename_i st e0 t ps assign body fA
  cases hb:Nat.beq ps.length args.length with
  | false=>rw [hb] at h; simp at h
  | true=>
   rw [hb,ah] at h;have hlen:=aE hb;obtain ⟨fn,tmps,D,N,lN,htm⟩:=(hs.Ox fA hl).gF;obtain ⟨hcp,hca,vW,zQ,hnb⟩:=htm.adi;split at h
   ·rename_i t1 A1 ait
    obtain ⟨A2,aa5,h⟩:=aO.1 h;obtain ⟨⟨e,t2,A3⟩,ady,Ar⟩:=aO.1 h;have hy:=run_yield (P:=P) (args:=bM.toArray) lN (by simp [hlen,hv.length]);refine ⟨fn,_,assign,body,hy,roundIn_of_wpIn (F:=Fence.wide) (n:=0) trivial ?_⟩;have Y0:TR ρ (L3 ps args t) N { tmps:=(ps.toArray.zip bM.toArray).foldl (fun t (p,v)=>t.setIfInBounds p v) tmps,defers:=[] }:=by
     have:=XI ps args bM t tmps hcp hv ⟨htm.size,htm.val,htm.none,hs.lK⟩;rw [<- Array.foldl_toList];simpa using this
    refine ky dR hm L N assign hca (some loc.cb) _ t1 A A1 .normal ρ base _ w _ (.inr zQ) ait Y0 hs fun fH a1 w1 AU _ Oy=>?_;have AL:fH l=some loc:=Oy.le hs _ _ hl;unfold aeR at aa5;split at aa5
    ·rename_i e1 t0 ps1 as1 bo1 aiu
     simp only [aR] at aa5;subst aa5;have alf:=Oy.dI.Ox aiu AL;obtain ⟨fn1,aiv,D1,N1,ae2,am7⟩:=alf.gF;have am8:loc.cb < w1.heap.size:=(jh.1 ae2).1;refine ⟨_,run_beginRound ae2 rfl,?_⟩;have ye:cq base fH A1 w1 fH (A1.put l (.loop 1 e1 t0 ps1 as1 bo1)) (w1.putObj loc.cb (.loop { state:=.busy,pending:=e1.code,fn:=fn1,tmps:=aiv,params:=ps1.toArray,assign:=as1,body:=bo1,defers:=D1 })):=
      DS Oy.dI aiu AL (.loop 1 e1 t0 ps1 as1 bo1) _ rfl fun _=>⟨alf.ct,fn1,aiv,D1,N1,World.putObj_heap_same am8,am7⟩
     refine ky dR hm L N body vW (some loc.cb) t1 t2 _ A3 e fH base a1 _ _ (.inr hnb) ady AU ye.dI fun Qp a3 w3 _ _ hg3=>?_;have WR:Qp l=some loc:=hg3.le ye.dI _ _ AL;have gV:=(Oy.trans ye).trans hg3;unfold TL at Ar;split at Ar
     ·rename_i e4 t4 ps4 as4 bo4 aiw
      have alg:=hg3.dI.Ox aiw WR;obtain ⟨fn4,ama,D4,N4,ae3,am9⟩:=alg.gF;have ana:loc.cb < w3.heap.size:=(jh.1 ae3).1;have fin:∀ (e:aa),∃ w4,(Instr.endRound loc.cb e.code).run P w3 = .ok (.bool e.code.isNone) w4/\cq base Qp A3 w3 Qp (A3.put l (.loop (if e.code.isNone then 0 else 2) e t4 ps4 as4 bo4)) w4:=by
       intro e;refine ⟨_,run_endRound e.code ae3,?_⟩;refine DS hg3.dI aiw WR (.loop (if e.code.isNone then 0 else 2) e t4 ps4 as4 bo4) _ rfl fun _=>⟨alg.ct,fn4,ama,D4,N4,?_,am9⟩
       rw [World.putObj_heap_same ana];cases e <;> rfl
      obtain ⟨w4,h8,h9⟩:=fin e;cases e with
      | normal=>
       simp only [aR,bG] at Ar;obtain ⟨rfl,rfl⟩:=Ar;exact ⟨_,w4,h8,Qp,_,rfl,by simp [VR,aa.code],gV.trans h9⟩
      | exit id=>
       simp only [aR,bG] at Ar;obtain ⟨rfl,rfl⟩:=Ar;exact ⟨_,w4,h8,Qp,_,rfl,by simp [VR,aa.code],gV.trans h9⟩
      | goto id=>
       simp only [aR,bG] at Ar;obtain ⟨rfl,rfl⟩:=Ar;exact ⟨_,w4,h8,Qp,_,rfl,by simp [VR,aa.code],gV.trans h9⟩
      | ret=>
       simp only [aR,bG] at Ar;obtain ⟨rfl,rfl⟩:=Ar;exact ⟨_,w4,h8,Qp,_,rfl,by simp [VR,aa.code],gV.trans h9⟩
     ·simp at Ar
    ·simp at aa5
   ·simp at h
 ·simp at h
def J2 (P:Program) (S:Told):Prop:=∀ f g,S f=some g->∀ args A v B,g args A=some (v,B)->
 (∃ fn, P.funcs[f]? = some fn ∧ fn.body.isSome = true ∧ (fn.name == "runtime.NumGoroutine") = false) ∧
  ∀ ρ bM base w,cD ρ args bM->iv ρ A base w->Calls P f bM.toArray w fun e w'=>∃ ak v',e = .returned v'/\VR ak v v'/\cq base ρ A w ak B w'
theorem C9 {P:Program} {S:Told} (hS:J2 P S) (hP:P.funcs.toList.all gq=true) (hm:P.follows .mixedOrders=true) (L:Nat):∀ n,rE P (H6 P S L n)
 | 0=>fun f args A v B h=>by simp [aaQ] at h
 | n+1=>fun f args A v B h=>by
  simp only [aaR] at h;cases hb:Nat.blt f yB with
  | false=>
   rw [hb,ay] at h;exact ⟨fun h=>by simp at h,fun ρ bM base w hv hs=>⟨fun h=>by simp at h,fun _ loc hl=>Y9 (C9 hS hP hm L n) hm L h hv hs hl⟩⟩
  | true=>
  rw [hb,ah] at h;split at h
  ·rename_i g hg
   obtain ⟨h1,h2⟩:=hS f g hg args A v B h;exact ⟨fun _=>h1,fun ρ bM base w hv hs=>⟨fun _=>h2 ρ bM base w hv hs,fun h=>by simp at h⟩⟩
  ·obtain ⟨fn,hf,h⟩:=aO.1 h
   obtain ⟨c,hb,h⟩:=aO.1 h;have SQ:P.funcs[f]? = some fn:=by simpa using hf
   have bL:=dS.1 hP fn (eW hf);unfold gq at bL;rw [hb] at bL;simp only [aj,iA] at bL;exact ⟨fun _=>⟨fn,SQ,by simp [hb],bL.2⟩,fun ρ bM base w hv hs=>⟨fun _=>aa4 (C9 hS hP hm L n) hm L SQ hb bL.1 h hv hs,fun h=>by simp at h⟩⟩
def BO (gl:List (Nat×List Value×Nat)) (b:Nat):Option Loc:=if b < gB then some (match gl.find? (fun x=>Nat.beq x.1 b) with | some x=>⟨b,0,x.2.1.length,x.2.2⟩ | none=>⟨b,0,0,0⟩) else none
theorem WS (gl:List (Nat×List Value×Nat)):NR (BO gl):=fun g hg=>by
 unfold BO;rw [ax hg];split <;> exact ⟨_,rfl,rfl,rfl⟩
theorem Mj:∀ (gl:List (Nat×List Value×Nat)) (b:Nat),(L5 gl).get b=match gl.find? (fun x=>Nat.beq x.1 b) with | some x=>some (.row x.2.1 x.2.2 false none) | none=>none
 | [],b=>by simp [L5]
 | (g,cs,e)::gl,b=>by
  simp only [L5,Trie.iY,List.find?_cons];cases hb:Nat.beq g b with
  | true=>simp [aE hb]
  | false=>rw [ae (fun e=>by subst e; simp at hb)]; exact Mj gl b
def ae4 (w:World) (gl:List (Nat×List Value×Nat)):Prop:=∀ x∈gl,x.1 < gB/\x.1 < w.heap.size/\x.2.1.all (fun v=>flat v&&scalar v)=true/\∀ i v,x.2.1[i]? = some v->w.cell? ⟨x.1,i,none⟩=some v
theorem iv.RL {w:World} {gl:List (Nat×List Value×Nat)} (h:ae4 w gl):iv (BO gl) (St.lK gl) w.heap.size w:=by
 have hg:∀ b o,(St.lK gl).get b=some o->∃ x∈gl,x.1=b/\gl.find? (fun x=>Nat.beq x.1 b)=some x/\o = .row x.2.1 x.2.2 false none:=by
  intro b o e;have e:(L5 gl).get b=some o:=e;rw [Mj] at e;split at e
  ·rename_i x hx
   simp at e;have:=List.find?_some hx;exact ⟨x,List.mem_of_find?_eq_some hx,aE this,hx,e.symm⟩
  ·simp at e
 refine ⟨⟨fun b cs aQ own aZ e=>?_,fun b es e=>?_,fun b s pos e=>?_,fun b st ex t ps c d e=>?_,fun b1 b2 o1 o2 l1 l2 _ e1 _ m=>?_,fun b o aF f e k=>?_⟩,fun b l e=>?_,ao _,WS gl⟩
 ·obtain ⟨x,hx,rfl,hf,he⟩:=hg _ _ e
  simp at he;obtain ⟨rfl,rfl,rfl,rfl⟩:=he;obtain ⟨h1,h2,h3,h4⟩:=h x hx;refine ⟨⟨x.1,0,x.2.1.length,x.2.2⟩,by unfold BO; rw [ax h1,hf],⟨fun i v hi=>?_,fun _=>h2,fun h=>by simp at h,fun h=>by simp at h,by simp,fun h=>by simp at h,rfl,h2,fun h=>by simp at h⟩⟩;have:=dS.1 h3 v (eW hi);simp only [aj] at this;exact ⟨v,by simpa using h4 i v hi,VR.of_flat this.1,this.2⟩
 ·obtain ⟨x,_,_,_,he⟩:=hg _ _ e; simp at he
 ·obtain ⟨x,_,_,_,he⟩:=hg _ _ e; simp at he
 ·obtain ⟨x,_,_,_,he⟩:=hg _ _ e; simp at he
 ·obtain ⟨x,_,_,_,he⟩:=hg _ _ e1; subst he; simp [aY.ct] at m
 ·obtain ⟨x,_,_,_,he⟩:=hg _ _ e; subst he; simp [aY.hO] at k
 ·unfold BO at e
  split at e
  ·rename_i hb; exact hb
  ·simp at e
theorem iv.empty (w:World):iv (BO []) St.empty w.heap.size w:=iv.RL (gl:=[]) (fun _ h=>by simp at h)
theorem Qq {P:Program} {S:Told} (hS:J2 P S) (hP:P.funcs.toList.all gq=true) (hm:P.follows .mixedOrders=true) {L n:Nat} {f:FuncId} {gl:List (Nat×List Value×Nat)} (h:EL (H6 P S L n f [] (St.lK gl))=true) {w:World} (hw:ae4 w gl) (hf:Nat.blt f yB=true:=by rfl) :
  Calls P f #[] w fun e w'=>e = .returned (.bool true)/\RowKit.Below w.heap.size w w':=by
 unfold EL at h;split at h
 ·rename_i b B hc
  subst h;refine (((C9 hS hP hm L n _ _ _ _ _ hc).2 _ [] w.heap.size w .nil (.RL hw)).1 hf).mono ?_;rintro e w' ⟨ak,v',rfl,hv,hg⟩;refine ⟨by rw [hv.dq],hg.kept.os,hg.kept.tape,hg.kept.output,hg.kept.size,fun k hk=>hg.kept.block k hk ?_⟩;rintro ⟨b,o,l,ho,hm,_⟩;have ho:(L5 gl).get b=some o:=ho;rw [Mj] at ho;split at ho
  ·simp at ho; subst ho; simp [aY.ct] at hm
  ·simp at ho
 ·simp at h
theorem aa6 {P:Program} {S:Told} (hS:J2 P S) (hP:P.funcs.toList.all gq=true) (hm:P.follows .mixedOrders=true) {L n:Nat} {f:FuncId} (h:EL (H6 P S L n f [] St.empty)=true) (w:World) (hf:Nat.blt f yB=true:=by rfl) :
  Calls P f #[] w fun e w'=>e = .returned (.bool true)/\RowKit.Below w.heap.size w w':=
 Qq (gl:=[]) hS hP hm h (fun _ h=>by simp at h) hf
end
end Go.aA
end
section
namespace Go.K
open Go Go.aA
noncomputable section
inductive Mk where
 | any
 | exact
 | aF (b:Nat)
inductive KV where
 | int (k:IntKind) (n:Int)
 | bool (b:Bool)
 | str (s:ByteArray)
 | agg (cs:List KV)
 | nh (vs:List KV)
 | ts (T:TypeId) (m:Mk) (n:Nat) (es:List KV) (acc:Nat->KV)
 | tp (T Tc:TypeId) (i k:Nat) (es:List KV) (acc:Nat->KV)
 | al (T:TypeId) (b o n:Nat)
 | ap (T Tc:TypeId) (b i k:Nat)
 | ptr (b off:Nat)
 | sl (b off len cap:Nat)
 | Au
 | je
 | wF
 | map (b:Nat)
 | fn (f:Fn) (first cap:List KV)
 | BP
 | iface (t:TypeId) (v:KV)
 | BQ
 | bx
instance:Inhabited KV:=⟨.bx⟩
inductive gJ where
 | row (cs:List KV) (aQ:Nat)
 | map (es:List (KV×KV))
 | aF (top sz:Nat)
 | arr (v:KV)
 | iI (v:KV)
 | dead
structure ai where
 heap:Trie gJ
 next:Nat
def ai.empty:ai:=⟨.leaf,0⟩
def ai.get (A:ai) (b:Nat):Option gJ:=A.heap.get b
def ai.new (A:ai) (o:gJ):ai:=⟨A.heap.set o A.next,Nat.succ A.next⟩
def ai.put (A:ai) (b:Nat) (o:gJ):ai:=⟨A.heap.set o b,A.next⟩
abbrev bI:=Trie KV
def gK {α:Type} : List (Nat×α)->Trie α
 | []=>.leaf
 | p::ps=>(gK ps).set p.2 p.1
def KV.cells:KV->List KV
 | .agg cs=>cs
 | v=>[v]
def one:KV->Bool
 | .agg _ | .nh _ | .bx=>false
 | _=>true
def uC:KV:=.nh []
inductive KR (α:Type) where
 | no
 | ok (v:α)
 | iJ (c:Bool) (v:α)
 | br (c:Bool) (x y:KR α)
def KR.run {α R:Type} (r:KR α) (k:α->Option R):Option R:=
 KR.rec (motive:=fun _=>Option R) none (fun v=>k v) (fun c v=>Bool.rec (motive:=fun _=>Option R) none (k v) c) (fun c _ _ rx ry=>Bool.rec (motive:=fun _=>Option R) ry rx c) r
def KR.map {α β:Type} (f:α->β):KR α->KR β
 | .no=>.no
 | .ok v=>.ok (f v)
 | .iJ c v=>.iJ c (f v)
 | .br c x y=>.br c (x.map f) (y.map f)
def KR.of {α:Type} : Option α->KR α
 | some v=>.ok v
 | none=>.no
inductive CK where
 | int (k:IntKind)
 | bool
 | str
 | slice (t:TypeId)
 | other
structure Lay where
 agg:Bool
 ks:List CK
def cM {α:Type} (l:List α):Nat->List α
 | 0=>[]
 | n+1=>l++cM l n
def Iw (f:TypeId->Option Lay):List Field->Nat->Option (List CK)
 | [],_=>some []
 | fd::fs,off=>cond (Nat.beq fd.offset off) ((f fd.type).bind fun l=>(Iw f fs (off+l.ks.length)).map fun r=>l.ks++r) none
def lay (P:Program):Nat->TypeId->Option Lay
 | 0,_=>none
 | n+1,t=>match P.underlying t with
  | some (.int k)=>some ⟨false,[.int k]⟩
  | some .bool=>some ⟨false,[.bool]⟩
  | some .string=>some ⟨false,[.str]⟩
  | some (.slice e)=>some ⟨false,[.slice e]⟩
  | some (.struct fs)=>(Iw (lay P n) fs.toList 0).map fun ks=>⟨true,ks⟩
  | some (.array len e)=>(lay P n e).map fun l=>⟨true,cM l.ks len⟩
  | some _=>some ⟨false,[.other]⟩
  | none=>none
def aH (P:Program) (t:TypeId):Lay:=(lay P 12 t).getD ⟨false,[]⟩
def kindOk:CK->KV->Bool
 | .int k,.int k' _=>decide (k=k')
 | .bool,.bool _=>true
 | .str,.str _=>true
 | .slice t,.ts t' .any _ _ _=>Nat.beq t t'
 | _,_=>false
def aq:List CK->List KV->Bool
 | [],[]=>true
 | k::ks,v::vs=>kindOk k v&&aq ks vs
 | _,_=>false
def cf (l:Lay):KV->Bool
 | .agg cs=>l.agg&&aq l.ks cs
 | .nh _=>false
 | v=>!l.agg&&aq l.ks [v]
def dn (l:Lay):List KV->Bool
 | []=>true
 | e::es=>cf l e&&dn l es
def av:KV->Int
 | .int _ n=>n
 | _=>0
def j6:KV->Bool
 | .bool b=>b
 | _=>false
def strOf:KV->ByteArray
 | .str s=>s
 | _=>ByteArray.empty
def anb:KV->List KV
 | .ts _ _ _ es _=>es
 | _=>[]
def lenOf:KV->Nat
 | .ts _ _ n _ _=>n
 | _=>0
def tG:KV->Nat->KV
 | .ts _ _ _ _ acc=>acc
 | _=>fun _=>.bx
def leaf (c:CK) (v:KV):KV:=
 CK.rec (motive:=fun _=>KV) (fun k=>.int k (av v)) (.bool (j6 v)) (.str (strOf v)) (fun t=>.ts t .any (lenOf v) (anb v) (tG v)) v c
def leaves (e:KV):List CK->Nat->List KV
 | [],_=>[]
 | c::cs,k=>leaf c (e.cells.getD k .bx)::leaves e cs (Nat.succ k)
def HI (agg:Bool) (cs:List KV):KV:=Bool.rec (motive:=fun _=>KV) (cs.headD .bx) (.agg cs) agg
def Gh:List CK->Bool
 | []=>true
 | .other::_=>false
 | _::cs=>Gh cs
mutual
def fC:Value->KV
 | .bool b=>.bool b
 | .int k n=>.int k n
 | .string s=>.str s
 | .pointer none=>.Au
 | .slice none 0 0=>.je
 | .map none=>.wF
 | .nilFunc=>.BP
 | .nilIface=>.BQ
 | .agg cs=>.agg (ofA cs)
 | .tuple cs=>.nh (ofA cs)
 | _=>.bx
def ofA:Array Value->List KV
 | ⟨l⟩=>ofL l
def ofL:List Value->List KV
 | []=>[]
 | v::vs=>fC v::ofL vs
end
abbrev FP:=List KV->KR KV
abbrev FR:=ai->List KV->KR KV
abbrev FA:=ai->List KV->KR (KV×ai)
inductive oV where
 | pure (f:FP) (xs:List Operand)
 | read (f:FR) (xs:List Operand)
 | act (f:FA) (xs:List Operand)
 | look (f:FP) (xs:List Operand)
 | DT (g:FuncId) (f:List KV->KR KV) (xs:List Operand)
 | DU (g:FuncId) (f:List KV->KR KV) (xs:List Operand)
 | call (f:Operand) (args:List Operand)
 | bad
def Za:FP
 | [x]=>.ok x
 | _=>.no
def Zb:FP
 | [.bool b]=>.br b (.ok (.bool true)) (.ok (.bool false))
 | [x]=>.ok x
 | _=>.no
def adz:FP
 | [.bool t,.bool a,.bool b]=>.ok (.bool (cond t a b))
 | [.bool t,a,b]=>.ok (cond t a b)
 | _=>.no
def jk:List KV->Bool
 | []=>true
 | v::vs=>one v&&jk vs
def r5 {α:Type} : Nat->List α->Option (List α)
 | 0,_=>some []
 | _+1,[]=>none
 | n+1,x::xs=>(r5 n xs).map (x::·)
def yf {α:Type} : Nat->List α->List α
 | 0,l=>l
 | _+1,[]=>[]
 | n+1,_::xs=>yf n xs
def jz {α:Type} : Nat->List α->List α->Option (List α)
 | 0,l,[]=>some l
 | 0,[],_::_=>none
 | 0,_::l,v::vs=>(jz 0 l vs).map (v::·)
 | _+1,[],[]=>some []
 | _+1,[],_::_=>none
 | n+1,x::l,vs=>(jz n l vs).map (x::·)
def RM (n:Nat) (z:List KV):FA:=fun A _=>.ok (.ptr A.next 0,A.new (.row z n))
def pd (P:Program) (t:TypeId):oV:=
 match tE P t with
 | some z=>cond (flat z&&z.cells.toList.all scalar&&jk (fC z).cells) (.act (RM (uY P t) (fC z).cells) []) .bad
 | none=>.bad
def aa7 (n:Nat):FA:=fun A xs=>
 match xs with
 | [v]=>cond (jk v.cells) (.ok (.ptr A.next 0,A.new (.row v.cells n))) .no
 | _=>.no
def Qr (place:Nat->Option (Nat×Nat)):List KV->List (Nat×KV)->Option (List KV)
 | cells,[]=>some cells
 | cells,(i,v)::rest=>
  match place i with
  | some (off,size)=>cond (Nat.beq v.cells.length size&&Nat.ble 1 size) ((jz off cells v.cells).bind fun cs=>Qr place cs rest) none
  | none=>none
def tC:List Nat->List KV->List (Nat×KV)
 | i::is,v::vs=>(i,v)::tC is vs
 | _,_=>[]
def rF:KV->Bool
 | .bx=>false
 | _=>true
def J3 (place:Nat->Option (Nat×Nat)) (z:List KV) (is:List Nat):FP:=fun vs=>
 match Qr place z (tC is vs) with
 | some cs=>cond (vs.all rF) (.ok (.agg cs)) .no
 | none=>.no
def qj (P:Program) (t:TypeId) (is:List Nat) (xs:List Operand):oV:=
 match tE P t,P.underlying t with
 | some z,some (.struct fields)=>
  match placesOf P fields.toList with
  | some l=>cond (flat z&&jk (fC z).cells) (.pure (J3 (NF l) (fC z).cells is) xs) .bad
  | none=>.bad
 | some z,some (.array _ e)=>
  match size? P e with
  | some n=>cond (flat z&&jk (fC z).cells) (.pure (J3 (vC n) (fC z).cells is) xs) .bad
  | none=>.bad
 | _,_=>.bad
def mI:Nat->KV:=fun _=>.bx
def qk (es:List KV):Nat->KV:=fun i=>es.getD i .bx
def kO (c:CK) (v:KV):KV:=
 match c,v with
 | .slice t,.je=>.ts t .any 0 [] mI
 | .slice t,.ts t' _ n es acc=>cond (Nat.beq t t') (.ts t .any n es acc) .bx
 | c,v=>cond (kindOk c v) v .bx
def wG:List CK->List KV->List KV
 | c::cs,v::vs=>kO c v::wG cs vs
 | _,_=>[]
def dv (l:Lay) (v:KV):KV:=
 match v with
 | .agg cs=>cond (l.agg&&Nat.beq cs.length l.ks.length) (.agg (wG l.ks cs)) .bx
 | v=>cond l.agg .bx (match l.ks with
  | [c]=>kO c v
  | _=>.bx)
def setAt (es:List KV) (i:Nat) (v:KV):List KV:=
 match i,es with
 | 0,_::es=>v::es
 | n+1,e::es=>e::setAt es n v
 | _,[]=>[]
def zR (es:List KV):List (Nat×KV)->List KV
 | []=>es
 | (i,v)::rest=>zR (setAt es i v) rest
def Ix (l:Lay) (e:TypeId) (z:KV) (len:Nat) (is:List Nat):FP:=fun vs=>
 let es:=zR (cM [z] len) ((tC is vs).map fun p=>(p.1,dv l p.2))
 cond (vs.all rF&&dn l (vs.map (dv l))&&dn l es) (.ok (.ts e .exact len es (qk es))) .no
def Ml (l:Lay) (e:TypeId) (z:KV) (len:Nat) (is:List Nat):FA:=fun A vs=>
 let es:=zR (cM [z] len) ((tC is vs).map fun p=>(p.1,dv l p.2))
 cond (vs.all rF&&dn l (vs.map (dv l))&&dn l es) (.ok (.al e A.next 0 len,A.new (.arr (.ts e .any len es (qk es))))) .no
def yg (n:Nat):List Nat->Bool
 | []=>true
 | i::is=>Nat.blt i n&&yg n is
def Mm (n:Nat) (z:List KV) (len:Nat) (is:List Nat):FA:=fun A vs=>
 match Qr (vC n) (cM z len) (tC is vs) with
 | some cs=>cond (vs.all rF&&jk cs) (.ok (.sl A.next 0 len len,A.new (.row cs n))) .no
 | none=>.no
def jB (P:Program) (mt:TypeId->Bool) (t:TypeId) (len:Nat) (is:List Nat) (xs:List Operand):oV:=
 match P.underlying t with
 | some (.slice e)=>
  match P.info? e,tE P e with
  | some i,some z=>cond (Nat.ble (len * i.size) 16777216&&Nat.beq z.cells.size i.size&&Nat.ble 1 i.size&&flat z&&Nat.beq (aH P e).ks.length i.size&&yg len is)
    (cond (Gh (aH P e).ks) (cond (mt (e+3000000)) (.act (Ml (aH P e) e (dv (aH P e) (fC z)) len is) xs) (.look (Ix (aH P e) e (dv (aH P e) (fC z)) len is) xs)) (cond (jk (fC z).cells) (.act (Mm i.size (fC z).cells len is) xs) .bad)) .bad
  | _,_=>.bad
 | _=>.bad
def rowAt (A:ai) (b:Nat):Option (List KV):=
 match A.get b with
 | some (.row cs _)=>some cs
 | _=>none
def DV (A:ai) (b:Nat):Option KV:=
 match A.get b with
 | some (.arr v)=>some v
 | some (.iI v)=>some v
 | _=>none
def Tf (P:Program) (t Tc:TypeId):Bool:=Nat.beq Tc t&&Gh (aH P t).ks&&decide (HR P t=some (aH P t).agg)&&decide (size? P t=some (aH P t).ks.length)&&((aH P t).agg||Nat.beq (aH P t).ks.length 1)
def putCells (P:Program) (T:TypeId) (k:Nat) (e:KV) (vs:List KV):Option KV:=(jz k (leaves e (aH P T).ks 0) vs).map fun cs=>HI (aH P T).agg cs
def uD (acc:Nat->KV) (i:Nat) (v:KV):Nat->KV:=fun j=>cond (Nat.beq j i) v (acc j)
def ae5 (T:TypeId) (n i:Nat) (es:List KV) (acc:Nat->KV) (e:KV):KV:=.ts T .any n (setAt es i e) (uD acc i e)
def Qs (P:Program) (t:TypeId):FR:=fun A xs=>
 match xs with
 | [.ptr b off]=>
  match HR P t,size? P t with
  | some ag,some n=>match (rowAt A b).bind fun cs=>r5 n (yf off cs) with
   | some l=>cond ag (.ok (.agg l)) (match l with | [v]=>.ok v | _=>.no)
   | none=>.no
  | _,_=>.no
 | [.tp _ Tc i k _ acc]=>
  cond (Tf P t Tc) (.ok (HI (aH P t).agg (leaves (acc i) (aH P t).ks k))) .no
 | [.ap T Tc b i k]=>match DV A b with
  | some (.ts T' _ _ _ acc)=>cond (Nat.beq T T'&&Tf P t Tc) (.ok (HI (aH P t).agg (leaves (acc i) (aH P t).ks k))) .no
  | _=>.no
 | _=>.no
def Oz (P:Program) (t:TypeId):FA:=fun A xs=>
 match xs with
 | [.ptr b off,v]=>
  cond (decide (some v.cells.length=size? P t)&&jk v.cells)
   (match A.get b with
   | some (.row cs aQ)=>match jz off cs v.cells with
    | some b5=>.ok (uC,A.put b (.row b5 aQ))
    | none=>.no
   | _=>.no) .no
 | [.ap T Tc b i k,v]=>
  match A.get b with
  | some (.arr (.ts T' _ n es acc))=>
   cond (Nat.beq T T'&&Nat.beq Tc t&&cf (aH P t) (dv (aH P t) v)&&decide (size? P t=some (aH P t).ks.length))
    (match putCells P T k (acc i) (dv (aH P t) v).cells with
    | some e=>.ok (uC,A.put b (.arr (ae5 T n i es acc e)))
    | none=>.no) .no
  | _=>.no
 | _=>.no
def Um:FP
 | [.ptr b off]=>.ok (.ptr b off)
 | [.tp T Tc i k es acc]=>.ok (.tp T Tc i k es acc)
 | [.ap T Tc b i k]=>.ok (.ap T Tc b i k)
 | [.fn (.func f) first cap]=>.ok (.fn (.func f) first cap)
 | _=>.no
abbrev anc (k:IntKind) (a b:Int):Nat:=(BitVec.ofInt k.bits a &&& BitVec.ofInt k.bits b).toNat
abbrev bOr (k:IntKind) (a b:Int):Nat:=(BitVec.ofInt k.bits a ||| BitVec.ofInt k.bits b).toNat
abbrev ane (k:IntKind) (a b:Int):Nat:=(BitVec.ofInt k.bits a ^^^ BitVec.ofInt k.bits b).toNat
abbrev aiy (k:IntKind) (a b:Int):Nat:=(BitVec.ofInt k.bits a &&& ~~~ BitVec.ofInt k.bits b).toNat
def opI (op:BinOp) (k:IntKind) (a b:Int):KR KV:=
 match op with
 | .add=>.ok (.int k (k.wrap (a+b)))
 | .sub=>.ok (.int k (k.wrap (a - b)))
 | .mul=>.ok (.int k (k.wrap (a * b)))
 | .eql=>.ok (.bool (a==b))
 | .neq=>.ok (.bool (a != b))
 | .lss=>.ok (.bool (decide (a < b)))
 | .leq=>.ok (.bool (decide (a<=b)))
 | .gtr=>.ok (.bool (decide (a > b)))
 | .geq=>.ok (.bool (decide (a >= b)))
 | .quo=>.iJ (!(decide (b=0))) (.int k (k.wrap (a.tdiv b)))
 | .rem=>.iJ (!(decide (b=0))) (.int k (a.tmod b))
 | .and=>.ok (.int k (k.wrap (anc k a b)))
 | .or=>.ok (.int k (k.wrap (bOr k a b)))
 | .xor=>.ok (.int k (k.wrap (ane k a b)))
 | .andNot=>.ok (.int k (k.wrap (aiy k a b)))
 | _=>.no
def anf (op:BinOp) (k:IntKind) (a b:Int):KR KV:=
 match op with
 | .shl=>.iJ (!(decide (b < 0))) (.int k (k.wrap (a * 2 ^ (min b.toNat k.bits))))
 | .shr=>.iJ (!(decide (b < 0))) (.int k (a.fdiv (2 ^ (min b.toNat k.bits))))
 | _=>.no
def aa8:BinOp->Bool
 | .shl | .shr=>true
 | _=>false
def eqK:KV->KV->Option Bool
 | .int k a,.int k' b=>cond (decide (k=k')) (some (a==b)) none
 | .bool a,.bool b=>some (a==b)
 | .str a,.str b=>some (a==b)
 | _,_=>none
def pZ:List KV->List KV->Option Bool
 | [],[]=>some true
 | x::xs,y::ys=>match eqK x y,pZ xs ys with
  | some a,some b=>some (a&&b)
  | _,_=>none
 | _,_=>none
def Av (P:Program):Nat->TypeId->Bool
 | 0,_=>false
 | n+1,t=>(match P.info? t,lay P (n+1) t with
   | some i,some l=>Nat.beq i.size l.ks.length
   | _,_=>false)&&match P.underlying t with
  | some (.int _) | some .bool | some .string=>true
  | some (.struct fs) => !(P.stoodInHeld t) && fs.toList.all fun f => !(f.name == "_") && Av P n f.type
  | some (.array _ e)=>Av P n e
  | _=>false
def ae6 (P:Program) (t:TypeId) (x y:KV):Option Bool:=
 match x,y with
 | .agg xs,.agg ys=>cond ((aH P t).agg&&Av P 12 t&&!(P.eqGuardType P.depth t)&&aq (aH P t).ks xs&&aq (aH P t).ks ys) (pZ xs ys) none
 | .bool a,.bool b=>match P.underlying t with
  | some .bool=>some (a==b)
  | _=>none
 | .je,.je=>match P.underlying t with
  | some (.slice _)=>some true
  | _=>none
 | .ts _ _ n _ _,.je=>match P.underlying t with
  | some (.slice _)=>cond (Nat.beq n 0) none (some false)
  | _=>none
 | .je,.ts _ _ n _ _=>match P.underlying t with
  | some (.slice _)=>cond (Nat.beq n 0) none (some false)
  | _=>none
 | .Au,.Au=>match P.underlying t with
  | some (.pointer _)=>some true
  | _=>none
 | .ptr _ _,.Au=>match P.underlying t with
  | some (.pointer _)=>some false
  | _=>none
 | .Au,.ptr _ _=>match P.underlying t with
  | some (.pointer _)=>some false
  | _=>none
 | _,_=>none
def ae7 (P:Program) (t:TypeId):Bool:=match P.underlying t with
 | some (.slice _)=>true
 | _=>false
def aiz (P:Program) (op:BinOp) (t:TypeId):FP
 | [.int j a,.int k b]=>cond (aa8 op) (anf op j a b) (cond (decide (j=k)) (opI op j a b) .no)
 | [.str a,.str b]=>match op with
  | .eql=>.ok (.bool (a.toList==b.toList))
  | .neq=>.ok (.bool !(a.toList==b.toList))
  | .lss=>.ok (.bool (Op.bytesLess a.toList b.toList))
  | .add=>.iJ (Nat.ble (a.size+b.size) 9223372036854775807) (.str (a++b))
  | _=>.no
 | [.ts _ _ n _ _,.je]=>match op with
  | .eql=>cond (ae7 P t) (.iJ (Nat.blt 0 n) (.bool false)) .no
  | .neq=>cond (ae7 P t) (.iJ (Nat.blt 0 n) (.bool true)) .no
  | _=>.no
 | [x,y]=>match op,ae6 P t x y with
  | .eql,some b=>.ok (.bool b)
  | .neq,some b=>.ok (.bool !b)
  | _,_=>.no
 | _=>.no
def kUn (op:UnOp):FP
 | [.bool b]=>match op with
  | .not=>.ok (.bool !b)
  | _=>.no
 | [.int k n]=>match op with
  | .neg=>.ok (.int k (k.wrap (0 - n)))
  | .xor=>.ok (.int k (k.wrap (BitVec.ofInt k.bits (if k.signed then -1 else k.max) ^^^ BitVec.ofInt k.bits n).toNat))
  | _=>.no
 | _=>.no
def ae8 (k:IntKind):FP
 | [.int _ n]=>.ok (.int k (k.wrap n))
 | _=>.no
def ae9:FP
 | [.str s]=>.ok (.str s)
 | _=>.no
def byteOf:KV->UInt8
 | .int _ n=>UInt8.ofNat n.toNat
 | _=>0
def afa:KV->Bool
 | .int .u8 n=>decide (0<=n)&&decide (n < 256)
 | _=>false
def Gi:FP
 | [.je]=>.ok (.str ⟨⟨[]⟩⟩)
 | [.ts _ _ _ es _]=>.iJ (es.all afa) (.str ⟨⟨es.map byteOf⟩⟩)
 | _=>.no
def Mn (e:TypeId):FP
 | [.str s]=>.ok (.ts e .any s.size (s.data.toList.map fun b=>.int .u8 b.toNat) (fun i=>.int .u8 (s.data.toList.getD i 0).toNat))
 | _=>.no
def mQ (P:Program) (src dst:TypeId) (x:Operand):oV:=
 match P.underlying src,P.underlying dst with
 | some (.int _),some (.int k)=>.pure (ae8 k) [x]
 | some .string,some .string=>.pure ae9 [x]
 | some (.slice e),some .string=>cond (isByte P e) (.read (fun _=>Gi) [x]) .bad
 | some .string,some (.slice e)=>cond (isByte P e) (.look (Mn e) [x]) .bad
 | _,_=>.bad
def Gj (f:Fn) (k:Nat):FP:=fun vs=>
 match r5 k vs with
 | some first=>.ok (.fn f first (yf k vs))
 | none=>.no
def RN (s:TypeId) (off:Nat) (ft:TypeId) (pe:Bool):FP
 | [.ptr b o]=>.ok (.ptr b (o+off))
 | [.tp T Tc i k es acc]=>cond (Nat.beq Tc s&&pe) (.ok (.tp T ft i (k+off) es acc)) .no
 | [.ap T Tc b i k]=>cond (Nat.beq Tc s&&pe) (.ok (.ap T ft b i (k+off))) .no
 | _=>.no
def aiA:CK->CK->Bool
 | .int a,.int b=>decide (a=b)
 | .bool,.bool=>true
 | .str,.str=>true
 | .slice a,.slice b=>Nat.beq a b
 | .other,.other=>true
 | _,_=>false
def yh:List CK->List CK->Bool
 | [],[]=>true
 | a::aob,b::bs=>aiA a b&&yh aob bs
 | _,_=>false
def Tg (P:Program) (s:TypeId) (off:Nat) (ft:TypeId):Bool:=
 match r5 (aH P ft).ks.length (yf off (aH P s).ks) with
 | some l=>yh l (aH P ft).ks
 | none=>false
def j7 (P:Program) (s:TypeId) (x:Operand) (f:Nat):oV:=
 match oe P s f with
 | some fd=>match size? P fd.type with
  | some (_+1)=>.pure (RN s fd.offset fd.type (Tg P s fd.offset fd.type)) [x]
  | _=>.bad
 | none=>.bad
def Qt (P:Program) (t:TypeId) (cs:List KV) (off:Nat):Option KV:=
 match HR P t with
 | some true=>(size? P t).bind fun n=>(r5 n (yf off cs)).map fun l=>.agg l
 | some false=>(yf off cs).head?
 | none=>none
def afb (P:Program) (fd:Field):FP
 | [.agg cs]=>.of (Qt P fd.type cs fd.offset)
 | _=>.no
def ql (P:Program) (t:TypeId) (x:Operand) (f:Nat):oV:=
 match oe P t f with
 | some fd=>.pure (afb P fd) [x]
 | none=>.bad
def Un (i:Int) (n:Nat):Bool:=decide (0<=i)&&decide (i < (n:Int))
def afc {α:Type} (i:Int) (f:Nat->KR α) (m:Nat):Nat->KR α:=Nat.rec (motive:=fun _=>Nat->KR α) (fun _=>.no) (fun _ ih j=>.br (decide (i=(j:Int))) (f j) (ih (Nat.succ j))) m
def Uo (P:Program) (t:TypeId) (len n:Nat) (e:TypeId):FP
 | [.ptr b o,.int _ i]=>cond (Nat.ble len 8) (afc i (fun j=>.ok (.ptr b (o+j * n))) len 0) (.iJ (Un i len) (.ptr b (o+i.toNat * n)))
 | [.tp T Tc j k es acc,.int _ i]=>cond (Nat.beq Tc t&&yh (aH P t).ks (cM (aH P e).ks len)&&Nat.beq (aH P e).ks.length n) (.iJ (Un i len) (.tp T e j (k+i.toNat * n) es acc)) .no
 | [.ap T Tc b j k,.int _ i]=>cond (Nat.beq Tc t&&yh (aH P t).ks (cM (aH P e).ks len)&&Nat.beq (aH P e).ks.length n) (.iJ (Un i len) (.ap T e b j (k+i.toNat * n))) .no
 | _=>.no
def XJ (e n:Nat) (pe:Bool):FP
 | [.sl b o len _,.int _ i]=>.iJ (Un i len) (.ptr b (o+i.toNat * n))
 | [.ts T _ m es acc,.int _ i]=>cond (Nat.beq T e&&pe) (.iJ (Un i m) (.tp T T i.toNat 0 es acc)) .no
 | [.al T b o m,.int _ i]=>cond (Nat.beq T e&&pe) (.iJ (Un i m) (.ap T T b (o+i.toNat) 0)) .no
 | _=>.no
def j8 (P:Program) (t:TypeId) (x ix:Operand):oV:=
 match P.underlying t with
 | some (.array len e)=>match size? P e with
  | some n=>.pure (Uo P t len n e) [x,ix]
  | none=>.bad
 | some (.slice e)=>match size? P e with
  | some n=>.pure (XJ e n (Nat.beq (aH P e).ks.length n)) [x,ix]
  | none=>.bad
 | _=>.bad
def Mo (P:Program) (len n:Nat) (e:TypeId):FP
 | [.agg cs,.int _ i]=>cond (Nat.ble len 8) (afc i (fun j=>.of (Qt P e cs (j * n))) len 0) (match Qt P e cs (i.toNat * n) with
  | some v=>.iJ (Un i len) v
  | none=>.no)
 | _=>.no
def Uq:FP
 | [.str s,.int _ i]=>.iJ (Un i s.size) (.int .u8 ((s.data.toList.getD i.toNat 0).toNat))
 | _=>.no
def qm (P:Program) (t:TypeId) (x ix:Operand):oV:=
 match P.underlying t with
 | some (.array len e)=>match size? P e with
  | some n=>.pure (Mo P len n e) [x,ix]
  | none=>.bad
 | some .string=>.pure Uq [x,ix]
 | _=>.bad
def XK {α:Type} : Nat->List α->Option α
 | _,[]=>none
 | 0,x::_=>some x
 | n+1,_::xs=>XK n xs
def XL (i:Nat):FP
 | [.nh vs]=>.of (XK i vs)
 | _=>.no
def afd:FP
 | [.ts _ _ n _ _]=>.ok (.int .i64 (n:Int))
 | [.sl _ _ n _]=>.ok (.int .i64 (n:Int))
 | [.al _ _ _ n]=>.ok (.int .i64 (n:Int))
 | [.je]=>.ok (.int .i64 0)
 | _=>.no
def aa9:FP
 | [.str s]=>.ok (.int .i64 (s.size:Int))
 | _=>.no
def Ur (P:Program) (argTypes:List TypeId) (args:List Operand):oV:=
 match argTypes with
 | [t]=>match P.underlying t with
  | some (.slice _)=>.pure afd args
  | some .string=>.pure aa9 args
  | _=>.bad
 | _=>.bad
def EZ (mx:Bool):FP
 | [.int j a,.int k b]=>cond (decide (j=k)) (.ok (.int j (cond mx (max a b) (min a b)))) .no
 | [.int j a,.int k b,.int l c]=>cond (decide (j=k)&&decide (j=l)) (.ok (.int j (cond mx (max (max a b) c) (min (min a b) c)))) .no
 | _=>.no
def Lq (len:Nat) (lo hi:Bool):List KV->Option (Int×Int)
 | []=>cond (lo||hi) none (some (0,len))
 | [.int _ x]=>cond (lo&&!hi) (some (x,len)) (cond (!lo&&hi) (some (0,x)) none)
 | [.int _ x,.int _ y]=>cond (lo&&hi) (some (x,y)) none
 | _=>none
def Qu (P:Program) (n:Nat) (lo hi:Bool):FR:=fun A xs=>
 match xs with
 | .ts T _ m es acc::r=>match Lq m lo hi r with
  | some (x,y)=>cond (Nat.beq (aH P T).ks.length n) (.iJ (decide (0<=x)&&decide (x<=y)&&decide (y<=(m:Int))) (.ts T .any (y.toNat - x.toNat) ((es.drop x.toNat).take (y.toNat - x.toNat)) (fun i=>acc (x.toNat+i)))) .no
  | none=>.no
 | .sl b o len cap::r=>match A.get b with
  | some (.row _ aQ)=>match Lq len lo hi r with
   | some (x,y)=>cond (Nat.beq aQ n) (.iJ (decide (0<=x)&&decide (x<=y)&&decide (y<=(len:Int))&&decide (len<=cap)) (.sl b (o+x.toNat * n) (y.toNat - x.toNat) (cap - x.toNat))) .no
   | none=>.no
  | _=>.no
 | .al T b o m::r=>match DV A b with
  | some (.ts T' _ _ _ _)=>match Lq m lo hi r with
   | some (x,y)=>cond (Nat.beq (aH P T).ks.length n&&Nat.beq T T') (.iJ (decide (0<=x)&&decide (x<=y)&&decide (y<=(m:Int))) (.al T b (o+x.toNat) (y.toNat - x.toNat))) .no
   | none=>.no
  | _=>.no
 | _=>.no
def Qv (P:Program) (n:Nat) (lo hi:Bool):FA:=fun A xs=>
 match xs with
 | .al T b o m::r=>match A.get b with
  | some (.arr (.ts T' _ _ es acc))=>match Lq m lo hi r with
   | some (x,y)=>cond (Nat.beq (aH P T).ks.length n&&Nat.beq T T'&&Nat.beq o 0&&decide (x=0)) (.iJ (decide (0<=y)&&decide (y<=(m:Int))) (.al T A.next 0 y.toNat,(A.put b .dead).new (.arr (.ts T .any y.toNat (es.take y.toNat) acc)))) .no
   | none=>.no
  | _=>.no
 | _=>.no
def Mp (len n:Nat) (lo hi:Bool):FR:=fun A xs=>
 match xs with
 | .ptr b o::r=>match A.get b with
  | some (.row cs aQ)=>match Lq len lo hi r with
   | some (x,y)=>cond (Nat.beq aQ n&&Nat.ble (o+len * n) cs.length) (.iJ (decide (0<=x)&&decide (x<=y)&&decide (y<=(len:Int))) (.sl b (o+x.toNat * n) (y.toNat - x.toNat) (len - x.toNat))) .no
   | none=>.no
  | _=>.no
 | _=>.no
def Mq (lo hi:Bool):FP
 | .str s::r=>match Lq s.size lo hi r with
  | some (x,y)=>.iJ (decide (0<=x)&&decide (x<=y)&&decide (y<=(s.size:Int))) (.str ⟨⟨(s.data.toList.drop x.toNat).take (y.toNat - x.toNat)⟩⟩)
  | none=>.no
 | _=>.no
def qo (P:Program) (mt:TypeId->Bool) (t:TypeId) (x:Operand) (lo hi mx:Option Operand):oV:=
 match P.underlying t with
 | some (.slice e)=>match size? P e with
  | some n=>cond (Nat.ble 1 n&&mx.isNone) (cond (mt (e+4000000)) (.act (Qv P n lo.isSome hi.isSome) (x::(eh lo++eh hi))) (.read (Qu P n lo.isSome hi.isSome) (x::(eh lo++eh hi)))) .bad
  | none=>.bad
 | some (.array len e)=>match size? P e with
  | some n=>cond (Nat.ble 1 n&&mx.isNone) (.read (Mp len n lo.isSome hi.isSome) (x::(eh lo++eh hi))) .bad
  | none=>.bad
 | some .string=>cond mx.isNone (.pure (Mq lo.isSome hi.isSome) (x::(eh lo++eh hi))) .bad
 | _=>.bad
def lP (b n m:Nat):Bool:=Nat.ble ((n+m) * b) 140737488355328&&Nat.ble (n+m) 17592186044416
def bU (top n:Nat):Bool:=Nat.beq top n
def dU (n:Nat) (f g:Nat->KV):Nat->KV:=fun i=>cond (Nat.blt i n) (f i) (g (i - n))
def OA (e sz b n:Nat) (base:List KV) (ab:Nat->KV) (A:ai) (f m:Nat) (new:List KV) (an:Nat->KV) (more:Bool):KR (KV×ai):=
 .iJ (more&&lP b n m)
  (.ts e (.aF f) (n+m) (base++new) (dU n ab an),A.put f (.aF (n+m) sz))
def Iy (e sz b:Nat):FA:=fun A xs=>
 match xs with
 | [.je,.ts e' _ m new an]=>cond (Nat.beq e e') (OA e sz b 0 [] mI (A.new (.aF 0 sz)) A.next m new an true) .no
 | [.ts e1 .exact n es ab,.ts e' _ m new an]=>cond (Nat.beq e e'&&Nat.beq e e1) (OA e sz b n es ab (A.new (.aF 0 sz)) A.next m new an (Nat.blt 0 m)) .no
 | [.ts e1 (.aF f) n es ab,.ts e' _ m new an]=>match A.get f with
  | some (.aF top sz')=>cond (Nat.beq e e'&&Nat.beq e e1&&Nat.beq sz' sz) (OA e sz b n es ab A f m new an (bU top n)) .no
  | _=>.no
 | _=>.no
def XM (o:Nat) (acc:Nat->KV):Nat->KV:=
 match o with
 | 0=>acc
 | o+1=>fun i=>acc (o+1+i)
theorem Zc (o:Nat) (acc:Nat->KV):XM o acc=fun i=>acc (o+i):=by
 cases o with
 | zero=>funext i; show acc i=acc (0+i); rw [bF]
 | succ o=>rfl
def Zd (A:ai) (T b o n:Nat):Option KV:=
 match DV A b with
 | some (.ts T' _ _ es acc)=>cond (Nat.beq T T') (some (.ts T .any n ((es.drop o).take n) (XM o acc))) none
 | _=>none
def Iz (A:ai) (v:KV):Option KV:=
 match v with
 | .al T b o n=>Zd A T b o n
 | .ts T m n es acc=>some (.ts T m n es acc)
 | _=>none
def afe (b n m:Nat):Bool:=Nat.ble ((n+m) * b) 140737488355328&&Nat.ble (n+m) 17592186044416
def Th (e b n:Nat) (base:List KV) (ab:Nat->KV) (A:ai) (m:Nat) (new:List KV) (an:Nat->KV) (more:Bool):KR (KV×ai):=
 .iJ (more&&afe b n m) (.al e A.next 0 (n+m),A.new (.arr (.ts e .any (n+m) (base++new) (dU n ab an))))
def Bn (e b:Nat):FA:=fun A xs=>
 match xs with
 | [.je,.ts e' _ m new an]=>cond (Nat.beq e e') (Th e b 0 [] mI A m new an true) .no
 | [.al e1 f o n,.ts e' _ m new an]=>match A.get f with
  | some (.arr (.ts e2 _ _ es acc))=>cond (Nat.beq e e'&&Nat.beq e e1&&Nat.beq e e2) (Th e b n (es.take n) acc (A.put f .dead) m new an (Nat.beq o 0)) .no
  | _=>.no
 | _=>.no
def aiB:KV->Bool
 | .al _ _ _ _=>true
 | _=>false
def E4 (e sz b:Nat) (mt:Bool):FA:=fun A xs=>
 match xs with
 | [x,y]=>match Iz A y with
  | some y'=>cond (aiB x) (Bn e b A [x,y']) (cond mt (Bn e b A [x,y']) (Iy e sz b A [x,y']))
  | none=>.no
 | _=>.no
def Da (P:Program) (mt:TypeId->Bool) (argTypes:List TypeId) (args:List Operand):oV:=
 match argTypes with
 | [t,u]=>
  match P.underlying t,P.underlying u with
  | some (.slice e),some (.slice _)=>
   match P.info? e with
   | some i=>match i.zero with
    | some z=>cond (Nat.ble 1 i.size&&Nat.beq z.cells.size i.size&&Nat.beq (aH P e).ks.length i.size) (.act (E4 e i.size i.bytes (mt e)) args) .bad
    | none=>.bad
   | none=>.bad
  | _,_=>.bad
 | _=>.bad
def IA (n b:Nat) (z:List KV):FA:=fun A xs=>
 match xs with
 | [.int _ l,.int _ c]=>.iJ (decide (0<=l)&&decide (l<=c)&&Nat.ble (b * c.toNat) 281474976710656) (.sl A.next 0 l.toNat c.toNat,A.new (.row (cM z c.toNat) n))
 | _=>.no
def Ut (A:ai) (v:KV):KV×ai:=
 match v with
 | .al T b o n=>match A.get b with
  | some (.arr (.ts T' m N es acc))=>cond (Nat.beq T T') (.ts T .any n ((es.drop o).take n) (fun i=>acc (o+i)),A.put b (.iI (.ts T' m N es acc))) (.bx,A)
  | some (.iI (.ts T' _ _ es acc))=>cond (Nat.beq T T') (.ts T .any n ((es.drop o).take n) (fun i=>acc (o+i)),A) (.bx,A)
  | _=>(.bx,A)
 | v=>(v,A)
def Qw (A:ai):List KV->List KV×ai
 | []=>([],A)
 | v::vs=>((Ut A v).1::(Qw (Ut A v).2 vs).1,(Qw (Ut A v).2 vs).2)
def XN (A:ai) (v:KV):KV×ai:=
 match v with
 | .agg cs=>(.agg (Qw A cs).1,(Qw A cs).2)
 | v=>Ut A v
def xL (A:ai):List KV->List KV×ai
 | []=>([],A)
 | v::vs=>((XN A v).1::(xL (XN A v).2 vs).1,(xL (XN A v).2 vs).2)
def Qx (T b:Nat) (z:KV):FA:=fun A xs=>
 match xs with
 | [.int _ l,.int _ c]=>.iJ (decide (0<=l)&&decide (l<=c)&&Nat.ble (b * c.toNat) 281474976710656) (.al T A.next 0 l.toNat,A.new (.arr (.ts T .any c.toNat (cM [z] c.toNat) (fun _=>z))))
 | _=>.no
def Ze (T b:Nat) (z:KV):FP:=fun xs=>
 match xs with
 | [.int _ l,.int _ c]=>.iJ (decide (0<=l)&&decide (l<=c)&&Nat.ble (b * c.toNat) 281474976710656) (.ts T .any l.toNat (cM [z] l.toNat) (fun _=>z))
 | _=>.no
def r6 (P:Program) (mt:TypeId->Bool) (t:TypeId) (l c:Operand):oV:=
 match P.underlying t with
 | some (.slice e)=>
  match P.info? e with
  | some i=>match i.zero with
   | some z=>cond (mt (e+1000000)) (cond (Nat.ble 1 i.size&&Nat.ble 1 i.bytes&&Nat.beq z.cells.size i.size&&flat z&&z.cells.toList.all scalar&&Nat.beq (aH P e).ks.length i.size&&cf (aH P e) (dv (aH P e) (fC z))) (.look (Ze e i.bytes (dv (aH P e) (fC z))) [l,c]) .bad) <| cond (mt e) (cond (Nat.ble 1 i.size&&Nat.ble 1 i.bytes&&Nat.beq z.cells.size i.size&&flat z&&z.cells.toList.all scalar&&Nat.beq (aH P e).ks.length i.size&&cf (aH P e) (dv (aH P e) (fC z))) (.act (Qx e i.bytes (dv (aH P e) (fC z))) [l,c]) .bad) <| cond (Nat.ble 1 i.size&&Nat.ble 1 i.bytes&&Nat.beq z.cells.size i.size&&flat z&&z.cells.toList.all scalar&&jk (fC z).cells) (.act (IA i.size i.bytes (fC z).cells) [l,c]) .bad
   | none=>.bad
  | none=>.bad
 | _=>.bad
def wH (es:List KV) (o:Nat) (new:List KV):List KV:=es.take o++new++es.drop (o+new.length)
def J4 (o k:Nat) (f g:Nat->KV):Nat->KV:=fun i=>cond (Nat.blt i o) (f i) (cond (Nat.blt i (o+k)) (g (i - o)) (f i))
def adA (e:Nat):FA:=fun A xs=>
 match xs with
 | [.al e1 b o n,y]=>match Iz A y,A.get b with
  | some (.ts e' _ m new an),some (.arr (.ts e2 _ N es acc))=>cond (Nat.beq e e'&&Nat.beq e e1&&Nat.beq e e2)
    (.ok (.int .i64 (Nat.min m n:Nat),A.put b (.arr (.ts e .any N (wH es o (new.take (Nat.min m n))) (J4 o (Nat.min m n) acc an))))) .no
  | _,_=>.no
 | _=>.no
def J5 (P:Program) (argTypes:List TypeId) (args:List Operand):oV:=
 match argTypes with
 | [t,u]=>
  match P.underlying t,P.underlying u with
  | some (.slice e),some (.slice _)=>match size? P e with
   | some n=>cond (Nat.ble 1 n&&Nat.beq (aH P e).ks.length n) (.act (adA e) args) .bad
   | none=>.bad
  | _,_=>.bad
 | _=>.bad
def wI (P:Program) (mt:TypeId->Bool) (b:Builtin) (argTypes:List TypeId) (args:List Operand):oV:=
 match b with
 | .len=>Ur P argTypes args
 | .min=>.pure (EZ false) args
 | .max=>.pure (EZ true) args
 | .append=>Da P mt argTypes args
 | .copy=>J5 P argTypes args
 | _=>.bad
inductive p0 where
 | no
 | out (e:aa) (t:bI) (A:ai)
 | br (c:Bool) (x y:p0)
 | once
inductive rj where
 | no
 | out (v:KV) (A:ai)
 | br (c:Bool) (x y:rj)
structure aiC where
 ac:FuncId->Option (List KV->ai->rj)
 mt:TypeId->Bool
 fz:Bool
 eg:Bool
structure gf where
 pc:FuncId->Option (List KV->KR KV)
 lp:FuncId->Nat->Option (bI->ai->p0)
 x:aiC
def gX (P:Program) (f:KV->KV) (t:TypeId) (e:KV):KV:=HI (aH P t).agg ((leaves e (aH P t).ks 0).map f)
def bX (P:Program) (d:Nat):KV->KV:=Nat.rec (motive:=fun _=>KV->KV) (fun v=>v) (fun _ ih v=>match v with
 | .ts t _ n _ acc=>.ts t .any n ((List.range n).map fun i=>gX P ih t (acc i)) (fun i=>gX P ih t (acc i))
 | v=>v) d
def df:Nat:=6
def OB (P:Program) (t:TypeId) (v:KV):KV:=cond (cf (aH P t) (dv (aH P t) v)) (gX P (bX P df) t (dv (aH P t) v)) .bx
def normArgs (P:Program):List TypeId->List KV->List KV
 | t::ts,v::vs=>OB P t v::normArgs P ts vs
 | _,_=>[]
def bK (P:Program) (g:FuncId):List TypeId:=match P.funcs.toList[g]? with
 | some fn=>fn.params.toList
 | none=>[]
def gf.aba (cfg:gf) (g:FuncId):Bool:=cfg.x.fz||cfg.x.mt (2000000+g)
def pf (P:Program) (cfg:gf) (c:Call):oV:=
 match c.callee with
 | .value (.func g)=>match cfg.pc g with
  | some F=>cond (cfg.aba g) (.DU g (fun vs=>cond (Nat.beq vs.length (bK P g).length) (F (normArgs P (bK P g) vs)) .no) c.args.toList)
    (.DT g (fun vs=>cond (Nat.beq vs.length (bK P g).length) (F (normArgs P (bK P g) vs)) .no) c.args.toList)
  | none=>.call (.func g) c.args.toList
 | .value f=>.call f c.args.toList
 | .builtin b=>wI P cfg.x.mt b c.argTypes.toList c.args.toList
 | .invoke _ _=>.bad
def ud:Fn->Bool
 | .yield _=>true
 | _=>false
def dp (P:Program) (cfg:gf):Op->oV
 | .move x=>.pure Za [x]
 | .assign x=>.pure (cond cfg.x.eg Zb Za) [x]
 | .pick c a b=>.pure adz [c,a,b]
 | .alloc t=>pd P t
 | .box t x=>.act (aa7 (uY P t)) [x]
 | .build t parts=>qj P t (parts.toList.map (·.1)) (parts.toList.map (·.2))
 | .buildSlice t len parts=>jB P cfg.x.mt t len (parts.toList.map (·.1)) (parts.toList.map (·.2))
 | .load t a=>.read (Qs P t) [a]
 | .store t a x=>.act (Oz P t) [a,x]
 | .nilCheck x=>.pure Um [x]
 | .binOp op t x y _=>.pure (aiz P op t) [x,y]
 | .unOp op _ x=>.pure (kUn op) [x]
 | .convert src dst x=>mQ P src dst x
 | .makeFunc fn first cap=>cond (ud fn) .bad (.pure (Gj fn first.size) (first.toList++cap.toList))
 | .fieldAddr s x f=>j7 P s x f
 | .field t x f=>ql P t x f
 | .indexAddr t x ix=>j8 P t x ix
 | .index t x ix=>qm P t x ix
 | .extract t ix=>.pure (XL ix) [t]
 | .slice t x lo hi mx=>qo P cfg.x.mt t x lo hi mx
 | .makeSlice t l c=>r6 P cfg.x.mt t l c
 | .call c=>pf P cfg c
 | _=>.bad
def nM (t:bI):Operand->KV
 | .tmp i=>(t.get i).getD .bx
 | .const v=>cond (flat v) (fC v) .bx
 | .global _=>.bx
 | .func f=>.fn (.func f) [] []
def rG (t:bI):List Operand->List KV
 | []=>[]
 | x::xs=>nM t x::rG t xs
def xM (t:bI) (dst:Option Tmp) (v:KV):bI:=
 match dst with
 | some d=>t.set v d
 | none=>t
def IB (args:List KV):KV->Option (FuncId×List KV)
 | .fn (.func g) first cap=>some (g,first++args++cap)
 | _=>none
inductive BK where
 | bool (b:Bool)
 | nh
 | no
def rl:KV->BK
 | .bool b=>.bool b
 | .nh _=>.nh
 | _=>.no
section
variable {R:Type}
abbrev rm (R:Type):=FuncId->List KV->ai->(KV->ai->Option R)->Option R
def XO (cT:rm R) (t:bI) (A:ai) (k:KV->ai->Option R) (ins:oV):Option R:=
 oV.rec (motive:=fun _=>Option R)
  (fun f xs=>(f (rG t xs)).run fun v=>k v A)
  (fun f xs=>(f A (rG t xs)).run fun v=>k v A)
  (fun f xs=>(f A (rG t xs)).run fun p=>k p.1 p.2)
  (fun f xs=>(f (rG t xs)).run fun v=>k v A)
  (fun _ f xs=>(f (rG t xs)).run fun v=>k v A)
  (fun _ f xs=>(f (xL A (rG t xs)).1).run fun v=>k v (xL A (rG t xs)).2)
  (fun f args=>Option.rec (motive:=fun _=>Option R) none (fun p=>cT p.1 p.2 A k) (IB (rG t args) (nM t f)))
  none ins
def abb (t:bI) (d:Option Tmp) (want:Bool) (yes no:bI->Option R):Option R:=
 Option.rec (motive:=fun _=>Option R) none (fun d=>BK.rec (motive:=fun _=>Option R)
  (fun b=>Bool.rec (motive:=fun _=>Option R)
   (Bool.rec (motive:=fun _=>Option R) (yes (t.set (.bool false) d)) (no (t.set (.bool false) d)) want)
   (Bool.rec (motive:=fun _=>Option R) (no (t.set (.bool true) d)) (yes (t.set (.bool true) d)) want) b)
  (no t) none (rl ((t.get d).getD .bx))) d
def Qy (P:Program) (cfg:gf) (cT:rm R) (all:List Oper) (o:Oper) (k:bI->ai->Option R) (t:bI) (A:ai):Option R:=
 Option.rec (motive:=fun _=>Option R) (XO cT t A (fun v A=>k (xM t o.dst v) A) (dp P cfg o.op))
  (fun g=>abb t ((all[g.1]?).bind (·.dst)) g.2 (fun t=>XO cT t A (fun v A=>k (xM t o.dst v) A) (dp P cfg o.op)) (fun t=>k (xM t o.dst uC) A)) o.guard
def RO (P:Program) (cfg:gf) (cT:rm R) (all:List Oper) (k:bI->ai->Option R) (os:List Oper):bI->ai->Option R:=
 List.rec (motive:=fun _=>bI->ai->Option R) k (fun o _ ih=>Qy P cfg cT all o ih) os
abbrev KE (R:Type):=aa->bI->ai->Option R
def Zf (t:bI) (c:Operand) (f g:bI->Option R):Option R:=
 match c with
 | .tmp d=>BK.rec (motive:=fun _=>Option R) (fun b=>Bool.rec (motive:=fun _=>Option R) (g (t.set (.bool false) d)) (f (t.set (.bool true) d)) b) none none (rl ((t.get d).getD .bx))
 | c=>BK.rec (motive:=fun _=>Option R) (fun b=>Bool.rec (motive:=fun _=>Option R) (g t) (f t) b) none none (rl (nM t c))
def jf (i:oV):Nat:=oV.rec (motive:=fun _=>Nat) (fun _ _=>0) (fun _ _=>1) (fun _ _=>3) (fun _ _=>0) (fun _ _ _=>0) (fun _ _ _=>3) (fun _ _=>9) 9 i
def aff:oV->List Operand
 | .pure _ xs=>xs
 | .read _ xs=>xs
 | .act _ xs=>xs
 | .look _ xs=>xs
 | .DT _ _ xs=>xs
 | .DU _ _ xs=>xs
 | .call f xs=>f::xs
 | .bad=>[]
def J6 (P:Program) (cfg:gf) (all:List Oper) (o:Oper):List Tmp:=vD all o++qa (aff (dp P cfg o.op))
def Db (P:Program) (cfg:gf) (all:List Oper) (x y:Oper):Bool:=NM x.dst (J6 P cfg all y)||NM y.dst (J6 P cfg all x)||y9 x.dst y.dst
def DW (P:Program) (cfg:gf) (all:List Oper) (x y:Oper):Bool:=
 Db P cfg all x y||(Nat.ble 3 (jf (dp P cfg x.op))&&!(Nat.beq (jf (dp P cfg y.op)) 0))||(Nat.ble 3 (jf (dp P cfg y.op))&&!(Nat.beq (jf (dp P cfg x.op)) 0))
def J7:Op->Bool
 | .alloc _=>true
 | .box _ _=>true
 | .call c=>match c.callee with
  | .builtin .append=>true
  | _=>false
 | _=>false
def OC:Op->Option Operand
 | .store _ a _=>some a
 | _=>none
def afg:Op->Option Operand
 | .load _ a=>some a
 | _=>none
def wJ (i:Nat) (x:Operand):List Oper->Nat->Bool
 | [],_=>true
 | o::os,j=>(Nat.blt j i||!(NM o.dst (qa [x])))&&wJ i x os (Nat.succ j)
def Gk (i:Nat) (x:Option Operand) (all:List Oper):Bool:=
 match x with
 | some x=>wJ i x all 0
 | none=>true
def Gl (x y:Oper):Option (Option Operand×Operand):=
 match afg y.op with
 | some a=>cond (J7 x.op) (some (none,a)) (match OC x.op with
  | some a2=>some (some a2,a)
  | none=>none)
 | none=>none
def RP (all:List Oper) (j:Nat) (x:Oper) (i:Nat) (y:Oper):Option (Option Operand×Operand):=
 match Gl x y with
 | some p=>cond (wJ i p.2 all 0&&Gk j p.1 all) (some p) none
 | none=>match Gl y x with
  | some p=>cond (wJ j p.2 all 0&&Gk i p.1 all) (some p) none
  | none=>none
def E5 (t:bI) (nx:Nat) (p:Option Operand×Operand):Bool:=
 match nM t p.2 with
 | .tp _ _ _ _ _ _=>true
 | .ptr b _=>Nat.blt b nx&&(match p.1 with
  | some a2=>(match nM t a2 with
   | .ptr b2 _=>!(Nat.beq b b2)
   | .ap _ _ _ _ _=>true
   | _=>false)
  | none=>true)
 | _=>false
def Mr (t:bI) (nx:Nat) (l:List (Option Operand×Operand)):Bool:=List.rec (motive:=fun _=>Bool) true (fun p _ ih=>Bool.rec false ih (E5 t nx p)) l
def zn (P:Program) (cfg:gf) (all:List Oper) (b:List Nat) (i:Nat) (y:Oper):List Oper->Nat->List (Option Operand×Operand)
 | [],_=>[]
 | x::xs,j=>cond (Nat.ble i j||!DW P cfg all x y||eY b i j) (zn P cfg all b i y xs (Nat.succ j)) (match RP all j x i y with
  | some p=>p::zn P cfg all b i y xs (Nat.succ j)
  | none=>zn P cfg all b i y xs (Nat.succ j))
def Qz (P:Program) (cfg:gf) (all:List Oper) (b:List Nat):List Oper->Nat->List (Option Operand×Operand)
 | [],_=>[]
 | o::os,i=>zn P cfg all b i o all 0++Qz P cfg all b os (Nat.succ i)
def Ms (P:Program) (cfg:gf) (all:List Oper):Bool:=all.all fun o=>!(Nat.ble 3 (jf (dp P cfg o.op)))||J7 o.op||(OC o.op).isSome
def DX (P:Program) (cfg:gf) (all:List Oper):List (Option Operand×Operand):=Qz P cfg all (aC [] all) all 0
def J8 (P:Program) (cfg:gf) (all:List Oper) (b:List Nat) (i:Nat) (y:Oper):List Oper->Nat->Bool
 | [],_=>true
 | x::xs,j=>(Nat.ble i j||!DW P cfg all x y||eY b i j||(!Db P cfg all x y&&(RP all j x i y).isSome))&&J8 P cfg all b i y xs (Nat.succ j)
def E6 (P:Program) (cfg:gf) (all:List Oper) (b:List Nat):List Oper->Nat->Bool
 | [],_=>true
 | o::os,i=>J8 P cfg all b i o all 0&&E6 P cfg all b os (Nat.succ i)
def abc (P:Program) (cfg:gf) (all:List Oper):Bool:=sK P all&&all.all (fun o=>Nat.ble (jf (dp P cfg o.op)) 3)&&E6 P cfg all (aC [] all) all 0&&((DX P cfg all).isEmpty||Ms P cfg all)
def Uu (P:Program) (cfg:gf) (cT:rm R) (ops:List Oper) (draw:Bool) (k:bI->ai->Option R):bI->ai->Option R:=
 Bool.rec (motive:=fun _=>bI->ai->Option R) (RO P cfg cT ops k ops) (Bool.rec (motive:=fun _=>bI->ai->Option R)
  (fun _ _=>none)
  (fun t A=>RO P cfg cT ops (fun t' A'=>Bool.rec (motive:=fun _=>Option R) none (k t' A') (Mr t' A.next (DX P cfg ops))) ops t A) (abc P cfg ops)) draw
def Mt (k:KE R) (f:bI->ai->Option R):KE R:=fun e t A=>aa.rec (motive:=fun _=>Option R) (f t A) (fun i=>k (.exit i) t A) (fun l=>k (.goto l) t A) (k .ret t A) e
def afh (id:Nat) (k:KE R):KE R:=fun e t A=>aa.rec (motive:=fun _=>Option R) (k .normal t A) (fun i=>Bool.rec (motive:=fun _=>Option R) (k (.exit i) t A) (k .normal t A) (Nat.beq i id)) (fun l=>k (.goto l) t A) (k .ret t A) e
def Uv (k:KE R):KE R:=fun e t A=>aa.rec (motive:=fun _=>Option R) (k .normal t A) (fun i=>k (.exit i) t A) (fun _=>none) (k .ret t A) e
def QA (g:KE R->bI->ai->Option R) (k:KE R) (L:Nat):bI->ai->Option R:=
 Nat.rec (motive:=fun _=>bI->ai->Option R) (fun _ _=>none) (fun _ ih=>g (Mt k ih)) L
def rj.run (k:KV->ai->Option R) (x:rj):Option R:=rj.rec (motive:=fun _=>Option R) none (fun v A=>k v A) (fun c _ _ rx ry=>Bool.rec (motive:=fun _=>Option R) ry rx c) x
def p0.run (k:KE R) (x:p0):Option R:=p0.rec (motive:=fun _=>Option R) none (fun e t A=>k e t A) (fun c _ _ rx ry=>Bool.rec (motive:=fun _=>Option R) ry rx c) none x
def Mu (F:bI->ai->p0) (k:KE R) (t:bI) (A:ai):Option R:=(F t A).run k
def IC:Nat:=999983
def Dc:Code->Option Nat
 | .seq (.label l) _=>some l
 | .seq _ b=>Dc b
 | _=>none
def QB (k:KE R):KE R:=fun e t A=>aa.rec (motive:=fun _=>Option R) none (fun i=>Bool.rec (motive:=fun _=>Option R) (k (.exit i) t A) (k .normal t A) (Nat.beq i IC)) (fun _=>none) (k .ret t A) e
def Zg (ol:Option Nat) (F:bI->ai->p0) (k:KE R):KE R:=fun e t A=>aa.rec (motive:=fun _=>Option R) (k .normal t A) (fun i=>k (.exit i) t A)
 (fun l'=>Option.rec (motive:=fun _=>Option R) none (fun l=>Bool.rec (motive:=fun _=>Option R) none (p0.run (QB k) (F t A)) (Nat.beq l' l)) ol) (k .ret t A) e
def Zh (x:p0):Bool:=p0.rec (motive:=fun _=>Bool) false (fun _ _ _=>false) (fun _ _ _ _ _=>false) true x
def QC (g:KE R->bI->ai->Option R) (F:bI->ai->p0) (k:KE R) (L:Nat):bI->ai->Option R:=
 Nat.rec (motive:=fun _=>bI->ai->Option R) (fun t A=>Mu F k t A) (fun _ ih t A=>Bool.rec (motive:=fun _=>Option R) (Mu F k t A) (g (Mt k ih) t A) (Zh (F t A))) L
def hX:Nat:=1000000000000000000000
def lQ (P:Program) (cfg:gf) (cT:rm R) (L:Nat) (f:FuncId) (c:Code):Nat->KE R->bI->ai->Option R:=
 Code.rec (motive:=fun _=>Nat->KE R->bI->ai->Option R) (fun _ k t A=>k .normal t A)
  (fun _ ops d _ k=>Uu P cfg cT ops.toList d (fun t A=>k .normal t A))
  (fun _ _ a b p k=>a (2 * p) (Mt k fun t A=>b (2 * p+1) k t A))
  (fun c _ _ a b p k t A=>Zf t c (fun t=>a (2 * p) k t A) (fun t=>b (2 * p+1) k t A))
  (fun id _ g p k=>g (2 * p) (afh id k))
  (fun _ g p k=>Option.rec (motive:=fun _=>bI->ai->Option R) (QA (g (2 * p)) k L) (fun F=>QC (g (2 * p)) F k L) (cfg.lp f p))
  (fun _ _ _ _ _ _ _ _ _ _=>none) (fun id _ k t A=>k (.exit id) t A) (fun c g p k=>Option.rec (motive:=fun _=>bI->ai->Option R) (g (2 * p) (Uv k)) (fun F=>g (2 * p) (Zg (Dc c) F k)) (cfg.lp f p)) (fun _ _ k t A=>k .normal t A) (fun l _ k t A=>k (.goto l) t A) (fun _ k t A=>k .ret t A) (fun _ _ _ _ _=>none) c
def lR:List KV->Nat->bI->bI
 | [],_,t=>t
 | v::vs,i,t=>lR vs (Nat.succ i) (t.set v i)
def E7 (P:Program) (A:ai) (t:bI):List ResultVar->Option (List KV)
 | []=>some []
 | .tmp x::rs=>(E7 P A t rs).map (nM t (.tmp x)::·)
 | .cell a ty::rs=>match Qs P ty A [nM t (.tmp a)] with
  | .ok v=>(E7 P A t rs).map (v::·)
  | _=>none
def BR:List KV->KV
 | [v]=>v
 | vs=>.nh vs
def abd (P:Program) (fn:Func) (k:List KV->ai->Option R):KE R:=fun e t A=>
 aa.rec (motive:=fun _=>Option R) (Option.rec (motive:=fun _=>Option R) none (fun vs=>k vs A) (E7 P A t fn.results.toList)) (fun _=>none) (fun _=>none) (Option.rec (motive:=fun _=>Option R) none (fun vs=>k vs A) (E7 P A t fn.results.toList)) e
def QD (P:Program) (cfg:gf) (cT:rm R) (L:Nat) (f:FuncId) (args:List KV) (A:ai) (k:List KV->ai->Option R):Option R:=
 match P.funcs.toList[f]? with
 | some fn=>match fn.body with
  | some c=>lQ P cfg cT L f c 1 (abd P fn k) (lR args 0 .leaf) A
  | none=>none
 | none=>none
def AV (P:Program) (cfg:gf) (L:Nat) (n:Nat):rm R:=
 Nat.rec (motive:=fun _=>rm R) (fun _ _ _ _=>none) (fun _ ih f args A k=>
  Bool.rec (motive:=fun _=>Option R) none (Option.rec (motive:=fun _=>Option R) (QD P cfg ih L f args A fun vs B=>k (BR vs) B) (fun F=>rj.run k (F args A)) (cfg.x.ac f)) (Nat.blt f yB)) n
end
def sR (P:Program):List TypeId->List KV->List KV
 | t::ts,v::vs=>OB P t v::sR P ts vs
 | _,_=>[]
def pg (P:Program) (g:FuncId):List TypeId:=match P.funcs.toList[g]? with
 | some fn=>fn.resultTypes.toList
 | none=>[]
def zS (P:Program) (cfg:gf) (L n:Nat) (f:FuncId) (args:List KV):Option KV:=
 QD P cfg (AV P cfg L n) L f args .empty fun vs A=>Bool.rec (motive:=fun _=>Option KV) none (some (BR (sR P (pg P f) (xL A vs).1))) (Nat.beq vs.length (pg P f).length)
end
end Go.K
end
section
namespace Go.K
open Go Go.aA
structure abe where
 cs:List Value
 aQ:Nat
 own:Bool
 aZ:Option (Nat×Nat)
structure Env where
 κ:Nat->Option Nat
 z:Nat->Option abe
 φ:Nat->Option Nat
 α:Nat->Option (Nat×Nat×Nat)
structure Env.le (E E' : Env):Prop where
 α:∀ b p,E.α b=some p->E'.α b=some p
 κ:∀ b x,E.κ b=some x->E'.κ b=some x
 z:∀ b r,E.z b=some r->E'.z b=some r
 φ:∀ b g,E.φ b=some g->E'.φ b=some g
theorem Env.le_refl (E:Env):E.le E:=⟨fun _ _ h=>h,fun _ _ h=>h,fun _ _ h=>h,fun _ _ h=>h⟩
theorem Env.le_trans {E F G:Env} (h:E.le F) (k:F.le G):E.le G:=⟨fun b p e=>k.α b p (h.α b p e),fun b x e=>k.κ b x (h.κ b x e),fun b x e=>k.z b x (h.z b x e),fun b x e=>k.φ b x (h.φ b x e)⟩
def mJ (sz off:Nat) (cs es:List Value):Prop:=∀ (i:Nat) (x:Value),es[i]? = some x->x.cells.size=sz/\∀ (k:Nat) (y:Value),x.cells[k]? = some y->cs[off+i * sz+k]? = some y
def OD (E:Env) (sz:Nat) (a:Option Addr) (n:Nat) (es:List Value):Prop:=
 (a=none/\n=0)\/∃ b off r,a=some ⟨b,off,none⟩/\E.z b=some r/\r.aQ=sz/\mJ sz off r.cs es
def J9 (E:Env) (sz:Nat) (a:Option Addr) (n cap:Nat):Mk->Prop
 | .any=>True
 | .exact=>cap=n/\∀ b off,a=some ⟨b,off,none⟩->∃ r,E.z b=some r/\r.own=true/\r.aZ=none/\off+cap * sz=r.cs.length
 | .aF f=>cap=n/\((n=0/\a=none)\/∃ b r g,a=some ⟨b,0,none⟩/\E.z b=some r/\r.own=true/\E.φ f=some g/\r.aZ=some (g,0)/\r.cs.length=n * sz)
structure fV (P:Program) (T:TypeId) (n:Nat) (es:List KV) (acc:Nat->KV):Prop where
 len:n=es.length
 acc:∀ i,i < n->acc i=es.getD i .bx
 typed:dn (aH P T) es=true
def aJ (P:Program) (T:TypeId):Nat:=(aH P T).ks.length
def abf (P:Program) (E:Env) (T:TypeId) (m:Mk) (n:Nat) (aP:List Value) (v:Value):Prop:=
 ∃ a cap,v = .slice a n cap/\n<=cap/\OD E (aJ P T) a n aP/\J9 E (aJ P T) a n cap m
structure Ti (P:Program) (T Tc:TypeId) (k:Nat):Prop where
 is:∀ m c,(aH P Tc).ks[m]? = some c->(aH P T).ks[k+m]? = some c
def abg (P:Program) (E:Env) (T Tc:TypeId) (i k:Nat) (es:List KV) (aP:List Value) (v:Value):Prop:=
 i < es.length/\Ti P T Tc k/\∃ b off r,v = .pointer (some ⟨b,off+i * aJ P T+k,none⟩)/\E.z b=some r/\mJ (aJ P T) off r.cs aP
def RQ (P:Program) (E:Env) (T:TypeId) (b o n:Nat) (v:Value):Prop:=
 (n=0/\o=0/\v = .slice none 0 0)\/∃ x L N c,E.α b=some (x,L,N)/\v = .slice (some ⟨x,o * aJ P T,none⟩) n c/\n<=c/\o+n<=N/\(o+c) * aJ P T=L
def XP (P:Program) (E:Env) (T Tc:TypeId) (b i k:Nat) (v:Value):Prop:=
 ∃ x L N,E.α b=some (x,L,N)/\Ti P T Tc k/\i < N/\v = .pointer (some ⟨x,i * aJ P T+k,none⟩)
mutual
def VK (P:Program) (E:Env):KV->Value->Prop
 | .int k n,v=>v = .int k n
 | .bool b,v=>v = .bool b
 | .str s,v=>v = .string s
 | .agg cs,v=>∃ l,v = .agg ⟨l⟩/\aK P E cs l
 | .nh cs,v=>∃ l,v = .tuple ⟨l⟩/\aK P E cs l
 | .ts T m n es acc,v=>fV P T n es acc/\∃ aP,aK P E es aP/\abf P E T m n aP v
 | .tp T Tc i k es acc,v=>fV P T es.length es acc/\∃ aP,aK P E es aP/\abg P E T Tc i k es aP v
 | .al T b o n,v=>RQ P E T b o n v
 | .ap T Tc b i k,v=>XP P E T Tc b i k v
 | .ptr b off,v=>∃ x,E.κ b=some x/\v = .pointer (some ⟨x,off,none⟩)
 | .sl b off n c,v=>∃ x,E.κ b=some x/\v = .slice (some ⟨x,off,none⟩) n c
 | .Au,v=>v = .pointer none
 | .je,v=>v = .slice none 0 0
 | .wF,v=>v = .map none
 | .map b,v=>∃ x,E.κ b=some x/\v = .map (some x)
 | .fn f first cap,v=>∃ l m,v = .func f ⟨l⟩ ⟨m⟩/\aK P E first l/\aK P E cap m
 | .BP,v=>v = .nilFunc
 | .iface t x,v=>∃ y,v = .iface t y/\VK P E x y
 | .BQ,v=>v = .nilIface
 | .bx,_=>True
def aK (P:Program) (E:Env):List KV->List Value->Prop
 | [],l=>l = []
 | x::xs,l=>∃ y ys,l=y::ys/\VK P E x y/\aK P E xs ys
end
variable {P:Program} {E E' : Env}
theorem J9.mono (h:E.le E') {sz:Nat} {a:Option Addr} {n cap:Nat} {m:Mk} (k:J9 E sz a n cap m):J9 E' sz a n cap m:=by
 cases m with
 | any=>trivial
 | exact=>exact ⟨k.1,fun b off e=>by obtain ⟨r,h1,h2⟩:=k.2 b off e; exact ⟨r,h.z _ _ h1,h2⟩⟩
 | aF f=>
  refine ⟨k.1,k.2.imp id ?_⟩;rintro ⟨b,r,g,h1,h2,h3,h4,h5⟩;exact ⟨b,r,g,h1,h.z _ _ h2,h3,h.φ _ _ h4,h5⟩
theorem OD.mono (h:E.le E') {sz:Nat} {a:Option Addr} {n:Nat} {es:List Value} (k:OD E sz a n es):OD E' sz a n es:=by
 refine k.imp id ?_;rintro ⟨b,off,r,h1,h2,h3⟩;exact ⟨b,off,r,h1,h.z _ _ h2,h3⟩
theorem abf.mono (h:E.le E') {T:TypeId} {m:Mk} {n:Nat} {es:List Value} {v:Value} (k:abf P E T m n es v):abf P E' T m n es v:=by
 obtain ⟨a,cap,h1,h2,h3,h4⟩:=k;exact ⟨a,cap,h1,h2,h3.mono h,h4.mono h⟩
theorem abg.mono (h:E.le E') {T Tc:TypeId} {i k:Nat} {es:List KV} {aP:List Value} {v:Value} (q:abg P E T Tc i k es aP v):abg P E' T Tc i k es aP v:=by
 obtain ⟨h1,h2,b,off,r,h3,h4,h5⟩:=q;exact ⟨h1,h2,b,off,r,h3,h.z _ _ h4,h5⟩
theorem RQ.mono (h:E.le E') {T:TypeId} {b o n:Nat} {v:Value} (q:RQ P E T b o n v):RQ P E' T b o n v:=by
 refine q.imp id ?_;rintro ⟨x,L,N,c,h1,h2⟩;exact ⟨x,L,N,c,h.α _ _ h1,h2⟩
theorem XP.mono (h:E.le E') {T Tc:TypeId} {b i k:Nat} {v:Value} (q:XP P E T Tc b i k v):XP P E' T Tc b i k v:=by
 obtain ⟨x,L,N,h1,h2⟩:=q;exact ⟨x,L,N,h.α _ _ h1,h2⟩
mutual
theorem VK.mono (h:E.le E'):∀ {v:KV} {v' : Value},VK P E v v'->VK P E' v v'
 | .int k n,v,q=>q
 | .bool b,v,q=>q
 | .str s,v,q=>q
 | .agg cs,v,q=>by
  simp only [VK] at q ⊢;obtain ⟨l,e,q⟩:=q;exact ⟨l,e,aK.mono h q⟩
 | .nh cs,v,q=>by
  simp only [VK] at q ⊢;obtain ⟨l,e,q⟩:=q;exact ⟨l,e,aK.mono h q⟩
 | .ts T m n es acc,v,q=>by
  simp only [VK] at q ⊢;obtain ⟨t,l,q,k⟩:=q;exact ⟨t,l,aK.mono h q,k.mono h⟩
 | .tp T Tc i k es acc,v,q=>by
  simp only [VK] at q ⊢;obtain ⟨t,l,q,k⟩:=q;exact ⟨t,l,aK.mono h q,k.mono h⟩
 | .al T b o n,v,q=>by
  simp only [VK] at q ⊢;exact q.mono h
 | .ap T Tc b i k,v,q=>by
  simp only [VK] at q ⊢;exact q.mono h
 | .ptr b off,v,q=>by
  simp only [VK] at q ⊢;obtain ⟨x,e,q⟩:=q;exact ⟨x,h.κ _ _ e,q⟩
 | .sl b off n c,v,q=>by
  simp only [VK] at q ⊢;obtain ⟨x,e,q⟩:=q;exact ⟨x,h.κ _ _ e,q⟩
 | .Au,v,q=>q
 | .je,v,q=>q
 | .wF,v,q=>q
 | .map b,v,q=>by
  simp only [VK] at q ⊢;obtain ⟨x,e,q⟩:=q;exact ⟨x,h.κ _ _ e,q⟩
 | .fn f first cap,v,q=>by
  simp only [VK] at q ⊢;obtain ⟨l,m,e,q1,q2⟩:=q;exact ⟨l,m,e,aK.mono h q1,aK.mono h q2⟩
 | .BP,v,q=>q
 | .iface t x,v,q=>by
  simp only [VK] at q ⊢;obtain ⟨y,e,q⟩:=q;exact ⟨y,e,VK.mono h q⟩
 | .BQ,v,q=>q
 | .bx,v,q=>q
theorem aK.mono (h:E.le E'):∀ {v:List KV} {v' : List Value},aK P E v v'->aK P E' v v'
 | [],_,q=>q
 | x::xs,_,q=>by
  simp only [aK] at q ⊢;obtain ⟨y,ys,e,q1,q2⟩:=q;exact ⟨y,ys,e,VK.mono h q1,aK.mono h q2⟩
end
theorem aK.nil:aK P E [] []:=by simp [aK]
theorem aK.cons {x:KV} {y:Value} {xs:List KV} {ys:List Value} (h:VK P E x y) (k:aK P E xs ys):aK P E (x::xs) (y::ys):=by
 simp only [aK]; exact ⟨y,ys,rfl,h,k⟩
theorem aK.bz {l:List Value} (h:aK P E [] l):l = []:=by simpa [aK] using h
theorem aK.cons_inv {x:KV} {xs:List KV} {l:List Value} (h:aK P E (x::xs) l):∃ y ys,l=y::ys/\VK P E x y/\aK P E xs ys:=by simpa [aK] using h
theorem aK.dC {x:KV} {l:List Value} (h:aK P E [x] l):∃ y,l = [y]/\VK P E x y:=by
 obtain ⟨y,ys,rfl,h1,h2⟩:=h.cons_inv;rw [h2.bz]; exact ⟨y,rfl,h1⟩
theorem aK.ja {x y:KV} {l:List Value} (h:aK P E [x,y] l):∃ x' y',l = [x',y']/\VK P E x x'/\VK P E y y':=by
 obtain ⟨a,ys,rfl,h1,h2⟩:=h.cons_inv;obtain ⟨b,rfl,h3⟩:=h2.dC;exact ⟨a,b,rfl,h1,h3⟩
theorem aK.Mv {x y u:KV} {l:List Value} (h:aK P E [x,y,u] l):∃ x' y' u',l = [x',y',u']/\VK P E x x'/\VK P E y y'/\VK P E u u':=by
 obtain ⟨a,ys,rfl,h1,h2⟩:=h.cons_inv;obtain ⟨b,c,rfl,h3,h4⟩:=h2.ja;exact ⟨a,b,c,rfl,h1,h3,h4⟩
theorem aK.length:∀ {l:List KV} {l' : List Value},aK P E l l'->l'.length=l.length
 | [],l',h=>by rw [h.bz]; rfl
 | x::xs,l',h=>by
  obtain ⟨y,ys,rfl,_,k⟩:=h.cons_inv;simp [aK.length k]
theorem aK.get:∀ {l:List KV} {l' : List Value} {i:Nat} {v:KV},aK P E l l'->l[i]? = some v->∃ v',l'[i]? = some v'/\VK P E v v'
 | [],_,_,_,_,e=>by simp at e
 | x::xs,l',i,v,h,e=>by
  obtain ⟨y,ys,rfl,wu,k⟩:=h.cons_inv;cases i with
  | zero=>simp at e; subst e; exact ⟨y,rfl,wu⟩
  | succ i=>simp at e; simpa using aK.get k e
theorem aK.append:∀ {a:List KV} {a' : List Value} {b:List KV} {b' : List Value},aK P E a a'->aK P E b b'->aK P E (a++b) (a'++b')
 | [],a',b,b',h,k=>by rw [h.bz]; exact k
 | x::xs,a',b,b',h,k=>by
  obtain ⟨y,ys,rfl,wu,m⟩:=h.cons_inv;exact .cons wu (aK.append m k)
theorem aK.take:∀ (n:Nat) {l:List KV} {l' : List Value},aK P E l l'->aK P E (l.take n) (l'.take n)
 | 0,_,_,_=>by simp [aK.nil]
 | n+1,[],l',h=>by rw [h.bz]; simp [aK.nil]
 | n+1,x::xs,l',h=>by
  obtain ⟨y,ys,rfl,wu,k⟩:=h.cons_inv;simpa using aK.cons wu (aK.take n k)
theorem aK.drop:∀ (n:Nat) {l:List KV} {l' : List Value},aK P E l l'->aK P E (l.drop n) (l'.drop n)
 | 0,_,_,h=>by simpa using h
 | n+1,[],l',h=>by rw [h.bz]; simp [aK.nil]
 | n+1,x::xs,l',h=>by
  obtain ⟨y,ys,rfl,_,k⟩:=h.cons_inv;simpa using aK.drop n k
theorem Ka {α:Type} : ∀ {n:Nat} {l r:List α},r5 n l=some r->r=l.take n/\n<=l.length
 | 0,l,r,h=>by simp [r5] at h; subst h; simp
 | n+1,[],r,h=>by simp [r5] at h
 | n+1,x::xs,r,h=>by
  simp only [r5,aU] at h;obtain ⟨q,hq,rfl⟩:=h;obtain ⟨rfl,hn⟩:=Ka hq;exact ⟨by simp,by simpa using hn⟩
theorem E8 {α:Type} : ∀ (n:Nat) (l:List α),yf n l=l.drop n
 | 0,l=>rfl
 | n+1,[]=>rfl
 | n+1,x::xs=>by simp [yf,E8 n xs]
theorem E9:∀ {n:Nat} {l:List Value},n<=l.length->takeN n l=some (l.take n)
 | 0,l,_=>rfl
 | n+1,[],h=>by simp at h
 | n+1,x::xs,h=>by rw [Rw,E9 (n:=n) (l:=xs) (by simpa using h)]; rfl
theorem aK.r5 {n k:Nat} {l r:List KV} {l' : List Value} (h:aK P E l l') (e:r5 n (yf k l)=some r):∃ r',takeN n (zH k l')=some r'/\aK P E r r'/\r' = (l'.drop k).take n:=by
 obtain ⟨rfl,hn⟩:=Ka e;rw [E8] at hn ⊢;have hl:=h.length;rw [nS];refine ⟨_,E9 ?_,(h.drop k).take n,rfl⟩;simp only [List.length_drop] at hn ⊢;omega
theorem aK.jz:∀ {n:Nat} {l:List KV} {l' : List Value} {vs r:List KV} {bw:List Value},jz n l vs=some r->aK P E l l'->aK P E vs bw->∃ r',fc n l' bw=some r'/\aK P E r r'
 | 0,l,l',[],r,bw,h,hl,hv=>by simp [K.jz] at h; subst h; rw [hv.bz]; exact ⟨l',uW l',hl⟩
 | 0,[],l',_::_,r,bw,h,hl,hv=>by simp [K.jz] at h
 | 0,x::l,l',v::vs,r,bw,h,hl,hv=>by
  obtain ⟨y,ys,rfl,_,k⟩:=hl.cons_inv;obtain ⟨u,us,rfl,h1,h2⟩:=hv.cons_inv;simp only [K.jz,aU] at h;obtain ⟨q,hq,rfl⟩:=h;obtain ⟨r',e,hr⟩:=aK.jz hq k h2;exact ⟨u::r',by simp [uX,e],.cons h1 hr⟩
 | n+1,[],l',[],r,bw,h,hl,hv=>by simp [K.jz] at h; subst h; rw [hl.bz,hv.bz]; exact ⟨[],rfl,.nil⟩
 | n+1,[],l',_::_,r,bw,h,hl,hv=>by simp [K.jz] at h
 | n+1,x::l,l',vs,r,bw,h,hl,hv=>by
  obtain ⟨y,ys,rfl,h1,k⟩:=hl.cons_inv;simp only [K.jz,aU] at h;obtain ⟨q,hq,rfl⟩:=h;obtain ⟨r',e,hr⟩:=aK.jz hq k hv;exact ⟨y::r',by simp [ns,e],.cons h1 hr⟩
theorem aK.Zi:∀ {l:List KV} {l' : List Value},l'.length=l.length->(∀ (i:Nat) (v:KV) (v' : Value),l[i]? = some v->l'[i]? = some v'->VK P E v v')->aK P E l l'
 | [],l',h,_=>by cases l' <;> simp_all [aK.nil]
 | x::xs,l',h,k=>by
  cases l' with
  | nil=>simp at h
  | cons y ys=>exact .cons (k 0 x y rfl rfl) (aK.Zi (by simpa using h) fun i v v' e e'=>k (i+1) v v' (by simpa using e) (by simpa using e'))
theorem VK.bO {k:IntKind} {n:Int} {v:Value} (h:VK P E (.int k n) v):v = .int k n:=by simpa [VK] using h
theorem VK.dq {b:Bool} {v:Value} (h:VK P E (.bool b) v):v = .bool b:=by simpa [VK] using h
theorem VK.ph {s:ByteArray} {v:Value} (h:VK P E (.str s) v):v = .string s:=by simpa [VK] using h
theorem VK.ju {cs:List KV} {v:Value} (h:VK P E (.agg cs) v):∃ l,v = .agg ⟨l⟩/\aK P E cs l:=by simpa [VK] using h
theorem VK.ID {cs:List KV} {v:Value} (h:VK P E (.nh cs) v):∃ l,v = .tuple ⟨l⟩/\aK P E cs l:=by simpa [VK] using h
theorem VK.gh {b off:Nat} {v:Value} (h:VK P E (.ptr b off) v):∃ x,E.κ b=some x/\v = .pointer (some ⟨x,off,none⟩):=by simpa [VK] using h
theorem VK.Kb {b off n c:Nat} {v:Value} (h:VK P E (.sl b off n c) v):∃ x,E.κ b=some x/\v = .slice (some ⟨x,off,none⟩) n c:=by simpa [VK] using h
theorem VK.Gm {f:Fn} {a b:List KV} {v:Value} (h:VK P E (.fn f a b) v):∃ l m,v = .func f ⟨l⟩ ⟨m⟩/\aK P E a l/\aK P E b m:=by simpa [VK] using h
theorem VK.jC {T:TypeId} {m:Mk} {n:Nat} {es:List KV} {acc:Nat->KV} {v:Value} (h:VK P E (.ts T m n es acc) v):fV P T n es acc/\∃ aP,aK P E es aP/\abf P E T m n aP v:=by simpa [VK] using h
theorem VK.Gn {T Tc:TypeId} {i k:Nat} {es:List KV} {acc:Nat->KV} {v:Value} (h:VK P E (.tp T Tc i k es acc) v):fV P T es.length es acc/\∃ aP,aK P E es aP/\abg P E T Tc i k es aP v:=by simpa [VK] using h
theorem VK.rH {T:TypeId} {b o n:Nat} {v:Value} (h:VK P E (.al T b o n) v):RQ P E T b o n v:=by simpa [VK] using h
theorem VK.Dd {T Tc:TypeId} {b i k:Nat} {v:Value} (h:VK P E (.ap T Tc b i k) v):XP P E T Tc b i k v:=by simpa [VK] using h
theorem VK.IE {T:TypeId} {b o n:Nat} {v:Value} (h:RQ P E T b o n v):VK P E (.al T b o n) v:=by simpa [VK] using h
theorem VK.aiD {T Tc:TypeId} {b i k:Nat} {v:Value} (h:XP P E T Tc b i k v):VK P E (.ap T Tc b i k) v:=by simpa [VK] using h
theorem RQ.slice {T:TypeId} {b o n:Nat} {v:Value} (h:RQ P E T b o n v):∃ a c,v = .slice a n c:=by
 rcases h with ⟨rfl,_,rfl⟩ | ⟨x,L,N,c,_,rfl,_⟩
 ·exact ⟨_,_,rfl⟩
 ·exact ⟨_,_,rfl⟩
theorem VK.mv {v:Value} (h:VK P E .je v):v = .slice none 0 0:=by simpa [VK] using h
theorem VK.Kc {v:Value} (h:VK P E .Au v):v = .pointer none:=by simpa [VK] using h
theorem VK.mkInt {k:IntKind} {n:Int} : VK P E (.int k n) (.int k n):=by simp [VK]
theorem VK.nE {b:Bool} : VK P E (.bool b) (.bool b):=by simp [VK]
theorem VK.mkStr {s:ByteArray} : VK P E (.str s) (.string s):=by simp [VK]
theorem VK.nt {cs:List KV} {l:List Value} (h:aK P E cs l):VK P E (.agg cs) (.agg ⟨l⟩):=by simp only [VK]; exact ⟨l,rfl,h⟩
theorem VK.QE {cs:List KV} {l:List Value} (h:aK P E cs l):VK P E (.nh cs) (.tuple ⟨l⟩):=by simp only [VK]; exact ⟨l,rfl,h⟩
theorem VK.wx {b x off:Nat} (h:E.κ b=some x):VK P E (.ptr b off) (.pointer (some ⟨x,off,none⟩)):=by simp only [VK]; exact ⟨x,h,rfl⟩
theorem VK.afi {b x off n c:Nat} (h:E.κ b=some x):VK P E (.sl b off n c) (.slice (some ⟨x,off,none⟩) n c):=by simp only [VK]; exact ⟨x,h,rfl⟩
theorem VK.abh {f:Fn} {a b:List KV} {l m:List Value} (h:aK P E a l) (k:aK P E b m):VK P E (.fn f a b) (.func f ⟨l⟩ ⟨m⟩):=by simp only [VK]; exact ⟨l,m,rfl,h,k⟩
theorem VK.undef:VK P E uC undef:=VK.QE .nil
theorem VK.qp {v:Value} : VK P E .bx v:=by simp [VK]
theorem VK.cells {v:KV} {v' : Value} (h:VK P E v v') (hu:rF v=true):aK P E v.cells v'.cells.toList:=by
 cases v with
 | agg cs=>obtain ⟨l,rfl,q⟩:=h.ju; exact q
 | int k n=>have:=h.bO; subst this; exact .cons h .nil
 | bool b=>have:=h.dq; subst this; exact .cons h .nil
 | str b=>have:=h.ph; subst this; exact .cons h .nil
 | nh cs=>have q:=h; obtain ⟨l,rfl,_⟩:=h.ID; exact .cons q .nil
 | ts T m n es acc=>have q:=h; obtain ⟨_,_,_,a,cap,rfl,_⟩:=h.jC; exact .cons q .nil
 | tp T Tc i k es acc=>have q:=h; obtain ⟨_,_,_,_,_,b,off,r,rfl,_⟩:=h.Gn; exact .cons q .nil
 | al T b o n=>have q:=h; obtain ⟨a,c,rfl⟩:=h.rH.slice; exact .cons q .nil
 | ap T Tc b i k=>have q:=h; obtain ⟨x,L,N,_,_,_,rfl⟩:=h.Dd; exact .cons q .nil
 | ptr b off=>have q:=h; obtain ⟨x,_,rfl⟩:=h.gh; exact .cons q .nil
 | sl b off n c=>have q:=h; obtain ⟨x,_,rfl⟩:=h.Kb; exact .cons q .nil
 | Au=>have q:=h; simp only [VK] at h; subst h; exact .cons q .nil
 | je=>have q:=h; simp only [VK] at h; subst h; exact .cons q .nil
 | wF=>have q:=h; simp only [VK] at h; subst h; exact .cons q .nil
 | map b=>have q:=h; simp only [VK] at h; obtain ⟨x,_,rfl⟩:=h; exact .cons q .nil
 | fn f a b=>have q:=h; obtain ⟨l,m,rfl,_⟩:=h.Gm; exact .cons q .nil
 | BP=>have q:=h; simp only [VK] at h; subst h; exact .cons q .nil
 | iface t x=>have q:=h; simp only [VK] at h; obtain ⟨y,rfl,_⟩:=h; exact .cons q .nil
 | BQ=>have q:=h; simp only [VK] at h; subst h; exact .cons q .nil
 | bx=>simp [rF] at hu
theorem VK.scalar {v:KV} {v' : Value} (h:VK P E v v') (ho:one v=true):aA.scalar v' = true:=by
 cases v with
 | agg cs=>simp [one] at ho
 | nh cs=>simp [one] at ho
 | bx=>simp [one] at ho
 | int k n=>have:=h.bO; subst this; rfl
 | bool b=>have:=h.dq; subst this; rfl
 | str b=>have:=h.ph; subst this; rfl
 | ts T m n es acc=>obtain ⟨_,_,_,a,cap,rfl,_⟩:=h.jC; rfl
 | tp T Tc i k es acc=>obtain ⟨_,_,_,_,_,b,off,r,rfl,_⟩:=h.Gn; rfl
 | al T b o n=>obtain ⟨a,c,rfl⟩:=h.rH.slice; rfl
 | ap T Tc b i k=>obtain ⟨x,L,N,_,_,_,rfl⟩:=h.Dd; rfl
 | ptr b off=>obtain ⟨x,_,rfl⟩:=h.gh; rfl
 | sl b off n c=>obtain ⟨x,_,rfl⟩:=h.Kb; rfl
 | Au=>simp only [VK] at h; subst h; rfl
 | je=>simp only [VK] at h; subst h; rfl
 | wF=>simp only [VK] at h; subst h; rfl
 | map b=>simp only [VK] at h; obtain ⟨x,_,rfl⟩:=h; rfl
 | fn f a b=>obtain ⟨l,m,rfl,_⟩:=h.Gm; rfl
 | BP=>simp only [VK] at h; subst h; rfl
 | iface t x=>simp only [VK] at h; obtain ⟨y,rfl,_⟩:=h; rfl
 | BQ=>simp only [VK] at h; subst h; rfl
theorem aK.scalar:∀ {l:List KV} {l' : List Value},aK P E l l'->jk l=true->∀ v∈l',aA.scalar v=true
 | [],l',h,_,v,hv=>by rw [h.bz] at hv; simp at hv
 | x::xs,l',h,ho,v,hv=>by
  obtain ⟨y,ys,rfl,h1,h2⟩:=h.cons_inv;simp only [jk,aj] at ho;rcases bd.1 hv with rfl | hv
  ·exact h1.scalar ho.1
  ·exact aK.scalar h2 ho.2 v hv
theorem yR {v:KV} (h:jk v.cells=true):rF v=true:=by
 cases v <;> first | rfl | simp [KV.cells,jk,one] at h
mutual
theorem VK.fC:∀ (v:Value),VK P E (fC v) v
 | .bool b=>by simp [K.fC,VK]
 | .int k n=>by simp [K.fC,VK]
 | .string s=>by simp [K.fC,VK]
 | .pointer none=>by simp [K.fC,VK]
 | .pointer (some a)=>by simp [K.fC,VK]
 | .slice none 0 0=>by simp [K.fC,VK]
 | .slice none 0 (n+1)=>by simp [K.fC,VK]
 | .slice none (n+1) c=>by simp [K.fC,VK]
 | .slice (some a) n c=>by simp [K.fC,VK]
 | .map none=>by simp [K.fC,VK]
 | .map (some r)=>by simp [K.fC,VK]
 | .nilFunc=>by simp [K.fC,VK]
 | .nilIface=>by simp [K.fC,VK]
 | .agg cs=>by
  obtain ⟨l⟩:=cs;simp only [K.fC,ofA];exact .nt (aK.ofL l)
 | .tuple cs=>by
  obtain ⟨l⟩:=cs;simp only [K.fC,ofA];exact .QE (aK.ofL l)
 | .float _ _=>by simp [K.fC,VK]
 | .complex _ _ _=>by simp [K.fC,VK]
 | .chan _=>by simp [K.fC,VK]
 | .func _ _ _=>by simp [K.fC,VK]
 | .iface _ _=>by simp [K.fC,VK]
theorem aK.ofL:∀ (l:List Value),aK P E (ofL l) l
 | []=>.nil
 | v::vs=>.cons (VK.fC v) (aK.ofL vs)
end
theorem Gp {z:Value} (h:jk (fC z).cells=true):aK P E (fC z).cells z.cells.toList:=(VK.fC z).cells (yR h)
def De (E:Env) (A:ai):Prop:=∀ b c g tb sb tc sc,A.get b=some (.aF tb sb)->A.get c=some (.aF tc sc)->E.φ b=some g->E.φ c=some g->b=c
def AR (A:ai) (E:Env) (x:Nat):Prop:=∃ b v L N,A.get b=some (.arr v)/\E.α b=some (x,L,N)
def AF (A:ai) (E:Env) (B:St) (g:Nat):Prop:=∃ b v x L N cs e own k,A.get b=some (.arr v)/\E.α b=some (x,L,N)/\B.get x=some (.row cs e own (some (g,k)))
def AT (A:ai) (E:Env) (B:St) (y:Nat):Prop:=AR A E y\/∃ g,AF A E B g/\y∈B.members g
def Uw (P:Program) (E:Env) (B:St) (b:Nat) (v:KV):Prop:=∃ T N es acc,v = .ts T .any N es acc/\fV P T N es acc/\1<=aJ P T/\
 ((N=0/\E.α b=none)\/∃ x cs aZ aP,E.α b=some (x,cs.length,N)/\B.get x=some (.row cs (aJ P T) true aZ)/\aK P E es aP/\mJ (aJ P T) 0 cs aP)
def OE (P:Program) (E:Env) (b:Nat) (v:KV):Prop:=∃ T N es acc,v = .ts T .any N es acc/\fV P T N es acc/\1<=aJ P T/\
 ((N=0/\E.α b=none)\/∃ x r aP,E.α b=some (x,r.cs.length,N)/\E.z x=some r/\r.aQ=aJ P T/\aK P E es aP/\mJ (aJ P T) 0 r.cs aP)
theorem Uw.mono (h:E.le E') {B B' : St} {b:Nat} {v:KV} (oM:E'.α b=E.α b) (hB:∀ x L N,E.α b=some (x,L,N)->B'.get x=B.get x) (q:Uw P E B b v):Uw P E' B' b v:=by
 obtain ⟨T,N,es,acc,h1,h2,h3,h4⟩:=q;refine ⟨T,N,es,acc,h1,h2,h3,?_⟩;rcases h4 with ⟨h4,h5⟩ | ⟨x,cs,aZ,aP,h4,h5,h6,h7⟩
 ·exact .inl ⟨h4,by rw [oM]; exact h5⟩
 ·exact .inr ⟨x,cs,aZ,aP,by rw [oM]; exact h4,by rw [hB _ _ _ h4]; exact h5,h6.mono h,h7⟩
theorem OE.mono (h:E.le E') {b:Nat} {v:KV} (oM:E'.α b=E.α b) (q:OE P E b v):OE P E' b v:=by
 obtain ⟨T,N,es,acc,h1,h2,h3,h4⟩:=q;refine ⟨T,N,es,acc,h1,h2,h3,?_⟩;rcases h4 with ⟨h4,h5⟩ | ⟨x,r,aP,h4,h5,h6,h7,h8⟩
 ·exact .inl ⟨h4,by rw [oM]; exact h5⟩
 ·exact .inr ⟨x,r,aP,by rw [oM]; exact h4,h.z _ _ h5,h6,h7.mono h,h8⟩
structure Gq (P:Program) (E:Env) (A:ai) (B:St):Prop where
 arr:∀ b v,A.get b=some (.arr v)->Uw P E B b v
 iI:∀ b v,A.get b=some (.iI v)->OE P E b v
 z:∀ x,AR A E x->E.z x=none/\∀ c,E.κ c≠some x
 inj:∀ b c v u x L N L' N',A.get b=some (.arr v)->A.get c=some (.arr u)->E.α b=some (x,L,N)->E.α c=some (x,L',N')->b=c
 rC:∀ b c v u x y L N L' N' cs e own g k b5 e' nJ k',A.get b=some (.arr v)->A.get c=some (.arr u)->E.α b=some (x,L,N)->E.α c=some (y,L',N')->B.get x=some (.row cs e own (some (g,k)))->B.get y=some (.row b5 e' nJ (some (g,k')))->b=c
 WT:∀ b x,E.κ b=some x->E.α b=none
 fZ:∀ b p,E.α b=some p->b < A.next
 eD:∀ b x L N,E.α b=some (x,L,N)->x < B.next
 p7:∀ b v x L N cs e own g k,A.get b=some (.arr v)->E.α b=some (x,L,N)->B.get x=some (.row cs e own (some (g,k)))->g < B.next/\(∀ f,E.φ f≠some g)/\∀ y∈B.members g,y≠x->E.z y=none/\¬ AR A E y/\∀ c,E.κ c≠some y
 nk:∀ b v,A.get b=some (.arr v)->b < A.next/\E.κ b=none
structure du (P:Program) (E:Env) (A:ai) (B:St):Prop where
 row:∀ b cs aQ,A.get b=some (.row cs aQ)->∃ x b5,E.κ b=some x/\B.get x=some (.row b5 aQ true none)/\aK P E cs b5
 aF:∀ b top sz,A.get b=some (.aF top sz)->(top=0/\E.φ b=none)\/∃ g,E.φ b=some g/\0 < top/\∀ x∈B.members g,∀ cs e own f k,B.get x=some (.row cs e own (some (f,k)))->k=0/\cs.length<=top * sz
 z:∀ b r,E.z b=some r->B.get b=some (.row r.cs r.aQ r.own r.aZ)
 apart:∀ b x,E.κ b=some x->E.z x=none
 inj:∀ b c x,E.κ b=some x->E.κ c=some x->b=c
 iB:De E A
 fZ:∀ b x,E.κ b=some x->b < A.next
 lk:∀ b g,E.φ b=some g->b < A.next
 live:∀ b o,A.get b=some o->b < A.next
 eD:∀ b x,E.κ b=some x->x < B.next
 lT:∀ b r,E.z b=some r->b < B.next
 iU:∀ b g,E.φ b=some g->g < B.next
 fresh:∀ g,B.next<=g->B.members g = []
 mem:∀ g x,x∈B.members g->x < B.next
 ar:Gq P E A B
structure Ev (P:Program) (base:Nat) (E:Env) (A:ai) (B:St) (ρ:Ren) (w:World) (E' : Env) (A' : ai) (B' : St) (ak:Ren) (w' : World):Prop where
 dI:du P E' A' B'
 gG:cq base ρ B w ak B' w'
 le:E.le E'
 next:A.next<=A'.next
 di:∀ x,x < B.next->(∀ b,E.κ b≠some x)->¬ AT A E B x->B'.get x=B.get x
 new:∀ b x,E'.κ b=some x->E.κ b=some x\/A.next<=b/\B.next<=x
 qN:∀ b r,E'.z b=some r->E.z b=some r\/AR A E b\/B.next<=b
 pj:∀ b g,E'.φ b=some g->(∃ c,E.φ c=some g)\/B.next<=g
 nw:∀ g,g < B.next->(∀ b,E.φ b≠some g)->¬ AF A E B g->B'.members g=B.members g
 jT:∀ x,AR A' E' x->AR A E x\/B.next<=x
 j9:∀ g,AF A' E' B' g->AF A E B g\/B.next<=g
 rI:∀ g y,y∈B'.members g->y∈B.members g\/B.next<=y
 lU:∀ y,AT A' E' B' y->AT A E B y\/B.next<=y
 rows:∀ y,y < B.next->∀ cs e own aZ,B'.get y=some (.row cs e own aZ)->∃ mG,B.get y=some (.row mG e own aZ)/\mG.length=cs.length
theorem Ev.refl {base:Nat} {A:ai} {B:St} {ρ:Ren} {w:World} (h:du P E A B) (s:iv ρ B base w):Ev P base E A B ρ w E A B ρ w:=
 ⟨h,.refl s,Env.le_refl _,ao _,fun _ _ _ _=>rfl,fun _ _ h=>.inl h,fun _ _ h=>.inl h,fun _ _ h=>.inl ⟨_,h⟩,fun _ _ _ _=>rfl,fun _ h=>.inl h,fun _ h=>.inl h,fun _ _ h=>.inl h,fun _ h=>.inl h,fun _ _ cs _ _ _ h=>⟨cs,h,rfl⟩⟩
theorem Ev.trans {base:Nat} {E1 E2 E3:Env} {A1 A2 A3:ai} {B1 B2 B3:St} {fH nv Qp:Ren} {w1 w2 w3:World} (h:Ev P base E1 A1 B1 fH w1 E2 A2 B2 nv w2) (k:Ev P base E2 A2 B2 nv w2 E3 A3 B3 Qp w3) :
  Ev P base E1 A1 B1 fH w1 E3 A3 B3 Qp w3 where
 dI:=k.dI
 gG:=h.gG.trans k.gG
 le:=Env.le_trans h.le k.le
 next:=dx h.next k.next
 di x hx hn ha:=by
  refine (k.di x (dG hx h.gG.next) (fun b e=>?_) fun q=>?_).trans (h.di x hx hn ha)
  ·rcases h.new b x e with e | e
   ·exact hn b e
   ·have:=e.2; omega
  ·rcases h.lU x q with e | e
   ·exact ha e
   ·omega
 new b x e:=by
  rcases k.new b x e with e | e
  ·rcases h.new b x e with e | e
   ·exact .inl e
   ·exact .inr e
  ·have:=h.gG.next; have:=h.next; exact .inr (by omega)
 qN b r e:=by
  rcases k.qN b r e with e | e | e
  ·exact h.qN b r e
  ·exact .inr (h.jT b e)
  ·have:=h.gG.next; exact .inr (.inr (by omega))
 pj b g e:=by
  rcases k.pj b g e with ⟨c,e⟩ | e
  ·exact h.pj c g e
  ·have:=h.gG.next; exact .inr (by omega)
 nw g hg hn ha:=by
  refine (k.nw g (dG hg h.gG.next) (fun b e=>?_) fun q=>?_).trans (h.nw g hg hn ha)
  ·rcases h.pj b g e with ⟨c,e⟩ | e
   ·exact hn c e
   ·omega
  ·rcases h.j9 g q with e | e
   ·exact ha e
   ·omega
 jT x e:=by
  rcases k.jT x e with e | e
  ·exact h.jT x e
  ·have:=h.gG.next; exact .inr (by omega)
 j9 g e:=by
  rcases k.j9 g e with e | e
  ·exact h.j9 g e
  ·have:=h.gG.next; exact .inr (by omega)
 rI g y e:=by
  rcases k.rI g y e with e | e
  ·exact h.rI g y e
  ·have:=h.gG.next; exact .inr (by omega)
 lU y e:=by
  rcases k.lU y e with e | e
  ·exact h.lU y e
  ·have:=h.gG.next; exact .inr (by omega)
 rows y hy cs e own aZ q:=by
  obtain ⟨c1,h1,h2⟩:=k.rows y (dG hy h.gG.next) cs e own aZ q;obtain ⟨c0,h3,h4⟩:=h.rows y hy c1 e own aZ h1;exact ⟨c0,h3,h4.trans h2⟩
@[simp] theorem ai.b6 (A:ai) (b:Nat) (o:gJ) (x:Nat):(A.put b o).get x=if x=b then some o else A.get x:=by simp [ai.put,ai.get,Trie.iY]
@[simp] theorem ai.cV (A:ai) (o:gJ) (x:Nat):(A.new o).get x=if x=A.next then some o else A.get x:=by simp [ai.new,ai.get,Trie.iY]
@[simp] theorem ai.o8 (A:ai) (b:Nat) (o:gJ):(A.put b o).next=A.next:=rfl
@[simp] theorem ai.cw (A:ai) (o:gJ):(A.new o).next=A.next+1:=rfl
theorem De.put {A:ai} (h:De E A) {b:Nat} {o:gJ} (ho:(∀ t s,o≠.aF t s)\/E.φ b=none):De E (A.put b o):=by
 intro x y g tx sx ty sy hx hy ex ey;have key:∀ {z t s},(A.put b o).get z=some (.aF t s)->E.φ z=some g->A.get z=some (.aF t s):=by
  intro z t s hz ez;rw [ai.b6] at hz;split at hz
  ·rename_i e
   simp at hz;rcases ho with ho | ho
   ·exact absurd hz (ho t s)
   ·rw [e,ho] at ez; simp at ez
  ·exact hz
 exact h x y g tx sx ty sy (key hx ex) (key hy ey) ex ey
theorem De.new {A:ai} (h:De E A) {o:gJ} (ho:(∀ t s,o≠.aF t s)\/E.φ A.next=none):De E (A.new o):=by
 intro x y g tx sx ty sy hx hy ex ey;have key:∀ {z t s},(A.new o).get z=some (.aF t s)->E.φ z=some g->A.get z=some (.aF t s):=by
  intro z t s hz ez;rw [ai.cV] at hz;split at hz
  ·rename_i e
   simp at hz;rcases ho with ho | ho
   ·exact absurd hz (ho t s)
   ·rw [e,ho] at ez; simp at ez
  ·exact hz
 exact h x y g tx sx ty sy (key hx ex) (key hy ey) ex ey
structure KJ (P:Program) (E:Env) (A:ai) (B:St) (ρ:Ren) (base:Nat) (w:World):Prop where
 k:du P E A B
 s:iv ρ B base w
theorem Ev.kj {base:Nat} {E1 E2:Env} {A1 A2:ai} {B1 B2:St} {fH nv:Ren} {w1 w2:World} (h:Ev P base E1 A1 B1 fH w1 E2 A2 B2 nv w2):KJ P E2 A2 B2 nv base w2:=⟨h.dI,h.gG.dI⟩
def VC (P:Program) (E:Env) (ρ:Ren) (v:KV) (v' : Value):Prop:=∃ u,VK P E v u/\VR ρ u v'
theorem VC.mono {ρ ak:Ren} {v:KV} {v' : Value} (h:VC P E ρ v v') (k:E.le E') (m:ρ.le ak):VC P E' ak v v':=by
 obtain ⟨u,h1,h2⟩:=h;exact ⟨u,h1.mono k,h2.mono m⟩
theorem VC.bx {ρ:Ren} {v' : Value} : VC P E ρ .bx v':=⟨.chan none,.qp,by simp [VR]⟩
theorem VC.undef {ρ:Ren} : VC P E ρ uC undef:=⟨_,.undef,VR.undef⟩
end Go.K
end
section
namespace Go.K
open Go Go.aA
variable {P:Program} {E:Env}
def az {α:Type} (r:KR α) (v:α):Prop:=
 match r with
 | .no=>False
 | .ok u=>u=v
 | .iJ c u=>c=true/\u=v
 | .br c x y=>(c=true/\az x v)\/(c=false/\az y v)
theorem KR.vH {α R:Type} {k:α->Option R} {x:R} : ∀ {r:KR α},r.run k=some x->∃ v,az r v/\k v=some x:=by
 intro r h
 match r,h with
 | .no,h=>exact absurd h (by simp [KR.run])
 | .ok v,h=>exact ⟨v,rfl,h⟩
 | .iJ c v,h=>
  cases c with
  | false=>exact absurd h (by simp [KR.run])
  | true=>exact ⟨v,⟨rfl,rfl⟩,h⟩
 | .br c x y,h=>
  cases c with
  | false=>obtain ⟨v,h1,h2⟩:=KR.vH (r:=y) (k:=k) h; exact ⟨v,.inr ⟨rfl,h1⟩,h2⟩
  | true=>obtain ⟨v,h1,h2⟩:=KR.vH (r:=x) (k:=k) h; exact ⟨v,.inl ⟨rfl,h1⟩,h2⟩
theorem az.at {α:Type} {i:Int} {f:Nat->KR α} {v:α} : ∀ {m j:Nat},az (afc i f m j) v->∃ k,j<=k/\k < j+m/\i=(k:Int)/\az (f k) v
 | 0,j,h=>h.elim
 | m+1,j,h=>by
  rcases h with ⟨h1,h2⟩ | ⟨_,h2⟩
  ·exact ⟨j,ao j,by omega,JN h1,h2⟩
  ·obtain ⟨k,h3,h4,h5,h6⟩:=az.at (m:=m) (j:=j+1) h2
   exact ⟨k,by omega,by omega,h5,h6⟩
theorem az.of {α:Type} {o:Option α} {v:α} (h:az (KR.of o) v):o=some v:=by
 cases o with
 | none=>exact h.elim
 | some u=>have h:u=v:=h; rw [h]
theorem az.cond {α:Type} {c:Bool} {r:KR α} {v:α} (h:az (cond c r .no) v):c=true/\az r v:=by
 cases c with
 | false=>exact h.elim
 | true=>exact ⟨rfl,h⟩
theorem Gr {α:Type} {c:Bool} {r:Option α} {v:α} (h:cond c r none=some v):c=true/\r=some v:=by
 cases c with
 | false=>simp at h
 | true=>exact ⟨rfl,h⟩
def r7 (P:Program) (f:FP) (g:List Value->Option Value):Prop:=
 ∀ (E:Env) (vs:List KV) (us:List Value) (v:KV),aK P E vs us->az (f vs) v->∃ u,g us=some u/\VK P E v u
theorem abi:r7 P Za FN:=by
 intro E vs us v h hg
 match vs,hg with
 | [x],hg=>
  obtain ⟨y,rfl,h1⟩:=h.dC;have hg:x=v:=hg;subst hg;exact ⟨y,rfl,h1⟩
theorem agP:r7 P Zb FN:=by
 intro E vs us v h hg
 match vs,hg with
 | [.bool b],hg=>
  obtain ⟨y,rfl,h1⟩:=h.dC;have hb:v = .bool b:=by
   rcases hg with ⟨rfl,h2⟩ | ⟨rfl,h2⟩
   ·exact (show KV.bool true=v from h2).symm
   ·exact (show KV.bool false=v from h2).symm
  subst hb;exact ⟨_,rfl,h1⟩
 | [x],hg=>
  have key:v=x:=by
   cases x <;> first | exact (show _=v from hg).symm | skip
   rcases hg with ⟨rfl,h2⟩ | ⟨rfl,h2⟩
   ·exact (show KV.bool true=v from h2).symm
   ·exact (show KV.bool false=v from h2).symm
  subst key;obtain ⟨y,rfl,h1⟩:=h.dC;exact ⟨_,rfl,h1⟩
theorem agQ {b:Bool} : r7 P (cond b Zb Za) FN:=by
 cases b with
 | true=>exact agP
 | false=>exact abi
theorem aiE:r7 P adz TC:=by
 intro E vs us v h hg
 match vs,hg with
 | [.bool t,.bool a,.bool b],hg=>
  obtain ⟨x,y,z,rfl,h1,h2,h3⟩:=h.Mv;have:=h1.dq; subst this;have:=h2.dq; subst this;have:=h3.dq; subst this;have hg:KV.bool (cond t a b)=v:=hg;subst hg;exact ⟨_,rfl,by cases t <;> exact .nE⟩
 | [.bool t,a,b],hg=>
  obtain ⟨x,y,z,rfl,h1,h2,h3⟩:=h.Mv;have:=h1.dq; subst this;refine ⟨_,rfl,?_⟩;have hg:v=cond t a b\/∃ p q,a = .bool p/\b = .bool q/\v = .bool (cond t p q):=by
   unfold adz at hg;split at hg
   ·rename_i t' a' b' e
    simp at e;obtain ⟨rfl,rfl,rfl⟩:=e;exact .inr ⟨_,_,rfl,rfl,hg.symm⟩
   ·rename_i t' a' b' _ e
    simp at e;obtain ⟨rfl,rfl,rfl⟩:=e;exact .inl hg.symm
   ·exact hg.elim
  rcases hg with rfl | ⟨p,q,rfl,rfl,rfl⟩
  ·cases t
   ·exact h3
   ·exact h2
  ·have:=h2.dq; subst this
   have:=h3.dq; subst this;cases t <;> exact .nE
theorem QF {v:KV} {u:Value} (h:VK P E v u) (hk:rF v=true):aA.known u=true:=by
 cases v with
 | agg cs=>obtain ⟨l,rfl,q⟩:=h.ju; rfl
 | int k n=>have:=h.bO; subst this; rfl
 | bool b=>have:=h.dq; subst this; rfl
 | str b=>have:=h.ph; subst this; rfl
 | nh cs=>obtain ⟨l,rfl,_⟩:=h.ID; rfl
 | ts T m n es acc=>obtain ⟨_,_,_,a,cap,rfl,_⟩:=h.jC; rfl
 | tp T Tc i k es acc=>obtain ⟨_,_,_,_,_,b,off,r,rfl,_⟩:=h.Gn; rfl
 | al T b o n=>obtain ⟨a,c,rfl⟩:=h.rH.slice; rfl
 | ap T Tc b i k=>obtain ⟨x,L,N,_,_,_,rfl⟩:=h.Dd; rfl
 | ptr b off=>obtain ⟨x,_,rfl⟩:=h.gh; rfl
 | sl b off n c=>obtain ⟨x,_,rfl⟩:=h.Kb; rfl
 | Au=>simp only [VK] at h; subst h; rfl
 | je=>simp only [VK] at h; subst h; rfl
 | wF=>simp only [VK] at h; subst h; rfl
 | map b=>simp only [VK] at h; obtain ⟨x,_,rfl⟩:=h; rfl
 | fn f a b=>obtain ⟨l,m,rfl,_⟩:=h.Gm; rfl
 | BP=>simp only [VK] at h; subst h; rfl
 | iface t x=>simp only [VK] at h; obtain ⟨y,rfl,_⟩:=h; rfl
 | BQ=>simp only [VK] at h; subst h; rfl
 | bx=>simp [rF] at hk
theorem IG {v:KV} {u:Value} (h:VK P E v u) (hk:rF v=true):u.cells.size=v.cells.length:=by
 have:=(h.cells hk).length;simpa using this
theorem Ux {place:Nat->Option (Nat×Nat)} : ∀ {ps:List (Nat×KV)} {qs:List (Nat×Value)} {cs r:List KV} {b5:List Value},ps.map (·.1)=qs.map (·.1)->aK P E (ps.map (·.2)) (qs.map (·.2))->(∀ p∈ps,rF p.2=true)->
  aK P E cs b5->Qr place cs ps=some r->∃ r',wi place b5 qs=some r'/\aK P E r r'
 | [],[],cs,r,b5,_,_,_,h,e=>by simp [Qr] at e; subst e; exact ⟨b5,rfl,h⟩
 | [],_::_,_,_,_,e,_,_,_,_=>by simp at e
 | _::_,[],_,_,_,e,_,_,_,_=>by simp at e
 | (i,v)::ps,(j,u)::qs,cs,r,b5,e1,e2,hk,h,e=>by
  simp only [List.map_cons,List.cons.injEq] at e1;obtain ⟨rfl,e1⟩:=e1;obtain ⟨y,ys,e3,h1,h2⟩:=e2.cons_inv;simp only [List.map_cons,List.cons.injEq] at e3;obtain ⟨rfl,rfl⟩:=e3;have hkv:rF v=true:=hk (i,v) (by simp);simp only [Qr] at e;simp only [wi];split at e
  ·rename_i off size hp
   rw [hp];obtain ⟨hc,e⟩:=Gr e;obtain ⟨mc,e4,e5⟩:=aO.1 e;obtain ⟨r1,e6,h3⟩:=aK.jz e4 h (h1.cells hkv);obtain ⟨r',e7,h4⟩:=Ux e1 h2 (fun p hp=>hk p (by simp [hp])) h3 e5;refine ⟨r',?_,h4⟩;simp only;rw [IG h1 hkv,hc,ah,e6];exact e7
  ·simp at e
theorem Uy:∀ (is:List Nat) {vs:List KV} {us:List Value},aK P E vs us->(tC is vs).map (·.1)=(zipIdx is us).map (·.1)/\aK P E ((tC is vs).map (·.2)) ((zipIdx is us).map (·.2))
 | [],_,_,_=>by simp [tC,zipIdx,aK.nil]
 | i::is,[],us,h=>by rw [h.bz]; simp [tC,zipIdx,aK.nil]
 | i::is,v::vs,us,h=>by
  obtain ⟨y,ys,rfl,h1,h2⟩:=h.cons_inv;obtain ⟨h3,h4⟩:=Uy is h2;exact ⟨by simp [tC,zipIdx,h3],by simpa [tC,zipIdx] using aK.cons h1 h4⟩
theorem Uz:∀ (is:List Nat) (vs:List KV),∀ p∈tC is vs,p.2∈vs
 | [],_,p,h=>by simp [tC] at h
 | i::is,[],p,h=>by simp [tC] at h
 | i::is,v::vs,p,h=>by
  simp only [tC,bd] at h;rcases h with rfl | h
  ·simp
  ·simp [Uz is vs p h]
theorem BS:∀ {vs:List KV} {us:List Value},aK P E vs us->vs.all rF=true->us.all aA.known=true
 | [],us,h,_=>by rw [h.bz]; rfl
 | v::vs,us,h,k=>by
  obtain ⟨y,ys,rfl,h1,h2⟩:=h.cons_inv;simp only [List.all_cons,aj] at k ⊢;exact ⟨QF h1 k.1,BS h2 k.2⟩
theorem XQ {place:Nat->Option (Nat×Nat)} {z:Value} {is:List Nat} (hz:flat z=true) (h1:jk (fC z).cells=true):r7 P (J3 place (fC z).cells is) (xV place z is):=by
 intro E vs us v h hg;unfold J3 at hg;split at hg
 ·rename_i cs hf
  obtain ⟨hk,hg⟩:=hg.cond;have hg:KV.agg cs=v:=hg;subst hg;obtain ⟨h2,h3⟩:=Uy is h;obtain ⟨r',e,hr⟩:=Ux h2 h3 (fun p hp=>by have:=Uz is vs p hp; exact dS.1 hk _ this) (Gp (P:=P) (E:=E) h1) hf;refine ⟨.agg ⟨r'⟩,?_,.nt hr⟩;unfold xV;rw [hz,BS h hk];simp [e,nt]
 ·exact hg.elim
theorem aks:r7 P Um FQ:=by
 intro E vs us v h hg
 match vs,hg with
 | [.ptr b off],hg=>
  obtain ⟨y,rfl,h1⟩:=h.dC;have hg:KV.ptr b off=v:=hg;subst hg;have q:=h1;obtain ⟨x,e,rfl⟩:=h1.gh;exact ⟨_,rfl,q⟩
 | [.tp T Tc i k es acc],hg=>
  obtain ⟨y,rfl,h1⟩:=h.dC;have hg:KV.tp T Tc i k es acc=v:=hg;subst hg;have q:=h1;obtain ⟨_,_,_,_,_,b,off,r,rfl,_⟩:=h1.Gn;exact ⟨_,rfl,q⟩
 | [.ap T Tc b i k],hg=>
  obtain ⟨y,rfl,h1⟩:=h.dC;have hg:KV.ap T Tc b i k=v:=hg;subst hg;have q:=h1;obtain ⟨x,L,N,_,_,_,rfl⟩:=h1.Dd;exact ⟨_,rfl,q⟩
 | [.fn (.func f) a b],hg=>
  obtain ⟨y,rfl,h1⟩:=h.dC;have hg:KV.fn (.func f) a b=v:=hg;subst hg;have q:=h1;obtain ⟨l,m,rfl,_⟩:=h1.Gm;exact ⟨_,rfl,q⟩
theorem II {s ft:TypeId} {off:Nat} (h:Tg P s off ft=true):∀ m c,(aH P ft).ks[m]? = some c->(aH P s).ks[off+m]? = some c:=by
 unfold Tg at h;have key:∀ (a b:List CK),yh a b=true->a=b:=by
  intro a
  induction a with
  | nil=>intro b hb; cases b <;> simp_all [yh]
  | cons x xs ih=>
   intro b hb;cases b with
   | nil=>simp [yh] at hb
   | cons y ys=>
    simp only [yh,aj] at hb;rw [ih ys hb.2];congr 1;cases x <;> cases y <;> simp_all [aiA]
 split at h
 ·rename_i l e
  obtain ⟨rfl,hl⟩:=Ka e;have:=key _ _ h;intro m c hm;rw [<- this,kR] at hm;split at hm
  ·rwa [E8,lE] at hm
  ·simp at hm
 ·simp at h
theorem WU {s ft:TypeId} {off:Nat} {pe:Bool} (Mw:pe=Tg P s off ft):r7 P (RN s off ft pe) (CV off):=by
 intro E vs us v h hg
 match vs,hg with
 | [.ptr b o],hg=>
  obtain ⟨y,rfl,h1⟩:=h.dC;have hg:KV.ptr b (o+off)=v:=hg;subst hg;obtain ⟨x,e,rfl⟩:=h1.gh;exact ⟨_,rfl,.wx e⟩
 | [.tp T Tc i k es acc],hg=>
  obtain ⟨y,rfl,h1⟩:=h.dC;obtain ⟨hc,hg⟩:=az.cond hg;have hg:KV.tp T ft i (k+off) es acc=v:=hg;subst hg;simp only [aj] at hc;have:=aE hc.1;subst this;obtain ⟨ht,aP,h2,hi,hw,b,o,r,rfl,h4,h5⟩:=h1.Gn;refine ⟨_,rfl,?_⟩;simp only [VK];refine ⟨ht,aP,h2,hi,⟨fun m c hm=>?_⟩,b,o,r,by simp only [Value.pointer.injEq,aR,Addr.mk.injEq,and_true,true_and]; omega,h4,h5⟩;have hp:=II (Mw ▸ hc.2) m c hm;have:=hw.is _ _ hp;rwa [show k+(off+m)=k+off+m by omega] at this
 | [.ap T Tc b i k],hg=>
  obtain ⟨y,rfl,h1⟩:=h.dC;obtain ⟨hc,hg⟩:=az.cond hg;have hg:KV.ap T ft b i (k+off)=v:=hg;subst hg;simp only [aj] at hc;have:=aE hc.1;subst this;obtain ⟨x,L,N,h2,hw,hi,rfl⟩:=h1.Dd;refine ⟨_,rfl,.aiD ⟨x,L,N,h2,⟨fun m c hm=>?_⟩,hi,by simp only [Value.pointer.injEq,aR,Addr.mk.injEq,and_true,true_and]; omega⟩⟩;have hp:=II (Mw ▸ hc.2) m c hm;have:=hw.is _ _ hp;rwa [show k+(off+m)=k+off+m by omega] at this
theorem abj {t:TypeId} {cs:List KV} {b5:List Value} {off:Nat} {v:KV} (h:aK P E cs b5) (e:Qt P t cs off=some v):∃ u,partOf P t b5 off=some u/\VK P E v u:=by
 unfold Qt at e;unfold partOf;split at e
 ·rename_i ha
  rw [ha];obtain ⟨n,hn,e⟩:=aO.1 e;obtain ⟨l,hl,rfl⟩:=aU.1 e;obtain ⟨r,hr,hv,_⟩:=h.r5 hl;exact ⟨.agg ⟨r⟩,by simp [hn,hr],.nt hv⟩
 ·rename_i ha
  rw [ha];rw [E8] at e;have hd:=h.drop off;cases hc:cs.drop off with
  | nil=>rw [hc] at e; simp at e
  | cons x xs=>
   rw [hc] at e hd;simp at e;subst e;obtain ⟨y,ys,e2,h1,_⟩:=hd.cons_inv;exact ⟨y,by simp [nS,e2],h1⟩
 ·simp at e
theorem agR {fd:Field} : r7 P (afb P fd) (Yu P fd):=by
 intro E vs us v h hg
 match vs,hg with
 | [.agg cs],hg=>
  obtain ⟨y,rfl,h1⟩:=h.dC;obtain ⟨l,rfl,h2⟩:=h1.ju;exact abj h2 hg.of
theorem vI {i:Int} {n:Nat} (h:Un i n=true):∃ m,i = .ofNat m/\m < n/\i.toNat=m:=by
 simp only [Un,aj,jR] at h;obtain ⟨m,rfl⟩:=Int.eq_ofNat_of_zero_le h.1;exact ⟨m,rfl,by omega,rfl⟩
theorem mR {m n:Nat} (h:m < n):iu (.ofNat m) n=some m:=by
 have:Nat.blt m n=true:=by rw [b8]; exact h
 simp [iu,this]
theorem az.iJ {α:Type} {c:Bool} {u v:α} (h:az (.iJ c u) v):c=true/\u=v:=h
theorem RR {t e:TypeId} {len n m:Nat} (hq:yh (aH P t).ks (cM (aH P e).ks len)=true) (hn:(aH P e).ks.length=n) (hm:m < len):∀ a c,(aH P e).ks[a]? = some c->(aH P t).ks[m * n+a]? = some c:=by
 intro a c ha;have key:∀ (l:List CK) (DY m a:Nat) (c:CK),m < DY->l[a]? = some c->(cM l DY)[m * l.length+a]? = some c:=by
  intro l DY
  induction DY with
  | zero=>intro m a c hm; omega
  | succ DY ih=>
   intro m a c hm hl;have aI:a < l.length:=(cp.1 hl).1;cases m with
   | zero=>simp only [cM,Nat.zero_mul,bF]; rw [mL aI]; exact hl
   | succ m=>
    simp only [cM];rw [n4 (by rw [Nat.succ_mul]; omega),show (m+1) * l.length+a - l.length=m * l.length+a by rw [Nat.succ_mul]; omega];exact ih m a c (by omega) hl
 have ang:∀ (a b:List CK),yh a b=true->a=b:=by
  intro a
  induction a with
  | nil=>intro b hb; cases b <;> simp_all [yh]
  | cons x xs ih=>
   intro b hb;cases b with
   | nil=>simp [yh] at hb
   | cons y ys=>
    simp only [yh,aj] at hb;rw [ih ys hb.2];congr 1;cases x <;> cases y <;> simp_all [aiA]
 have h6:=key (aH P e).ks len m a c hm ha;rw [<- ang _ _ hq,hn] at h6;exact h6
theorem Zj {t e:TypeId} {len n:Nat} : r7 P (Uo P t len n e) (LS len n):=by
 intro E vs us v h hg
 match vs,hg with
 | [.ptr b o,.int k i],hg=>
  have hg:az (cond (Nat.ble len 8) (afc i (fun j=>.ok (.ptr b (o+j * n))) len 0) (.iJ (Un i len) (.ptr b (o+i.toNat * n)))) v:=hg;obtain ⟨x,y,rfl,h1,h2⟩:=h.ja;obtain ⟨x,e,rfl⟩:=h1.gh;have:=h2.bO; subst this;have key:∃ m:Nat,i=(m:Int)/\m < len/\v = .ptr b (o+m * n):=by
   cases hb:Nat.ble len 8 with
   | true=>rw [hb,ah] at hg; obtain ⟨m,_,h3,h4,h5⟩:=az.at hg; exact ⟨m,h4,by omega,(show KV.ptr b (o+m * n)=v from h5).symm⟩
   | false=>rw [hb,ay] at hg; obtain ⟨hc,rfl⟩:=az.iJ hg; obtain ⟨m,rfl,hm,Mx⟩:=vI hc; exact ⟨m,rfl,hm,by rw [Mx]⟩
  obtain ⟨m,rfl,hm,rfl⟩:=key;refine ⟨_,?_,.wx e⟩;show (iu (.ofNat m) len).bind _=_;rw [mR hm]; rfl
 | [.tp T Tc j k es acc,.int q i],hg=>
  obtain ⟨x,y,rfl,h1,h2⟩:=h.ja;obtain ⟨ri,hg⟩:=az.cond hg;obtain ⟨hc,rfl⟩:=az.iJ hg;have:=h2.bO; subst this;obtain ⟨m,rfl,hm,Mx⟩:=vI hc;rw [Mx];simp only [aj] at ri;have:=aE ri.1.1;subst this;have hn:(aH P e).ks.length=n:=aE ri.2;obtain ⟨ht,aP,h3,hi,hw,b,o,r,rfl,h4,h5⟩:=h1.Gn;refine ⟨_,by (show (iu (.ofNat m) len).bind _=_); rw [mR hm]; rfl,?_⟩;simp only [VK];refine ⟨ht,aP,h3,hi,⟨fun a c ha=>?_⟩,b,o,r,by simp only [Value.pointer.injEq,aR,Addr.mk.injEq,and_true,true_and]; omega,h4,h5⟩;have h6:=RR ri.1.2 hn hm a c ha;have:=hw.is _ _ h6;rwa [show k+(m * n+a)=k+m * n+a by omega] at this
 | [.ap T Tc b j k,.int q i],hg=>
  obtain ⟨x,y,rfl,h1,h2⟩:=h.ja;obtain ⟨ri,hg⟩:=az.cond hg;obtain ⟨hc,rfl⟩:=az.iJ hg;have:=h2.bO; subst this;obtain ⟨m,rfl,hm,Mx⟩:=vI hc;rw [Mx];simp only [aj] at ri;have:=aE ri.1.1;subst this;have hn:(aH P e).ks.length=n:=aE ri.2;obtain ⟨x,L,N,h3,hw,hi,rfl⟩:=h1.Dd;refine ⟨_,by (show (iu (.ofNat m) len).bind _=_); rw [mR hm]; rfl,.aiD ⟨x,L,N,h3,⟨fun a c ha=>?_⟩,hi,by simp only [Value.pointer.injEq,aR,Addr.mk.injEq,and_true,true_and]; omega⟩⟩;have h6:=RR ri.1.2 hn hm a c ha;have:=hw.is _ _ h6;rwa [show k+(m * n+a)=k+m * n+a by omega] at this
theorem abk {e n:Nat} {pe:Bool} (Mw:pe=Nat.beq (aH P e).ks.length n):r7 P (XJ e n pe) (JQ n):=by
 intro E vs us v h hg
 match vs,hg with
 | [.sl b o len cap,.int k i],hg=>
  obtain ⟨x,y,rfl,h1,h2⟩:=h.ja;obtain ⟨hc,rfl⟩:=az.iJ hg;obtain ⟨x,e,rfl⟩:=h1.Kb;have:=h2.bO; subst this;obtain ⟨m,rfl,hm,Mx⟩:=vI hc;rw [Mx];exact ⟨_,by (show (iu (.ofNat m) len).bind _=_); rw [mR hm]; rfl,.wx e⟩
 | [.ts T mk len es acc,.int q i],hg=>
  obtain ⟨x,y,rfl,h1,h2⟩:=h.ja;obtain ⟨ri,hg⟩:=az.cond hg;obtain ⟨hc,rfl⟩:=az.iJ hg;have:=h2.bO; subst this;obtain ⟨m,rfl,hm,Mx⟩:=vI hc;rw [Mx];simp only [aj] at ri;have:=aE ri.1;subst this;have hn:(aH P T).ks.length=n:=aE (Mw ▸ ri.2);obtain ⟨ht,aP,h3,a,cap,rfl,h4,h5,h6⟩:=h1.jC;rcases h5 with ⟨_,h0⟩ | ⟨b,off,r,rfl,h7,h8,h9⟩
  ·omega
  ·refine ⟨_,by (show (iu (.ofNat m) len).bind _=_); rw [mR hm]; rfl,?_⟩
   have hl:=ht.len;simp only [VK];refine ⟨⟨rfl,fun i hi=>ht.acc i (by omega),ht.typed⟩,aP,h3,by omega,⟨fun a c ha=>by simpa using ha⟩,b,off,r,?_,h7,h9⟩;simp only [aJ,hn,Value.pointer.injEq,aR,Addr.mk.injEq,and_true,true_and];omega
 | [.al T b o len,.int q i],hg=>
  obtain ⟨x,y,rfl,h1,h2⟩:=h.ja;obtain ⟨ri,hg⟩:=az.cond hg;obtain ⟨hc,rfl⟩:=az.iJ hg;have:=h2.bO; subst this;obtain ⟨m,rfl,hm,Mx⟩:=vI hc;rw [Mx];simp only [aj] at ri;have:=aE ri.1;subst this;have hn:(aH P T).ks.length=n:=aE (Mw ▸ ri.2);rcases h1.rH with ⟨h0,_⟩ | ⟨x,L,N,c,h3,rfl,h4,h5,h6⟩
  ·omega
  ·refine ⟨_,by (show (iu (.ofNat m) len).bind _=_); rw [mR hm]; rfl,.aiD ⟨x,L,N,h3,⟨fun a c ha=>by simpa using ha⟩,by omega,?_⟩⟩
   simp only [aJ,hn,Value.pointer.injEq,aR,Addr.mk.injEq,and_true,true_and];rw [Nat.add_mul]; omega
theorem Zk {len n:Nat} {e:TypeId} : r7 P (Mo P len n e) (LU P len n e):=by
 intro E vs us v h hg
 match vs,hg with
 | [.agg cs,.int k i],hg=>
  obtain ⟨x,y,rfl,h1,h2⟩:=h.ja;obtain ⟨l,rfl,h3⟩:=h1.ju;have:=h2.bO; subst this;simp only [Mo] at hg;have key:∃ m:Nat,i=(m:Int)/\m < len/\Qt P e cs (m * n)=some v:=by
   cases hb:Nat.ble len 8 with
   | true=>rw [hb,ah] at hg; obtain ⟨m,_,h3,h4,h5⟩:=az.at hg; exact ⟨m,h4,by omega,az.of h5⟩
   | false=>
    rw [hb,ay] at hg;split at hg
    ·rename_i u hu
     obtain ⟨hc,rfl⟩:=az.iJ hg;obtain ⟨m,rfl,hm,Mx⟩:=vI hc;rw [Mx] at hu;exact ⟨m,rfl,hm,hu⟩
    ·exact hg.elim
  obtain ⟨m,rfl,hm,hu⟩:=key;obtain ⟨w,h4,h5⟩:=abj h3 hu;exact ⟨w,by (show (iu (.ofNat m) len).bind _=_); rw [mR hm]; exact h4,h5⟩
theorem Zl:r7 P Uq LV:=by
 intro E vs us v h hg
 match vs,hg with
 | [.str s,.int k i],hg=>
  obtain ⟨x,y,rfl,h1,h2⟩:=h.ja;have:=h1.ph; subst this;have:=h2.bO; subst this;obtain ⟨hc,rfl⟩:=az.iJ hg;obtain ⟨m,rfl,hm,Mx⟩:=vI hc;rw [Mx];have hl:m < s.data.toList.length:=by simpa using hm
  refine ⟨.int .u8 (s.data.toList.getD m 0).toNat,?_,.mkInt⟩;show (iu (.ofNat m) s.size).bind _=_;rw [mR hm];show (s.data.toList[m]?).map _=_;simp [List.getD,cl hl]
theorem UA {α:Type} : ∀ (n:Nat) (l:List α),XK n l=l[n]?
 | n,[]=>by cases n <;> rfl
 | 0,x::_=>rfl
 | n+1,_::xs=>by simp [XK,UA n xs]
theorem abl {i:Nat} : r7 P (XL i) (Er i):=by
 intro E vs us v h hg
 match vs,hg with
 | [.nh ws],hg=>
  obtain ⟨y,rfl,h1⟩:=h.dC;obtain ⟨l,rfl,h2⟩:=h1.ID;have:=hg.of;rw [UA] at this;obtain ⟨u,h3,h4⟩:=h2.get this;exact ⟨u,by simpa [Er] using h3,h4⟩
theorem agS:r7 P afd NG:=by
 intro E vs us v h hg
 match vs,hg with
 | [.ts T m n es acc],hg=>
  obtain ⟨y,rfl,h1⟩:=h.dC;obtain ⟨_,_,_,a,cap,rfl,_⟩:=h1.jC;have hg:KV.int .i64 n=v:=hg;subst hg;exact ⟨_,rfl,.mkInt⟩
 | [.sl b o n c],hg=>
  obtain ⟨y,rfl,h1⟩:=h.dC;obtain ⟨x,_,rfl⟩:=h1.Kb;have hg:KV.int .i64 n=v:=hg;subst hg;exact ⟨_,rfl,.mkInt⟩
 | [.al T b o n],hg=>
  obtain ⟨y,rfl,h1⟩:=h.dC;obtain ⟨a,c,rfl⟩:=h1.rH.slice;have hg:KV.int .i64 n=v:=hg;subst hg;exact ⟨_,rfl,.mkInt⟩
 | [.je],hg=>
  obtain ⟨y,rfl,h1⟩:=h.dC;have:=h1.mv; subst this;have hg:KV.int .i64 0=v:=hg;subst hg;exact ⟨_,rfl,.mkInt⟩
theorem adB:r7 P aa9 NH:=by
 intro E vs us v h hg
 match vs,hg with
 | [.str s],hg=>
  obtain ⟨y,rfl,h1⟩:=h.dC;have:=h1.ph; subst this;have hg:KV.int .i64 s.size=v:=hg;subst hg;exact ⟨_,rfl,.mkInt⟩
theorem agT:r7 P ae9 TG:=by
 intro E vs us v h hg
 match vs,hg with
 | [.str s],hg=>
  obtain ⟨y,rfl,h1⟩:=h.dC;have:=h1.ph; subst this;have hg:KV.str s=v:=hg;subst hg;exact ⟨_,rfl,.mkStr⟩
theorem Zm {f:Fn} {k:Nat} : r7 P (Gj f k) (Bw f k):=by
 intro E vs us v h hg;unfold Gj at hg;split at hg
 ·rename_i l hl
  have hg:KV.fn f l (yf k vs)=v:=hg;subst hg;have iL:r5 k (yf 0 vs)=some l:=hl;obtain ⟨r,h1,h2,_⟩:=h.r5 iL;have h1:takeN k us=some r:=h1;refine ⟨_,by simp [Bw,h1]; rfl,.abh h2 ?_⟩;rw [E8,nS];exact h.drop k
 ·exact hg.elim
theorem agU {src dst:TypeId} {k k' : IntKind} (h2:P.underlying dst=some (.int k)) (h3:P.underlying src=some (.int k')):r7 P (ae8 k) (Ep P src dst):=by
 intro E vs us v h hg
 match vs,hg with
 | [.int j n],hg=>
  obtain ⟨y,rfl,h1⟩:=h.dC;have:=h1.bO; subst this;have hg:KV.int k (k.wrap n)=v:=hg;subst hg;refine ⟨.int k (k.wrap n),?_,.mkInt⟩;simp only [Ep,h2];simp [convert,underlying,program,Bind.bind,Sem.bind,cv,h2,h3,Conv.intToInt,Pure.pure]
end Go.K
end
