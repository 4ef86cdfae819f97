/- Part of the proof of PathsRight: the machine, shown to be the model's, and plain models. No conditions. -/
import Derived.Test.YtckbdndhmcoihaaGreatCp
import Derived.LoopNIn
import Derived.RangeFuncRecord
import Derived.Scope
set_option linter.unusedSimpArgs false
set_option linter.unusedVariables false
section
namespace Go.az
noncomputable section
open Go
def EvR (ρ:Ren) (ev cj:Operand->Value):Prop:=∀ x,VR ρ (ev x) (cj x)
theorem EvR.on {ρ:Ren} {ev cj:Operand->Value} (h:EvR ρ ev cj) (xs:List Operand):qK ρ ev cj xs:=fun x _=>h x
theorem TR.ev {ρ:Ren} {t:Tm} {N:Nat} {a:Act} (h:TR ρ t N a):EvR ρ (lK t) a.eval:=by
 intro x;cases x with
 | tmp i=>exact h.val i
 | const v=>
  simp only [lK,Act.eval];cases hf:flat v with
  | true=>exact VR.of_flat hf
  | false=>simp [VR]
 | global g=>exact h.lL.ev g
 | func f=>exact VR.J2 (l:=[]) (m:=[]) (.func f) rfl .nil .nil
theorem TR.mono {ρ ak:Ren} {t:Tm} {N:Nat} {a:Act} (h:TR ρ t N a) (hle:ρ.le ak):TR ak t N a:=⟨h.size,fun i=>(h.val i).mono hle,h.none,h.lL.mono hle⟩
theorem TR.put {ρ:Ren} {t:Tm} {N:Nat} {a:Act} {dst:Option Tmp} {v v' : Value} (h:TR ρ t N a) (hd:∀ d,dst=some d->d < N) (hv:VR ρ v v'):TR ρ (vV t dst v) N (a.put dst v'):=by
 cases dst with
 | none=>exact h
 | some d=>
  have hd:=hd d rfl;refine ⟨by simp [Act.put,h.size],fun i=>?_,fun i hi=>?_,h.lL⟩
  ·simp only [vV,Trie.iX,Act.put]
   by_cases e:i=d
   ·subst e
    have:i < a.tmps.size:=by rw [h.size]; exact hd
    simp [dF,this,hv]
   ·have:=h.val i
    simp only [ae e];simpa [dF,Array.getElem?_setIfInBounds_ne (Ne.symm e)] using this
  ·simp only [vV,Trie.iX]
   have bx:i≠d:=fun e=>absurd hi (by rw [e]; exact Nat.not_le_of_lt hd);rw [ae bx];exact h.none i hi
theorem put_defers (a:Act) (dst:Option Tmp) (v:Value):(a.put dst v).defers=a.defers:=by cases dst <;> rfl
theorem Xc {ρ:Ren} {t:Tm} {N:Nat} {a:Act} {all:List Oper} {o:Oper} {wd:Bool} (h:TR ρ t N a) (hw:vW all t o.guard=some wd) :
  Region.wanted o (yielded ⟨all⟩ a.tmps)=wd:=by
 unfold vW at hw;unfold Region.wanted;split at hw
 ·rename_i hg; simp at hw; rw [hg]; exact hw.symm
 ·rename_i j want hg
  rw [hg];simp only;unfold yielded;have e:(⟨all⟩:Array Oper)[j]? = all[j]?:=by simp
  rw [e];cases hd:(all[j]?).bind (·.dst) with
  | none=>rw [hd] at hw; simp [jm] at hw; subst hw; simp
  | some d=>
   rw [hd] at hw;simp only [cD] at hw ⊢;have hv:=h.val d;cases ht:t.get d with
   | none=>
    rw [ht] at hw hv;simp [jm] at hw; subst hw;simp only [Option.getD_none] at hv;have hu:a.tmps.getD d undef=undef:=hv.jW (by simp [undef,flat,vT,nQ]);cases hc:a.tmps[d]? with
    | none=>simp
    | some u=>
     have:a.tmps.getD d undef=u:=by simp [dF,hc]
     rw [hu] at this;subst this;simp [undef]
   | some v=>
    rw [ht] at hw hv;simp only [iB] at hv;have aJ:d < N:=by
     rcases Nat.lt_or_ge d N with h1 | h1
     ·exact h1
     ·have:=h.none d h1; rw [ht] at this; simp at this
    have hc:a.tmps[d]? = some (a.tmps.getD d undef):=by
     have:d < a.tmps.size:=by rw [h.size]; exact aJ
     simp [dF,this]
    rw [hc];generalize a.tmps.getD d undef=u at hv;cases v with
    | bool b=>
     simp [jm] at hw;have:=hv.dr;subst this;subst hw;cases b <;> cases want <;> rfl
    | tuple cs=>
     simp [jm] at hw;obtain ⟨bX,rfl,_⟩:=hv.Bu;subst hw;rfl
    | _=>simp [jm] at hw
theorem adO {P:Program} {call:cZ} {rd:Option Nat} (dR:rF P call) {o:Oper} {t:Tm} {A B:St} {v:Value} {N base:Nat} {ρ:Ren} {a:Act} {w:World} {next:Act->World->Prop} {Q:Exit->Act->World->Prop}
  (h:om call t A (compile P o.op)=some (v,B)) (ht:TR ρ t N a) (hs:iu ρ A base w)
  (hk:∀ ak v' w',VR ak v v'->cp base ρ A w ak B w'->next (a.put o.dst v') w'):o.wpIn (Fr rd) 0 P a w next Q:=by
 have bM:=nb P o;have l9:=ht.ev;refine abb (fun c e=>by rw [e] at h; simp [compile,om] at h) ?_;generalize compile P o.op=ins at h bM;cases ins with
 | pure f xs=>
  obtain ⟨u,hu,he⟩:=aU.1 h;simp at he;obtain ⟨rfl,rfl⟩:=he;obtain ⟨v',h1,h2⟩:=bM ρ _ _ _ (l9.on _) hu;rw [h2 w];exact hk ρ v' w h1 (.refl hs)
 | read f xs=>
  obtain ⟨u,hu,he⟩:=aU.1 h;simp at he;obtain ⟨rfl,rfl⟩:=he;obtain ⟨v',h1,h2⟩:=bM ρ A base w _ _ _ hs.rel (l9.on _) hu;rw [h2];exact hk ρ v' w h1 (.refl hs)
 | make f xs=>
  obtain ⟨⟨obj,mk⟩,hu,he⟩:=aU.1 h;simp at he;obtain ⟨rfl,rfl⟩:=he;obtain ⟨c,mk',h1,h2,h3⟩:=bM ρ _ _ _ _ (l9.on _) hu;rw [h2 w];exact hk _ _ _ (h3 _ _ _ (Ren.dk _ _ _)) (h1.gD hs)
 | act f xs=>
  obtain ⟨ak,v',nx,w',h1,h2,h3,h4⟩:=bM ρ A B base w _ _ _ hs (l9.on _) h;rw [h1];cases nx with
  | value u=>
   have:u=v':=h2;subst this;exact hk ak u w' h3 h4
  | skip=>
   have:v' = undef:=h2;subst this;exact hk ak undef w' h3 h4
  | _=>exact h2.elim
 | call f args=>
  obtain ⟨⟨g,vs⟩,G9,hu⟩:=aO.1 h;exact abc bM dR (l9.on _) G9 hu hs hk
 | bad=>simp [om] at h
theorem Mx {P:Program} {call:cZ} {rd:Option Nat} (dR:rF P call) {N base:Nat} {Q:Exit->Act->World->Prop} {all:List Oper} (hd:all.all (tC N)=true) :
  ∀ (os:List Oper) (k:Nat) (t t' : Tm) (A B:St) (ρ:Ren) (a:Act) (w:World),all.drop k=os->opsV P call all os t A=some (t',B)->TR ρ t N a->iu ρ A base w->
   (∀ ak a' w',TR ak t' N a'->a'.defers=a.defers->cp base ρ A w ak B w'->Q .normal a' w')->wpOpsIn (Fr rd) 0 P ⟨all⟩ Q (List.range' k os.length) a w
 | [],k,t,t',A,B,ρ,a,w,_,h,ht,hs,hq=>by
  simp only [XP,aR,bH] at h;obtain ⟨rfl,rfl⟩:=h;exact hq ρ a w ht rfl (.refl hs)
 | o::os,k,t,t',A,B,ρ,a,w,hk,h,ht,hs,hq=>by
  have ho:(⟨all⟩:Array Oper)[k]? = some o:=by
   have:(all.drop k)[0]? = some o:=by rw [hk]; rfl
   rw [lF] at this;simpa using this
  have pd:all.drop (k+1)=os:=by
   rw [<- List.drop_drop,hk];rfl
  have pX:∀ d,o.dst=some d->d < N:=by
   intro d e;have hm:o∈all:=eS (by simpa using ho);have:=dU.1 hd o hm;unfold tC at this;rw [e] at this;simp only at this;rw [b7] at this;exact this
  rw [lG,List.range'_succ];simp only [wpOpsIn,ho];simp only [T8] at h;obtain ⟨wd,HF,h⟩:=aO.1 h;rw [Xc ht HF];cases wd with
  | true=>
   rw [ah] at h;obtain ⟨⟨v,C⟩,h1,h2⟩:=aO.1 h;refine adO dR h1 ht hs fun ak v' w' hv hg=>?_;refine Mx dR hd os (k+1) _ _ C B ak _ w' pd h2 ((ht.mono (hg.le hs)).put pX hv) hg.dI fun mG BB xP wh xv DI=>?_;exact hq mG BB xP wh (by rw [xv,put_defers]) (hg.trans DI)
  | false=>
   rw [ay] at h;refine ⟨fun _ _=>trivial,Mx dR hd os (k+1) _ _ A B ρ _ w pd h (ht.put pX VR.undef) hs fun mG BB xP wh xv DI=>?_⟩;exact hq mG BB xP wh (by rw [xv,put_defers]) DI
def aa.out:aa->Exit
 | .normal=>.normal
 | .exit id=>.exit id
 | .goto l=>.goto l
 | .ret=>.ret
theorem abf {ρ:Ren} {t:Tm} {N:Nat} {a:Act} {c:Operand} {x:Bool} (ht:TR ρ t N a) (h:lK t c = .bool x):a.eval c = .bool x:=by
 have:=ht.ev c;rw [h] at this;exact this.dr
def mark (D:Nat):Deferred:={ target:=.collected D,args:=#[] }
def Defs (n0:Nat) (a a' : Act) (ρ:Ren) (A:St) (w:World):Prop:=
 ∃ Ds:List Nat,a'.defers=Ds.map mark++a.defers/\(∀ D∈Ds,n0<=D/\w.heap[D]? = some (.deferred (some []))/\¬ Ew ρ A D)/\Ds.Nodup
theorem Defs.same {n0:Nat} {a a' : Act} {ρ:Ren} {A:St} {w:World} (h:a'.defers=a.defers):Defs n0 a a' ρ A w:=⟨[],by simpa using h,by simp,by simp⟩
theorem Defs.refl (n0:Nat) (a:Act) (ρ:Ren) (A:St) (w:World):Defs n0 a a ρ A w:=.same rfl
theorem Defs.dj {n0 base:Nat} {a a' : Act} {ρ ak:Ren} {A B:St} {w w' : World} (h:Defs n0 a a' ρ A w) (hg:cp base ρ A w ak B w'):Defs n0 a a' ak B w':=by
 obtain ⟨Ds,h1,h2,h3⟩:=h;refine ⟨Ds,h1,fun D hD=>?_,h3⟩;obtain ⟨h4,h5,h6⟩:=h2 D hD;have aJ:D < w.heap.size:=(jg.1 h5).1;exact ⟨h4,by rw [hg.kept.block D aJ h6]; exact h5,fun h=>h6 (hg.S4 D aJ h)⟩
theorem Defs.trans {n0 base:Nat} {a a1 a2:Act} {fC nv:Ren} {A1 A2:St} {w1 w2:World} (h:Defs n0 a a1 fC A1 w1) (hg:cp base fC A1 w1 nv A2 w2) (hn:n0<=w1.heap.size) (k:Defs w1.heap.size a1 a2 nv A2 w2):Defs n0 a a2 nv A2 w2:=by
 have aJ:∀ D∈h.choose,D < w1.heap.size:=fun D hD=>(jg.1 (h.choose_spec.2.1 D hD).2.1).1;obtain ⟨h1,h2,h3⟩:=h.choose_spec;generalize h.choose=Ds at aJ h1 h2 h3;obtain ⟨Es,k1,k2,k3⟩:=k;refine ⟨Es++Ds,by rw [k1,h1]; simp,fun D hD=>?_,?_⟩
 ·rcases eX.1 hD with hD | hD
  ·obtain ⟨k4,k5,k6⟩:=k2 D hD
   exact ⟨dA hn k4,k5,k6⟩
  ·obtain ⟨h4,h5,h6⟩:=h2 D hD
   exact ⟨h4,by rw [hg.kept.block D (aJ D hD) h6]; exact h5,fun h=>h6 (hg.S4 D (aJ D hD) h)⟩
 ·rw [List.nodup_append]
  refine ⟨k3,h3,fun D hD E hE e=>?_⟩;have h7:=(k2 D hD).1;have h8:=aJ E hE;omega
def F2 (P:Program) (N:Nat) (c:Code) (f:Tm->St->Option (aa×Tm×St)):Prop:=
 ∀ (rd:Option Nat) (t t' : Tm) (A B:St) (e:aa) (ρ:Ren) (base:Nat) (a:Act) (w:World) (Q:Exit->Act->World->Prop),(rd=none\/eM c=true)->f t A=some (e,t',B)->TR ρ t N a->iu ρ A base w->
  (∀ ak a' w',TR ak t' N a'->Defs w.heap.size a a' ak B w'->cp base ρ A w ak B w'->Q e.out a' w')->c.wpIn (Fr rd) 0 P Q a w
theorem R8 {P:Program} {N:Nat} {c:Code} {f:Tm->St->Option (aa×Tm×St)} (hf:F2 P N c f) :
  ∀ (n:Nat) (rd:Option Nat) (t t' : Tm) (A B:St) (e:aa) (ρ:Ren) (base:Nat) (a:Act) (w:World) (Q:Exit->Act->World->Prop),(rd=none\/eM c=true)->Mh f n t A=some (e,t',B)->TR ρ t N a->iu ρ A base w->
  (∀ ak a' w',TR ak t' N a'->Defs w.heap.size a a' ak B w'->cp base ρ A w ak B w'->Q e.out a' w')->Code.roundsIn (Fr rd) 0 P c Q n a w
 | 0,rd,t,t',A,B,e,ρ,base,a,w,Q,hr,h,ht,hs,hq=>by simp [aaV] at h
 | n+1,rd,t,t',A,B,e,ρ,base,a,w,Q,hr,h,ht,hs,hq=>by
  rw [roundsIn_succ];simp only [aaW,XQ] at h;split at h
  ·rename_i t1 C h1
   refine hf rd t t1 A C .normal ρ base a w _ hr h1 ht hs fun ak a' w' wh xv hg=>?_;refine R8 hf n rd t1 t' C B e ak base a' w' Q hr h wh hg.dI fun mG BB xP aiC aiD DI=>?_;exact hq mG BB xP aiC (xv.trans DI hg.kept.size aiD) (hg.trans DI)
  ·rename_i bx
   refine hf rd t t' A B e ρ base a w _ hr h ht hs fun ak a' w' wh xv hg=>?_;have HG:=hq ak a' w' wh xv hg;cases e with
   | normal=>exact absurd h (bx t' B)
   | exit id=>exact HG
   | goto l=>exact HG
   | ret=>exact HG
section
variable {P:Program} {b:Frame} {a:Act} {k:List Item} {cs:List Frame} {w:World}
theorem Zn {c:Code} : step P (lone (b.atR a (.code (.scope c)::k)) cs w) = .next (lone (b.atR a (.code c::.inScope c::k)) cs w):=
 step_lone_go (by simp [stepG,stepG.exec,Frame.atR])
theorem Ir {c:Code} : step P (lone (b.atR a (.inScope c::k)) cs w) = .next (lone (b.atR a k) cs w):=
 step_lone_go (by simp [stepG,stepG.exec,Frame.atR])
end
def J7 (rd:Option Nat) (P:Program) (c:Code) (Q:Exit->Act->World->Prop):Nat->Exit->Act->World->Prop
 | 0,.goto _,_,_=>False
 | n+1,.goto l,a,w=>match findLabel c l with
  | some rest=>rest.wpIn (Fr rd) 0 P (J7 rd P c Q n) a w
  | none=>Q (.goto l) a w
 | _,e,a,w=>Q e a w
theorem abg {rd:Option Nat} {P:Program} {c:Code} {Q:Exit->Act->World->Prop} {a:Act} {w:World} (n:Nat) (h:c.wpIn (Fr rd) 0 P (J7 rd P c Q n) a w):(Code.scope c).wpIn (Fr rd) 0 P Q a w:=by
 intro b k cs Xb hb hr;have key:∀ n e a w,J7 rd P c Q n e a w->∀ m,ArrivesIn (Machine.fenced P (Fr rd)) P m b (.inScope c::k) cs e a w->∃ e' a' w',Q e' a' w'/\ArrivesIn (Machine.fenced P (Fr rd)) P m b k cs e' a' w':=by
  have hx:∀ id,exitTo id (.inScope c::k)=exitTo id k:=fun id=>by simp [exitTo]
  intro n
  induction n with
  | zero=>
   intro e a w hq m iL;cases e with
   | normal=>exact ⟨.normal,a,w,hq,StepsIn.trans iL (.one (fenced_calm hb hr rfl) Ir)⟩
   | exit id=>exact ⟨.exit id,a,w,hq,fun k' hk=>iL.1 k' (by rw [hx]; exact hk),fun vP hk=>iL.2 vP (by rw [hx]; exact hk)⟩
   | goto l=>exact hq.elim
   | ret=>exact ⟨_,a,w,hq,iL⟩
   | panic ch=>exact ⟨_,a,w,hq,iL⟩
   | outgrown=>exact ⟨_,a,w,hq,iL⟩
  | succ n ih=>
   intro e a w hq m iL;cases e with
   | normal=>exact ⟨.normal,a,w,hq,StepsIn.trans iL (.one (fenced_calm hb hr rfl) Ir)⟩
   | exit id=>exact ⟨.exit id,a,w,hq,fun k' hk=>iL.1 k' (by rw [hx]; exact hk),fun vP hk=>iL.2 vP (by rw [hx]; exact hk)⟩
   | goto l=>
    simp only [J7] at hq;cases hf:findLabel c l with
    | none=>
     rw [hf] at hq;have hg:gotoIn l (.inScope c::k)=gotoIn l k:=by simp [gotoIn,hf]
     exact ⟨.goto l,a,w,hq,fun k' hk=>iL.1 k' (by rw [hg]; exact hk),fun vP hk=>iL.2 vP (by rw [hg]; exact hk)⟩
    | some rest=>
     rw [hf] at hq;have hg:gotoIn l (.inScope c::k)=some (.code rest::.inScope c::k):=by simp [gotoIn,hf]
     obtain ⟨ano,anp,aiE,amo,aiF⟩:=hq b (.inScope c::k) cs Xb hb hr;obtain ⟨anq,anr,aiG,amp,aiH⟩:=ih ano anp aiE amo _ aiF;exact ⟨anq,anr,aiG,amp,.of_steps (iL.1 _ hg) aiH⟩
   | ret=>exact ⟨_,a,w,hq,iL⟩
   | panic ch=>exact ⟨_,a,w,hq,iL⟩
   | outgrown=>exact ⟨_,a,w,hq,iL⟩
 obtain ⟨e,ans,aiI,hq,iL⟩:=h b (.inScope c::k) cs Xb hb hr;obtain ⟨e',a',w',HG,amq⟩:=key n e ans aiI hq _ iL;exact ⟨e',a',w',HG,.of_steps (.one (fenced_calm hb hr rfl) Zn) amq⟩
def Zo (P:Program) (N:Nat) (c:Code) (l:Nat):Option (Tm->St->l8)->Prop
 | some f=>∃ rest,findLabel c l=some rest/\(eM c=true->eM rest=true)/\F2 P N rest f
 | none=>findLabel c l=none
theorem OO {P:Program} {N:Nat} {c:Code} {jump:Nat->Option (Tm->St->l8)} (hj:∀ l,Zo P N c l (jump l)) {base:Nat} {rd:Option Nat} (jZ:rd=none\/eM c=true) {Q:Exit->Act->World->Prop} :
  ∀ (n:Nat) (r:l8) (t' : Tm) (A B:St) (e:aa) (ρ:Ren) (a0:Act) (w0:World),vY jump n r=some (e,t',B)->iu ρ A base w0->
   (∀ ak a' w',TR ak t' N a'->Defs w0.heap.size a0 a' ak B w'->cp base ρ A w0 ak B w'->Q e.out a' w')->
   ∀ t1 C e1,r=some (e1,t1,C)->∀ fC a1 w1,TR fC t1 N a1->Defs w0.heap.size a0 a1 fC C w1->cp base ρ A w0 fC C w1->J7 rd P c Q n e1.out a1 w1
 | 0,r,t',A,B,e,ρ,a0,w0,h,hs,hq=>by simp [vY] at h
 | n+1,r,t',A,B,e,ρ,a0,w0,h,hs,hq=>by
  intro t1 C e1 hr fC a1 w1 ht xv hg;subst hr;cases e1 with
  | goto l=>
   simp only [vY] at h;have hjl:=hj l;simp only [aa.out,J7];split at h
   ·rename_i f hf
    rw [hf] at hjl;obtain ⟨rest,h1,h1r,h2⟩:=hjl;rw [h1];simp only;have Zp:∃ e2 t2 D,f t1 C=some (e2,t2,D):=by
     cases xR:f t1 C with
     | none=>rw [xR] at h; cases n <;> simp [vY] at h
     | some p=>exact ⟨p.1,p.2.1,p.2.2,rfl⟩
    obtain ⟨e2,t2,D,xR⟩:=Zp;refine h2 rd t1 t2 C D e2 fC base a1 w1 _ (jZ.imp id h1r) xR ht hg.dI fun nv a2 w2 DJ aiJ xX=>?_;exact OO hj jZ n (f t1 C) t' A B e ρ a0 w0 h hs hq t2 D e2 xR nv a2 w2 DJ (xv.trans xX hg.kept.size aiJ) (hg.trans xX)
   ·rename_i hf
    rw [hf] at hjl;have hjl:findLabel c l=none:=hjl;rw [hjl];simp only [aR,bH] at h;obtain ⟨rfl,rfl,rfl⟩:=h;exact hq fC a1 w1 ht xv hg
  | normal=>
   simp only [vY,aR,bH] at h;obtain ⟨rfl,rfl,rfl⟩:=h;exact hq fC a1 w1 ht xv hg
  | exit id=>
   simp only [vY,aR,bH] at h;obtain ⟨rfl,rfl,rfl⟩:=h;exact hq fC a1 w1 ht xv hg
  | ret=>
   simp only [vY,aR,bH] at h;obtain ⟨rfl,rfl,rfl⟩:=h;exact hq fC a1 w1 ht xv hg
theorem UI {P:Program} {N:Nat} {x y:Code} {f g:Tm->St->l8} (hx:F2 P N x f) (hy:F2 P N y g):F2 P N (.seq x y) fun t A=>xO (f t A) g:=by
 intro rd t t' A B e ρ base a w Q hr h ht hs hq;have hrx:rd=none\/eM x=true:=hr.imp id fun h=>(Bool.and_eq_true_iff.1 (by simpa only [eM] using h)).1;have hry:rd=none\/eM y=true:=hr.imp id fun h=>(Bool.and_eq_true_iff.1 (by simpa only [eM] using h)).2;refine wpIn_seq ?_;have h:xO (f t A) g=some (e,t',B):=h;unfold xO at h;split at h
 ·rename_i t1 C h1
  refine hx rd t t1 A C .normal ρ base a w _ hrx h1 ht hs fun ak a' w' wh xv hg=>?_;refine hy rd t1 t' C B e ak base a' w' Q hry h wh hg.dI fun mG BB xP aiC aiD DI=>?_;exact hq mG BB xP aiC (xv.trans DI hg.kept.size aiD) (hg.trans DI)
 ·rename_i bx
  refine hx rd t t' A B e ρ base a w _ hrx h ht hs fun ak a' w' wh xv hg=>?_;have HG:=hq ak a' w' wh xv hg;cases e with
  | normal=>exact absurd h (bx t' B)
  | exit id=>exact HG
  | goto l=>exact HG
  | ret=>exact HG
theorem World.heap_alloc_old (w:World) (o:Obj) {k:Nat} (h:k < w.heap.size):(w.alloc o).heap[k]? = w.heap[k]?:=RowKit.Below.heap_alloc _ _ _ h
theorem abh {ρ:Ren} {A:St} {base:Nat} {w:World} (hs:iu ρ A base w) (o:Obj):cp base ρ A w ρ A (w.alloc o):=
 ⟨⟨.qd (fun b o' hg hd=>by obtain ⟨l,h1,h2⟩:=hs.rel.obj hg hd; exact ⟨l,h1,h2.dj (Ren.le_refl _) (World.heap_alloc_old _ _ (h2.lt hd)) (by simp)⟩) hs.rel.apart hs.rel.aX,hs.fT,dA hs.size (by simp),hs.lL⟩,
  fun _ _=>rfl,⟨rfl,rfl,rfl,by simp,fun k hk _=>World.heap_alloc_old _ _ hk⟩,ao _,ao _,fun _ _ _=>rfl,fun _ _ h=>h⟩
theorem iu.akH {ρ:Ren} {A:St} {base:Nat} {w:World} (hs:iu ρ A base w) {k:Nat} (h:Ew ρ A k):k < w.heap.size:=by
 obtain ⟨b,o,l,hg,hm,hr,rfl⟩:=h;have hd:o≠.dead:=by intro e; subst e; simp [aY.cr] at hm
 obtain ⟨l2,e,ok⟩:=hs.rel.obj hg hd;rw [hr] at e; simp at e; subst e;exact ok.lt hd
theorem adP {ρ ak:Ren} {A B:St} {base D:Nat} {w0 w:World} (hg:cp base ρ A w0 ak B w) (hD:w0.heap.size<=D) (hb:base<=D) (hn : ¬ Ew ak B D) (o:Obj):cp base ρ A w0 ak B (w.putObj D o):=by
 have CT:∀ b o' l,B.get b=some o'->o'≠.dead->ak b=some l->pb ak base w l o'->l.cb≠D:=by
  intro b o' l hgb hd hr ok e;cases hm:o'.cr with
  | true=>exact hn ⟨b,o',l,hgb,hm,hr,e⟩
  | false=>
   cases o' with
   | row cs aQ own aZ=>
    have fJ:lM ak base w l cs aQ own aZ:=ok;have:=fJ.nt hm;omega
   | map _=>simp [aY.cr] at hm
   | iter _ _=>simp [aY.cr] at hm
   | dead=>exact hd rfl
   | loop _ _ _ _ _ _=>simp [aY.cr] at hm
 refine ⟨⟨.qd (fun b o' hgb hd=>?_) hg.dI.rel.apart hg.dI.rel.aX,hg.dI.fT,by simpa using hg.dI.size,hg.dI.lL⟩,hg.ext,⟨hg.kept.os,hg.kept.tape,hg.kept.output,by simpa using hg.kept.size,fun k hk hnk=>?_⟩,hg.next,hg.low,hg.same,hg.S4⟩
 ·obtain ⟨l,h1,h2⟩:=hg.dI.rel.obj hgb hd
  exact ⟨l,h1,h2.dj (Ren.le_refl _) (World.putObj_heap_other (CT b o' l hgb hd h1 h2)) (by simp)⟩
 ·rw [World.putObj_heap_other (by omega)]
  exact hg.kept.block k hk hnk
theorem DK {ρ:Ren} {A:St} {base:Nat} {w:World} {r st:Nat} {e:aa} {t:Tm} {ps:List Nat} {a b:Code} {l:Loc} (hs:iu ρ A base w) (hg:A.get r=some (.loop st e t ps a b)) (iY:ρ r=some l)
  (o2:aY) (obj:Obj) (KL:o2.hO=none) (bM:o2≠.dead->pb ρ base (w.putObj l.cb obj) l o2):cp base ρ A w ρ (A.put r o2) (w.putObj l.cb obj):=by
 obtain ⟨l',iJ,ok⟩:=hs.rel.loop _ _ _ _ _ _ _ hg;rw [iY] at iJ; simp at iJ; subst iJ;have wb:aY.cr (.loop st e t ps a b)=true:=rfl;have hold:∀ k,k≠l.cb->(w.putObj l.cb obj).heap[k]? = w.heap[k]?:=fun k hk=>World.putObj_heap_other hk;have hB:∀ x,(A.put r o2).get x=if x=r then some o2 else A.get x:=fun x=>St.bZ _ _ _ _;have CT:∀ x o l2,x≠r->A.get x=some o->o≠.dead->ρ x=some l2->pb ρ base w l2 o->l2.cb≠l.cb:=by
  intro x o l2 hx eR hd pQ fJ e;cases Ig:o.cr with
  | true=>
   obtain ⟨_,_,_,_,e1,_⟩:=hs.rel.apart x r o _ l2 l hx eR hg Ig wb pQ iY e;simp [aY.hO] at e1
  | false=>
   cases o with
   | row cs aQ own aZ=>
    have fJ:lM ρ base w l2 cs aQ own aZ:=fJ;have h1:own=false:=Ig;have:=fJ.nt h1;have:=ok.cr;omega
   | map _=>simp [aY.cr] at Ig
   | iter _ _=>simp [aY.cr] at Ig
   | dead=>exact hd rfl
   | loop _ _ _ _ _ _=>simp [aY.cr] at Ig
 refine ⟨⟨.qd ?_ ?_ ?_,fun b l2 h=>hs.fT b l2 h,by simpa using hs.size,hs.lL⟩,fun _ _=>rfl,⟨rfl,rfl,rfl,by simp,fun k hk hn=>hold k (fun e=>hn ⟨r,_,l,hg,wb,iY,e.symm⟩)⟩,ao _,Nat.min_le_left _ _,fun x hx hxl=>?_,?_⟩
 ·intro x o eR hd
  rw [hB] at eR;split at eR
  ·rename_i e; subst e; simp at eR; subst eR
   exact ⟨l,iY,bM hd⟩
  ·rename_i e
   obtain ⟨l2,pQ,fJ⟩:=hs.rel.obj eR hd;exact ⟨l2,pQ,fJ.dj (Ren.le_refl _) (hold _ (CT x o l2 e eR hd pQ fJ)) (by simp)⟩
 ·have DD:∀ x o,(A.put r o2).get x=some o->o.cr=true->∃ o',A.get x=some o'/\o'.cr=true/\o'.hO=o.hO:=by
   intro x o hx hm;rw [hB] at hx;split at hx
   ·rename_i e; subst e; simp at hx; subst hx; exact ⟨_,hg,rfl,KL.symm⟩
   ·exact ⟨o,hx,hm,rfl⟩
  intro b1 b2 o1 o2 l1 l2 bx g1 g2 m1 m2 r1 r2 vM;obtain ⟨p1,q1,n1,k1⟩:=DD _ _ g1 m1;obtain ⟨p2,q2,n2,k2⟩:=DD _ _ g2 m2;rw [<- k1,<- k2];exact hs.rel.apart b1 b2 p1 p2 l1 l2 bx q1 q2 n1 n2 r1 r2 vM
 ·intro x o aF f eR hk
  rw [hB] at eR;split at eR
  ·rename_i e; subst e; simp at eR; subst eR; rw [KL] at hk; simp at hk
  ·exact hs.rel.aX x o aF f eR hk
 ·rw [St.Od] at hxl
  have:Nat.min A.low r<=r:=Nat.min_le_right _ _;rw [hB,ae (by omega)]
 ·rintro k hk ⟨x,o,l2,eR,hm,pQ,rfl⟩
  rw [hB] at eR;split at eR
  ·rename_i e; subst e
   rw [iY] at pQ; simp at pQ; subst pQ;exact ⟨x,_,l,hg,wb,iY,rfl⟩
  ·exact ⟨x,o,l2,eR,hm,pQ,rfl⟩
theorem iu.OP {ρ:Ren} {A:St} {base:Nat} {w:World} {r st:Nat} {e:aa} {t:Tm} {ps:List Nat} {a b:Code} {l:Loc} (hs:iu ρ A base w) (hg:A.get r=some (.loop st e t ps a b)) (iY:ρ r=some l):CS ρ base w l st e t ps a b:=by
 obtain ⟨l',iJ,ok⟩:=hs.rel.loop _ _ _ _ _ _ _ hg;rw [iY] at iJ; simp at iJ; subst iJ;exact ok
theorem Zq {P:Program} {call:cZ} (dR:rF P call) {N:Nat} {g:Operand} {ps:Array Tmp} {assign body:Code} (hps:ps.toList.all (fun p=>Nat.blt p N)=true) (hca:codeOk N assign=true) (vM:codeOk N body=true) (zJ:eM assign=true) (hnb:eM body=true) :
  F2 P N (.rangeFunc g ps assign body) (TA call g ps.toList assign body):=by
 intro rd t t' A B e ρ base a w Q hr h ht hs hq;have jZ:rd=none:=hr.resolve_right (by simp [eM]);subst jZ;unfold TA at h;split at h
 ·rename_i f first cap hg
  cases hb:Nat.blt f yB with
  | false=>rw [hb] at h; simp at h
  | true=>
   rw [hb,ah] at h;obtain ⟨⟨v,C⟩,h1,h2⟩:=aO.1 h;have l9:=ht.ev g;rw [hg] at l9;obtain ⟨f',c',tT,l9,hf1,hf2,Qw⟩:=l9.xU;have Qw:tT = .func f:=Qw;subst Qw;refine wpIn_rangeFunc fun fn _=>?_;obtain ⟨rec,fL⟩:∃ rec:Loop,rec = { state:=.ready,pending:=none,fn,tmps:=a.tmps,params:=ps,assign,body,defers:=w.heap.size }:=⟨_,rfl⟩
   let l:Loc:=⟨w.heap.size+1,0,0,0⟩
   have xu:cp base ρ A w ρ A (w.alloc (.deferred (some []))):=abh hs _;have hs1:cp base ρ A (w.alloc (.deferred (some []))) (ρ.set A.next l) (A.new (.loop 0 .normal t ps.toList assign body)) ((w.alloc (.deferred (some []))).alloc (.loop rec)):=by
    refine xS (o:=.loop 0 .normal t ps.toList assign body) xu.dI (fun x=>by simp) (fun f x h=>by simpa using h) (fun aF f h=>by simp [aY.hO] at h) (by simp) (by simp) (fun x hx _=>by simp; omega) (by simp [l]) ?_;refine ⟨dA hs.size (Nat.le_succ _),fn,a.tmps,w.heap.size,N,?_,⟨ht.size,fun i=>(ht.val i).mono (xu.dI.um _),ht.none,hps,hca,vM,zJ,hnb⟩⟩;have:=World.alloc_heap_new (w.alloc (.deferred (some []))) (.loop rec);rw [World.size_alloc] at this;rw [fL] at this;simpa [l,FO,aa.code,fL] using this
   have UJ:Defs w.heap.size a { a with defers:=[mark w.heap.size]++a.defers } ρ A (w.alloc (.deferred (some []))):=
    ⟨[w.heap.size],rfl,fun D hD=>by
     rw [List.mem_singleton] at hD; subst hD;exact ⟨ao _,World.alloc_heap_new w _,fun hi=>absurd (hs.akH hi) (Nat.lt_irrefl _)⟩,by simp⟩
   have adQ:cz (ρ.set A.next l) (first.toList++[Value.func (.yield A.next) ⟨[]⟩ ⟨[]⟩]++cap.toList) (f'.toList++[Value.func (.yield (w.heap.size+1)) #[] #[]]++c'.toList):=by
    have hle:=xu.dI.um l;refine cz.append (cz.append (hf1.mono hle) (.cons ?_ .nil)) (hf2.mono hle);simp only [VR];exact ⟨#[],#[],by simp [oo,cz],by simp [oo,cz],.yield (w.heap.size+1),⟨l,Ren.dk _ _ _,rfl⟩,rfl⟩
   obtain ⟨Qw,hc⟩:=dR _ _ _ _ _ h1;obtain ⟨fnf,h4,h5,h6⟩:=Qw hb;have DG:fnf.body.isNone=false:=by simpa using h5
   have hh : ¬(fnf.name = "runtime.NumGoroutine") := by simpa using h6
   have akI:=(hc _ _ base _ adQ hs1.dI).1 hb;refine ⟨w.heap.size+1,[mark w.heap.size],(w.alloc (.deferred (some []))).alloc (.loop rec),{ target:=.fn (.func f) c',args:=f'++#[.func (.yield (w.heap.size+1)) #[] #[]] },(w.alloc (.deferred (some []))).alloc (.loop rec),f,
    (f'.toList++[Value.func (.yield (w.heap.size+1)) #[] #[]]++c'.toList).toArray,(w.alloc (.deferred (some []))).alloc (.loop rec),?_,?_,fun _ _=>trivial,?_,fun h=>by simp [Fence.wide] at h,?_⟩
   ·rw [fL]; exact run_enterLoop_outer _ _ _ _ _
   ·simp only [resolve,Deferred.ofValue,l9,Sem.run_pure]
    simp [Act.eval]
   ·simp only [invoke,callFunc,Sem.run_bind,fA,run_program,h4]
    simp [hh,DG]
   ·refine CallsIn.mono (F:=Fr none) (n:=0) (R:=fun e w'=>∃ ak v',e = .returned v'/\VR ak v v'/\cp base (ρ.set A.next l) (A.new (.loop 0 .normal t ps.toList assign body)) ((w.alloc (.deferred (some []))).alloc (.loop rec)) ak C w') ((callsIn_wide (n:=0)).2 akI) ?_
    rintro ee w' ⟨ak,v',rfl,vN,DI⟩;have iJ:ak A.next=some l:=by rw [DI.ext A.next (by simp)]; exact Ren.dk _ _ _
    have gU:=(xu.trans hs1).trans DI;have wh:TR ak t N { a with defers:=[mark w.heap.size]++a.defers }:=⟨ht.size,fun i=>(ht.val i).mono (gU.le hs),ht.none,ht.lL.mono (gU.le hs)⟩
    have afk:=(UJ.dj hs1).dj DI;have fin:∀ {st:Nat} {e0:aa} {t0:Tm} {ps0:List Nat} {a0 b0:Code},C.get A.next=some (.loop st e0 t0 ps0 a0 b0)->st≠1->∃ w4,(Instr.endLoop (w.heap.size+1)).run P w' = .ok e0.code w4/\cp base ak C w' ak (C.put A.next .dead) w4:=by
     intro st e0 t0 ps0 a0 b0 fv eU;obtain ⟨fn2,tmps2,D2,N2,h7,_⟩:=(DI.dI.OP fv iJ).gC;refine ⟨_,run_endLoop (l:=w.heap.size+1) h7 (by cases st with | zero=>simp [FO] | succ n=>cases n with | zero=>exact absurd rfl eU | succ n=>simp [FO]),?_⟩;exact DK DI.dI fv iJ .dead _ rfl (fun h=>absurd rfl h)
    unfold XS at h2;split at h2
    ·rename_i fv
     simp only [aR,bH] at h2;obtain ⟨rfl,rfl,rfl⟩:=h2;obtain ⟨w4,h7,h8⟩:=fin fv (by simp);exact ⟨_,w4,h7,hq ak _ w4 wh (afk.dj h8) (gU.trans h8)⟩
    ·rename_i e0 _ _ _ _ fv
     simp only [aR,bH] at h2;obtain ⟨rfl,rfl,rfl⟩:=h2;obtain ⟨w4,h7,h8⟩:=fin fv (by simp);have HG:=hq ak _ w4 wh (afk.dj h8) (gU.trans h8);refine ⟨_,w4,h7,?_⟩;cases e0 with
     | normal=>exact HG
     | exit id=>exact wpIn_exit HG
     | goto l=>exact wpIn_goto HG
     | ret=>exact wpIn_ret HG
    ·simp at h2
 ·simp at h
mutual
theorem kz {P:Program} {call:cZ} (dR:rF P call) (hm:P.follows .mixedOrders=true) (L N:Nat):∀ (c:Code),codeOk N c=true->F2 P N c (jo P call L c)
 | .skip,_=>by
  intro rd t t' A B e ρ base a w Q hr h ht hs hq;simp only [aaY,aR,bH] at h;obtain ⟨rfl,rfl,rfl⟩:=h;exact wpIn_skip (hq ρ a w ht (.refl _ _ _ _ _) (.refl hs))
 | .ret,_=>by
  intro rd t t' A B e ρ base a w Q hr h ht hs hq;simp only [adx,aR,bH] at h;obtain ⟨rfl,rfl,rfl⟩:=h;exact wpIn_ret (hq ρ a w ht (.refl _ _ _ _ _) (.refl hs))
 | .exit id,_=>by
  intro rd t t' A B e ρ base a w Q hr h ht hs hq;simp only [aaZ,aR,bH] at h;obtain ⟨rfl,rfl,rfl⟩:=h;exact wpIn_exit (hq ρ a w ht (.refl _ _ _ _ _) (.refl hs))
 | .region id ops false,hc=>by
  intro rd t t' A B e ρ base a w Q hr h ht hs hq;simp only [ady] at h;obtain ⟨⟨t1,C⟩,h1,he⟩:=aU.1 h;simp at he;obtain ⟨rfl,rfl,rfl⟩:=he;refine wpIn_region ?_;have:=Mx (rd:=rd) (Q:=Q) dR (N:=N) (all:=ops.toList) hc ops.toList 0 t t1 A C ρ a w (by simp) h1 ht hs fun ak a' w' h1 h2 h3=>hq ak a' w' h1 (.same h2) h3;rw [List.range_eq_range'];simpa using this
 | .region id ops true,hc=>by
  intro rd t t' A B e ρ base a w Q hr h ht hs hq;simp only [YX] at h;obtain ⟨⟨t1,C⟩,h1,he⟩:=aU.1 h;simp at he;obtain ⟨rfl,rfl,rfl⟩:=he;cases hqv:JZ P ops.toList with
  | true=>rw [hqv,ah] at h1; exact Zl (all:=ops.toList) dR hm hc hqv h1 ht hs fun ak a' w' h1 h2 h3=>hq ak a' w' h1 (.same h2) h3
  | false=>
   rw [hqv,ay] at h1;cases hov:vx P ops.toList with
   | true=>rw [hov,ah] at h1; exact UH (all:=ops.toList) dR hm hc hov h1 ht hs fun ak a' w' h1 h2 h3=>hq ak a' w' h1 (.same h2) h3
   | false=>rw [hov,ay] at h1; exact Zj (all:=ops.toList) dR hm hc h1 ht hs fun ak a' w' h1 h2 h3=>hq ak a' w' h1 (.same h2) h3
 | .seq x y,hc=>by
  simp only [codeOk,aj] at hc;have:=UI (kz dR hm L N x hc.1) (kz dR hm L N y hc.2);intro rd t t' A B e ρ base a w Q hr h ht hs hq;simp only [adz] at h;exact this rd t t' A B e ρ base a w Q hr h ht hs hq
 | .cond c x y,hc=>by
  simp only [codeOk,aj] at hc;intro rd t t' A B e ρ base a w Q hr h ht hs hq;simp only [aa1] at h;split at h
  ·rename_i b hb
   have hb:=abf ht hb;cases b with
   | true=>exact wpIn_cond_true hb (kz dR hm L N x hc.1 rd t t' A B e ρ base a w Q (hr.imp id fun h=>(Bool.and_eq_true_iff.1 (by simpa only [eM] using h)).1) h ht hs hq)
   | false=>exact wpIn_cond_false hb (kz dR hm L N y hc.2 rd t t' A B e ρ base a w Q (hr.imp id fun h=>(Bool.and_eq_true_iff.1 (by simpa only [eM] using h)).2) h ht hs hq)
  ·simp at h
 | .block id x,hc=>by
  have hc:codeOk N x=true:=hc;intro rd t t' A B e ρ base a w Q hr h ht hs hq;simp only [YY] at h;refine wpIn_block ?_;split at h
  ·rename_i oZ t1 C h1
   refine kz dR hm L N x hc rd t t1 A C (.exit oZ) ρ base a w _ hr h1 ht hs fun ak a' w' wh xv hg=>?_;cases hb:Nat.beq oZ id with
   | true=>
    rw [hb,ah] at h;simp only [aR,bH] at h;obtain ⟨rfl,rfl,rfl⟩:=h;have:=aD hb;simp only [aa.out,Exit.inBlock,ax this];exact hq ak a' w' wh xv hg
   | false=>
    rw [hb,ay] at h;simp only [aR,bH] at h;obtain ⟨rfl,rfl,rfl⟩:=h;have:=Nat.ne_of_beq_eq_false hb;simp only [aa.out,Exit.inBlock,ae this];exact hq ak a' w' wh xv hg
  ·rename_i bx
   refine kz dR hm L N x hc rd t t' A B e ρ base a w _ hr h ht hs fun ak a' w' wh xv hg=>?_;have HG:=hq ak a' w' wh xv hg;cases e with
   | normal=>exact HG
   | exit oZ=>exact absurd h (bx oZ t' B)
   | goto l=>exact HG
   | ret=>exact HG
 | .loop x,hc=>by
  have hc:codeOk N x=true:=hc;intro rd t t' A B e ρ base a w Q hr h ht hs hq;simp only [aa2] at h;exact wpIn_loop_rounds L (R8 (kz dR hm L N x hc) L rd t t' A B e ρ base a w Q hr h ht hs hq)
 | .label l,_=>by
  intro rd t t' A B e ρ base a w Q hr h ht hs hq;simp only [YW,aR,bH] at h;obtain ⟨rfl,rfl,rfl⟩:=h;exact wpIn_label (hq ρ a w ht (.refl _ _ _ _ _) (.refl hs))
 | .goto l,_=>by
  intro rd t t' A B e ρ base a w Q hr h ht hs hq;simp only [aa0,aR,bH] at h;obtain ⟨rfl,rfl,rfl⟩:=h;exact wpIn_goto (hq ρ a w ht (.refl _ _ _ _ _) (.refl hs))
 | .scope x,hc=>by
  have hc:codeOk N x=true:=hc;intro rd t t' A B e ρ base a w Q hr h ht hs hq;simp only [YZ] at h;refine abg L ?_;have Zp:∃ e2 t2 D,jo P call L x t A=some (e2,t2,D):=by
   cases xR:jo P call L x t A with
   | none=>rw [xR] at h; cases L <;> simp [vY] at h
   | some p=>exact ⟨p.1,p.2.1,p.2.2,rfl⟩
  obtain ⟨e2,t2,D,xR⟩:=Zp;refine kz dR hm L N x hc rd t t2 A D e2 ρ base a w _ hr xR ht hs fun nv a2 w2 DJ aiJ xX=>?_;exact OO (fun l=>Iu dR hm L N x hc l) hr L _ t' A B e ρ a w h hs hq t2 D e2 xR nv a2 w2 DJ aiJ xX
 | .rangeFunc g ps x y,hc=>by
  simp only [codeOk,aj] at hc;intro rd t t' A B e ρ base a w Q hr h ht hs hq;simp only [Qu] at h;cases hn:(eM x&&eM y) with
  | false=>rw [hn,ay] at h; simp [adv] at h
  | true=>
   rw [hn,ah] at h;obtain ⟨Qz,Uv⟩:=Bool.and_eq_true_iff.1 hn;exact Zq dR hc.1 hc.2.1 hc.2.2 Qz Uv rd t t' A B e ρ base a w Q hr h ht hs hq
 | .refuse _,_=>by
  intro rd t t' A B e ρ base a w Q hr h ht hs hq;simp [WV] at h
theorem Iu {P:Program} {call:cZ} (dR:rF P call) (hm:P.follows .mixedOrders=true) (L N:Nat):∀ (c:Code),codeOk N c=true->∀ l,Zo P N c l (FN P call L c l)
 | .seq x y,hc,l=>by
  simp only [codeOk,aj] at hc;have hx:=Iu dR hm L N x hc.1 l;have hy:=Iu dR hm L N y hc.2 l;simp only [adA];cases hf:FN P call L x l with
  | some f=>
   rw [hf] at hx;obtain ⟨rest,h1,h1r,h2⟩:=hx;exact ⟨.seq rest y,by simp [findLabel,h1],fun h=>by simp only [eM,aj] at h ⊢; exact ⟨h1r h.1,h.2⟩,UI h2 (kz dR hm L N y hc.2)⟩
  | none=>
   rw [hf] at hx;have hx:findLabel x l=none:=hx;simp only;cases hg:FN P call L y l with
   | some f=>
    rw [hg] at hy;obtain ⟨rest,h1,h1r,h2⟩:=hy;exact ⟨rest,by simp [findLabel,hx,h1],fun h=>h1r (Bool.and_eq_true_iff.1 (by simpa only [eM] using h)).2,h2⟩
   | none=>
    rw [hg] at hy;have hy:findLabel y l=none:=hy;show findLabel (.seq x y) l=none;simp [findLabel,hx,hy]
 | .label l',_,l=>by
  simp only [Y0];cases hb:(l'==l) with
  | true=>
   rw [ah];refine ⟨.skip,by simp [findLabel,hb],fun _=>rfl,?_⟩;intro rd t t' A B e ρ base a w Q hr h ht hs hq;simp only [aR,bH] at h;obtain ⟨rfl,rfl,rfl⟩:=h;exact wpIn_skip (hq ρ a w ht (.refl _ _ _ _ _) (.refl hs))
  | false=>
   rw [ay];show findLabel (.label l') l=none;simp [findLabel,hb]
 | .skip,_,_ | .ret,_,_ | .exit _,_,_ | .goto _,_,_ | .region _ _ _,_,_ | .cond _ _ _,_,_ | .block _ _,_,_ | .loop _,_,_ | .scope _,_,_ | .rangeFunc _ _ _ _,_,_ | .refuse _,_,_=>by
  first | rfl | (rw [aa3]; rfl) | simp [Zo,findLabel]
end
theorem F3:∀ (l:List Value) (i k:Nat) (t:Tm),(y6 l i t).get k=if i<=k/\k < i+l.length then l[k - i]? else t.get k
 | [],i,k,t=>by
  rw [y6,ae];simp
 | v::l,i,k,t=>by
  rw [y6,F3 l (i+1) k,Trie.iX];by_cases h1:k=i
  ·subst h1
   rw [ae (by omega),ax rfl,ax (by simp)];simp
  ·by_cases h2:i+1<=k/\k < i+1+l.length
   ·rw [ax h2,ax (by simp; omega),show k - i=(k - (i+1))+1 by omega]
    simp
   ·rw [ae h2,ae h1,ae (by simp; omega)]
def F4 (a:Act):ResultVar->Sem Value
 | .tmp t=>pure (a.tmps.getD t undef)
 | .cell ad ty=>do loadVar ty (<- asAddr (a.tmps.getD ad undef))
theorem Iv (fn:Func) (a:Act):results fn a.tmps=(do let vs <- fn.results.mapM (F4 a); pure (if h:vs.size=1 then vs[0] else .tuple vs)):=by
 unfold results;congr 1
theorem BC {P:Program} {ρ:Ren} {A:St} {base N:Nat} {w:World} {t:Tm} {a:Act} (hs:iu ρ A base w) (ht:TR ρ t N a):∀ (rs:List ResultVar) (vs:List Value),vy P A t rs=some vs->
  ∃ bw,cz ρ vs bw/\(rs.mapM (F4 a)).run P w=Result.ok bw w
 | [],vs,h=>by simp [vy] at h; subst h; exact ⟨[],.nil,by simp⟩
 | .tmp x::rs,vs,h=>by
  simp only [vy] at h;obtain ⟨us,hu,rfl⟩:=aU.1 h;obtain ⟨Xd,h1,h2⟩:=BC hs ht rs us hu;refine ⟨_::Xd,.cons (ht.ev (.tmp x)) h1,?_⟩;simp [List.mapM_cons,h2,Act.eval,F4]
 | .cell x ty::rs,vs,h=>by
  simp only [vy] at h;obtain ⟨v,hv,h⟩:=aO.1 h;obtain ⟨us,hu,rfl⟩:=aU.1 h;obtain ⟨Xd,h1,h2⟩:=BC hs ht rs us hu;obtain ⟨ad,h3,v',h4,h5⟩:=DE (P:=P) hs.rel (ht.ev (.tmp x)) hv;refine ⟨v'::Xd,.cons h4 h1,?_⟩;have h3:a.tmps.getD x undef = .pointer (some ad):=h3;simp only [List.mapM_cons,Sem.run_bind,F4,h3,asAddr,Sem.run_pure,fA,h5,h2]
theorem cp.leave {base:Nat} {ρ ak:Ren} {A B:St} {w w' : World} {v v' : Value} (hs:iu ρ A base w) (h:cp base ρ A.enter w ak B w') (hv:VR ak v v') :
  ∃ mG,VR mG v v'/\cp base ρ A w mG (A.leave B v) w':=by
 have aff:∀ k,Ew ρ A.enter k↔Ew ρ A k:=fun k=>Iff.rfl;rw [St.agP];cases hc:(flat v&&Nat.ble A.next B.low) with
 | true=>
  rw [ah];obtain ⟨hf,hl⟩:=Bool.and_eq_true_iff.1 hc;have hl:A.next<=B.low:=cM hl;have fv:∀ b o,A.get b=some o->o≠.dead->b < A.next:=fun b o hg hd=>by
   obtain ⟨l,e,_⟩:=hs.rel.obj hg hd;exact hs.fT _ _ e
  have zF:∀ b,b < A.next->B.get b=A.get b:=fun b hb=>h.same b hb (by omega);have aly:∀ b,b < A.next->ak b=ρ b:=h.ext;refine ⟨ρ,by rw [hv.jW hf]; exact VR.of_flat hf,?_⟩;refine ⟨⟨.qd ?_ hs.rel.apart hs.rel.aX,hs.fT,dA hs.size h.kept.size,hs.lL⟩,fun _ _=>rfl,⟨h.kept.os,h.kept.tape,h.kept.output,h.kept.size,fun k hk hn=>h.kept.block k hk hn⟩,ao _,ao _,fun _ _ _=>rfl,fun _ _ hk=>hk⟩;intro b o hg hd;have hb:=fv b o hg hd;obtain ⟨l,e,ok⟩:=h.dI.rel.obj (b:=b) (o:=o) (by rw [zF b hb]; exact hg) hd;refine ⟨l,by rw [<- aly b hb]; exact e,?_⟩;obtain ⟨l0,e0,ok0⟩:=hs.rel.obj hg hd;have hll:l=l0:=by rw [aly b hb,e0] at e; simpa using e.symm
  subst hll;exact pb.back (h.le ⟨hs.rel,hs.fT,hs.size,hs.lL⟩) ok0 ok
 | false=>
  rw [ay];refine ⟨ak,hv,⟨h.dI.rel,h.dI.fT,h.dI.size,h.dI.lL⟩,h.ext,⟨h.kept.os,h.kept.tape,h.kept.output,h.kept.size,h.kept.block⟩,h.next,Nat.min_le_left _ _,fun b hb hl=>?_,h.S4⟩;exact h.same b hb (dG hl (Nat.min_le_right _ _))
theorem jw {n m:Nat} (h:n<=m):∀ (c:Code),codeOk n c=true->codeOk m c=true
 | .region id ops d,hc=>by
  simp only [codeOk,dU] at hc ⊢;intro o ho;have:=hc o ho;unfold tC at this ⊢;split at this
  ·rename_i d e
   rw [b7] at this ⊢;omega
  ·rfl
 | .seq a b,hc=>by simp only [codeOk,aj] at hc ⊢; exact ⟨jw h a hc.1,jw h b hc.2⟩
 | .cond _ a b,hc=>by simp only [codeOk,aj] at hc ⊢; exact ⟨jw h a hc.1,jw h b hc.2⟩
 | .block _ a,hc=>jw h a hc
 | .loop a,hc=>jw h a hc
 | .rangeFunc _ ps a b,hc=>by
  simp only [codeOk,aj,dU,b7] at hc ⊢;exact ⟨fun p hp=>dG (hc.1 p hp) h,jw h a hc.2.1,jw h b hc.2.2⟩
 | .scope a,hc=>jw h a hc
 | .skip,_ | .exit _,_ | .label _,_ | .goto _,_ | .ret,_ | .refuse _,_=>rfl
theorem Lu {P:Program} {fn:Func} {tmps:Array Value} {R:Ending->World->Prop} {ρ ak:Ren} {A B:St} {base:Nat} {w0:World} :
  ∀ (Ds:List Nat) {w:World},(∀ D∈Ds,w0.heap.size<=D/\base<=D/\w.heap[D]? = some (.deferred (some []))/\¬ Ew ak B D)->Ds.Nodup->cp base ρ A w0 ak B w->
   (∀ w',cp base ρ A w0 ak B w'->LeavesIn Fence.wide 0 P fn tmps R [] .returning w')->LeavesInM Fence.wide 0 P fn tmps R (Ds.map mark) .returning w
 | [],w,_,_,hg,h=>h w hg
 | D::Ds,w,hD,hn,hg,h=>by
  obtain ⟨h1,h2,h3,h4⟩:=hD D (by simp);rw [List.nodup_cons] at hn;refine ⟨by simp,.inl ⟨D,w.putObj D (.deferred none),rfl,run_takeDeferred h3,Lu Ds (fun E hE=>?_) hn.2 (adP hg h1 h2 h4 _) h⟩⟩;obtain ⟨k1,k2,k3,k4⟩:=hD E (by simp [hE]);exact ⟨k1,k2,by rw [World.putObj_heap_other (fun e=>hn.1 (by rw [<- e]; exact hE))]; exact k3,k4⟩
theorem abi {P:Program} {call:cZ} (dR:rF P call) (hm:P.follows .mixedOrders=true) (L:Nat) {f:FuncId} {fn:Func} {c:Code} {args:List Value} {A B:St} {v:Value} (hf:P.funcs[f]? = some fn) (hb:fn.body=some c) (bM:codeOk fn.ntmps c=true)
  (h:Ud P call L fn args A c=some (v,B)) {ρ:Ren} {bN:List Value} {base:Nat} {w:World} (hv:cz ρ args bN) (hs:iu ρ A base w) :
  Calls P f bN.toArray w fun e w'=>∃ ak v',e = .returned v'/\VR ak v v'/\cp base ρ A w ak B w':=by
 refine callsIn_wide.1 (callsIn_of_wp_marks (F:=Fence.wide) (n:=0) hf hb trivial ?_);have hlen:bN.length=args.length:=hv.length;have Oj:iu ρ A.enter base w:=⟨hs.rel,hs.fT,hs.size,hs.lL⟩
 have ht:TR ρ (y6 args 0 .leaf) (max fn.ntmps args.length) { tmps:=bN.toArray++Array.replicate (fn.ntmps - bN.toArray.size) undef,defers:=[] }:=by
  have cT:(bN.toArray++Array.replicate (fn.ntmps - bN.toArray.size) undef).size=max fn.ntmps args.length:=by
   simp [hlen];omega
  refine ⟨cT,fun i=>?_,fun i hi=>?_,hs.lL⟩
  ·rw [F3]
   simp only [mc,true_and,bG,Nat.sub_zero,Trie.Bb];by_cases hi:i < args.length
   ·rw [ax hi]
    obtain ⟨u,hu⟩:∃ u,args[i]? = some u:=⟨_,cl hi⟩
    obtain ⟨u',h1,h2⟩:=hv.get hu;rw [hu];have:(bN.toArray++Array.replicate (fn.ntmps - bN.toArray.size) undef).getD i undef=u':=by
     rw [dF,Array.getElem?_append_left (by simpa [hlen] using hi)];simp [h1]
    rw [this];exact h2
   ·rw [ae hi]
    have:(bN.toArray++Array.replicate (fn.ntmps - bN.toArray.size) undef).getD i undef=undef:=by
     rw [dF,Array.getElem?_append_right (by simpa [hlen] using hi)];rw [Array.getElem?_replicate];split <;> rfl
    rw [this];exact VR.undef
  ·rw [F3,ae,Trie.Bb]
   simp only [mc,true_and,bG];have:=Nat.le_max_right fn.ntmps args.length;omega
 have R9:codeOk (max fn.ntmps args.length) c=true:=jw (Nat.le_max_left _ _) c bM;rw [agQ] at h;split at h
 ·simp at h
 ·simp at h
 ·rename_i e t B' bx aiK hc
  obtain ⟨vs,hr,he⟩:=aU.1 h;simp at he;obtain ⟨rfl,rfl⟩:=he;refine kz dR hm L _ c R9 none _ _ _ _ _ ρ base _ w _ (.inl rfl) hc ht Oj fun ak a' w' wh xv hg=>?_;obtain ⟨Ds,hD1,hD2,hD3⟩:=xv;have hD1:a'.defers=Ds.map mark:=by simpa using hD1
  have afl:LeavesInM Fence.wide 0 P fn a'.tmps (fun e w'=>∃ ak v',e = .returned v'/\VR ak (qb vs) v'/\cp base ρ A w ak (A.leave B' (qb vs)) w') a'.defers .returning w':=by
   rw [hD1];refine Lu Ds (fun D hD=>⟨(hD2 D hD).1,dA hs.size (hD2 D hD).1,(hD2 D hD).2⟩) hD3 hg fun w' hg=>?_;obtain ⟨bw,h1,h2⟩:=BC (P:=P) hg.dI wh _ _ hr;have amr:VR ak (qb vs) (if h:bw.toArray.size=1 then bw.toArray[0] else .tuple bw.toArray):=by
    cases vs with
    | nil=>rw [h1.bA]; exact VR.mkTuple .nil
    | cons x xs=>
     obtain ⟨y,ys,rfl,h3,h4⟩:=h1.cons_inv;cases xs with
     | nil=>rw [h4.bA]; exact h3
     | cons x2 xs2=>
      obtain ⟨y2,ys2,rfl,h5,h6⟩:=h4.cons_inv;rw [dif_neg (by simp)];exact VR.mkTuple (.cons h3 (.cons h5 h6))
   obtain ⟨mG,h3,h4⟩:=hg.leave hs amr;have C0:(results fn a'.tmps).run P w' = .ok (if h:bw.toArray.size=1 then bw.toArray[0] else .tuple bw.toArray) w':=by
    rw [Iv,Sem.run_bind,Array.mapM_eq_mapM_toList,Sem.run_map,h2];rfl
   exact ⟨_,C0,mG,_,rfl,h3,h4⟩
  cases e with
  | normal=>exact afl
  | ret=>exact afl
  | exit id=>exact (bx id rfl).elim
  | goto l=>exact (aiK l rfl).elim
 ·simp at h
theorem X1 {ρ:Ren} {N:Nat} : ∀ (ps:List Nat) (vs bw:List Value) (t:Tm) (tmps:Array Value),ps.all (fun p=>Nat.blt p N)=true->cz ρ vs bw->TR ρ t N { tmps:=tmps,defers:=[] }->
  TR ρ (Mi ps vs t) N { tmps:=(ps.zip bw).foldl (fun t (p,v)=>t.setIfInBounds p v) tmps,defers:=[] }
 | [],vs,bw,t,tmps,_,_,h=>by simpa [Mi] using h
 | p::ps,[],bw,t,tmps,_,hv,h=>by rw [hv.bA]; simpa [Mi] using h
 | p::ps,v::vs,bw,t,tmps,hp,hv,h=>by
  obtain ⟨v',ws',rfl,h1,h2⟩:=hv.cons_inv;rw [List.all_cons,aj,b7] at hp;simp only [Mi,List.zip_cons_cons,List.foldl_cons];refine X1 ps vs ws' (t.set v p) (tmps.setIfInBounds p v') hp.2 h2 ?_;have:=h.put (dst:=some p) (fun d e=>by have e:p=d:=yz e; rw [<- e]; exact hp.1) h1;exact this
theorem Zr {P:Program} {call:cZ} (dR:rF P call) (hm:P.follows .mixedOrders=true) (L:Nat) {l:Nat} {args:List Value} {A B:St} {v:Value} (h:TB (fun c t A=>jo P call L c t A) l args A=some (v,B))
  {ρ:Ren} {bN:List Value} {base:Nat} {w:World} (hv:cz ρ args bN) (hs:iu ρ A base w) {loc:Loc} (hl:ρ l=some loc) :
  Round P loc.cb bN.toArray w fun e w'=>∃ ak v',e = .returned v'/\VR ak v v'/\cp base ρ A w ak B w':=by
 unfold TB at h;split at h
 ·rename_i st e0 t ps assign body fv
  cases hb:Nat.beq ps.length args.length with
  | false=>rw [hb] at h; simp at h
  | true=>
   rw [hb,ah] at h;have hlen:=aD hb;obtain ⟨fn,tmps,D,N,lO,htm⟩:=(hs.OP fv hl).gC;obtain ⟨hcp,hca,vM,zJ,hnb⟩:=htm.adB;split at h
   ·rename_i t1 A1 aiL
    obtain ⟨A2,abj,h⟩:=aO.1 h;obtain ⟨⟨e,t2,A3⟩,adR,xy⟩:=aO.1 h;have hy:=run_yield (P:=P) (args:=bN.toArray) lO (by simp [hlen,hv.length]);refine ⟨fn,_,assign,body,hy,roundIn_of_wpIn (F:=Fence.wide) (n:=0) trivial ?_⟩;have Zi:TR ρ (Mi ps args t) N { tmps:=(ps.toArray.zip bN.toArray).foldl (fun t (p,v)=>t.setIfInBounds p v) tmps,defers:=[] }:=by
     have:=X1 ps args bN t tmps hcp hv ⟨htm.size,htm.val,htm.none,hs.lL⟩;rw [<- Array.foldl_toList];simpa using this
    refine kz dR hm L N assign hca (some loc.cb) _ t1 A A1 .normal ρ base _ w _ (.inr zJ) aiL Zi hs fun fC a1 w1 AK _ OQ=>?_;have AG:fC l=some loc:=OQ.le hs _ _ hl;unfold afc at abj;split at abj
    ·rename_i e1 t0 ps1 as1 bo1 aiM
     simp only [aR] at abj;subst abj;have alz:=OQ.dI.OP aiM AG;obtain ⟨fn1,aiN,D1,N1,afm,ant⟩:=alz.gC;have anu:loc.cb < w1.heap.size:=(jg.1 afm).1;refine ⟨_,run_beginRound afm rfl,?_⟩;have xX:cp base fC A1 w1 fC (A1.put l (.loop 1 e1 t0 ps1 as1 bo1)) (w1.putObj loc.cb (.loop { state:=.busy,pending:=e1.code,fn:=fn1,tmps:=aiN,params:=ps1.toArray,assign:=as1,body:=bo1,defers:=D1 })):=
      DK OQ.dI aiM AG (.loop 1 e1 t0 ps1 as1 bo1) _ rfl fun _=>⟨alz.cr,fn1,aiN,D1,N1,World.putObj_heap_same anu,ant⟩
     refine kz dR hm L N body vM (some loc.cb) t1 t2 _ A3 e fC base a1 _ _ (.inr hnb) adR AK xX.dI fun QL a3 w3 _ _ hg3=>?_;have Xe:QL l=some loc:=hg3.le xX.dI _ _ AG;have gU:=(OQ.trans xX).trans hg3;unfold T9 at xy;split at xy
     ·rename_i e4 t4 ps4 as4 bo4 aiO
      have alA:=hg3.dI.OP aiO Xe;obtain ⟨fn4,ams,D4,N4,afn,anv⟩:=alA.gC;have anw:loc.cb < w3.heap.size:=(jg.1 afn).1;have fin:∀ (e:aa),∃ w4,(Instr.endRound loc.cb e.code).run P w3 = .ok (.bool e.code.isNone) w4/\cp base QL A3 w3 QL (A3.put l (.loop (if e.code.isNone then 0 else 2) e t4 ps4 as4 bo4)) w4:=by
       intro e;refine ⟨_,run_endRound e.code afn,?_⟩;refine DK hg3.dI aiO Xe (.loop (if e.code.isNone then 0 else 2) e t4 ps4 as4 bo4) _ rfl fun _=>⟨alA.cr,fn4,ams,D4,N4,?_,anv⟩
       rw [World.putObj_heap_same anw];cases e <;> rfl
      obtain ⟨w4,h8,h9⟩:=fin e;cases e with
      | normal=>
       simp only [aR,bH] at xy;obtain ⟨rfl,rfl⟩:=xy;exact ⟨_,w4,h8,QL,_,rfl,by simp [VR,aa.code],gU.trans h9⟩
      | exit id=>
       simp only [aR,bH] at xy;obtain ⟨rfl,rfl⟩:=xy;exact ⟨_,w4,h8,QL,_,rfl,by simp [VR,aa.code],gU.trans h9⟩
      | goto id=>
       simp only [aR,bH] at xy;obtain ⟨rfl,rfl⟩:=xy;exact ⟨_,w4,h8,QL,_,rfl,by simp [VR,aa.code],gU.trans h9⟩
      | ret=>
       simp only [aR,bH] at xy;obtain ⟨rfl,rfl⟩:=xy;exact ⟨_,w4,h8,QL,_,rfl,by simp [VR,aa.code],gU.trans h9⟩
     ·simp at xy
    ·simp at abj
   ·simp at h
 ·simp at h
def J8 (P:Program) (S:Told):Prop:=∀ f g,S f=some g->∀ args A v B,g args A=some (v,B)->
 (∃ fn, P.funcs[f]? = some fn ∧ fn.body.isSome = true ∧ (fn.name == "runtime.NumGoroutine") = false) ∧
  ∀ ρ bN base w,cz ρ args bN->iu ρ A base w->Calls P f bN.toArray w fun e w'=>∃ ak v',e = .returned v'/\VR ak v v'/\cp base ρ A w ak B w'
theorem C1 {P:Program} {S:Told} (hS:J8 P S) (hP:P.funcs.toList.all gh=true) (hm:P.follows .mixedOrders=true) (L:Nat):∀ n,rF P (H6 P S L n)
 | 0=>fun f args A v B h=>by simp [aa4] at h
 | n+1=>fun f args A v B h=>by
  simp only [aa5] at h;cases hb:Nat.blt f yB with
  | false=>
   rw [hb,ay] at h;exact ⟨fun h=>by simp at h,fun ρ bN base w hv hs=>⟨fun h=>by simp at h,fun _ loc hl=>Zr (C1 hS hP hm L n) hm L h hv hs hl⟩⟩
  | true=>
  rw [hb,ah] at h;split at h
  ·rename_i g hg
   obtain ⟨h1,h2⟩:=hS f g hg args A v B h;exact ⟨fun _=>h1,fun ρ bN base w hv hs=>⟨fun _=>h2 ρ bN base w hv hs,fun h=>by simp at h⟩⟩
  ·obtain ⟨fn,hf,h⟩:=aO.1 h
   obtain ⟨c,hb,h⟩:=aO.1 h;have Tf:P.funcs[f]? = some fn:=by simpa using hf
   have bM:=dU.1 hP fn (eS hf);unfold gh at bM;rw [hb] at bM;simp only [aj,iy] at bM;exact ⟨fun _=>⟨fn,Tf,by simp [hb],bM.2⟩,fun ρ bN base w hv hs=>⟨fun _=>abi (C1 hS hP hm L n) hm L Tf hb bM.1 h hv hs,fun h=>by simp at h⟩⟩
def BD (gl:List (Nat×List Value×Nat)) (b:Nat):Option Loc:=if b < gB then some (match gl.find? (fun x=>Nat.beq x.1 b) with | some x=>⟨b,0,x.2.1.length,x.2.2⟩ | none=>⟨b,0,0,0⟩) else none
theorem Xf (gl:List (Nat×List Value×Nat)):Oc (BD gl):=fun g hg=>by
 unfold BD;rw [ax hg];split <;> exact ⟨_,rfl,rfl,rfl⟩
theorem Mz:∀ (gl:List (Nat×List Value×Nat)) (b:Nat),(Ml gl).get b=match gl.find? (fun x=>Nat.beq x.1 b) with | some x=>some (.row x.2.1 x.2.2 false none) | none=>none
 | [],b=>by simp [Ml]
 | (g,cs,e)::gl,b=>by
  simp only [Ml,Trie.iX,List.find?_cons];cases hb:Nat.beq g b with
  | true=>simp [aD hb]
  | false=>rw [ae (fun e=>by subst e; simp at hb)]; exact Mz gl b
def afo (w:World) (gl:List (Nat×List Value×Nat)):Prop:=∀ x∈gl,x.1 < gB/\x.1 < w.heap.size/\x.2.1.all (fun v=>flat v&&scalar v)=true/\∀ i v,x.2.1[i]? = some v->w.cell? ⟨x.1,i,none⟩=some v
theorem iu.Sa {w:World} {gl:List (Nat×List Value×Nat)} (h:afo w gl):iu (BD gl) (St.lL gl) w.heap.size w:=by
 have hg:∀ b o,(St.lL gl).get b=some o->∃ x∈gl,x.1=b/\gl.find? (fun x=>Nat.beq x.1 b)=some x/\o = .row x.2.1 x.2.2 false none:=by
  intro b o e;have e:(Ml gl).get b=some o:=e;rw [Mz] at e;split at e
  ·rename_i x hx
   simp at e;have:=List.find?_some hx;exact ⟨x,List.mem_of_find?_eq_some hx,aD this,hx,e.symm⟩
  ·simp at e
 refine ⟨⟨fun b cs aQ own aZ e=>?_,fun b es e=>?_,fun b s pos e=>?_,fun b st ex t ps c d e=>?_,fun b1 b2 o1 o2 l1 l2 _ e1 _ m=>?_,fun b o aF f e k=>?_⟩,fun b l e=>?_,ao _,Xf gl⟩
 ·obtain ⟨x,hx,rfl,hf,he⟩:=hg _ _ e
  simp at he;obtain ⟨rfl,rfl,rfl,rfl⟩:=he;obtain ⟨h1,h2,h3,h4⟩:=h x hx;refine ⟨⟨x.1,0,x.2.1.length,x.2.2⟩,by unfold BD; rw [ax h1,hf],⟨fun i v hi=>?_,fun _=>h2,fun h=>by simp at h,fun h=>by simp at h,by simp,fun h=>by simp at h,rfl,h2,fun h=>by simp at h⟩⟩;have:=dU.1 h3 v (eS hi);simp only [aj] at this;exact ⟨v,by simpa using h4 i v hi,VR.of_flat this.1,this.2⟩
 ·obtain ⟨x,_,_,_,he⟩:=hg _ _ e; simp at he
 ·obtain ⟨x,_,_,_,he⟩:=hg _ _ e; simp at he
 ·obtain ⟨x,_,_,_,he⟩:=hg _ _ e; simp at he
 ·obtain ⟨x,_,_,_,he⟩:=hg _ _ e1; subst he; simp [aY.cr] at m
 ·obtain ⟨x,_,_,_,he⟩:=hg _ _ e; subst he; simp [aY.hO] at k
 ·unfold BD at e
  split at e
  ·rename_i hb; exact hb
  ·simp at e
theorem iu.empty (w:World):iu (BD []) St.empty w.heap.size w:=iu.Sa (gl:=[]) (fun _ h=>by simp at h)
theorem QM {P:Program} {S:Told} (hS:J8 P S) (hP:P.funcs.toList.all gh=true) (hm:P.follows .mixedOrders=true) {L n:Nat} {f:FuncId} {gl:List (Nat×List Value×Nat)} (h:Et (H6 P S L n f [] (St.lL gl))=true) {w:World} (hw:afo w gl) (hf:Nat.blt f yB=true:=by rfl) :
  Calls P f #[] w fun e w'=>e = .returned (.bool true)/\RowKit.Below w.heap.size w w':=by
 unfold Et at h;split at h
 ·rename_i b B hc
  subst h;refine (((C1 hS hP hm L n _ _ _ _ _ hc).2 _ [] w.heap.size w .nil (.Sa hw)).1 hf).mono ?_;rintro e w' ⟨ak,v',rfl,hv,hg⟩;refine ⟨by rw [hv.dr],hg.kept.os,hg.kept.tape,hg.kept.output,hg.kept.size,fun k hk=>hg.kept.block k hk ?_⟩;rintro ⟨b,o,l,ho,hm,_⟩;have ho:(Ml gl).get b=some o:=ho;rw [Mz] at ho;split at ho
  ·simp at ho; subst ho; simp [aY.cr] at hm
  ·simp at ho
 ·simp at h
theorem abk {P:Program} {S:Told} (hS:J8 P S) (hP:P.funcs.toList.all gh=true) (hm:P.follows .mixedOrders=true) {L n:Nat} {f:FuncId} (h:Et (H6 P S L n f [] St.empty)=true) (w:World) (hf:Nat.blt f yB=true:=by rfl) :
  Calls P f #[] w fun e w'=>e = .returned (.bool true)/\RowKit.Below w.heap.size w w':=
 QM (gl:=[]) hS hP hm h (fun _ h=>by simp at h) hf
end
end Go.az
end
section
namespace Go.K
open Go Go.az
noncomputable section
inductive Mk where
 | any
 | exact
 | aF (b:Nat)
inductive KV where
 | int (k:IntKind) (n:Int)
 | bool (b:Bool)
 | str (s:ByteArray)
 | agg (cs:List KV)
 | ng (vs:List KV)
 | ts (T:TypeId) (m:Mk) (n:Nat) (es:List KV) (acc:Nat->KV)
 | tp (T Tc:TypeId) (i k:Nat) (es:List KV) (acc:Nat->KV)
 | al (T:TypeId) (b o n:Nat)
 | ap (T Tc:TypeId) (b i k:Nat)
 | ptr (b off:Nat)
 | sl (b off len cap:Nat)
 | Al
 | jd
 | wk
 | map (b:Nat)
 | fn (f:Fn) (first cap:List KV)
 | BF
 | iface (t:TypeId) (v:KV)
 | BG
 | bz
instance:Inhabited KV:=⟨.bz⟩
inductive gG where
 | row (cs:List KV) (aQ:Nat)
 | map (es:List (KV×KV))
 | aF (top sz:Nat)
 | arr (v:KV)
 | iG (v:KV)
 | dead
structure ai where
 heap:Trie gG
 next:Nat
def ai.empty:ai:=⟨.leaf,0⟩
def ai.get (A:ai) (b:Nat):Option gG:=A.heap.get b
def ai.new (A:ai) (o:gG):ai:=⟨A.heap.set o A.next,Nat.succ A.next⟩
def ai.put (A:ai) (b:Nat) (o:gG):ai:=⟨A.heap.set o b,A.next⟩
abbrev bJ:=Trie KV
def gH {α:Type} : List (Nat×α)->Trie α
 | []=>.leaf
 | p::ps=>(gH ps).set p.2 p.1
def KV.cells:KV->List KV
 | .agg cs=>cs
 | v=>[v]
def one:KV->Bool
 | .agg _ | .ng _ | .bz=>false
 | _=>true
def uu:KV:=.ng []
inductive KR (α:Type) where
 | no
 | ok (v:α)
 | iH (c:Bool) (v:α)
 | br (c:Bool) (x y:KR α)
def KR.run {α R:Type} (r:KR α) (k:α->Option R):Option R:=
 KR.rec (motive:=fun _=>Option R) none (fun v=>k v) (fun c v=>Bool.rec (motive:=fun _=>Option R) none (k v) c) (fun c _ _ rx ry=>Bool.rec (motive:=fun _=>Option R) ry rx c) r
def KR.map {α β:Type} (f:α->β):KR α->KR β
 | .no=>.no
 | .ok v=>.ok (f v)
 | .iH c v=>.iH c (f v)
 | .br c x y=>.br c (x.map f) (y.map f)
def KR.of {α:Type} : Option α->KR α
 | some v=>.ok v
 | none=>.no
inductive CK where
 | int (k:IntKind)
 | bool
 | str
 | slice (t:TypeId)
 | other
structure Lay where
 agg:Bool
 ks:List CK
def cN {α:Type} (l:List α):Nat->List α
 | 0=>[]
 | n+1=>l++cN l n
def Iw (f:TypeId->Option Lay):List Field->Nat->Option (List CK)
 | [],_=>some []
 | fd::fs,off=>cond (Nat.beq fd.offset off) ((f fd.type).bind fun l=>(Iw f fs (off+l.ks.length)).map fun r=>l.ks++r) none
def lay (P:Program):Nat->TypeId->Option Lay
 | 0,_=>none
 | n+1,t=>match P.underlying t with
  | some (.int k)=>some ⟨false,[.int k]⟩
  | some .bool=>some ⟨false,[.bool]⟩
  | some .string=>some ⟨false,[.str]⟩
  | some (.slice e)=>some ⟨false,[.slice e]⟩
  | some (.struct fs)=>(Iw (lay P n) fs.toList 0).map fun ks=>⟨true,ks⟩
  | some (.array len e)=>(lay P n e).map fun l=>⟨true,cN l.ks len⟩
  | some _=>some ⟨false,[.other]⟩
  | none=>none
def aH (P:Program) (t:TypeId):Lay:=(lay P 12 t).getD ⟨false,[]⟩
def kindOk:CK->KV->Bool
 | .int k,.int k' _=>decide (k=k')
 | .bool,.bool _=>true
 | .str,.str _=>true
 | .slice t,.ts t' .any _ _ _=>Nat.beq t t'
 | _,_=>false
def au:List CK->List KV->Bool
 | [],[]=>true
 | k::ks,v::vs=>kindOk k v&&au ks vs
 | _,_=>false
def ca (l:Lay):KV->Bool
 | .agg cs=>l.agg&&au l.ks cs
 | .ng _=>false
 | v=>!l.agg&&au l.ks [v]
def dp (l:Lay):List KV->Bool
 | []=>true
 | e::es=>ca l e&&dp l es
def aw:KV->Int
 | .int _ n=>n
 | _=>0
def j3:KV->Bool
 | .bool b=>b
 | _=>false
def strOf:KV->ByteArray
 | .str s=>s
 | _=>ByteArray.empty
def anx:KV->List KV
 | .ts _ _ _ es _=>es
 | _=>[]
def lenOf:KV->Nat
 | .ts _ _ n _ _=>n
 | _=>0
def tD:KV->Nat->KV
 | .ts _ _ _ _ acc=>acc
 | _=>fun _=>.bz
def leaf (c:CK) (v:KV):KV:=
 CK.rec (motive:=fun _=>KV) (fun k=>.int k (aw v)) (.bool (j3 v)) (.str (strOf v)) (fun t=>.ts t .any (lenOf v) (anx v) (tD v)) v c
def leaves (e:KV):List CK->Nat->List KV
 | [],_=>[]
 | c::cs,k=>leaf c (e.cells.getD k .bz)::leaves e cs (Nat.succ k)
def HH (agg:Bool) (cs:List KV):KV:=Bool.rec (motive:=fun _=>KV) (cs.headD .bz) (.agg cs) agg
def F5:List CK->Bool
 | []=>true
 | .other::_=>false
 | _::cs=>F5 cs
mutual
def fw:Value->KV
 | .bool b=>.bool b
 | .int k n=>.int k n
 | .string s=>.str s
 | .pointer none=>.Al
 | .slice none 0 0=>.jd
 | .map none=>.wk
 | .nilFunc=>.BF
 | .nilIface=>.BG
 | .agg cs=>.agg (ofA cs)
 | .tuple cs=>.ng (ofA cs)
 | _=>.bz
def ofA:Array Value->List KV
 | ⟨l⟩=>ofL l
def ofL:List Value->List KV
 | []=>[]
 | v::vs=>fw v::ofL vs
end
abbrev FP:=List KV->KR KV
abbrev FR:=ai->List KV->KR KV
abbrev FA:=ai->List KV->KR (KV×ai)
inductive oW where
 | pure (f:FP) (xs:List Operand)
 | read (f:FR) (xs:List Operand)
 | act (f:FA) (xs:List Operand)
 | look (f:FP) (xs:List Operand)
 | DL (g:FuncId) (f:List KV->KR KV) (xs:List Operand)
 | DM (g:FuncId) (f:List KV->KR KV) (xs:List Operand)
 | call (f:Operand) (args:List Operand)
 | bad
def Zs:FP
 | [x]=>.ok x
 | _=>.no
def Zt:FP
 | [.bool b]=>.br b (.ok (.bool true)) (.ok (.bool false))
 | [x]=>.ok x
 | _=>.no
def adS:FP
 | [.bool t,.bool a,.bool b]=>.ok (.bool (cond t a b))
 | [.bool t,a,b]=>.ok (cond t a b)
 | _=>.no
def ji:List KV->Bool
 | []=>true
 | v::vs=>one v&&ji vs
def r6 {α:Type} : Nat->List α->Option (List α)
 | 0,_=>some []
 | _+1,[]=>none
 | n+1,x::xs=>(r6 n xs).map (x::·)
def xY {α:Type} : Nat->List α->List α
 | 0,l=>l
 | _+1,[]=>[]
 | n+1,_::xs=>xY n xs
def jx {α:Type} : Nat->List α->List α->Option (List α)
 | 0,l,[]=>some l
 | 0,[],_::_=>none
 | 0,_::l,v::vs=>(jx 0 l vs).map (v::·)
 | _+1,[],[]=>some []
 | _+1,[],_::_=>none
 | n+1,x::l,vs=>(jx n l vs).map (x::·)
def Sb (n:Nat) (z:List KV):FA:=fun A _=>.ok (.ptr A.next 0,A.new (.row z n))
def pe (P:Program) (t:TypeId):oW:=
 match uK P t with
 | some z=>cond (flat z&&z.cells.toList.all scalar&&ji (fw z).cells) (.act (Sb (uL P t) (fw z).cells) []) .bad
 | none=>.bad
def abl (n:Nat):FA:=fun A xs=>
 match xs with
 | [v]=>cond (ji v.cells) (.ok (.ptr A.next 0,A.new (.row v.cells n))) .no
 | _=>.no
def QN (place:Nat->Option (Nat×Nat)):List KV->List (Nat×KV)->Option (List KV)
 | cells,[]=>some cells
 | cells,(i,v)::rest=>
  match place i with
  | some (off,size)=>cond (Nat.beq v.cells.length size&&Nat.ble 1 size) ((jx off cells v.cells).bind fun cs=>QN place cs rest) none
  | none=>none
def tz:List Nat->List KV->List (Nat×KV)
 | i::is,v::vs=>(i,v)::tz is vs
 | _,_=>[]
def rG:KV->Bool
 | .bz=>false
 | _=>true
def J9 (place:Nat->Option (Nat×Nat)) (z:List KV) (is:List Nat):FP:=fun vs=>
 match QN place z (tz is vs) with
 | some cs=>cond (vs.all rG) (.ok (.agg cs)) .no
 | none=>.no
def qi (P:Program) (t:TypeId) (is:List Nat) (xs:List Operand):oW:=
 match uK P t,P.underlying t with
 | some z,some (.struct fields)=>
  match placesOf P fields.toList with
  | some l=>cond (flat z&&ji (fw z).cells) (.pure (J9 (NW l) (fw z).cells is) xs) .bad
  | none=>.bad
 | some z,some (.array _ e)=>
  match size? P e with
  | some n=>cond (flat z&&ji (fw z).cells) (.pure (J9 (vv n) (fw z).cells is) xs) .bad
  | none=>.bad
 | _,_=>.bad
def mJ:Nat->KV:=fun _=>.bz
def qj (es:List KV):Nat->KV:=fun i=>es.getD i .bz
def kP (c:CK) (v:KV):KV:=
 match c,v with
 | .slice t,.jd=>.ts t .any 0 [] mJ
 | .slice t,.ts t' _ n es acc=>cond (Nat.beq t t') (.ts t .any n es acc) .bz
 | c,v=>cond (kindOk c v) v .bz
def wm:List CK->List KV->List KV
 | c::cs,v::vs=>kP c v::wm cs vs
 | _,_=>[]
def dv (l:Lay) (v:KV):KV:=
 match v with
 | .agg cs=>cond (l.agg&&Nat.beq cs.length l.ks.length) (.agg (wm l.ks cs)) .bz
 | v=>cond l.agg .bz (match l.ks with
  | [c]=>kP c v
  | _=>.bz)
def setAt (es:List KV) (i:Nat) (v:KV):List KV:=
 match i,es with
 | 0,_::es=>v::es
 | n+1,e::es=>e::setAt es n v
 | _,[]=>[]
def zL (es:List KV):List (Nat×KV)->List KV
 | []=>es
 | (i,v)::rest=>zL (setAt es i v) rest
def Ix (l:Lay) (e:TypeId) (z:KV) (len:Nat) (is:List Nat):FP:=fun vs=>
 let es:=zL (cN [z] len) ((tz is vs).map fun p=>(p.1,dv l p.2))
 cond (vs.all rG&&dp l (vs.map (dv l))&&dp l es) (.ok (.ts e .exact len es (qj es))) .no
def MA (l:Lay) (e:TypeId) (z:KV) (len:Nat) (is:List Nat):FA:=fun A vs=>
 let es:=zL (cN [z] len) ((tz is vs).map fun p=>(p.1,dv l p.2))
 cond (vs.all rG&&dp l (vs.map (dv l))&&dp l es) (.ok (.al e A.next 0 len,A.new (.arr (.ts e .any len es (qj es))))) .no
def xZ (n:Nat):List Nat->Bool
 | []=>true
 | i::is=>Nat.blt i n&&xZ n is
def MB (n:Nat) (z:List KV) (len:Nat) (is:List Nat):FA:=fun A vs=>
 match QN (vv n) (cN z len) (tz is vs) with
 | some cs=>cond (vs.all rG&&ji cs) (.ok (.sl A.next 0 len len,A.new (.row cs n))) .no
 | none=>.no
def jy (P:Program) (mt:TypeId->Bool) (t:TypeId) (len:Nat) (is:List Nat) (xs:List Operand):oW:=
 match P.underlying t with
 | some (.slice e)=>
  match P.info? e,uK P e with
  | some i,some z=>cond (Nat.ble (len * i.size) 16777216&&Nat.beq z.cells.size i.size&&Nat.ble 1 i.size&&flat z&&Nat.beq (aH P e).ks.length i.size&&xZ len is)
    (cond (F5 (aH P e).ks) (cond (mt (e+3000000)) (.act (MA (aH P e) e (dv (aH P e) (fw z)) len is) xs) (.look (Ix (aH P e) e (dv (aH P e) (fw z)) len is) xs)) (cond (ji (fw z).cells) (.act (MB i.size (fw z).cells len is) xs) .bad)) .bad
  | _,_=>.bad
 | _=>.bad
def rowAt (A:ai) (b:Nat):Option (List KV):=
 match A.get b with
 | some (.row cs _)=>some cs
 | _=>none
def DN (A:ai) (b:Nat):Option KV:=
 match A.get b with
 | some (.arr v)=>some v
 | some (.iG v)=>some v
 | _=>none
def TC (P:Program) (t Tc:TypeId):Bool:=Nat.beq Tc t&&F5 (aH P t).ks&&decide (HR P t=some (aH P t).agg)&&decide (size? P t=some (aH P t).ks.length)&&((aH P t).agg||Nat.beq (aH P t).ks.length 1)
def putCells (P:Program) (T:TypeId) (k:Nat) (e:KV) (vs:List KV):Option KV:=(jx k (leaves e (aH P T).ks 0) vs).map fun cs=>HH (aH P T).agg cs
def uv (acc:Nat->KV) (i:Nat) (v:KV):Nat->KV:=fun j=>cond (Nat.beq j i) v (acc j)
def afp (T:TypeId) (n i:Nat) (es:List KV) (acc:Nat->KV) (e:KV):KV:=.ts T .any n (setAt es i e) (uv acc i e)
def QO (P:Program) (t:TypeId):FR:=fun A xs=>
 match xs with
 | [.ptr b off]=>
  match HR P t,size? P t with
  | some ag,some n=>match (rowAt A b).bind fun cs=>r6 n (xY off cs) with
   | some l=>cond ag (.ok (.agg l)) (match l with | [v]=>.ok v | _=>.no)
   | none=>.no
  | _,_=>.no
 | [.tp _ Tc i k _ acc]=>
  cond (TC P t Tc) (.ok (HH (aH P t).agg (leaves (acc i) (aH P t).ks k))) .no
 | [.ap T Tc b i k]=>match DN A b with
  | some (.ts T' _ _ _ acc)=>cond (Nat.beq T T'&&TC P t Tc) (.ok (HH (aH P t).agg (leaves (acc i) (aH P t).ks k))) .no
  | _=>.no
 | _=>.no
def OS (P:Program) (t:TypeId):FA:=fun A xs=>
 match xs with
 | [.ptr b off,v]=>
  cond (decide (some v.cells.length=size? P t)&&ji v.cells)
   (match A.get b with
   | some (.row cs aQ)=>match jx off cs v.cells with
    | some bX=>.ok (uu,A.put b (.row bX aQ))
    | none=>.no
   | _=>.no) .no
 | [.ap T Tc b i k,v]=>
  match A.get b with
  | some (.arr (.ts T' _ n es acc))=>
   cond (Nat.beq T T'&&Nat.beq Tc t&&ca (aH P t) (dv (aH P t) v)&&decide (size? P t=some (aH P t).ks.length))
    (match putCells P T k (acc i) (dv (aH P t) v).cells with
    | some e=>.ok (uu,A.put b (.arr (afp T n i es acc e)))
    | none=>.no) .no
  | _=>.no
 | _=>.no
def UK:FP
 | [.ptr b off]=>.ok (.ptr b off)
 | [.tp T Tc i k es acc]=>.ok (.tp T Tc i k es acc)
 | [.ap T Tc b i k]=>.ok (.ap T Tc b i k)
 | [.fn (.func f) first cap]=>.ok (.fn (.func f) first cap)
 | _=>.no
abbrev anz (k:IntKind) (a b:Int):Nat:=(BitVec.ofInt k.bits a &&& BitVec.ofInt k.bits b).toNat
abbrev bOr (k:IntKind) (a b:Int):Nat:=(BitVec.ofInt k.bits a ||| BitVec.ofInt k.bits b).toNat
abbrev anA (k:IntKind) (a b:Int):Nat:=(BitVec.ofInt k.bits a ^^^ BitVec.ofInt k.bits b).toNat
abbrev aiQ (k:IntKind) (a b:Int):Nat:=(BitVec.ofInt k.bits a &&& ~~~ BitVec.ofInt k.bits b).toNat
def opI (op:BinOp) (k:IntKind) (a b:Int):KR KV:=
 match op with
 | .add=>.ok (.int k (k.wrap (a+b)))
 | .sub=>.ok (.int k (k.wrap (a - b)))
 | .mul=>.ok (.int k (k.wrap (a * b)))
 | .eql=>.ok (.bool (a==b))
 | .neq=>.ok (.bool (a != b))
 | .lss=>.ok (.bool (decide (a < b)))
 | .leq=>.ok (.bool (decide (a<=b)))
 | .gtr=>.ok (.bool (decide (a > b)))
 | .geq=>.ok (.bool (decide (a >= b)))
 | .quo=>.iH (!(decide (b=0))) (.int k (k.wrap (a.tdiv b)))
 | .rem=>.iH (!(decide (b=0))) (.int k (a.tmod b))
 | .and=>.ok (.int k (k.wrap (anz k a b)))
 | .or=>.ok (.int k (k.wrap (bOr k a b)))
 | .xor=>.ok (.int k (k.wrap (anA k a b)))
 | .andNot=>.ok (.int k (k.wrap (aiQ k a b)))
 | _=>.no
def anB (op:BinOp) (k:IntKind) (a b:Int):KR KV:=
 match op with
 | .shl=>.iH (!(decide (b < 0))) (.int k (k.wrap (a * 2 ^ (min b.toNat k.bits))))
 | .shr=>.iH (!(decide (b < 0))) (.int k (a.fdiv (2 ^ (min b.toNat k.bits))))
 | _=>.no
def abm:BinOp->Bool
 | .shl | .shr=>true
 | _=>false
def eqK:KV->KV->Option Bool
 | .int k a,.int k' b=>cond (decide (k=k')) (some (a==b)) none
 | .bool a,.bool b=>some (a==b)
 | .str a,.str b=>some (a==b)
 | _,_=>none
def pY:List KV->List KV->Option Bool
 | [],[]=>some true
 | x::xs,y::ys=>match eqK x y,pY xs ys with
  | some a,some b=>some (a&&b)
  | _,_=>none
 | _,_=>none
def Ao (P:Program):Nat->TypeId->Bool
 | 0,_=>false
 | n+1,t=>(match P.info? t,lay P (n+1) t with
   | some i,some l=>Nat.beq i.size l.ks.length
   | _,_=>false)&&match P.underlying t with
  | some (.int _) | some .bool | some .string=>true
  | some (.struct fs) => !(P.stoodInHeld t) && fs.toList.all fun f => !(f.name == "_") && Ao P n f.type
  | some (.array _ e)=>Ao P n e
  | _=>false
def afq (P:Program) (t:TypeId) (x y:KV):Option Bool:=
 match x,y with
 | .agg xs,.agg ys=>cond ((aH P t).agg&&Ao P 12 t&&!(P.eqGuardType P.depth t)&&au (aH P t).ks xs&&au (aH P t).ks ys) (pY xs ys) none
 | .bool a,.bool b=>match P.underlying t with
  | some .bool=>some (a==b)
  | _=>none
 | .jd,.jd=>match P.underlying t with
  | some (.slice _)=>some true
  | _=>none
 | .ts _ _ n _ _,.jd=>match P.underlying t with
  | some (.slice _)=>cond (Nat.beq n 0) none (some false)
  | _=>none
 | .jd,.ts _ _ n _ _=>match P.underlying t with
  | some (.slice _)=>cond (Nat.beq n 0) none (some false)
  | _=>none
 | .Al,.Al=>match P.underlying t with
  | some (.pointer _)=>some true
  | _=>none
 | .ptr _ _,.Al=>match P.underlying t with
  | some (.pointer _)=>some false
  | _=>none
 | .Al,.ptr _ _=>match P.underlying t with
  | some (.pointer _)=>some false
  | _=>none
 | _,_=>none
def afr (P:Program) (t:TypeId):Bool:=match P.underlying t with
 | some (.slice _)=>true
 | _=>false
def aiR (P:Program) (op:BinOp) (t:TypeId):FP
 | [.int j a,.int k b]=>cond (abm op) (anB op j a b) (cond (decide (j=k)) (opI op j a b) .no)
 | [.str a,.str b]=>match op with
  | .eql=>.ok (.bool (a.toList==b.toList))
  | .neq=>.ok (.bool !(a.toList==b.toList))
  | .lss=>.ok (.bool (Op.bytesLess a.toList b.toList))
  | .add=>.iH (Nat.ble (a.size+b.size) 9223372036854775807) (.str (a++b))
  | _=>.no
 | [.ts _ _ n _ _,.jd]=>match op with
  | .eql=>cond (afr P t) (.iH (Nat.blt 0 n) (.bool false)) .no
  | .neq=>cond (afr P t) (.iH (Nat.blt 0 n) (.bool true)) .no
  | _=>.no
 | [x,y]=>match op,afq P t x y with
  | .eql,some b=>.ok (.bool b)
  | .neq,some b=>.ok (.bool !b)
  | _,_=>.no
 | _=>.no
def kUn (op:UnOp):FP
 | [.bool b]=>match op with
  | .not=>.ok (.bool !b)
  | _=>.no
 | [.int k n]=>match op with
  | .neg=>.ok (.int k (k.wrap (0 - n)))
  | .xor=>.ok (.int k (k.wrap (BitVec.ofInt k.bits (if k.signed then -1 else k.max) ^^^ BitVec.ofInt k.bits n).toNat))
  | _=>.no
 | _=>.no
def afs (k:IntKind):FP
 | [.int _ n]=>.ok (.int k (k.wrap n))
 | _=>.no
def aft:FP
 | [.str s]=>.ok (.str s)
 | _=>.no
def byteOf:KV->UInt8
 | .int _ n=>UInt8.ofNat n.toNat
 | _=>0
def afu:KV->Bool
 | .int .u8 n=>decide (0<=n)&&decide (n < 256)
 | _=>false
def F6:FP
 | [.jd]=>.ok (.str ⟨⟨[]⟩⟩)
 | [.ts _ _ _ es _]=>.iH (es.all afu) (.str ⟨⟨es.map byteOf⟩⟩)
 | _=>.no
def MC (e:TypeId):FP
 | [.str s]=>.ok (.ts e .any s.size (s.data.toList.map fun b=>.int .u8 b.toNat) (fun i=>.int .u8 (s.data.toList.getD i 0).toNat))
 | _=>.no
def mP (P:Program) (src dst:TypeId) (x:Operand):oW:=
 match P.underlying src,P.underlying dst with
 | some (.int _),some (.int k)=>.pure (afs k) [x]
 | some .string,some .string=>.pure aft [x]
 | some (.slice e),some .string=>cond (isByte P e) (.read (fun _=>F6) [x]) .bad
 | some .string,some (.slice e)=>cond (isByte P e) (.look (MC e) [x]) .bad
 | _,_=>.bad
def F7 (f:Fn) (k:Nat):FP:=fun vs=>
 match r6 k vs with
 | some first=>.ok (.fn f first (xY k vs))
 | none=>.no
def Sc (s:TypeId) (off:Nat) (ft:TypeId) (pf:Bool):FP
 | [.ptr b o]=>.ok (.ptr b (o+off))
 | [.tp T Tc i k es acc]=>cond (Nat.beq Tc s&&pf) (.ok (.tp T ft i (k+off) es acc)) .no
 | [.ap T Tc b i k]=>cond (Nat.beq Tc s&&pf) (.ok (.ap T ft b i (k+off))) .no
 | _=>.no
def aiS:CK->CK->Bool
 | .int a,.int b=>decide (a=b)
 | .bool,.bool=>true
 | .str,.str=>true
 | .slice a,.slice b=>Nat.beq a b
 | .other,.other=>true
 | _,_=>false
def x7:List CK->List CK->Bool
 | [],[]=>true
 | a::aow,b::bs=>aiS a b&&x7 aow bs
 | _,_=>false
def TD (P:Program) (s:TypeId) (off:Nat) (ft:TypeId):Bool:=
 match r6 (aH P ft).ks.length (xY off (aH P s).ks) with
 | some l=>x7 l (aH P ft).ks
 | none=>false
def j4 (P:Program) (s:TypeId) (x:Operand) (f:Nat):oW:=
 match oj P s f with
 | some fd=>match size? P fd.type with
  | some (_+1)=>.pure (Sc s fd.offset fd.type (TD P s fd.offset fd.type)) [x]
  | _=>.bad
 | none=>.bad
def QP (P:Program) (t:TypeId) (cs:List KV) (off:Nat):Option KV:=
 match HR P t with
 | some true=>(size? P t).bind fun n=>(r6 n (xY off cs)).map fun l=>.agg l
 | some false=>(xY off cs).head?
 | none=>none
def afv (P:Program) (fd:Field):FP
 | [.agg cs]=>.of (QP P fd.type cs fd.offset)
 | _=>.no
def qk (P:Program) (t:TypeId) (x:Operand) (f:Nat):oW:=
 match oj P t f with
 | some fd=>.pure (afv P fd) [x]
 | none=>.bad
def UL (i:Int) (n:Nat):Bool:=decide (0<=i)&&decide (i < (n:Int))
def afw {α:Type} (i:Int) (f:Nat->KR α) (m:Nat):Nat->KR α:=Nat.rec (motive:=fun _=>Nat->KR α) (fun _=>.no) (fun _ ih j=>.br (decide (i=(j:Int))) (f j) (ih (Nat.succ j))) m
def UM (P:Program) (t:TypeId) (len n:Nat) (e:TypeId):FP
 | [.ptr b o,.int _ i]=>cond (Nat.ble len 8) (afw i (fun j=>.ok (.ptr b (o+j * n))) len 0) (.iH (UL i len) (.ptr b (o+i.toNat * n)))
 | [.tp T Tc j k es acc,.int _ i]=>cond (Nat.beq Tc t&&x7 (aH P t).ks (cN (aH P e).ks len)&&Nat.beq (aH P e).ks.length n) (.iH (UL i len) (.tp T e j (k+i.toNat * n) es acc)) .no
 | [.ap T Tc b j k,.int _ i]=>cond (Nat.beq Tc t&&x7 (aH P t).ks (cN (aH P e).ks len)&&Nat.beq (aH P e).ks.length n) (.iH (UL i len) (.ap T e b j (k+i.toNat * n))) .no
 | _=>.no
def X2 (e n:Nat) (pf:Bool):FP
 | [.sl b o len _,.int _ i]=>.iH (UL i len) (.ptr b (o+i.toNat * n))
 | [.ts T _ m es acc,.int _ i]=>cond (Nat.beq T e&&pf) (.iH (UL i m) (.tp T T i.toNat 0 es acc)) .no
 | [.al T b o m,.int _ i]=>cond (Nat.beq T e&&pf) (.iH (UL i m) (.ap T T b (o+i.toNat) 0)) .no
 | _=>.no
def j5 (P:Program) (t:TypeId) (x ix:Operand):oW:=
 match P.underlying t with
 | some (.array len e)=>match size? P e with
  | some n=>.pure (UM P t len n e) [x,ix]
  | none=>.bad
 | some (.slice e)=>match size? P e with
  | some n=>.pure (X2 e n (Nat.beq (aH P e).ks.length n)) [x,ix]
  | none=>.bad
 | _=>.bad
def MD (P:Program) (len n:Nat) (e:TypeId):FP
 | [.agg cs,.int _ i]=>cond (Nat.ble len 8) (afw i (fun j=>.of (QP P e cs (j * n))) len 0) (match QP P e cs (i.toNat * n) with
  | some v=>.iH (UL i len) v
  | none=>.no)
 | _=>.no
def UN:FP
 | [.str s,.int _ i]=>.iH (UL i s.size) (.int .u8 ((s.data.toList.getD i.toNat 0).toNat))
 | _=>.no
def ql (P:Program) (t:TypeId) (x ix:Operand):oW:=
 match P.underlying t with
 | some (.array len e)=>match size? P e with
  | some n=>.pure (MD P len n e) [x,ix]
  | none=>.bad
 | some .string=>.pure UN [x,ix]
 | _=>.bad
def X3 {α:Type} : Nat->List α->Option α
 | _,[]=>none
 | 0,x::_=>some x
 | n+1,_::xs=>X3 n xs
def X4 (i:Nat):FP
 | [.ng vs]=>.of (X3 i vs)
 | _=>.no
def afx:FP
 | [.ts _ _ n _ _]=>.ok (.int .i64 (n:Int))
 | [.sl _ _ n _]=>.ok (.int .i64 (n:Int))
 | [.al _ _ _ n]=>.ok (.int .i64 (n:Int))
 | [.jd]=>.ok (.int .i64 0)
 | _=>.no
def abn:FP
 | [.str s]=>.ok (.int .i64 (s.size:Int))
 | _=>.no
def UO (P:Program) (argTypes:List TypeId) (args:List Operand):oW:=
 match argTypes with
 | [t]=>match P.underlying t with
  | some (.slice _)=>.pure afx args
  | some .string=>.pure abn args
  | _=>.bad
 | _=>.bad
def EO (mx:Bool):FP
 | [.int j a,.int k b]=>cond (decide (j=k)) (.ok (.int j (cond mx (max a b) (min a b)))) .no
 | [.int j a,.int k b,.int l c]=>cond (decide (j=k)&&decide (j=l)) (.ok (.int j (cond mx (max (max a b) c) (min (min a b) c)))) .no
 | _=>.no
def Lv (len:Nat) (lo hi:Bool):List KV->Option (Int×Int)
 | []=>cond (lo||hi) none (some (0,len))
 | [.int _ x]=>cond (lo&&!hi) (some (x,len)) (cond (!lo&&hi) (some (0,x)) none)
 | [.int _ x,.int _ y]=>cond (lo&&hi) (some (x,y)) none
 | _=>none
def QQ (P:Program) (n:Nat) (lo hi:Bool):FR:=fun A xs=>
 match xs with
 | .ts T _ m es acc::r=>match Lv m lo hi r with
  | some (x,y)=>cond (Nat.beq (aH P T).ks.length n) (.iH (decide (0<=x)&&decide (x<=y)&&decide (y<=(m:Int))) (.ts T .any (y.toNat - x.toNat) ((es.drop x.toNat).take (y.toNat - x.toNat)) (fun i=>acc (x.toNat+i)))) .no
  | none=>.no
 | .sl b o len cap::r=>match A.get b with
  | some (.row _ aQ)=>match Lv len lo hi r with
   | some (x,y)=>cond (Nat.beq aQ n) (.iH (decide (0<=x)&&decide (x<=y)&&decide (y<=(len:Int))&&decide (len<=cap)) (.sl b (o+x.toNat * n) (y.toNat - x.toNat) (cap - x.toNat))) .no
   | none=>.no
  | _=>.no
 | .al T b o m::r=>match DN A b with
  | some (.ts T' _ _ _ _)=>match Lv m lo hi r with
   | some (x,y)=>cond (Nat.beq (aH P T).ks.length n&&Nat.beq T T') (.iH (decide (0<=x)&&decide (x<=y)&&decide (y<=(m:Int))) (.al T b (o+x.toNat) (y.toNat - x.toNat))) .no
   | none=>.no
  | _=>.no
 | _=>.no
def QR (P:Program) (n:Nat) (lo hi:Bool):FA:=fun A xs=>
 match xs with
 | .al T b o m::r=>match A.get b with
  | some (.arr (.ts T' _ _ es acc))=>match Lv m lo hi r with
   | some (x,y)=>cond (Nat.beq (aH P T).ks.length n&&Nat.beq T T'&&Nat.beq o 0&&decide (x=0)) (.iH (decide (0<=y)&&decide (y<=(m:Int))) (.al T A.next 0 y.toNat,(A.put b .dead).new (.arr (.ts T .any y.toNat (es.take y.toNat) acc)))) .no
   | none=>.no
  | _=>.no
 | _=>.no
def MF (len n:Nat) (lo hi:Bool):FR:=fun A xs=>
 match xs with
 | .ptr b o::r=>match A.get b with
  | some (.row cs aQ)=>match Lv len lo hi r with
   | some (x,y)=>cond (Nat.beq aQ n&&Nat.ble (o+len * n) cs.length) (.iH (decide (0<=x)&&decide (x<=y)&&decide (y<=(len:Int))) (.sl b (o+x.toNat * n) (y.toNat - x.toNat) (len - x.toNat))) .no
   | none=>.no
  | _=>.no
 | _=>.no
def MG (lo hi:Bool):FP
 | .str s::r=>match Lv s.size lo hi r with
  | some (x,y)=>.iH (decide (0<=x)&&decide (x<=y)&&decide (y<=(s.size:Int))) (.str ⟨⟨(s.data.toList.drop x.toNat).take (y.toNat - x.toNat)⟩⟩)
  | none=>.no
 | _=>.no
def qm (P:Program) (mt:TypeId->Bool) (t:TypeId) (x:Operand) (lo hi mx:Option Operand):oW:=
 match P.underlying t with
 | some (.slice e)=>match size? P e with
  | some n=>cond (Nat.ble 1 n&&mx.isNone) (cond (mt (e+4000000)) (.act (QR P n lo.isSome hi.isSome) (x::(eh lo++eh hi))) (.read (QQ P n lo.isSome hi.isSome) (x::(eh lo++eh hi)))) .bad
  | none=>.bad
 | some (.array len e)=>match size? P e with
  | some n=>cond (Nat.ble 1 n&&mx.isNone) (.read (MF len n lo.isSome hi.isSome) (x::(eh lo++eh hi))) .bad
  | none=>.bad
 | some .string=>cond mx.isNone (.pure (MG lo.isSome hi.isSome) (x::(eh lo++eh hi))) .bad
 | _=>.bad
def mv (b n m:Nat):Bool:=Nat.ble ((n+m) * b) 140737488355328&&Nat.ble (n+m) 17592186044416
def ck (top n:Nat):Bool:=Nat.beq top n
def dV (n:Nat) (f g:Nat->KV):Nat->KV:=fun i=>cond (Nat.blt i n) (f i) (g (i - n))
def OT (e sz b n:Nat) (base:List KV) (ab:Nat->KV) (A:ai) (f m:Nat) (new:List KV) (an:Nat->KV) (more:Bool):KR (KV×ai):=
 .iH (more&&mv b n m)
  (.ts e (.aF f) (n+m) (base++new) (dV n ab an),A.put f (.aF (n+m) sz))
def Iy (e sz b:Nat):FA:=fun A xs=>
 match xs with
 | [.jd,.ts e' _ m new an]=>cond (Nat.beq e e') (OT e sz b 0 [] mJ (A.new (.aF 0 sz)) A.next m new an true) .no
 | [.ts e1 .exact n es ab,.ts e' _ m new an]=>cond (Nat.beq e e'&&Nat.beq e e1) (OT e sz b n es ab (A.new (.aF 0 sz)) A.next m new an (Nat.blt 0 m)) .no
 | [.ts e1 (.aF f) n es ab,.ts e' _ m new an]=>match A.get f with
  | some (.aF top sz')=>cond (Nat.beq e e'&&Nat.beq e e1&&Nat.beq sz' sz) (OT e sz b n es ab A f m new an (ck top n)) .no
  | _=>.no
 | _=>.no
def X5 (o:Nat) (acc:Nat->KV):Nat->KV:=
 match o with
 | 0=>acc
 | o+1=>fun i=>acc (o+1+i)
theorem Zu (o:Nat) (acc:Nat->KV):X5 o acc=fun i=>acc (o+i):=by
 cases o with
 | zero=>funext i; show acc i=acc (0+i); rw [bG]
 | succ o=>rfl
def Zv (A:ai) (T b o n:Nat):Option KV:=
 match DN A b with
 | some (.ts T' _ _ es acc)=>cond (Nat.beq T T') (some (.ts T .any n ((es.drop o).take n) (X5 o acc))) none
 | _=>none
def Iz (A:ai) (v:KV):Option KV:=
 match v with
 | .al T b o n=>Zv A T b o n
 | .ts T m n es acc=>some (.ts T m n es acc)
 | _=>none
def afy (b n m:Nat):Bool:=Nat.ble ((n+m) * b) 140737488355328&&Nat.ble (n+m) 17592186044416
def TE (e b n:Nat) (base:List KV) (ab:Nat->KV) (A:ai) (m:Nat) (new:List KV) (an:Nat->KV) (more:Bool):KR (KV×ai):=
 .iH (more&&afy b n m) (.al e A.next 0 (n+m),A.new (.arr (.ts e .any (n+m) (base++new) (dV n ab an))))
def Bg (e b:Nat):FA:=fun A xs=>
 match xs with
 | [.jd,.ts e' _ m new an]=>cond (Nat.beq e e') (TE e b 0 [] mJ A m new an true) .no
 | [.al e1 f o n,.ts e' _ m new an]=>match A.get f with
  | some (.arr (.ts e2 _ _ es acc))=>cond (Nat.beq e e'&&Nat.beq e e1&&Nat.beq e e2) (TE e b n (es.take n) acc (A.put f .dead) m new an (Nat.beq o 0)) .no
  | _=>.no
 | _=>.no
def aiT:KV->Bool
 | .al _ _ _ _=>true
 | _=>false
def EP (e sz b:Nat) (mt:Bool):FA:=fun A xs=>
 match xs with
 | [x,y]=>match Iz A y with
  | some y'=>cond (aiT x) (Bg e b A [x,y']) (cond mt (Bg e b A [x,y']) (Iy e sz b A [x,y']))
  | none=>.no
 | _=>.no
def C2 (P:Program) (mt:TypeId->Bool) (argTypes:List TypeId) (args:List Operand):oW:=
 match argTypes with
 | [t,u]=>
  match P.underlying t,P.underlying u with
  | some (.slice e),some (.slice _)=>
   match P.info? e with
   | some i=>match i.zero with
    | some z=>cond (Nat.ble 1 i.size&&Nat.beq z.cells.size i.size&&Nat.beq (aH P e).ks.length i.size) (.act (EP e i.size i.bytes (mt e)) args) .bad
    | none=>.bad
   | none=>.bad
  | _,_=>.bad
 | _=>.bad
def IA (n b:Nat) (z:List KV):FA:=fun A xs=>
 match xs with
 | [.int _ l,.int _ c]=>.iH (decide (0<=l)&&decide (l<=c)&&Nat.ble (b * c.toNat) 281474976710656) (.sl A.next 0 l.toNat c.toNat,A.new (.row (cN z c.toNat) n))
 | _=>.no
def UQ (A:ai) (v:KV):KV×ai:=
 match v with
 | .al T b o n=>match A.get b with
  | some (.arr (.ts T' m N es acc))=>cond (Nat.beq T T') (.ts T .any n ((es.drop o).take n) (fun i=>acc (o+i)),A.put b (.iG (.ts T' m N es acc))) (.bz,A)
  | some (.iG (.ts T' _ _ es acc))=>cond (Nat.beq T T') (.ts T .any n ((es.drop o).take n) (fun i=>acc (o+i)),A) (.bz,A)
  | _=>(.bz,A)
 | v=>(v,A)
def QS (A:ai):List KV->List KV×ai
 | []=>([],A)
 | v::vs=>((UQ A v).1::(QS (UQ A v).2 vs).1,(QS (UQ A v).2 vs).2)
def X6 (A:ai) (v:KV):KV×ai:=
 match v with
 | .agg cs=>(.agg (QS A cs).1,(QS A cs).2)
 | v=>UQ A v
def xz (A:ai):List KV->List KV×ai
 | []=>([],A)
 | v::vs=>((X6 A v).1::(xz (X6 A v).2 vs).1,(xz (X6 A v).2 vs).2)
def QT (T b:Nat) (z:KV):FA:=fun A xs=>
 match xs with
 | [.int _ l,.int _ c]=>.iH (decide (0<=l)&&decide (l<=c)&&Nat.ble (b * c.toNat) 281474976710656) (.al T A.next 0 l.toNat,A.new (.arr (.ts T .any c.toNat (cN [z] c.toNat) (fun _=>z))))
 | _=>.no
def Zw (T b:Nat) (z:KV):FP:=fun xs=>
 match xs with
 | [.int _ l,.int _ c]=>.iH (decide (0<=l)&&decide (l<=c)&&Nat.ble (b * c.toNat) 281474976710656) (.ts T .any l.toNat (cN [z] l.toNat) (fun _=>z))
 | _=>.no
def r7 (P:Program) (mt:TypeId->Bool) (t:TypeId) (l c:Operand):oW:=
 match P.underlying t with
 | some (.slice e)=>
  match P.info? e with
  | some i=>match i.zero with
   | some z=>cond (mt (e+1000000)) (cond (Nat.ble 1 i.size&&Nat.ble 1 i.bytes&&Nat.beq z.cells.size i.size&&flat z&&z.cells.toList.all scalar&&Nat.beq (aH P e).ks.length i.size&&ca (aH P e) (dv (aH P e) (fw z))) (.look (Zw e i.bytes (dv (aH P e) (fw z))) [l,c]) .bad) <| cond (mt e) (cond (Nat.ble 1 i.size&&Nat.ble 1 i.bytes&&Nat.beq z.cells.size i.size&&flat z&&z.cells.toList.all scalar&&Nat.beq (aH P e).ks.length i.size&&ca (aH P e) (dv (aH P e) (fw z))) (.act (QT e i.bytes (dv (aH P e) (fw z))) [l,c]) .bad) <| cond (Nat.ble 1 i.size&&Nat.ble 1 i.bytes&&Nat.beq z.cells.size i.size&&flat z&&z.cells.toList.all scalar&&ji (fw z).cells) (.act (IA i.size i.bytes (fw z).cells) [l,c]) .bad
   | none=>.bad
  | none=>.bad
 | _=>.bad
def wo (es:List KV) (o:Nat) (new:List KV):List KV:=es.take o++new++es.drop (o+new.length)
def Ka (o k:Nat) (f g:Nat->KV):Nat->KV:=fun i=>cond (Nat.blt i o) (f i) (cond (Nat.blt i (o+k)) (g (i - o)) (f i))
def adT (e:Nat):FA:=fun A xs=>
 match xs with
 | [.al e1 b o n,y]=>match Iz A y,A.get b with
  | some (.ts e' _ m new an),some (.arr (.ts e2 _ N es acc))=>cond (Nat.beq e e'&&Nat.beq e e1&&Nat.beq e e2)
    (.ok (.int .i64 (Nat.min m n:Nat),A.put b (.arr (.ts e .any N (wo es o (new.take (Nat.min m n))) (Ka o (Nat.min m n) acc an))))) .no
  | _,_=>.no
 | _=>.no
def Kb (P:Program) (argTypes:List TypeId) (args:List Operand):oW:=
 match argTypes with
 | [t,u]=>
  match P.underlying t,P.underlying u with
  | some (.slice e),some (.slice _)=>match size? P e with
   | some n=>cond (Nat.ble 1 n&&Nat.beq (aH P e).ks.length n) (.act (adT e) args) .bad
   | none=>.bad
  | _,_=>.bad
 | _=>.bad
def wq (P:Program) (mt:TypeId->Bool) (b:Builtin) (argTypes:List TypeId) (args:List Operand):oW:=
 match b with
 | .len=>UO P argTypes args
 | .min=>.pure (EO false) args
 | .max=>.pure (EO true) args
 | .append=>C2 P mt argTypes args
 | .copy=>Kb P argTypes args
 | _=>.bad
inductive pZ where
 | no
 | out (e:aa) (t:bJ) (A:ai)
 | br (c:Bool) (x y:pZ)
 | once
inductive rj where
 | no
 | out (v:KV) (A:ai)
 | br (c:Bool) (x y:rj)
structure aiU where
 ac:FuncId->Option (List KV->ai->rj)
 mt:TypeId->Bool
 fz:Bool
 eg:Bool
structure fV where
 pc:FuncId->Option (List KV->KR KV)
 lp:FuncId->Nat->Option (bJ->ai->pZ)
 x:aiU
def gW (P:Program) (f:KV->KV) (t:TypeId) (e:KV):KV:=HH (aH P t).agg ((leaves e (aH P t).ks 0).map f)
def bU (P:Program) (d:Nat):KV->KV:=Nat.rec (motive:=fun _=>KV->KV) (fun v=>v) (fun _ ih v=>match v with
 | .ts t _ n _ acc=>.ts t .any n ((List.range n).map fun i=>gW P ih t (acc i)) (fun i=>gW P ih t (acc i))
 | v=>v) d
def df:Nat:=6
def OU (P:Program) (t:TypeId) (v:KV):KV:=cond (ca (aH P t) (dv (aH P t) v)) (gW P (bU P df) t (dv (aH P t) v)) .bz
def normArgs (P:Program):List TypeId->List KV->List KV
 | t::ts,v::vs=>OU P t v::normArgs P ts vs
 | _,_=>[]
def bL (P:Program) (g:FuncId):List TypeId:=match P.funcs.toList[g]? with
 | some fn=>fn.params.toList
 | none=>[]
def fV.abo (cfg:fV) (g:FuncId):Bool:=cfg.x.fz||cfg.x.mt (2000000+g)
def pg (P:Program) (cfg:fV) (c:Call):oW:=
 match c.callee with
 | .value (.func g)=>match cfg.pc g with
  | some F=>cond (cfg.abo g) (.DM g (fun vs=>cond (Nat.beq vs.length (bL P g).length) (F (normArgs P (bL P g) vs)) .no) c.args.toList)
    (.DL g (fun vs=>cond (Nat.beq vs.length (bL P g).length) (F (normArgs P (bL P g) vs)) .no) c.args.toList)
  | none=>.call (.func g) c.args.toList
 | .value f=>.call f c.args.toList
 | .builtin b=>wq P cfg.x.mt b c.argTypes.toList c.args.toList
 | .invoke _ _=>.bad
def tY:Fn->Bool
 | .yield _=>true
 | _=>false
def dq (P:Program) (cfg:fV):Op->oW
 | .move x=>.pure Zs [x]
 | .assign x=>.pure (cond cfg.x.eg Zt Zs) [x]
 | .pick c a b=>.pure adS [c,a,b]
 | .alloc t=>pe P t
 | .box t x=>.act (abl (uL P t)) [x]
 | .build t parts=>qi P t (parts.toList.map (·.1)) (parts.toList.map (·.2))
 | .buildSlice t len parts=>jy P cfg.x.mt t len (parts.toList.map (·.1)) (parts.toList.map (·.2))
 | .load t a=>.read (QO P t) [a]
 | .store t a x=>.act (OS P t) [a,x]
 | .nilCheck x=>.pure UK [x]
 | .binOp op t x y _=>.pure (aiR P op t) [x,y]
 | .unOp op _ x=>.pure (kUn op) [x]
 | .convert src dst x=>mP P src dst x
 | .makeFunc fn first cap=>cond (tY fn) .bad (.pure (F7 fn first.size) (first.toList++cap.toList))
 | .fieldAddr s x f=>j4 P s x f
 | .field t x f=>qk P t x f
 | .indexAddr t x ix=>j5 P t x ix
 | .index t x ix=>ql P t x ix
 | .extract t ix=>.pure (X4 ix) [t]
 | .slice t x lo hi mx=>qm P cfg.x.mt t x lo hi mx
 | .makeSlice t l c=>r7 P cfg.x.mt t l c
 | .call c=>pg P cfg c
 | _=>.bad
def nR (t:bJ):Operand->KV
 | .tmp i=>(t.get i).getD .bz
 | .const v=>cond (flat v) (fw v) .bz
 | .global _=>.bz
 | .func f=>.fn (.func f) [] []
def rH (t:bJ):List Operand->List KV
 | []=>[]
 | x::xs=>nR t x::rH t xs
def xA (t:bJ) (dst:Option Tmp) (v:KV):bJ:=
 match dst with
 | some d=>t.set v d
 | none=>t
def IB (args:List KV):KV->Option (FuncId×List KV)
 | .fn (.func g) first cap=>some (g,first++args++cap)
 | _=>none
inductive BK where
 | bool (b:Bool)
 | ng
 | no
def rl:KV->BK
 | .bool b=>.bool b
 | .ng _=>.ng
 | _=>.no
section
variable {R:Type}
abbrev rm (R:Type):=FuncId->List KV->ai->(KV->ai->Option R)->Option R
def X7 (cU:rm R) (t:bJ) (A:ai) (k:KV->ai->Option R) (ins:oW):Option R:=
 oW.rec (motive:=fun _=>Option R)
  (fun f xs=>(f (rH t xs)).run fun v=>k v A)
  (fun f xs=>(f A (rH t xs)).run fun v=>k v A)
  (fun f xs=>(f A (rH t xs)).run fun p=>k p.1 p.2)
  (fun f xs=>(f (rH t xs)).run fun v=>k v A)
  (fun _ f xs=>(f (rH t xs)).run fun v=>k v A)
  (fun _ f xs=>(f (xz A (rH t xs)).1).run fun v=>k v (xz A (rH t xs)).2)
  (fun f args=>Option.rec (motive:=fun _=>Option R) none (fun p=>cU p.1 p.2 A k) (IB (rH t args) (nR t f)))
  none ins
def abp (t:bJ) (d:Option Tmp) (want:Bool) (yes no:bJ->Option R):Option R:=
 Option.rec (motive:=fun _=>Option R) none (fun d=>BK.rec (motive:=fun _=>Option R)
  (fun b=>Bool.rec (motive:=fun _=>Option R)
   (Bool.rec (motive:=fun _=>Option R) (yes (t.set (.bool false) d)) (no (t.set (.bool false) d)) want)
   (Bool.rec (motive:=fun _=>Option R) (no (t.set (.bool true) d)) (yes (t.set (.bool true) d)) want) b)
  (no t) none (rl ((t.get d).getD .bz))) d
def QU (P:Program) (cfg:fV) (cU:rm R) (all:List Oper) (o:Oper) (k:bJ->ai->Option R) (t:bJ) (A:ai):Option R:=
 Option.rec (motive:=fun _=>Option R) (X7 cU t A (fun v A=>k (xA t o.dst v) A) (dq P cfg o.op))
  (fun g=>abp t ((all[g.1]?).bind (·.dst)) g.2 (fun t=>X7 cU t A (fun v A=>k (xA t o.dst v) A) (dq P cfg o.op)) (fun t=>k (xA t o.dst uu) A)) o.guard
def Sd (P:Program) (cfg:fV) (cU:rm R) (all:List Oper) (k:bJ->ai->Option R) (os:List Oper):bJ->ai->Option R:=
 List.rec (motive:=fun _=>bJ->ai->Option R) k (fun o _ ih=>QU P cfg cU all o ih) os
abbrev KE (R:Type):=aa->bJ->ai->Option R
def Zx (t:bJ) (c:Operand) (f g:bJ->Option R):Option R:=
 match c with
 | .tmp d=>BK.rec (motive:=fun _=>Option R) (fun b=>Bool.rec (motive:=fun _=>Option R) (g (t.set (.bool false) d)) (f (t.set (.bool true) d)) b) none none (rl ((t.get d).getD .bz))
 | c=>BK.rec (motive:=fun _=>Option R) (fun b=>Bool.rec (motive:=fun _=>Option R) (g t) (f t) b) none none (rl (nR t c))
def je (i:oW):Nat:=oW.rec (motive:=fun _=>Nat) (fun _ _=>0) (fun _ _=>1) (fun _ _=>3) (fun _ _=>0) (fun _ _ _=>0) (fun _ _ _=>3) (fun _ _=>9) 9 i
def afz:oW->List Operand
 | .pure _ xs=>xs
 | .read _ xs=>xs
 | .act _ xs=>xs
 | .look _ xs=>xs
 | .DL _ _ xs=>xs
 | .DM _ _ xs=>xs
 | .call f xs=>f::xs
 | .bad=>[]
def Kc (P:Program) (cfg:fV) (all:List Oper) (o:Oper):List Tmp:=vw all o++p9 (afz (dq P cfg o.op))
def C3 (P:Program) (cfg:fV) (all:List Oper) (x y:Oper):Bool:=N7 x.dst (Kc P cfg all y)||N7 y.dst (Kc P cfg all x)||yZ x.dst y.dst
def DP (P:Program) (cfg:fV) (all:List Oper) (x y:Oper):Bool:=
 C3 P cfg all x y||(Nat.ble 3 (je (dq P cfg x.op))&&!(Nat.beq (je (dq P cfg y.op)) 0))||(Nat.ble 3 (je (dq P cfg y.op))&&!(Nat.beq (je (dq P cfg x.op)) 0))
def Kd:Op->Bool
 | .alloc _=>true
 | .box _ _=>true
 | .call c=>match c.callee with
  | .builtin .append=>true
  | _=>false
 | _=>false
def OV:Op->Option Operand
 | .store _ a _=>some a
 | _=>none
def afA:Op->Option Operand
 | .load _ a=>some a
 | _=>none
def wu (i:Nat) (x:Operand):List Oper->Nat->Bool
 | [],_=>true
 | o::os,j=>(Nat.blt j i||!(N7 o.dst (p9 [x])))&&wu i x os (Nat.succ j)
def F8 (i:Nat) (x:Option Operand) (all:List Oper):Bool:=
 match x with
 | some x=>wu i x all 0
 | none=>true
def F9 (x y:Oper):Option (Option Operand×Operand):=
 match afA y.op with
 | some a=>cond (Kd x.op) (some (none,a)) (match OV x.op with
  | some a2=>some (some a2,a)
  | none=>none)
 | none=>none
def Se (all:List Oper) (j:Nat) (x:Oper) (i:Nat) (y:Oper):Option (Option Operand×Operand):=
 match F9 x y with
 | some p=>cond (wu i p.2 all 0&&F8 j p.1 all) (some p) none
 | none=>match F9 y x with
  | some p=>cond (wu j p.2 all 0&&F8 i p.1 all) (some p) none
  | none=>none
def ER (t:bJ) (nx:Nat) (p:Option Operand×Operand):Bool:=
 match nR t p.2 with
 | .tp _ _ _ _ _ _=>true
 | .ptr b _=>Nat.blt b nx&&(match p.1 with
  | some a2=>(match nR t a2 with
   | .ptr b2 _=>!(Nat.beq b b2)
   | .ap _ _ _ _ _=>true
   | _=>false)
  | none=>true)
 | _=>false
def MH (t:bJ) (nx:Nat) (l:List (Option Operand×Operand)):Bool:=List.rec (motive:=fun _=>Bool) true (fun p _ ih=>Bool.rec false ih (ER t nx p)) l
def zh (P:Program) (cfg:fV) (all:List Oper) (b:List Nat) (i:Nat) (y:Oper):List Oper->Nat->List (Option Operand×Operand)
 | [],_=>[]
 | x::xs,j=>cond (Nat.ble i j||!DP P cfg all x y||eT b i j) (zh P cfg all b i y xs (Nat.succ j)) (match Se all j x i y with
  | some p=>p::zh P cfg all b i y xs (Nat.succ j)
  | none=>zh P cfg all b i y xs (Nat.succ j))
def QV (P:Program) (cfg:fV) (all:List Oper) (b:List Nat):List Oper->Nat->List (Option Operand×Operand)
 | [],_=>[]
 | o::os,i=>zh P cfg all b i o all 0++QV P cfg all b os (Nat.succ i)
def MI (P:Program) (cfg:fV) (all:List Oper):Bool:=all.all fun o=>!(Nat.ble 3 (je (dq P cfg o.op)))||Kd o.op||(OV o.op).isSome
def DQ (P:Program) (cfg:fV) (all:List Oper):List (Option Operand×Operand):=QV P cfg all (aC [] all) all 0
def Ke (P:Program) (cfg:fV) (all:List Oper) (b:List Nat) (i:Nat) (y:Oper):List Oper->Nat->Bool
 | [],_=>true
 | x::xs,j=>(Nat.ble i j||!DP P cfg all x y||eT b i j||(!C3 P cfg all x y&&(Se all j x i y).isSome))&&Ke P cfg all b i y xs (Nat.succ j)
def ET (P:Program) (cfg:fV) (all:List Oper) (b:List Nat):List Oper->Nat->Bool
 | [],_=>true
 | o::os,i=>Ke P cfg all b i o all 0&&ET P cfg all b os (Nat.succ i)
def abq (P:Program) (cfg:fV) (all:List Oper):Bool:=sJ P all&&all.all (fun o=>Nat.ble (je (dq P cfg o.op)) 3)&&ET P cfg all (aC [] all) all 0&&((DQ P cfg all).isEmpty||MI P cfg all)
def UR (P:Program) (cfg:fV) (cU:rm R) (ops:List Oper) (draw:Bool) (k:bJ->ai->Option R):bJ->ai->Option R:=
 Bool.rec (motive:=fun _=>bJ->ai->Option R) (Sd P cfg cU ops k ops) (Bool.rec (motive:=fun _=>bJ->ai->Option R)
  (fun _ _=>none)
  (fun t A=>Sd P cfg cU ops (fun t' A'=>Bool.rec (motive:=fun _=>Option R) none (k t' A') (MH t' A.next (DQ P cfg ops))) ops t A) (abq P cfg ops)) draw
def MJ (k:KE R) (f:bJ->ai->Option R):KE R:=fun e t A=>aa.rec (motive:=fun _=>Option R) (f t A) (fun i=>k (.exit i) t A) (fun l=>k (.goto l) t A) (k .ret t A) e
def afB (id:Nat) (k:KE R):KE R:=fun e t A=>aa.rec (motive:=fun _=>Option R) (k .normal t A) (fun i=>Bool.rec (motive:=fun _=>Option R) (k (.exit i) t A) (k .normal t A) (Nat.beq i id)) (fun l=>k (.goto l) t A) (k .ret t A) e
def UT (k:KE R):KE R:=fun e t A=>aa.rec (motive:=fun _=>Option R) (k .normal t A) (fun i=>k (.exit i) t A) (fun _=>none) (k .ret t A) e
def QW (g:KE R->bJ->ai->Option R) (k:KE R) (L:Nat):bJ->ai->Option R:=
 Nat.rec (motive:=fun _=>bJ->ai->Option R) (fun _ _=>none) (fun _ ih=>g (MJ k ih)) L
def rj.run (k:KV->ai->Option R) (x:rj):Option R:=rj.rec (motive:=fun _=>Option R) none (fun v A=>k v A) (fun c _ _ rx ry=>Bool.rec (motive:=fun _=>Option R) ry rx c) x
def pZ.run (k:KE R) (x:pZ):Option R:=pZ.rec (motive:=fun _=>Option R) none (fun e t A=>k e t A) (fun c _ _ rx ry=>Bool.rec (motive:=fun _=>Option R) ry rx c) none x
def MK (F:bJ->ai->pZ) (k:KE R) (t:bJ) (A:ai):Option R:=(F t A).run k
def IC:Nat:=999983
def C4:Code->Option Nat
 | .seq (.label l) _=>some l
 | .seq _ b=>C4 b
 | _=>none
def QX (k:KE R):KE R:=fun e t A=>aa.rec (motive:=fun _=>Option R) none (fun i=>Bool.rec (motive:=fun _=>Option R) (k (.exit i) t A) (k .normal t A) (Nat.beq i IC)) (fun _=>none) (k .ret t A) e
def Zy (ol:Option Nat) (F:bJ->ai->pZ) (k:KE R):KE R:=fun e t A=>aa.rec (motive:=fun _=>Option R) (k .normal t A) (fun i=>k (.exit i) t A)
 (fun l'=>Option.rec (motive:=fun _=>Option R) none (fun l=>Bool.rec (motive:=fun _=>Option R) none (pZ.run (QX k) (F t A)) (Nat.beq l' l)) ol) (k .ret t A) e
def Zz (x:pZ):Bool:=pZ.rec (motive:=fun _=>Bool) false (fun _ _ _=>false) (fun _ _ _ _ _=>false) true x
def QY (g:KE R->bJ->ai->Option R) (F:bJ->ai->pZ) (k:KE R) (L:Nat):bJ->ai->Option R:=
 Nat.rec (motive:=fun _=>bJ->ai->Option R) (fun t A=>MK F k t A) (fun _ ih t A=>Bool.rec (motive:=fun _=>Option R) (MK F k t A) (g (MJ k ih) t A) (Zz (F t A))) L
def gI:Nat:=1000000000000000000000
def lQ (P:Program) (cfg:fV) (cU:rm R) (L:Nat) (f:FuncId) (c:Code):Nat->KE R->bJ->ai->Option R:=
 Code.rec (motive:=fun _=>Nat->KE R->bJ->ai->Option R) (fun _ k t A=>k .normal t A)
  (fun _ ops d _ k=>UR P cfg cU ops.toList d (fun t A=>k .normal t A))
  (fun _ _ a b p k=>a (2 * p) (MJ k fun t A=>b (2 * p+1) k t A))
  (fun c _ _ a b p k t A=>Zx t c (fun t=>a (2 * p) k t A) (fun t=>b (2 * p+1) k t A))
  (fun id _ g p k=>g (2 * p) (afB id k))
  (fun _ g p k=>Option.rec (motive:=fun _=>bJ->ai->Option R) (QW (g (2 * p)) k L) (fun F=>QY (g (2 * p)) F k L) (cfg.lp f p))
  (fun _ _ _ _ _ _ _ _ _ _=>none) (fun id _ k t A=>k (.exit id) t A) (fun c g p k=>Option.rec (motive:=fun _=>bJ->ai->Option R) (g (2 * p) (UT k)) (fun F=>g (2 * p) (Zy (C4 c) F k)) (cfg.lp f p)) (fun _ _ k t A=>k .normal t A) (fun l _ k t A=>k (.goto l) t A) (fun _ k t A=>k .ret t A) (fun _ _ _ _ _=>none) c
def lR:List KV->Nat->bJ->bJ
 | [],_,t=>t
 | v::vs,i,t=>lR vs (Nat.succ i) (t.set v i)
def EU (P:Program) (A:ai) (t:bJ):List ResultVar->Option (List KV)
 | []=>some []
 | .tmp x::rs=>(EU P A t rs).map (nR t (.tmp x)::·)
 | .cell a ty::rs=>match QO P ty A [nR t (.tmp a)] with
  | .ok v=>(EU P A t rs).map (v::·)
  | _=>none
def BH:List KV->KV
 | [v]=>v
 | vs=>.ng vs
def abr (P:Program) (fn:Func) (k:List KV->ai->Option R):KE R:=fun e t A=>
 aa.rec (motive:=fun _=>Option R) (Option.rec (motive:=fun _=>Option R) none (fun vs=>k vs A) (EU P A t fn.results.toList)) (fun _=>none) (fun _=>none) (Option.rec (motive:=fun _=>Option R) none (fun vs=>k vs A) (EU P A t fn.results.toList)) e
def QZ (P:Program) (cfg:fV) (cU:rm R) (L:Nat) (f:FuncId) (args:List KV) (A:ai) (k:List KV->ai->Option R):Option R:=
 match P.funcs.toList[f]? with
 | some fn=>match fn.body with
  | some c=>lQ P cfg cU L f c 1 (abr P fn k) (lR args 0 .leaf) A
  | none=>none
 | none=>none
def AL (P:Program) (cfg:fV) (L:Nat) (n:Nat):rm R:=
 Nat.rec (motive:=fun _=>rm R) (fun _ _ _ _=>none) (fun _ ih f args A k=>
  Bool.rec (motive:=fun _=>Option R) none (Option.rec (motive:=fun _=>Option R) (QZ P cfg ih L f args A fun vs B=>k (BH vs) B) (fun F=>rj.run k (F args A)) (cfg.x.ac f)) (Nat.blt f yB)) n
end
def sQ (P:Program):List TypeId->List KV->List KV
 | t::ts,v::vs=>OU P t v::sQ P ts vs
 | _,_=>[]
def ph (P:Program) (g:FuncId):List TypeId:=match P.funcs.toList[g]? with
 | some fn=>fn.resultTypes.toList
 | none=>[]
def x8 (P:Program) (cfg:fV) (L n:Nat) (f:FuncId) (args:List KV):Option KV:=
 QZ P cfg (AL P cfg L n) L f args .empty fun vs A=>Bool.rec (motive:=fun _=>Option KV) none (some (BH (sQ P (ph P f) (xz A vs).1))) (Nat.beq vs.length (ph P f).length)
end
end Go.K
end
section
namespace Go.K
open Go Go.az
structure abt where
 cs:List Value
 aQ:Nat
 own:Bool
 aZ:Option (Nat×Nat)
structure Env where
 κ:Nat->Option Nat
 z:Nat->Option abt
 φ:Nat->Option Nat
 α:Nat->Option (Nat×Nat×Nat)
structure Env.le (E E' : Env):Prop where
 α:∀ b p,E.α b=some p->E'.α b=some p
 κ:∀ b x,E.κ b=some x->E'.κ b=some x
 z:∀ b r,E.z b=some r->E'.z b=some r
 φ:∀ b g,E.φ b=some g->E'.φ b=some g
theorem Env.le_refl (E:Env):E.le E:=⟨fun _ _ h=>h,fun _ _ h=>h,fun _ _ h=>h,fun _ _ h=>h⟩
theorem Env.le_trans {E F G:Env} (h:E.le F) (k:F.le G):E.le G:=⟨fun b p e=>k.α b p (h.α b p e),fun b x e=>k.κ b x (h.κ b x e),fun b x e=>k.z b x (h.z b x e),fun b x e=>k.φ b x (h.φ b x e)⟩
def mK (sz off:Nat) (cs es:List Value):Prop:=∀ (i:Nat) (x:Value),es[i]? = some x->x.cells.size=sz/\∀ (k:Nat) (y:Value),x.cells[k]? = some y->cs[off+i * sz+k]? = some y
def OW (E:Env) (sz:Nat) (a:Option Addr) (n:Nat) (es:List Value):Prop:=
 (a=none/\n=0)\/∃ b off r,a=some ⟨b,off,none⟩/\E.z b=some r/\r.aQ=sz/\mK sz off r.cs es
def Kf (E:Env) (sz:Nat) (a:Option Addr) (n cap:Nat):Mk->Prop
 | .any=>True
 | .exact=>cap=n/\∀ b off,a=some ⟨b,off,none⟩->∃ r,E.z b=some r/\r.own=true/\r.aZ=none/\off+cap * sz=r.cs.length
 | .aF f=>cap=n/\((n=0/\a=none)\/∃ b r g,a=some ⟨b,0,none⟩/\E.z b=some r/\r.own=true/\E.φ f=some g/\r.aZ=some (g,0)/\r.cs.length=n * sz)
structure fP (P:Program) (T:TypeId) (n:Nat) (es:List KV) (acc:Nat->KV):Prop where
 len:n=es.length
 acc:∀ i,i < n->acc i=es.getD i .bz
 typed:dp (aH P T) es=true
def aI (P:Program) (T:TypeId):Nat:=(aH P T).ks.length
def abu (P:Program) (E:Env) (T:TypeId) (m:Mk) (n:Nat) (aP:List Value) (v:Value):Prop:=
 ∃ a cap,v = .slice a n cap/\n<=cap/\OW E (aI P T) a n aP/\Kf E (aI P T) a n cap m
structure TF (P:Program) (T Tc:TypeId) (k:Nat):Prop where
 is:∀ m c,(aH P Tc).ks[m]? = some c->(aH P T).ks[k+m]? = some c
def abv (P:Program) (E:Env) (T Tc:TypeId) (i k:Nat) (es:List KV) (aP:List Value) (v:Value):Prop:=
 i < es.length/\TF P T Tc k/\∃ b off r,v = .pointer (some ⟨b,off+i * aI P T+k,none⟩)/\E.z b=some r/\mK (aI P T) off r.cs aP
def Sf (P:Program) (E:Env) (T:TypeId) (b o n:Nat) (v:Value):Prop:=
 (n=0/\o=0/\v = .slice none 0 0)\/∃ x L N c,E.α b=some (x,L,N)/\v = .slice (some ⟨x,o * aI P T,none⟩) n c/\n<=c/\o+n<=N/\(o+c) * aI P T=L
def X8 (P:Program) (E:Env) (T Tc:TypeId) (b i k:Nat) (v:Value):Prop:=
 ∃ x L N,E.α b=some (x,L,N)/\TF P T Tc k/\i < N/\v = .pointer (some ⟨x,i * aI P T+k,none⟩)
mutual
def VK (P:Program) (E:Env):KV->Value->Prop
 | .int k n,v=>v = .int k n
 | .bool b,v=>v = .bool b
 | .str s,v=>v = .string s
 | .agg cs,v=>∃ l,v = .agg ⟨l⟩/\aK P E cs l
 | .ng cs,v=>∃ l,v = .tuple ⟨l⟩/\aK P E cs l
 | .ts T m n es acc,v=>fP P T n es acc/\∃ aP,aK P E es aP/\abu P E T m n aP v
 | .tp T Tc i k es acc,v=>fP P T es.length es acc/\∃ aP,aK P E es aP/\abv P E T Tc i k es aP v
 | .al T b o n,v=>Sf P E T b o n v
 | .ap T Tc b i k,v=>X8 P E T Tc b i k v
 | .ptr b off,v=>∃ x,E.κ b=some x/\v = .pointer (some ⟨x,off,none⟩)
 | .sl b off n c,v=>∃ x,E.κ b=some x/\v = .slice (some ⟨x,off,none⟩) n c
 | .Al,v=>v = .pointer none
 | .jd,v=>v = .slice none 0 0
 | .wk,v=>v = .map none
 | .map b,v=>∃ x,E.κ b=some x/\v = .map (some x)
 | .fn f first cap,v=>∃ l m,v = .func f ⟨l⟩ ⟨m⟩/\aK P E first l/\aK P E cap m
 | .BF,v=>v = .nilFunc
 | .iface t x,v=>∃ y,v = .iface t y/\VK P E x y
 | .BG,v=>v = .nilIface
 | .bz,_=>True
def aK (P:Program) (E:Env):List KV->List Value->Prop
 | [],l=>l = []
 | x::xs,l=>∃ y ys,l=y::ys/\VK P E x y/\aK P E xs ys
end
variable {P:Program} {E E' : Env}
theorem Kf.mono (h:E.le E') {sz:Nat} {a:Option Addr} {n cap:Nat} {m:Mk} (k:Kf E sz a n cap m):Kf E' sz a n cap m:=by
 cases m with
 | any=>trivial
 | exact=>exact ⟨k.1,fun b off e=>by obtain ⟨r,h1,h2⟩:=k.2 b off e; exact ⟨r,h.z _ _ h1,h2⟩⟩
 | aF f=>
  refine ⟨k.1,k.2.imp id ?_⟩;rintro ⟨b,r,g,h1,h2,h3,h4,h5⟩;exact ⟨b,r,g,h1,h.z _ _ h2,h3,h.φ _ _ h4,h5⟩
theorem OW.mono (h:E.le E') {sz:Nat} {a:Option Addr} {n:Nat} {es:List Value} (k:OW E sz a n es):OW E' sz a n es:=by
 refine k.imp id ?_;rintro ⟨b,off,r,h1,h2,h3⟩;exact ⟨b,off,r,h1,h.z _ _ h2,h3⟩
theorem abu.mono (h:E.le E') {T:TypeId} {m:Mk} {n:Nat} {es:List Value} {v:Value} (k:abu P E T m n es v):abu P E' T m n es v:=by
 obtain ⟨a,cap,h1,h2,h3,h4⟩:=k;exact ⟨a,cap,h1,h2,h3.mono h,h4.mono h⟩
theorem abv.mono (h:E.le E') {T Tc:TypeId} {i k:Nat} {es:List KV} {aP:List Value} {v:Value} (q:abv P E T Tc i k es aP v):abv P E' T Tc i k es aP v:=by
 obtain ⟨h1,h2,b,off,r,h3,h4,h5⟩:=q;exact ⟨h1,h2,b,off,r,h3,h.z _ _ h4,h5⟩
theorem Sf.mono (h:E.le E') {T:TypeId} {b o n:Nat} {v:Value} (q:Sf P E T b o n v):Sf P E' T b o n v:=by
 refine q.imp id ?_;rintro ⟨x,L,N,c,h1,h2⟩;exact ⟨x,L,N,c,h.α _ _ h1,h2⟩
theorem X8.mono (h:E.le E') {T Tc:TypeId} {b i k:Nat} {v:Value} (q:X8 P E T Tc b i k v):X8 P E' T Tc b i k v:=by
 obtain ⟨x,L,N,h1,h2⟩:=q;exact ⟨x,L,N,h.α _ _ h1,h2⟩
mutual
theorem VK.mono (h:E.le E'):∀ {v:KV} {v' : Value},VK P E v v'->VK P E' v v'
 | .int k n,v,q=>q
 | .bool b,v,q=>q
 | .str s,v,q=>q
 | .agg cs,v,q=>by
  simp only [VK] at q ⊢;obtain ⟨l,e,q⟩:=q;exact ⟨l,e,aK.mono h q⟩
 | .ng cs,v,q=>by
  simp only [VK] at q ⊢;obtain ⟨l,e,q⟩:=q;exact ⟨l,e,aK.mono h q⟩
 | .ts T m n es acc,v,q=>by
  simp only [VK] at q ⊢;obtain ⟨t,l,q,k⟩:=q;exact ⟨t,l,aK.mono h q,k.mono h⟩
 | .tp T Tc i k es acc,v,q=>by
  simp only [VK] at q ⊢;obtain ⟨t,l,q,k⟩:=q;exact ⟨t,l,aK.mono h q,k.mono h⟩
 | .al T b o n,v,q=>by
  simp only [VK] at q ⊢;exact q.mono h
 | .ap T Tc b i k,v,q=>by
  simp only [VK] at q ⊢;exact q.mono h
 | .ptr b off,v,q=>by
  simp only [VK] at q ⊢;obtain ⟨x,e,q⟩:=q;exact ⟨x,h.κ _ _ e,q⟩
 | .sl b off n c,v,q=>by
  simp only [VK] at q ⊢;obtain ⟨x,e,q⟩:=q;exact ⟨x,h.κ _ _ e,q⟩
 | .Al,v,q=>q
 | .jd,v,q=>q
 | .wk,v,q=>q
 | .map b,v,q=>by
  simp only [VK] at q ⊢;obtain ⟨x,e,q⟩:=q;exact ⟨x,h.κ _ _ e,q⟩
 | .fn f first cap,v,q=>by
  simp only [VK] at q ⊢;obtain ⟨l,m,e,q1,q2⟩:=q;exact ⟨l,m,e,aK.mono h q1,aK.mono h q2⟩
 | .BF,v,q=>q
 | .iface t x,v,q=>by
  simp only [VK] at q ⊢;obtain ⟨y,e,q⟩:=q;exact ⟨y,e,VK.mono h q⟩
 | .BG,v,q=>q
 | .bz,v,q=>q
theorem aK.mono (h:E.le E'):∀ {v:List KV} {v' : List Value},aK P E v v'->aK P E' v v'
 | [],_,q=>q
 | x::xs,_,q=>by
  simp only [aK] at q ⊢;obtain ⟨y,ys,e,q1,q2⟩:=q;exact ⟨y,ys,e,VK.mono h q1,aK.mono h q2⟩
end
theorem aK.nil:aK P E [] []:=by simp [aK]
theorem aK.cons {x:KV} {y:Value} {xs:List KV} {ys:List Value} (h:VK P E x y) (k:aK P E xs ys):aK P E (x::xs) (y::ys):=by
 simp only [aK]; exact ⟨y,ys,rfl,h,k⟩
theorem aK.bA {l:List Value} (h:aK P E [] l):l = []:=by simpa [aK] using h
theorem aK.cons_inv {x:KV} {xs:List KV} {l:List Value} (h:aK P E (x::xs) l):∃ y ys,l=y::ys/\VK P E x y/\aK P E xs ys:=by simpa [aK] using h
theorem aK.dD {x:KV} {l:List Value} (h:aK P E [x] l):∃ y,l = [y]/\VK P E x y:=by
 obtain ⟨y,ys,rfl,h1,h2⟩:=h.cons_inv;rw [h2.bA]; exact ⟨y,rfl,h1⟩
theorem aK.iZ {x y:KV} {l:List Value} (h:aK P E [x,y] l):∃ x' y',l = [x',y']/\VK P E x x'/\VK P E y y':=by
 obtain ⟨a,ys,rfl,h1,h2⟩:=h.cons_inv;obtain ⟨b,rfl,h3⟩:=h2.dD;exact ⟨a,b,rfl,h1,h3⟩
theorem aK.ML {x y u:KV} {l:List Value} (h:aK P E [x,y,u] l):∃ x' y' u',l = [x',y',u']/\VK P E x x'/\VK P E y y'/\VK P E u u':=by
 obtain ⟨a,ys,rfl,h1,h2⟩:=h.cons_inv;obtain ⟨b,c,rfl,h3,h4⟩:=h2.iZ;exact ⟨a,b,c,rfl,h1,h3,h4⟩
theorem aK.length:∀ {l:List KV} {l' : List Value},aK P E l l'->l'.length=l.length
 | [],l',h=>by rw [h.bA]; rfl
 | x::xs,l',h=>by
  obtain ⟨y,ys,rfl,_,k⟩:=h.cons_inv;simp [aK.length k]
theorem aK.get:∀ {l:List KV} {l' : List Value} {i:Nat} {v:KV},aK P E l l'->l[i]? = some v->∃ v',l'[i]? = some v'/\VK P E v v'
 | [],_,_,_,_,e=>by simp at e
 | x::xs,l',i,v,h,e=>by
  obtain ⟨y,ys,rfl,v7,k⟩:=h.cons_inv;cases i with
  | zero=>simp at e; subst e; exact ⟨y,rfl,v7⟩
  | succ i=>simp at e; simpa using aK.get k e
theorem aK.append:∀ {a:List KV} {a' : List Value} {b:List KV} {b' : List Value},aK P E a a'->aK P E b b'->aK P E (a++b) (a'++b')
 | [],a',b,b',h,k=>by rw [h.bA]; exact k
 | x::xs,a',b,b',h,k=>by
  obtain ⟨y,ys,rfl,v7,m⟩:=h.cons_inv;exact .cons v7 (aK.append m k)
theorem aK.take:∀ (n:Nat) {l:List KV} {l' : List Value},aK P E l l'->aK P E (l.take n) (l'.take n)
 | 0,_,_,_=>by simp [aK.nil]
 | n+1,[],l',h=>by rw [h.bA]; simp [aK.nil]
 | n+1,x::xs,l',h=>by
  obtain ⟨y,ys,rfl,v7,k⟩:=h.cons_inv;simpa using aK.cons v7 (aK.take n k)
theorem aK.drop:∀ (n:Nat) {l:List KV} {l' : List Value},aK P E l l'->aK P E (l.drop n) (l'.drop n)
 | 0,_,_,h=>by simpa using h
 | n+1,[],l',h=>by rw [h.bA]; simp [aK.nil]
 | n+1,x::xs,l',h=>by
  obtain ⟨y,ys,rfl,_,k⟩:=h.cons_inv;simpa using aK.drop n k
theorem Kg {α:Type} : ∀ {n:Nat} {l r:List α},r6 n l=some r->r=l.take n/\n<=l.length
 | 0,l,r,h=>by simp [r6] at h; subst h; simp
 | n+1,[],r,h=>by simp [r6] at h
 | n+1,x::xs,r,h=>by
  simp only [r6,aU] at h;obtain ⟨q,hq,rfl⟩:=h;obtain ⟨rfl,hn⟩:=Kg hq;exact ⟨by simp,by simpa using hn⟩
theorem EV {α:Type} : ∀ (n:Nat) (l:List α),xY n l=l.drop n
 | 0,l=>rfl
 | n+1,[]=>rfl
 | n+1,x::xs=>by simp [xY,EV n xs]
theorem EW:∀ {n:Nat} {l:List Value},n<=l.length->takeN n l=some (l.take n)
 | 0,l,_=>rfl
 | n+1,[],h=>by simp at h
 | n+1,x::xs,h=>by rw [RR,EW (n:=n) (l:=xs) (by simpa using h)]; rfl
theorem aK.r6 {n k:Nat} {l r:List KV} {l' : List Value} (h:aK P E l l') (e:r6 n (xY k l)=some r):∃ r',takeN n (zA k l')=some r'/\aK P E r r'/\r' = (l'.drop k).take n:=by
 obtain ⟨rfl,hn⟩:=Kg e;rw [EV] at hn ⊢;have hl:=h.length;rw [nV];refine ⟨_,EW ?_,(h.drop k).take n,rfl⟩;simp only [List.length_drop] at hn ⊢;omega
theorem aK.jx:∀ {n:Nat} {l:List KV} {l' : List Value} {vs r:List KV} {bw:List Value},jx n l vs=some r->aK P E l l'->aK P E vs bw->∃ r',eY n l' bw=some r'/\aK P E r r'
 | 0,l,l',[],r,bw,h,hl,hv=>by simp [K.jx] at h; subst h; rw [hv.bA]; exact ⟨l',uI l',hl⟩
 | 0,[],l',_::_,r,bw,h,hl,hv=>by simp [K.jx] at h
 | 0,x::l,l',v::vs,r,bw,h,hl,hv=>by
  obtain ⟨y,ys,rfl,_,k⟩:=hl.cons_inv;obtain ⟨u,us,rfl,h1,h2⟩:=hv.cons_inv;simp only [K.jx,aU] at h;obtain ⟨q,hq,rfl⟩:=h;obtain ⟨r',e,hr⟩:=aK.jx hq k h2;exact ⟨u::r',by simp [uJ,e],.cons h1 hr⟩
 | n+1,[],l',[],r,bw,h,hl,hv=>by simp [K.jx] at h; subst h; rw [hl.bA,hv.bA]; exact ⟨[],rfl,.nil⟩
 | n+1,[],l',_::_,r,bw,h,hl,hv=>by simp [K.jx] at h
 | n+1,x::l,l',vs,r,bw,h,hl,hv=>by
  obtain ⟨y,ys,rfl,h1,k⟩:=hl.cons_inv;simp only [K.jx,aU] at h;obtain ⟨q,hq,rfl⟩:=h;obtain ⟨r',e,hr⟩:=aK.jx hq k hv;exact ⟨y::r',by simp [np,e],.cons h1 hr⟩
theorem aK.Oa:∀ {l:List KV} {l' : List Value},l'.length=l.length->(∀ (i:Nat) (v:KV) (v' : Value),l[i]? = some v->l'[i]? = some v'->VK P E v v')->aK P E l l'
 | [],l',h,_=>by cases l' <;> simp_all [aK.nil]
 | x::xs,l',h,k=>by
  cases l' with
  | nil=>simp at h
  | cons y ys=>exact .cons (k 0 x y rfl rfl) (aK.Oa (by simpa using h) fun i v v' e e'=>k (i+1) v v' (by simpa using e) (by simpa using e'))
theorem VK.bQ {k:IntKind} {n:Int} {v:Value} (h:VK P E (.int k n) v):v = .int k n:=by simpa [VK] using h
theorem VK.dr {b:Bool} {v:Value} (h:VK P E (.bool b) v):v = .bool b:=by simpa [VK] using h
theorem VK.pj {s:ByteArray} {v:Value} (h:VK P E (.str s) v):v = .string s:=by simpa [VK] using h
theorem VK.jr {cs:List KV} {v:Value} (h:VK P E (.agg cs) v):∃ l,v = .agg ⟨l⟩/\aK P E cs l:=by simpa [VK] using h
theorem VK.ID {cs:List KV} {v:Value} (h:VK P E (.ng cs) v):∃ l,v = .tuple ⟨l⟩/\aK P E cs l:=by simpa [VK] using h
theorem VK.fX {b off:Nat} {v:Value} (h:VK P E (.ptr b off) v):∃ x,E.κ b=some x/\v = .pointer (some ⟨x,off,none⟩):=by simpa [VK] using h
theorem VK.Kh {b off n c:Nat} {v:Value} (h:VK P E (.sl b off n c) v):∃ x,E.κ b=some x/\v = .slice (some ⟨x,off,none⟩) n c:=by simpa [VK] using h
theorem VK.Ga {f:Fn} {a b:List KV} {v:Value} (h:VK P E (.fn f a b) v):∃ l m,v = .func f ⟨l⟩ ⟨m⟩/\aK P E a l/\aK P E b m:=by simpa [VK] using h
theorem VK.jz {T:TypeId} {m:Mk} {n:Nat} {es:List KV} {acc:Nat->KV} {v:Value} (h:VK P E (.ts T m n es acc) v):fP P T n es acc/\∃ aP,aK P E es aP/\abu P E T m n aP v:=by simpa [VK] using h
theorem VK.Gb {T Tc:TypeId} {i k:Nat} {es:List KV} {acc:Nat->KV} {v:Value} (h:VK P E (.tp T Tc i k es acc) v):fP P T es.length es acc/\∃ aP,aK P E es aP/\abv P E T Tc i k es aP v:=by simpa [VK] using h
theorem VK.rI {T:TypeId} {b o n:Nat} {v:Value} (h:VK P E (.al T b o n) v):Sf P E T b o n v:=by simpa [VK] using h
theorem VK.C5 {T Tc:TypeId} {b i k:Nat} {v:Value} (h:VK P E (.ap T Tc b i k) v):X8 P E T Tc b i k v:=by simpa [VK] using h
theorem VK.IE {T:TypeId} {b o n:Nat} {v:Value} (h:Sf P E T b o n v):VK P E (.al T b o n) v:=by simpa [VK] using h
theorem VK.aiV {T Tc:TypeId} {b i k:Nat} {v:Value} (h:X8 P E T Tc b i k v):VK P E (.ap T Tc b i k) v:=by simpa [VK] using h
theorem Sf.slice {T:TypeId} {b o n:Nat} {v:Value} (h:Sf P E T b o n v):∃ a c,v = .slice a n c:=by
 rcases h with ⟨rfl,_,rfl⟩ | ⟨x,L,N,c,_,rfl,_⟩
 ·exact ⟨_,_,rfl⟩
 ·exact ⟨_,_,rfl⟩
theorem VK.mw {v:Value} (h:VK P E .jd v):v = .slice none 0 0:=by simpa [VK] using h
theorem VK.Ki {v:Value} (h:VK P E .Al v):v = .pointer none:=by simpa [VK] using h
theorem VK.mkInt {k:IntKind} {n:Int} : VK P E (.int k n) (.int k n):=by simp [VK]
theorem VK.nH {b:Bool} : VK P E (.bool b) (.bool b):=by simp [VK]
theorem VK.mkStr {s:ByteArray} : VK P E (.str s) (.string s):=by simp [VK]
theorem VK.ns {cs:List KV} {l:List Value} (h:aK P E cs l):VK P E (.agg cs) (.agg ⟨l⟩):=by simp only [VK]; exact ⟨l,rfl,h⟩
theorem VK.Q0 {cs:List KV} {l:List Value} (h:aK P E cs l):VK P E (.ng cs) (.tuple ⟨l⟩):=by simp only [VK]; exact ⟨l,rfl,h⟩
theorem VK.v8 {b x off:Nat} (h:E.κ b=some x):VK P E (.ptr b off) (.pointer (some ⟨x,off,none⟩)):=by simp only [VK]; exact ⟨x,h,rfl⟩
theorem VK.afC {b x off n c:Nat} (h:E.κ b=some x):VK P E (.sl b off n c) (.slice (some ⟨x,off,none⟩) n c):=by simp only [VK]; exact ⟨x,h,rfl⟩
theorem VK.abw {f:Fn} {a b:List KV} {l m:List Value} (h:aK P E a l) (k:aK P E b m):VK P E (.fn f a b) (.func f ⟨l⟩ ⟨m⟩):=by simp only [VK]; exact ⟨l,m,rfl,h,k⟩
theorem VK.undef:VK P E uu undef:=VK.Q0 .nil
theorem VK.qo {v:Value} : VK P E .bz v:=by simp [VK]
theorem VK.cells {v:KV} {v' : Value} (h:VK P E v v') (hu:rG v=true):aK P E v.cells v'.cells.toList:=by
 cases v with
 | agg cs=>obtain ⟨l,rfl,q⟩:=h.jr; exact q
 | int k n=>have:=h.bQ; subst this; exact .cons h .nil
 | bool b=>have:=h.dr; subst this; exact .cons h .nil
 | str b=>have:=h.pj; subst this; exact .cons h .nil
 | ng cs=>have q:=h; obtain ⟨l,rfl,_⟩:=h.ID; exact .cons q .nil
 | ts T m n es acc=>have q:=h; obtain ⟨_,_,_,a,cap,rfl,_⟩:=h.jz; exact .cons q .nil
 | tp T Tc i k es acc=>have q:=h; obtain ⟨_,_,_,_,_,b,off,r,rfl,_⟩:=h.Gb; exact .cons q .nil
 | al T b o n=>have q:=h; obtain ⟨a,c,rfl⟩:=h.rI.slice; exact .cons q .nil
 | ap T Tc b i k=>have q:=h; obtain ⟨x,L,N,_,_,_,rfl⟩:=h.C5; exact .cons q .nil
 | ptr b off=>have q:=h; obtain ⟨x,_,rfl⟩:=h.fX; exact .cons q .nil
 | sl b off n c=>have q:=h; obtain ⟨x,_,rfl⟩:=h.Kh; exact .cons q .nil
 | Al=>have q:=h; simp only [VK] at h; subst h; exact .cons q .nil
 | jd=>have q:=h; simp only [VK] at h; subst h; exact .cons q .nil
 | wk=>have q:=h; simp only [VK] at h; subst h; exact .cons q .nil
 | map b=>have q:=h; simp only [VK] at h; obtain ⟨x,_,rfl⟩:=h; exact .cons q .nil
 | fn f a b=>have q:=h; obtain ⟨l,m,rfl,_⟩:=h.Ga; exact .cons q .nil
 | BF=>have q:=h; simp only [VK] at h; subst h; exact .cons q .nil
 | iface t x=>have q:=h; simp only [VK] at h; obtain ⟨y,rfl,_⟩:=h; exact .cons q .nil
 | BG=>have q:=h; simp only [VK] at h; subst h; exact .cons q .nil
 | bz=>simp [rG] at hu
theorem VK.scalar {v:KV} {v' : Value} (h:VK P E v v') (ho:one v=true):az.scalar v' = true:=by
 cases v with
 | agg cs=>simp [one] at ho
 | ng cs=>simp [one] at ho
 | bz=>simp [one] at ho
 | int k n=>have:=h.bQ; subst this; rfl
 | bool b=>have:=h.dr; subst this; rfl
 | str b=>have:=h.pj; subst this; rfl
 | ts T m n es acc=>obtain ⟨_,_,_,a,cap,rfl,_⟩:=h.jz; rfl
 | tp T Tc i k es acc=>obtain ⟨_,_,_,_,_,b,off,r,rfl,_⟩:=h.Gb; rfl
 | al T b o n=>obtain ⟨a,c,rfl⟩:=h.rI.slice; rfl
 | ap T Tc b i k=>obtain ⟨x,L,N,_,_,_,rfl⟩:=h.C5; rfl
 | ptr b off=>obtain ⟨x,_,rfl⟩:=h.fX; rfl
 | sl b off n c=>obtain ⟨x,_,rfl⟩:=h.Kh; rfl
 | Al=>simp only [VK] at h; subst h; rfl
 | jd=>simp only [VK] at h; subst h; rfl
 | wk=>simp only [VK] at h; subst h; rfl
 | map b=>simp only [VK] at h; obtain ⟨x,_,rfl⟩:=h; rfl
 | fn f a b=>obtain ⟨l,m,rfl,_⟩:=h.Ga; rfl
 | BF=>simp only [VK] at h; subst h; rfl
 | iface t x=>simp only [VK] at h; obtain ⟨y,rfl,_⟩:=h; rfl
 | BG=>simp only [VK] at h; subst h; rfl
theorem aK.scalar:∀ {l:List KV} {l' : List Value},aK P E l l'->ji l=true->∀ v∈l',az.scalar v=true
 | [],l',h,_,v,hv=>by rw [h.bA] at hv; simp at hv
 | x::xs,l',h,ho,v,hv=>by
  obtain ⟨y,ys,rfl,h1,h2⟩:=h.cons_inv;simp only [ji,aj] at ho;rcases bd.1 hv with rfl | hv
  ·exact h1.scalar ho.1
  ·exact aK.scalar h2 ho.2 v hv
theorem yL {v:KV} (h:ji v.cells=true):rG v=true:=by
 cases v <;> first | rfl | simp [KV.cells,ji,one] at h
mutual
theorem VK.fw:∀ (v:Value),VK P E (fw v) v
 | .bool b=>by simp [K.fw,VK]
 | .int k n=>by simp [K.fw,VK]
 | .string s=>by simp [K.fw,VK]
 | .pointer none=>by simp [K.fw,VK]
 | .pointer (some a)=>by simp [K.fw,VK]
 | .slice none 0 0=>by simp [K.fw,VK]
 | .slice none 0 (n+1)=>by simp [K.fw,VK]
 | .slice none (n+1) c=>by simp [K.fw,VK]
 | .slice (some a) n c=>by simp [K.fw,VK]
 | .map none=>by simp [K.fw,VK]
 | .map (some r)=>by simp [K.fw,VK]
 | .nilFunc=>by simp [K.fw,VK]
 | .nilIface=>by simp [K.fw,VK]
 | .agg cs=>by
  obtain ⟨l⟩:=cs;simp only [K.fw,ofA];exact .ns (aK.ofL l)
 | .tuple cs=>by
  obtain ⟨l⟩:=cs;simp only [K.fw,ofA];exact .Q0 (aK.ofL l)
 | .float _ _=>by simp [K.fw,VK]
 | .complex _ _ _=>by simp [K.fw,VK]
 | .chan _=>by simp [K.fw,VK]
 | .func _ _ _=>by simp [K.fw,VK]
 | .iface _ _=>by simp [K.fw,VK]
theorem aK.ofL:∀ (l:List Value),aK P E (ofL l) l
 | []=>.nil
 | v::vs=>.cons (VK.fw v) (aK.ofL vs)
end
theorem Gc {z:Value} (h:ji (fw z).cells=true):aK P E (fw z).cells z.cells.toList:=(VK.fw z).cells (yL h)
def C6 (E:Env) (A:ai):Prop:=∀ b c g tb sb tc sc,A.get b=some (.aF tb sb)->A.get c=some (.aF tc sc)->E.φ b=some g->E.φ c=some g->b=c
def AR (A:ai) (E:Env) (x:Nat):Prop:=∃ b v L N,A.get b=some (.arr v)/\E.α b=some (x,L,N)
def AF (A:ai) (E:Env) (B:St) (g:Nat):Prop:=∃ b v x L N cs e own k,A.get b=some (.arr v)/\E.α b=some (x,L,N)/\B.get x=some (.row cs e own (some (g,k)))
def AT (A:ai) (E:Env) (B:St) (y:Nat):Prop:=AR A E y\/∃ g,AF A E B g/\y∈B.members g
def UU (P:Program) (E:Env) (B:St) (b:Nat) (v:KV):Prop:=∃ T N es acc,v = .ts T .any N es acc/\fP P T N es acc/\1<=aI P T/\
 ((N=0/\E.α b=none)\/∃ x cs aZ aP,E.α b=some (x,cs.length,N)/\B.get x=some (.row cs (aI P T) true aZ)/\aK P E es aP/\mK (aI P T) 0 cs aP)
def OX (P:Program) (E:Env) (b:Nat) (v:KV):Prop:=∃ T N es acc,v = .ts T .any N es acc/\fP P T N es acc/\1<=aI P T/\
 ((N=0/\E.α b=none)\/∃ x r aP,E.α b=some (x,r.cs.length,N)/\E.z x=some r/\r.aQ=aI P T/\aK P E es aP/\mK (aI P T) 0 r.cs aP)
theorem UU.mono (h:E.le E') {B B' : St} {b:Nat} {v:KV} (oS:E'.α b=E.α b) (hB:∀ x L N,E.α b=some (x,L,N)->B'.get x=B.get x) (q:UU P E B b v):UU P E' B' b v:=by
 obtain ⟨T,N,es,acc,h1,h2,h3,h4⟩:=q;refine ⟨T,N,es,acc,h1,h2,h3,?_⟩;rcases h4 with ⟨h4,h5⟩ | ⟨x,cs,aZ,aP,h4,h5,h6,h7⟩
 ·exact .inl ⟨h4,by rw [oS]; exact h5⟩
 ·exact .inr ⟨x,cs,aZ,aP,by rw [oS]; exact h4,by rw [hB _ _ _ h4]; exact h5,h6.mono h,h7⟩
theorem OX.mono (h:E.le E') {b:Nat} {v:KV} (oS:E'.α b=E.α b) (q:OX P E b v):OX P E' b v:=by
 obtain ⟨T,N,es,acc,h1,h2,h3,h4⟩:=q;refine ⟨T,N,es,acc,h1,h2,h3,?_⟩;rcases h4 with ⟨h4,h5⟩ | ⟨x,r,aP,h4,h5,h6,h7,h8⟩
 ·exact .inl ⟨h4,by rw [oS]; exact h5⟩
 ·exact .inr ⟨x,r,aP,by rw [oS]; exact h4,h.z _ _ h5,h6,h7.mono h,h8⟩
structure Ge (P:Program) (E:Env) (A:ai) (B:St):Prop where
 arr:∀ b v,A.get b=some (.arr v)->UU P E B b v
 iG:∀ b v,A.get b=some (.iG v)->OX P E b v
 z:∀ x,AR A E x->E.z x=none/\∀ c,E.κ c≠some x
 inj:∀ b c v u x L N L' N',A.get b=some (.arr v)->A.get c=some (.arr u)->E.α b=some (x,L,N)->E.α c=some (x,L',N')->b=c
 rD:∀ b c v u x y L N L' N' cs e own g k bX e' nN k',A.get b=some (.arr v)->A.get c=some (.arr u)->E.α b=some (x,L,N)->E.α c=some (y,L',N')->B.get x=some (.row cs e own (some (g,k)))->B.get y=some (.row bX e' nN (some (g,k')))->b=c
 Xg:∀ b x,E.κ b=some x->E.α b=none
 fT:∀ b p,E.α b=some p->b < A.next
 eB:∀ b x L N,E.α b=some (x,L,N)->x < B.next
 p0:∀ b v x L N cs e own g k,A.get b=some (.arr v)->E.α b=some (x,L,N)->B.get x=some (.row cs e own (some (g,k)))->g < B.next/\(∀ f,E.φ f≠some g)/\∀ y∈B.members g,y≠x->E.z y=none/\¬ AR A E y/\∀ c,E.κ c≠some y
 nk:∀ b v,A.get b=some (.arr v)->b < A.next/\E.κ b=none
structure du (P:Program) (E:Env) (A:ai) (B:St):Prop where
 row:∀ b cs aQ,A.get b=some (.row cs aQ)->∃ x bX,E.κ b=some x/\B.get x=some (.row bX aQ true none)/\aK P E cs bX
 aF:∀ b top sz,A.get b=some (.aF top sz)->(top=0/\E.φ b=none)\/∃ g,E.φ b=some g/\0 < top/\∀ x∈B.members g,∀ cs e own f k,B.get x=some (.row cs e own (some (f,k)))->k=0/\cs.length<=top * sz
 z:∀ b r,E.z b=some r->B.get b=some (.row r.cs r.aQ r.own r.aZ)
 apart:∀ b x,E.κ b=some x->E.z x=none
 inj:∀ b c x,E.κ b=some x->E.κ c=some x->b=c
 iA:C6 E A
 fT:∀ b x,E.κ b=some x->b < A.next
 ll:∀ b g,E.φ b=some g->b < A.next
 live:∀ b o,A.get b=some o->b < A.next
 eB:∀ b x,E.κ b=some x->x < B.next
 lT:∀ b r,E.z b=some r->b < B.next
 iQ:∀ b g,E.φ b=some g->g < B.next
 fresh:∀ g,B.next<=g->B.members g = []
 mem:∀ g x,x∈B.members g->x < B.next
 ar:Ge P E A B
structure Ev (P:Program) (base:Nat) (E:Env) (A:ai) (B:St) (ρ:Ren) (w:World) (E' : Env) (A' : ai) (B' : St) (ak:Ren) (w' : World):Prop where
 dI:du P E' A' B'
 gD:cp base ρ B w ak B' w'
 le:E.le E'
 next:A.next<=A'.next
 dj:∀ x,x < B.next->(∀ b,E.κ b≠some x)->¬ AT A E B x->B'.get x=B.get x
 new:∀ b x,E'.κ b=some x->E.κ b=some x\/B.next<=x
 qN:∀ b r,E'.z b=some r->E.z b=some r\/AR A E b\/B.next<=b
 pk:∀ b g,E'.φ b=some g->(∃ c,E.φ c=some g)\/B.next<=g
 nw:∀ g,g < B.next->(∀ b,E.φ b≠some g)->¬ AF A E B g->B'.members g=B.members g
 jR:∀ x,AR A' E' x->AR A E x\/B.next<=x
 j6:∀ g,AF A' E' B' g->AF A E B g\/B.next<=g
 rJ:∀ g y,y∈B'.members g->y∈B.members g\/B.next<=y
 lU:∀ y,AT A' E' B' y->AT A E B y\/B.next<=y
 rows:∀ y,y < B.next->∀ cs e own aZ,B'.get y=some (.row cs e own aZ)->∃ mI,B.get y=some (.row mI e own aZ)/\mI.length=cs.length
theorem Ev.refl {base:Nat} {A:ai} {B:St} {ρ:Ren} {w:World} (h:du P E A B) (s:iu ρ B base w):Ev P base E A B ρ w E A B ρ w:=
 ⟨h,.refl s,Env.le_refl _,ao _,fun _ _ _ _=>rfl,fun _ _ h=>.inl h,fun _ _ h=>.inl h,fun _ _ h=>.inl ⟨_,h⟩,fun _ _ _ _=>rfl,fun _ h=>.inl h,fun _ h=>.inl h,fun _ _ h=>.inl h,fun _ h=>.inl h,fun _ _ cs _ _ _ h=>⟨cs,h,rfl⟩⟩
theorem Ev.trans {base:Nat} {E1 E2 E3:Env} {A1 A2 A3:ai} {B1 B2 B3:St} {fC nv QL:Ren} {w1 w2 w3:World} (h:Ev P base E1 A1 B1 fC w1 E2 A2 B2 nv w2) (k:Ev P base E2 A2 B2 nv w2 E3 A3 B3 QL w3) :
  Ev P base E1 A1 B1 fC w1 E3 A3 B3 QL w3 where
 dI:=k.dI
 gD:=h.gD.trans k.gD
 le:=Env.le_trans h.le k.le
 next:=dA h.next k.next
 dj x hx hn ha:=by
  refine (k.dj x (dG hx h.gD.next) (fun b e=>?_) fun q=>?_).trans (h.dj x hx hn ha)
  ·rcases h.new b x e with e | e
   ·exact hn b e
   ·omega
  ·rcases h.lU x q with e | e
   ·exact ha e
   ·omega
 new b x e:=by
  rcases k.new b x e with e | e
  ·rcases h.new b x e with e | e
   ·exact .inl e
   ·exact .inr e
  ·have:=h.gD.next; exact .inr (by omega)
 qN b r e:=by
  rcases k.qN b r e with e | e | e
  ·exact h.qN b r e
  ·exact .inr (h.jR b e)
  ·have:=h.gD.next; exact .inr (.inr (by omega))
 pk b g e:=by
  rcases k.pk b g e with ⟨c,e⟩ | e
  ·exact h.pk c g e
  ·have:=h.gD.next; exact .inr (by omega)
 nw g hg hn ha:=by
  refine (k.nw g (dG hg h.gD.next) (fun b e=>?_) fun q=>?_).trans (h.nw g hg hn ha)
  ·rcases h.pk b g e with ⟨c,e⟩ | e
   ·exact hn c e
   ·omega
  ·rcases h.j6 g q with e | e
   ·exact ha e
   ·omega
 jR x e:=by
  rcases k.jR x e with e | e
  ·exact h.jR x e
  ·have:=h.gD.next; exact .inr (by omega)
 j6 g e:=by
  rcases k.j6 g e with e | e
  ·exact h.j6 g e
  ·have:=h.gD.next; exact .inr (by omega)
 rJ g y e:=by
  rcases k.rJ g y e with e | e
  ·exact h.rJ g y e
  ·have:=h.gD.next; exact .inr (by omega)
 lU y e:=by
  rcases k.lU y e with e | e
  ·exact h.lU y e
  ·have:=h.gD.next; exact .inr (by omega)
 rows y hy cs e own aZ q:=by
  obtain ⟨c1,h1,h2⟩:=k.rows y (dG hy h.gD.next) cs e own aZ q;obtain ⟨c0,h3,h4⟩:=h.rows y hy c1 e own aZ h1;exact ⟨c0,h3,h4.trans h2⟩
@[simp] theorem ai.bZ (A:ai) (b:Nat) (o:gG) (x:Nat):(A.put b o).get x=if x=b then some o else A.get x:=by simp [ai.put,ai.get,Trie.iX]
@[simp] theorem ai.cV (A:ai) (o:gG) (x:Nat):(A.new o).get x=if x=A.next then some o else A.get x:=by simp [ai.new,ai.get,Trie.iX]
@[simp] theorem ai.o9 (A:ai) (b:Nat) (o:gG):(A.put b o).next=A.next:=rfl
@[simp] theorem ai.cv (A:ai) (o:gG):(A.new o).next=A.next+1:=rfl
theorem C6.put {A:ai} (h:C6 E A) {b:Nat} {o:gG} (ho:(∀ t s,o≠.aF t s)\/E.φ b=none):C6 E (A.put b o):=by
 intro x y g tx sx ty sy hx hy ex ey;have key:∀ {z t s},(A.put b o).get z=some (.aF t s)->E.φ z=some g->A.get z=some (.aF t s):=by
  intro z t s hz ez;rw [ai.bZ] at hz;split at hz
  ·rename_i e
   simp at hz;rcases ho with ho | ho
   ·exact absurd hz (ho t s)
   ·rw [e,ho] at ez; simp at ez
  ·exact hz
 exact h x y g tx sx ty sy (key hx ex) (key hy ey) ex ey
theorem C6.new {A:ai} (h:C6 E A) {o:gG} (ho:(∀ t s,o≠.aF t s)\/E.φ A.next=none):C6 E (A.new o):=by
 intro x y g tx sx ty sy hx hy ex ey;have key:∀ {z t s},(A.new o).get z=some (.aF t s)->E.φ z=some g->A.get z=some (.aF t s):=by
  intro z t s hz ez;rw [ai.cV] at hz;split at hz
  ·rename_i e
   simp at hz;rcases ho with ho | ho
   ·exact absurd hz (ho t s)
   ·rw [e,ho] at ez; simp at ez
  ·exact hz
 exact h x y g tx sx ty sy (key hx ex) (key hy ey) ex ey
structure KJ (P:Program) (E:Env) (A:ai) (B:St) (ρ:Ren) (base:Nat) (w:World):Prop where
 k:du P E A B
 s:iu ρ B base w
theorem Ev.kj {base:Nat} {E1 E2:Env} {A1 A2:ai} {B1 B2:St} {fC nv:Ren} {w1 w2:World} (h:Ev P base E1 A1 B1 fC w1 E2 A2 B2 nv w2):KJ P E2 A2 B2 nv base w2:=⟨h.dI,h.gD.dI⟩
def VC (P:Program) (E:Env) (ρ:Ren) (v:KV) (v' : Value):Prop:=∃ u,VK P E v u/\VR ρ u v'
theorem VC.mono {ρ ak:Ren} {v:KV} {v' : Value} (h:VC P E ρ v v') (k:E.le E') (m:ρ.le ak):VC P E' ak v v':=by
 obtain ⟨u,h1,h2⟩:=h;exact ⟨u,h1.mono k,h2.mono m⟩
theorem VC.bz {ρ:Ren} {v' : Value} : VC P E ρ .bz v':=⟨.chan none,.qo,by simp [VR]⟩
theorem VC.undef {ρ:Ren} : VC P E ρ uu undef:=⟨_,.undef,VR.undef⟩
end Go.K
end
section
namespace Go.K
open Go Go.az
variable {P:Program} {E:Env}
def aA {α:Type} (r:KR α) (v:α):Prop:=
 match r with
 | .no=>False
 | .ok u=>u=v
 | .iH c u=>c=true/\u=v
 | .br c x y=>(c=true/\aA x v)\/(c=false/\aA y v)
theorem KR.vA {α R:Type} {k:α->Option R} {x:R} : ∀ {r:KR α},r.run k=some x->∃ v,aA r v/\k v=some x:=by
 intro r h
 match r,h with
 | .no,h=>exact absurd h (by simp [KR.run])
 | .ok v,h=>exact ⟨v,rfl,h⟩
 | .iH c v,h=>
  cases c with
  | false=>exact absurd h (by simp [KR.run])
  | true=>exact ⟨v,⟨rfl,rfl⟩,h⟩
 | .br c x y,h=>
  cases c with
  | false=>obtain ⟨v,h1,h2⟩:=KR.vA (r:=y) (k:=k) h; exact ⟨v,.inr ⟨rfl,h1⟩,h2⟩
  | true=>obtain ⟨v,h1,h2⟩:=KR.vA (r:=x) (k:=k) h; exact ⟨v,.inl ⟨rfl,h1⟩,h2⟩
theorem aA.at {α:Type} {i:Int} {f:Nat->KR α} {v:α} : ∀ {m j:Nat},aA (afw i f m j) v->∃ k,j<=k/\k < j+m/\i=(k:Int)/\aA (f k) v
 | 0,j,h=>h.elim
 | m+1,j,h=>by
  rcases h with ⟨h1,h2⟩ | ⟨_,h2⟩
  ·exact ⟨j,ao j,by omega,JS h1,h2⟩
  ·obtain ⟨k,h3,h4,h5,h6⟩:=aA.at (m:=m) (j:=j+1) h2
   exact ⟨k,by omega,by omega,h5,h6⟩
theorem aA.of {α:Type} {o:Option α} {v:α} (h:aA (KR.of o) v):o=some v:=by
 cases o with
 | none=>exact h.elim
 | some u=>have h:u=v:=h; rw [h]
theorem aA.cond {α:Type} {c:Bool} {r:KR α} {v:α} (h:aA (cond c r .no) v):c=true/\aA r v:=by
 cases c with
 | false=>exact h.elim
 | true=>exact ⟨rfl,h⟩
theorem Gf {α:Type} {c:Bool} {r:Option α} {v:α} (h:cond c r none=some v):c=true/\r=some v:=by
 cases c with
 | false=>simp at h
 | true=>exact ⟨rfl,h⟩
def r8 (P:Program) (f:FP) (g:List Value->Option Value):Prop:=
 ∀ (E:Env) (vs:List KV) (us:List Value) (v:KV),aK P E vs us->aA (f vs) v->∃ u,g us=some u/\VK P E v u
theorem abx:r8 P Zs FB:=by
 intro E vs us v h hg
 match vs,hg with
 | [x],hg=>
  obtain ⟨y,rfl,h1⟩:=h.dD;have hg:x=v:=hg;subst hg;exact ⟨y,rfl,h1⟩
theorem ag7:r8 P Zt FB:=by
 intro E vs us v h hg
 match vs,hg with
 | [.bool b],hg=>
  obtain ⟨y,rfl,h1⟩:=h.dD;have hb:v = .bool b:=by
   rcases hg with ⟨rfl,h2⟩ | ⟨rfl,h2⟩
   ·exact (show KV.bool true=v from h2).symm
   ·exact (show KV.bool false=v from h2).symm
  subst hb;exact ⟨_,rfl,h1⟩
 | [x],hg=>
  have key:v=x:=by
   cases x <;> first | exact (show _=v from hg).symm | skip
   rcases hg with ⟨rfl,h2⟩ | ⟨rfl,h2⟩
   ·exact (show KV.bool true=v from h2).symm
   ·exact (show KV.bool false=v from h2).symm
  subst key;obtain ⟨y,rfl,h1⟩:=h.dD;exact ⟨_,rfl,h1⟩
theorem ag8 {b:Bool} : r8 P (cond b Zt Zs) FB:=by
 cases b with
 | true=>exact ag7
 | false=>exact abx
theorem aiW:r8 P adS TZ:=by
 intro E vs us v h hg
 match vs,hg with
 | [.bool t,.bool a,.bool b],hg=>
  obtain ⟨x,y,z,rfl,h1,h2,h3⟩:=h.ML;have:=h1.dr; subst this;have:=h2.dr; subst this;have:=h3.dr; subst this;have hg:KV.bool (cond t a b)=v:=hg;subst hg;exact ⟨_,rfl,by cases t <;> exact .nH⟩
 | [.bool t,a,b],hg=>
  obtain ⟨x,y,z,rfl,h1,h2,h3⟩:=h.ML;have:=h1.dr; subst this;refine ⟨_,rfl,?_⟩;have hg:v=cond t a b\/∃ p q,a = .bool p/\b = .bool q/\v = .bool (cond t p q):=by
   unfold adS at hg;split at hg
   ·rename_i t' a' b' e
    simp at e;obtain ⟨rfl,rfl,rfl⟩:=e;exact .inr ⟨_,_,rfl,rfl,hg.symm⟩
   ·rename_i t' a' b' _ e
    simp at e;obtain ⟨rfl,rfl,rfl⟩:=e;exact .inl hg.symm
   ·exact hg.elim
  rcases hg with rfl | ⟨p,q,rfl,rfl,rfl⟩
  ·cases t
   ·exact h3
   ·exact h2
  ·have:=h2.dr; subst this
   have:=h3.dr; subst this;cases t <;> exact .nH
theorem Q1 {v:KV} {u:Value} (h:VK P E v u) (hk:rG v=true):az.known u=true:=by
 cases v with
 | agg cs=>obtain ⟨l,rfl,q⟩:=h.jr; rfl
 | int k n=>have:=h.bQ; subst this; rfl
 | bool b=>have:=h.dr; subst this; rfl
 | str b=>have:=h.pj; subst this; rfl
 | ng cs=>obtain ⟨l,rfl,_⟩:=h.ID; rfl
 | ts T m n es acc=>obtain ⟨_,_,_,a,cap,rfl,_⟩:=h.jz; rfl
 | tp T Tc i k es acc=>obtain ⟨_,_,_,_,_,b,off,r,rfl,_⟩:=h.Gb; rfl
 | al T b o n=>obtain ⟨a,c,rfl⟩:=h.rI.slice; rfl
 | ap T Tc b i k=>obtain ⟨x,L,N,_,_,_,rfl⟩:=h.C5; rfl
 | ptr b off=>obtain ⟨x,_,rfl⟩:=h.fX; rfl
 | sl b off n c=>obtain ⟨x,_,rfl⟩:=h.Kh; rfl
 | Al=>simp only [VK] at h; subst h; rfl
 | jd=>simp only [VK] at h; subst h; rfl
 | wk=>simp only [VK] at h; subst h; rfl
 | map b=>simp only [VK] at h; obtain ⟨x,_,rfl⟩:=h; rfl
 | fn f a b=>obtain ⟨l,m,rfl,_⟩:=h.Ga; rfl
 | BF=>simp only [VK] at h; subst h; rfl
 | iface t x=>simp only [VK] at h; obtain ⟨y,rfl,_⟩:=h; rfl
 | BG=>simp only [VK] at h; subst h; rfl
 | bz=>simp [rG] at hk
theorem IG {v:KV} {u:Value} (h:VK P E v u) (hk:rG v=true):u.cells.size=v.cells.length:=by
 have:=(h.cells hk).length;simpa using this
theorem UW {place:Nat->Option (Nat×Nat)} : ∀ {ps:List (Nat×KV)} {qs:List (Nat×Value)} {cs r:List KV} {bX:List Value},ps.map (·.1)=qs.map (·.1)->aK P E (ps.map (·.2)) (qs.map (·.2))->(∀ p∈ps,rG p.2=true)->
  aK P E cs bX->QN place cs ps=some r->∃ r',vU place bX qs=some r'/\aK P E r r'
 | [],[],cs,r,bX,_,_,_,h,e=>by simp [QN] at e; subst e; exact ⟨bX,rfl,h⟩
 | [],_::_,_,_,_,e,_,_,_,_=>by simp at e
 | _::_,[],_,_,_,e,_,_,_,_=>by simp at e
 | (i,v)::ps,(j,u)::qs,cs,r,bX,e1,e2,hk,h,e=>by
  simp only [List.map_cons,List.cons.injEq] at e1;obtain ⟨rfl,e1⟩:=e1;obtain ⟨y,ys,e3,h1,h2⟩:=e2.cons_inv;simp only [List.map_cons,List.cons.injEq] at e3;obtain ⟨rfl,rfl⟩:=e3;have hkv:rG v=true:=hk (i,v) (by simp);simp only [QN] at e;simp only [vU];split at e
  ·rename_i off size hp
   rw [hp];obtain ⟨hc,e⟩:=Gf e;obtain ⟨ma,e4,e5⟩:=aO.1 e;obtain ⟨r1,e6,h3⟩:=aK.jx e4 h (h1.cells hkv);obtain ⟨r',e7,h4⟩:=UW e1 h2 (fun p hp=>hk p (by simp [hp])) h3 e5;refine ⟨r',?_,h4⟩;simp only;rw [IG h1 hkv,hc,ah,e6];exact e7
  ·simp at e
theorem UX:∀ (is:List Nat) {vs:List KV} {us:List Value},aK P E vs us->(tz is vs).map (·.1)=(zipIdx is us).map (·.1)/\aK P E ((tz is vs).map (·.2)) ((zipIdx is us).map (·.2))
 | [],_,_,_=>by simp [tz,zipIdx,aK.nil]
 | i::is,[],us,h=>by rw [h.bA]; simp [tz,zipIdx,aK.nil]
 | i::is,v::vs,us,h=>by
  obtain ⟨y,ys,rfl,h1,h2⟩:=h.cons_inv;obtain ⟨h3,h4⟩:=UX is h2;exact ⟨by simp [tz,zipIdx,h3],by simpa [tz,zipIdx] using aK.cons h1 h4⟩
theorem UY:∀ (is:List Nat) (vs:List KV),∀ p∈tz is vs,p.2∈vs
 | [],_,p,h=>by simp [tz] at h
 | i::is,[],p,h=>by simp [tz] at h
 | i::is,v::vs,p,h=>by
  simp only [tz,bd] at h;rcases h with rfl | h
  ·simp
  ·simp [UY is vs p h]
theorem BI:∀ {vs:List KV} {us:List Value},aK P E vs us->vs.all rG=true->us.all az.known=true
 | [],us,h,_=>by rw [h.bA]; rfl
 | v::vs,us,h,k=>by
  obtain ⟨y,ys,rfl,h1,h2⟩:=h.cons_inv;simp only [List.all_cons,aj] at k ⊢;exact ⟨Q1 h1 k.1,BI h2 k.2⟩
theorem X9 {place:Nat->Option (Nat×Nat)} {z:Value} {is:List Nat} (hz:flat z=true) (h1:ji (fw z).cells=true):r8 P (J9 place (fw z).cells is) (xL place z is):=by
 intro E vs us v h hg;unfold J9 at hg;split at hg
 ·rename_i cs hf
  obtain ⟨hk,hg⟩:=hg.cond;have hg:KV.agg cs=v:=hg;subst hg;obtain ⟨h2,h3⟩:=UX is h;obtain ⟨r',e,hr⟩:=UW h2 h3 (fun p hp=>by have:=UY is vs p hp; exact dU.1 hk _ this) (Gc (P:=P) (E:=E) h1) hf;refine ⟨.agg ⟨r'⟩,?_,.ns hr⟩;unfold xL;rw [hz,BI h hk];simp [e,ns]
 ·exact hg.elim
theorem akJ:r8 P UK FD:=by
 intro E vs us v h hg
 match vs,hg with
 | [.ptr b off],hg=>
  obtain ⟨y,rfl,h1⟩:=h.dD;have hg:KV.ptr b off=v:=hg;subst hg;have q:=h1;obtain ⟨x,e,rfl⟩:=h1.fX;exact ⟨_,rfl,q⟩
 | [.tp T Tc i k es acc],hg=>
  obtain ⟨y,rfl,h1⟩:=h.dD;have hg:KV.tp T Tc i k es acc=v:=hg;subst hg;have q:=h1;obtain ⟨_,_,_,_,_,b,off,r,rfl,_⟩:=h1.Gb;exact ⟨_,rfl,q⟩
 | [.ap T Tc b i k],hg=>
  obtain ⟨y,rfl,h1⟩:=h.dD;have hg:KV.ap T Tc b i k=v:=hg;subst hg;have q:=h1;obtain ⟨x,L,N,_,_,_,rfl⟩:=h1.C5;exact ⟨_,rfl,q⟩
 | [.fn (.func f) a b],hg=>
  obtain ⟨y,rfl,h1⟩:=h.dD;have hg:KV.fn (.func f) a b=v:=hg;subst hg;have q:=h1;obtain ⟨l,m,rfl,_⟩:=h1.Ga;exact ⟨_,rfl,q⟩
theorem II {s ft:TypeId} {off:Nat} (h:TD P s off ft=true):∀ m c,(aH P ft).ks[m]? = some c->(aH P s).ks[off+m]? = some c:=by
 unfold TD at h;have key:∀ (a b:List CK),x7 a b=true->a=b:=by
  intro a
  induction a with
  | nil=>intro b hb; cases b <;> simp_all [x7]
  | cons x xs ih=>
   intro b hb;cases b with
   | nil=>simp [x7] at hb
   | cons y ys=>
    simp only [x7,aj] at hb;rw [ih ys hb.2];congr 1;cases x <;> cases y <;> simp_all [aiS]
 split at h
 ·rename_i l e
  obtain ⟨rfl,hl⟩:=Kg e;have:=key _ _ h;intro m c hm;rw [<- this,kS] at hm;split at hm
  ·rwa [EV,lF] at hm
  ·simp at hm
 ·simp at h
theorem Xh {s ft:TypeId} {off:Nat} {pf:Bool} (MM:pf=TD P s off ft):r8 P (Sc s off ft pf) (CO off):=by
 intro E vs us v h hg
 match vs,hg with
 | [.ptr b o],hg=>
  obtain ⟨y,rfl,h1⟩:=h.dD;have hg:KV.ptr b (o+off)=v:=hg;subst hg;obtain ⟨x,e,rfl⟩:=h1.fX;exact ⟨_,rfl,.v8 e⟩
 | [.tp T Tc i k es acc],hg=>
  obtain ⟨y,rfl,h1⟩:=h.dD;obtain ⟨hc,hg⟩:=aA.cond hg;have hg:KV.tp T ft i (k+off) es acc=v:=hg;subst hg;simp only [aj] at hc;have:=aD hc.1;subst this;obtain ⟨ht,aP,h2,hi,hw,b,o,r,rfl,h4,h5⟩:=h1.Gb;refine ⟨_,rfl,?_⟩;simp only [VK];refine ⟨ht,aP,h2,hi,⟨fun m c hm=>?_⟩,b,o,r,by simp only [Value.pointer.injEq,aR,Addr.mk.injEq,and_true,true_and]; omega,h4,h5⟩;have hp:=II (MM ▸ hc.2) m c hm;have:=hw.is _ _ hp;rwa [show k+(off+m)=k+off+m by omega] at this
 | [.ap T Tc b i k],hg=>
  obtain ⟨y,rfl,h1⟩:=h.dD;obtain ⟨hc,hg⟩:=aA.cond hg;have hg:KV.ap T ft b i (k+off)=v:=hg;subst hg;simp only [aj] at hc;have:=aD hc.1;subst this;obtain ⟨x,L,N,h2,hw,hi,rfl⟩:=h1.C5;refine ⟨_,rfl,.aiV ⟨x,L,N,h2,⟨fun m c hm=>?_⟩,hi,by simp only [Value.pointer.injEq,aR,Addr.mk.injEq,and_true,true_and]; omega⟩⟩;have hp:=II (MM ▸ hc.2) m c hm;have:=hw.is _ _ hp;rwa [show k+(off+m)=k+off+m by omega] at this
theorem aby {t:TypeId} {cs:List KV} {bX:List Value} {off:Nat} {v:KV} (h:aK P E cs bX) (e:QP P t cs off=some v):∃ u,partOf P t bX off=some u/\VK P E v u:=by
 unfold QP at e;unfold partOf;split at e
 ·rename_i ha
  rw [ha];obtain ⟨n,hn,e⟩:=aO.1 e;obtain ⟨l,hl,rfl⟩:=aU.1 e;obtain ⟨r,hr,hv,_⟩:=h.r6 hl;exact ⟨.agg ⟨r⟩,by simp [hn,hr],.ns hv⟩
 ·rename_i ha
  rw [ha];rw [EV] at e;have hd:=h.drop off;cases hc:cs.drop off with
  | nil=>rw [hc] at e; simp at e
  | cons x xs=>
   rw [hc] at e hd;simp at e;subst e;obtain ⟨y,ys,e2,h1,_⟩:=hd.cons_inv;exact ⟨y,by simp [nV,e2],h1⟩
 ·simp at e
theorem ag9 {fd:Field} : r8 P (afv P fd) (YM P fd):=by
 intro E vs us v h hg
 match vs,hg with
 | [.agg cs],hg=>
  obtain ⟨y,rfl,h1⟩:=h.dD;obtain ⟨l,rfl,h2⟩:=h1.jr;exact aby h2 hg.of
theorem vB {i:Int} {n:Nat} (h:UL i n=true):∃ m,i = .ofNat m/\m < n/\i.toNat=m:=by
 simp only [UL,aj,jP] at h;obtain ⟨m,rfl⟩:=Int.eq_ofNat_of_zero_le h.1;exact ⟨m,rfl,by omega,rfl⟩
theorem mQ {m n:Nat} (h:m < n):ir (.ofNat m) n=some m:=by
 have:Nat.blt m n=true:=by rw [b7]; exact h
 simp [ir,this]
theorem aA.iH {α:Type} {c:Bool} {u v:α} (h:aA (.iH c u) v):c=true/\u=v:=h
theorem Sg {t e:TypeId} {len n m:Nat} (hq:x7 (aH P t).ks (cN (aH P e).ks len)=true) (hn:(aH P e).ks.length=n) (hm:m < len):∀ a c,(aH P e).ks[a]? = some c->(aH P t).ks[m * n+a]? = some c:=by
 intro a c ha;have key:∀ (l:List CK) (DR m a:Nat) (c:CK),m < DR->l[a]? = some c->(cN l DR)[m * l.length+a]? = some c:=by
  intro l DR
  induction DR with
  | zero=>intro m a c hm; omega
  | succ DR ih=>
   intro m a c hm hl;have aJ:a < l.length:=(cw.1 hl).1;cases m with
   | zero=>simp only [cN,Nat.zero_mul,bG]; rw [nE aJ]; exact hl
   | succ m=>
    simp only [cN];rw [o3 (by rw [Nat.succ_mul]; omega),show (m+1) * l.length+a - l.length=m * l.length+a by rw [Nat.succ_mul]; omega];exact ih m a c (by omega) hl
 have anC:∀ (a b:List CK),x7 a b=true->a=b:=by
  intro a
  induction a with
  | nil=>intro b hb; cases b <;> simp_all [x7]
  | cons x xs ih=>
   intro b hb;cases b with
   | nil=>simp [x7] at hb
   | cons y ys=>
    simp only [x7,aj] at hb;rw [ih ys hb.2];congr 1;cases x <;> cases y <;> simp_all [aiS]
 have h6:=key (aH P e).ks len m a c hm ha;rw [<- anC _ _ hq,hn] at h6;exact h6
theorem ZA {t e:TypeId} {len n:Nat} : r8 P (UM P t len n e) (Mb len n):=by
 intro E vs us v h hg
 match vs,hg with
 | [.ptr b o,.int k i],hg=>
  have hg:aA (cond (Nat.ble len 8) (afw i (fun j=>.ok (.ptr b (o+j * n))) len 0) (.iH (UL i len) (.ptr b (o+i.toNat * n)))) v:=hg;obtain ⟨x,y,rfl,h1,h2⟩:=h.iZ;obtain ⟨x,e,rfl⟩:=h1.fX;have:=h2.bQ; subst this;have key:∃ m:Nat,i=(m:Int)/\m < len/\v = .ptr b (o+m * n):=by
   cases hb:Nat.ble len 8 with
   | true=>rw [hb,ah] at hg; obtain ⟨m,_,h3,h4,h5⟩:=aA.at hg; exact ⟨m,h4,by omega,(show KV.ptr b (o+m * n)=v from h5).symm⟩
   | false=>rw [hb,ay] at hg; obtain ⟨hc,rfl⟩:=aA.iH hg; obtain ⟨m,rfl,hm,MN⟩:=vB hc; exact ⟨m,rfl,hm,by rw [MN]⟩
  obtain ⟨m,rfl,hm,rfl⟩:=key;refine ⟨_,?_,.v8 e⟩;show (ir (.ofNat m) len).bind _=_;rw [mQ hm]; rfl
 | [.tp T Tc j k es acc,.int q i],hg=>
  obtain ⟨x,y,rfl,h1,h2⟩:=h.iZ;obtain ⟨ri,hg⟩:=aA.cond hg;obtain ⟨hc,rfl⟩:=aA.iH hg;have:=h2.bQ; subst this;obtain ⟨m,rfl,hm,MN⟩:=vB hc;rw [MN];simp only [aj] at ri;have:=aD ri.1.1;subst this;have hn:(aH P e).ks.length=n:=aD ri.2;obtain ⟨ht,aP,h3,hi,hw,b,o,r,rfl,h4,h5⟩:=h1.Gb;refine ⟨_,by (show (ir (.ofNat m) len).bind _=_); rw [mQ hm]; rfl,?_⟩;simp only [VK];refine ⟨ht,aP,h3,hi,⟨fun a c ha=>?_⟩,b,o,r,by simp only [Value.pointer.injEq,aR,Addr.mk.injEq,and_true,true_and]; omega,h4,h5⟩;have h6:=Sg ri.1.2 hn hm a c ha;have:=hw.is _ _ h6;rwa [show k+(m * n+a)=k+m * n+a by omega] at this
 | [.ap T Tc b j k,.int q i],hg=>
  obtain ⟨x,y,rfl,h1,h2⟩:=h.iZ;obtain ⟨ri,hg⟩:=aA.cond hg;obtain ⟨hc,rfl⟩:=aA.iH hg;have:=h2.bQ; subst this;obtain ⟨m,rfl,hm,MN⟩:=vB hc;rw [MN];simp only [aj] at ri;have:=aD ri.1.1;subst this;have hn:(aH P e).ks.length=n:=aD ri.2;obtain ⟨x,L,N,h3,hw,hi,rfl⟩:=h1.C5;refine ⟨_,by (show (ir (.ofNat m) len).bind _=_); rw [mQ hm]; rfl,.aiV ⟨x,L,N,h3,⟨fun a c ha=>?_⟩,hi,by simp only [Value.pointer.injEq,aR,Addr.mk.injEq,and_true,true_and]; omega⟩⟩;have h6:=Sg ri.1.2 hn hm a c ha;have:=hw.is _ _ h6;rwa [show k+(m * n+a)=k+m * n+a by omega] at this
theorem abz {e n:Nat} {pf:Bool} (MM:pf=Nat.beq (aH P e).ks.length n):r8 P (X2 e n pf) (JW n):=by
 intro E vs us v h hg
 match vs,hg with
 | [.sl b o len cap,.int k i],hg=>
  obtain ⟨x,y,rfl,h1,h2⟩:=h.iZ;obtain ⟨hc,rfl⟩:=aA.iH hg;obtain ⟨x,e,rfl⟩:=h1.Kh;have:=h2.bQ; subst this;obtain ⟨m,rfl,hm,MN⟩:=vB hc;rw [MN];exact ⟨_,by (show (ir (.ofNat m) len).bind _=_); rw [mQ hm]; rfl,.v8 e⟩
 | [.ts T mk len es acc,.int q i],hg=>
  obtain ⟨x,y,rfl,h1,h2⟩:=h.iZ;obtain ⟨ri,hg⟩:=aA.cond hg;obtain ⟨hc,rfl⟩:=aA.iH hg;have:=h2.bQ; subst this;obtain ⟨m,rfl,hm,MN⟩:=vB hc;rw [MN];simp only [aj] at ri;have:=aD ri.1;subst this;have hn:(aH P T).ks.length=n:=aD (MM ▸ ri.2);obtain ⟨ht,aP,h3,a,cap,rfl,h4,h5,h6⟩:=h1.jz;rcases h5 with ⟨_,h0⟩ | ⟨b,off,r,rfl,h7,h8,h9⟩
  ·omega
  ·refine ⟨_,by (show (ir (.ofNat m) len).bind _=_); rw [mQ hm]; rfl,?_⟩
   have hl:=ht.len;simp only [VK];refine ⟨⟨rfl,fun i hi=>ht.acc i (by omega),ht.typed⟩,aP,h3,by omega,⟨fun a c ha=>by simpa using ha⟩,b,off,r,?_,h7,h9⟩;simp only [aI,hn,Value.pointer.injEq,aR,Addr.mk.injEq,and_true,true_and];omega
 | [.al T b o len,.int q i],hg=>
  obtain ⟨x,y,rfl,h1,h2⟩:=h.iZ;obtain ⟨ri,hg⟩:=aA.cond hg;obtain ⟨hc,rfl⟩:=aA.iH hg;have:=h2.bQ; subst this;obtain ⟨m,rfl,hm,MN⟩:=vB hc;rw [MN];simp only [aj] at ri;have:=aD ri.1;subst this;have hn:(aH P T).ks.length=n:=aD (MM ▸ ri.2);rcases h1.rI with ⟨h0,_⟩ | ⟨x,L,N,c,h3,rfl,h4,h5,h6⟩
  ·omega
  ·refine ⟨_,by (show (ir (.ofNat m) len).bind _=_); rw [mQ hm]; rfl,.aiV ⟨x,L,N,h3,⟨fun a c ha=>by simpa using ha⟩,by omega,?_⟩⟩
   simp only [aI,hn,Value.pointer.injEq,aR,Addr.mk.injEq,and_true,true_and];rw [Nat.add_mul]; omega
theorem ZB {len n:Nat} {e:TypeId} : r8 P (MD P len n e) (Mc P len n e):=by
 intro E vs us v h hg
 match vs,hg with
 | [.agg cs,.int k i],hg=>
  obtain ⟨x,y,rfl,h1,h2⟩:=h.iZ;obtain ⟨l,rfl,h3⟩:=h1.jr;have:=h2.bQ; subst this;simp only [MD] at hg;have key:∃ m:Nat,i=(m:Int)/\m < len/\QP P e cs (m * n)=some v:=by
   cases hb:Nat.ble len 8 with
   | true=>rw [hb,ah] at hg; obtain ⟨m,_,h3,h4,h5⟩:=aA.at hg; exact ⟨m,h4,by omega,aA.of h5⟩
   | false=>
    rw [hb,ay] at hg;split at hg
    ·rename_i u hu
     obtain ⟨hc,rfl⟩:=aA.iH hg;obtain ⟨m,rfl,hm,MN⟩:=vB hc;rw [MN] at hu;exact ⟨m,rfl,hm,hu⟩
    ·exact hg.elim
  obtain ⟨m,rfl,hm,hu⟩:=key;obtain ⟨w,h4,h5⟩:=aby h3 hu;exact ⟨w,by (show (ir (.ofNat m) len).bind _=_); rw [mQ hm]; exact h4,h5⟩
theorem ZC:r8 P UN Md:=by
 intro E vs us v h hg
 match vs,hg with
 | [.str s,.int k i],hg=>
  obtain ⟨x,y,rfl,h1,h2⟩:=h.iZ;have:=h1.pj; subst this;have:=h2.bQ; subst this;obtain ⟨hc,rfl⟩:=aA.iH hg;obtain ⟨m,rfl,hm,MN⟩:=vB hc;rw [MN];have hl:m < s.data.toList.length:=by simpa using hm
  refine ⟨.int .u8 (s.data.toList.getD m 0).toNat,?_,.mkInt⟩;show (ir (.ofNat m) s.size).bind _=_;rw [mQ hm];show (s.data.toList[m]?).map _=_;simp [List.getD,cl hl]
theorem UZ {α:Type} : ∀ (n:Nat) (l:List α),X3 n l=l[n]?
 | n,[]=>by cases n <;> rfl
 | 0,x::_=>rfl
 | n+1,_::xs=>by simp [X3,UZ n xs]
theorem abA {i:Nat} : r8 P (X4 i) (Eg i):=by
 intro E vs us v h hg
 match vs,hg with
 | [.ng ws],hg=>
  obtain ⟨y,rfl,h1⟩:=h.dD;obtain ⟨l,rfl,h2⟩:=h1.ID;have:=hg.of;rw [UZ] at this;obtain ⟨u,h3,h4⟩:=h2.get this;exact ⟨u,by simpa [Eg] using h3,h4⟩
theorem aha:r8 P afx NX:=by
 intro E vs us v h hg
 match vs,hg with
 | [.ts T m n es acc],hg=>
  obtain ⟨y,rfl,h1⟩:=h.dD;obtain ⟨_,_,_,a,cap,rfl,_⟩:=h1.jz;have hg:KV.int .i64 n=v:=hg;subst hg;exact ⟨_,rfl,.mkInt⟩
 | [.sl b o n c],hg=>
  obtain ⟨y,rfl,h1⟩:=h.dD;obtain ⟨x,_,rfl⟩:=h1.Kh;have hg:KV.int .i64 n=v:=hg;subst hg;exact ⟨_,rfl,.mkInt⟩
 | [.al T b o n],hg=>
  obtain ⟨y,rfl,h1⟩:=h.dD;obtain ⟨a,c,rfl⟩:=h1.rI.slice;have hg:KV.int .i64 n=v:=hg;subst hg;exact ⟨_,rfl,.mkInt⟩
 | [.jd],hg=>
  obtain ⟨y,rfl,h1⟩:=h.dD;have:=h1.mw; subst this;have hg:KV.int .i64 0=v:=hg;subst hg;exact ⟨_,rfl,.mkInt⟩
theorem adU:r8 P abn NY:=by
 intro E vs us v h hg
 match vs,hg with
 | [.str s],hg=>
  obtain ⟨y,rfl,h1⟩:=h.dD;have:=h1.pj; subst this;have hg:KV.int .i64 s.size=v:=hg;subst hg;exact ⟨_,rfl,.mkInt⟩
theorem ahb:r8 P aft T4:=by
 intro E vs us v h hg
 match vs,hg with
 | [.str s],hg=>
  obtain ⟨y,rfl,h1⟩:=h.dD;have:=h1.pj; subst this;have hg:KV.str s=v:=hg;subst hg;exact ⟨_,rfl,.mkStr⟩
theorem ZD {f:Fn} {k:Nat} : r8 P (F7 f k) (Bo f k):=by
 intro E vs us v h hg;unfold F7 at hg;split at hg
 ·rename_i l hl
  have hg:KV.fn f l (xY k vs)=v:=hg;subst hg;have iJ:r6 k (xY 0 vs)=some l:=hl;obtain ⟨r,h1,h2,_⟩:=h.r6 iJ;have h1:takeN k us=some r:=h1;refine ⟨_,by simp [Bo,h1]; rfl,.abw h2 ?_⟩;rw [EV,nV];exact h.drop k
 ·exact hg.elim
theorem ahc {src dst:TypeId} {k k' : IntKind} (h2:P.underlying dst=some (.int k)) (h3:P.underlying src=some (.int k')):r8 P (afs k) (Ef P src dst):=by
 intro E vs us v h hg
 match vs,hg with
 | [.int j n],hg=>
  obtain ⟨y,rfl,h1⟩:=h.dD;have:=h1.bQ; subst this;have hg:KV.int k (k.wrap n)=v:=hg;subst hg;refine ⟨.int k (k.wrap n),?_,.mkInt⟩;simp only [Ef,h2];simp [convert,underlying,program,Bind.bind,Sem.bind,cu,h2,h3,Conv.intToInt,Pure.pure]
end Go.K
end
