/- Part of the proof of PathsRight: the machine, shown to be the model's, and plain models. No conditions. -/
import Derived.ScopeJumps
import Derived.Test.YtckbdndhmcoihaaGreatFp
import Derived.LoopN
set_option linter.unusedSimpArgs false
set_option linter.unusedVariables false
section
namespace Go.K
open Go Go.az
variable {P:Program} {E:Env}
inductive Sub (root:Code):Nat->Code->Prop where
 | root:Sub root 1 root
 | alN {p:Nat} {a b:Code} : Sub root p (.seq a b)->Sub root (2 * p) a
 | afW {p:Nat} {a b:Code} : Sub root p (.seq a b)->Sub root (2 * p+1) b
 | ajf {p:Nat} {c:Operand} {a b:Code} : Sub root p (.cond c a b)->Sub root (2 * p) a
 | ajg {p:Nat} {c:Operand} {a b:Code} : Sub root p (.cond c a b)->Sub root (2 * p+1) b
 | block {p id:Nat} {a:Code} : Sub root p (.block id a)->Sub root (2 * p) a
 | loop {p:Nat} {a:Code} : Sub root p (.loop a)->Sub root (2 * p) a
 | scope {p:Nat} {a:Code} : Sub root p (.scope a)->Sub root (2 * p) a
def Vw (P:Program) (N:Nat) {R:Type} (c:Code) (f:KE R->bJ->ai->Option R):Prop:=
 ∀ (k:KE R) (r:R) (t:bJ) (A:ai) (E:Env) (B:St) (ρ:Ren) (base:Nat) (a:Act) (w:World) (Q:Exit->Act->World->Prop),f k t A=some r->jB P E ρ t N a->KJ P E A B ρ base w->
  (∀ e t' E' A' B' ak a' w',k e t' A' = some r->jB P E' ak t' N a'->a'.defers=a.defers->Ev P base E A B ρ w E' A' B' ak w'->Q e.out a' w')->c.wp P Q a w
def Kk (P:Program) (N:Nat) (body:Code) (F:bJ->ai->pZ):Prop:=∀ (R:Type) (k:KE R) (r:R) (t:bJ) (A:ai) (E:Env) (B:St) (ρ:Ren) (base:Nat) (a:Act) (w:World) (Q:Exit->Act->World->Prop),MK F k t A=some r->jB P E ρ t N a->KJ P E A B ρ base w->
  (∀ e t' E' A' B' ak a' w',k e t' A' = some r->jB P E' ak t' N a'->a'.defers=a.defers->Ev P base E A B ρ w E' A' B' ak w'->Q e.out a' w')->Code.rounds P body Q gI a w
theorem Pb {c:Code} {Q:Exit->Act->World->Prop} (k:Nat):∀ {n:Nat} {a:Act} {w:World},Code.rounds P c Q n a w->Code.rounds P c Q (n+k) a w
 | 0,_,_,h=>h.elim
 | n+1,a,w,h=>by
  rw [show n+1+k=n+k+1 by omega,rounds_succ];rw [rounds_succ] at h;exact Code.wp_mono (fun e a w q=>by cases e <;> first | exact Pb k q | exact q) h
def pr (P:Program) (l:Nat) (c:Code) (Q:Exit->Act->World->Prop):Nat->Act->World->Prop
 | 0,_,_=>False
 | m+1,a,w=>c.wp P (Exit.jump l (pr P l c Q m) Q) a w
def Vx (P:Program) (N:Nat) (l:Nat) (rest:Code) (F:bJ->ai->pZ):Prop:=∀ (R:Type) (k:KE R) (r:R) (t:bJ) (A:ai) (E:Env) (B:St) (ρ:Ren) (base:Nat) (a:Act) (w:World) (Q:Exit->Act->World->Prop),pZ.run (QX k) (F t A)=some r->jB P E ρ t N a->KJ P E A B ρ base w->
  (∀ e t' E' A' B' ak a' w',k e t' A' = some r->jB P E' ak t' N a'->a'.defers=a.defers->Ev P base E A B ρ w E' A' B' ak w'->Q e.out a' w')->∃ m,pr P l rest Q m a w
theorem Ye {p:Nat->Prop} : ∀ n,p n->∃ m,p m/\∀ k,p k->m<=k
 | 0,h=>⟨0,h,fun _ _=>mc _⟩
 | n+1,h=>by
  by_cases hk:∃ k,k<=n/\p k
  ·obtain ⟨k,ot,KL⟩:=hk
   have key:∀ b k,k<=b->p k->∃ m,p m/\∀ k,p k->m<=k:=by
    intro b
    induction b with
    | zero=>intro k h1 h2; exact ⟨k,h2,fun _ _=>by omega⟩
    | succ b ih=>
     intro k h1 h2;by_cases hx:∃ k',k'<=b/\p k'
     ·obtain ⟨k',x1,x2⟩:=hx; exact ih k' x1 x2
     ·exact ⟨k,h2,fun q hq=>by
       by_cases hqb:q<=b
       ·exact absurd ⟨q,hqb,hq⟩ hx
       ·omega⟩
   exact key n k ot KL
  ·exact ⟨n+1,h,fun k hp=>by
    by_cases hkn:k<=n
    ·exact absurd ⟨k,hkn,hp⟩ hk
    ·omega⟩
open Classical in
noncomputable def Pc (p:Nat->Prop):Nat:=if h:∃ n,p n then (Ye h.choose h.choose_spec).choose else 0
theorem Pd {p:Nat->Prop} {n:Nat} (h:p n):p (Pc p)/\Pc p<=n:=by
 have hx:∃ n,p n:=⟨n,h⟩
 unfold Pc;rw [dif_pos hx];have:=(Ye hx.choose hx.choose_spec).choose_spec;exact ⟨this.1,this.2 n h⟩
theorem Z0 {c rest:Code} {l:Nat} {Q:Exit->Act->World->Prop} {a:Act} {w:World} (hf:findLabel c l=some rest) (h:c.wp P (Exit.jump l (fun a w=>∃ m,pr P l rest Q m a w) Q) a w):(Code.scope c).wp P Q a w:=by
 refine wp_scope_jumps l (fun a w=>∃ m,pr P l rest Q m a w) (fun a w=>Pc fun m=>pr P l rest Q m a w) hf h fun a w ⟨n,hn⟩=>?_;have hm:=(Pd (p:=fun m=>pr P l rest Q m a w) hn).1;generalize (Pc fun m=>pr P l rest Q m a w)=m at hm ⊢;cases m with
 | zero=>exact hm.elim
 | succ m=>
  refine Code.wp_mono (fun e a' w' q=>?_) hm;cases e with
  | goto l'=>
   obtain ⟨rfl,q⟩:=q;exact ⟨rfl,⟨m,q⟩,Nat.lt_succ_of_le (Pd (p:=fun m=>pr P _ rest Q m a' w') q).2⟩
  | normal=>exact q
  | exit id=>exact q
  | ret=>exact q
  | panic ch=>exact q
  | outgrown=>exact q
def afX (P:Program) (cfg:fV) (f:FuncId) (root:Code):Prop:=(∀ p F body,cfg.lp f p=some F->Sub root p (.loop body)->∀ N,codeOk N body=true->Kk P N body F)/\
 ∀ p F c,cfg.lp f p=some F->Sub root p (.scope c)->∀ N,codeOk N c=true->∀ l,C4 c=some l->∃ rest,findLabel c l=some rest/\Vx P N l rest F
section
variable {R:Type} {cfg:fV} {cU:rm R} {L:Nat} {f:FuncId}
theorem Pe {N:Nat} {c:Code} {g:KE R->bJ->ai->Option R} (hg:Vw P N c g):∀ (n:Nat) (k:KE R) (r:R) (t:bJ) (A:ai) (E:Env) (B:St) (ρ:Ren) (base:Nat) (a:Act) (w:World) (Q:Exit->Act->World->Prop),QW g k n t A=some r->jB P E ρ t N a->KJ P E A B ρ base w->
  (∀ e t' E' A' B' ak a' w',k e t' A' = some r->jB P E' ak t' N a'->a'.defers=a.defers->Ev P base E A B ρ w E' A' B' ak w'->Q e.out a' w')->Code.rounds P c Q n a w
 | 0,k,r,t,A,E,B,ρ,base,a,w,Q,h,ht,hj,hq=>by exact absurd h (by simp [QW])
 | n+1,k,r,t,A,E,B,ρ,base,a,w,Q,h,ht,hj,hq=>by
  rw [rounds_succ];have h:g (MJ k (QW g k n)) t A=some r:=h;refine hg _ r t A E B ρ base a w _ h ht hj fun e t' E' A' B' ak a' w' h1 h2 h3 h4=>?_;cases e with
  | normal=>
   have h1:QW g k n t' A' = some r:=h1;exact Pe hg n k r t' A' E' B' ak base a' w' Q h1 h2 h4.kj fun e t'' I0 ZX I1 mG BB xP q1 q2 q3 q4=>hq e t'' I0 ZX I1 mG BB xP q1 q2 (q3.trans h3) (h4.trans q4)
  | exit id=>exact hq (.exit id) t' E' A' B' ak a' w' h1 h2 h3 h4
  | goto l=>exact hq (.goto l) t' E' A' B' ak a' w' h1 h2 h3 h4
  | ret=>exact hq .ret t' E' A' B' ak a' w' h1 h2 h3 h4
theorem Pf {N:Nat} {c:Code} {g:KE R->bJ->ai->Option R} {F:bJ->ai->pZ} (hg:Vw P N c g) (hF:Kk P N c F):∀ (n:Nat) (k:KE R) (r:R) (t:bJ) (A:ai) (E:Env) (B:St) (ρ:Ren) (base:Nat) (a:Act) (w:World) (Q:Exit->Act->World->Prop),QY g F k n t A=some r->jB P E ρ t N a->KJ P E A B ρ base w->
  (∀ e t' E' A' B' ak a' w',k e t' A' = some r->jB P E' ak t' N a'->a'.defers=a.defers->Ev P base E A B ρ w E' A' B' ak w'->Q e.out a' w')->Code.rounds P c Q (gI+n) a w
 | 0,k,r,t,A,E,B,ρ,base,a,w,Q,h,ht,hj,hq=>hF R k r t A E B ρ base a w Q h ht hj hq
 | n+1,k,r,t,A,E,B,ρ,base,a,w,Q,h,ht,hj,hq=>by
  have h:Bool.rec (motive:=fun _=>Option R) (MK F k t A) (g (MJ k (QY g F k n)) t A) (Zz (F t A))=some r:=h;cases ho:Zz (F t A) with
  | false=>
   rw [ho] at h;exact Pb (n+1) (hF R k r t A E B ρ base a w Q h ht hj hq)
  | true=>
   rw [ho] at h;have h:g (MJ k (QY g F k n)) t A=some r:=h;rw [show gI+(n+1)=gI+n+1 by omega,rounds_succ];refine hg _ r t A E B ρ base a w _ h ht hj fun e t' E' A' B' ak a' w' h1 h2 h3 h4=>?_;cases e with
   | normal=>
    have h1:QY g F k n t' A' = some r:=h1;exact Pf hg hF n k r t' A' E' B' ak base a' w' Q h1 h2 h4.kj fun e t'' I0 ZX I1 mG BB xP q1 q2 q3 q4=>hq e t'' I0 ZX I1 mG BB xP q1 q2 (q3.trans h3) (h4.trans q4)
   | exit id=>exact hq (.exit id) t' E' A' B' ak a' w' h1 h2 h3 h4
   | goto l=>exact hq (.goto l) t' E' A' B' ak a' w' h1 h2 h3 h4
   | ret=>exact hq .ret t' E' A' B' ak a' w' h1 h2 h3 h4
theorem gi (eV:oX P cfg.pc) (uW:IY P cU) (hm:P.follows .mixedOrders=true) {root:Code} (gE:afX P cfg f root) {N:Nat} : ∀ (c:Code) (p:Nat),Sub root p c->codeOk N c=true->Vw P N c (lQ P cfg cU L f c p)
 | .skip,p,_,_=>by
  intro k r t A E B ρ base a w Q h ht hj hq;exact wp_skip (hq .normal t E A B ρ a w h ht rfl (.refl hj.k hj.s))
 | .ret,p,_,_=>by
  intro k r t A E B ρ base a w Q h ht hj hq;exact wp_ret (hq .ret t E A B ρ a w h ht rfl (.refl hj.k hj.s))
 | .exit id,p,_,_=>by
  intro k r t A E B ρ base a w Q h ht hj hq;exact wp_exit (hq (.exit id) t E A B ρ a w h ht rfl (.refl hj.k hj.s))
 | .label l,p,_,_=>by
  intro k r t A E B ρ base a w Q h ht hj hq;exact wp_label (hq .normal t E A B ρ a w h ht rfl (.refl hj.k hj.s))
 | .goto l,p,_,_=>by
  intro k r t A E B ρ base a w Q h ht hj hq;exact wp_goto (hq (.goto l) t E A B ρ a w h ht rfl (.refl hj.k hj.s))
 | .region id ops false,p,_,hc=>by
  intro k r t A E B ρ base a w Q h ht hj hq;have h:Sd P cfg cU ops.toList (fun t A=>k .normal t A) ops.toList t A=some r:=h;refine wp_region ?_;have:=IZ (Q:=Q) (base:=base) eV uW (N:=N) (all:=ops.toList) hc ops.toList 0 t E A B ρ a w (by simp) h ht hj fun t' E' A' B' ak a' w' h1 h2 h3 h4=>hq .normal t' E' A' B' ak a' w' h1 h2 h3 h4;rw [List.range_eq_range'];simpa using this
 | .region id ops true,p,_,hc=>by
  intro k r t A E B ρ base a w Q h ht hj hq;have h:UR P cfg cU ops.toList true (fun t A=>k .normal t A) t A=some r:=h;unfold UR at h;cases ho:abq P cfg ops.toList with
  | false=>
   rw [ho] at h;exact absurd h (by simp)
  | true=>
   rw [ho] at h;exact Xo (all:=ops.toList) eV hm hc ho h ht hj fun t' E' A' B' ak a' w' h1 h2 h3 h4=>hq .normal t' E' A' B' ak a' w' h1 h2 h3 h4
 | .seq x y,p,hs,hc=>by
  simp only [codeOk,aj] at hc;intro k r t A E B ρ base a w Q h ht hj hq;have h:lQ P cfg cU L f x (2 * p) (MJ k fun t A=>lQ P cfg cU L f y (2 * p+1) k t A) t A=some r:=h;refine wp_seq ?_;refine gi eV uW hm gE x (2 * p) hs.alN hc.1 _ r t A E B ρ base a w _ h ht hj fun e t' E' A' B' ak a' w' h1 h2 h3 h4=>?_;cases e with
  | normal=>
   have h1:lQ P cfg cU L f y (2 * p+1) k t' A' = some r:=h1;exact gi eV uW hm gE y (2 * p+1) hs.afW hc.2 k r t' A' E' B' ak base a' w' Q h1 h2 h4.kj fun e t'' I0 ZX I1 mG BB xP q1 q2 q3 q4=>hq e t'' I0 ZX I1 mG BB xP q1 q2 (q3.trans h3) (h4.trans q4)
  | exit id=>exact hq (.exit id) t' E' A' B' ak a' w' h1 h2 h3 h4
  | goto l=>exact hq (.goto l) t' E' A' B' ak a' w' h1 h2 h3 h4
  | ret=>exact hq .ret t' E' A' B' ak a' w' h1 h2 h3 h4
 | .cond c x y,p,hs,hc=>by
  simp only [codeOk,aj] at hc;intro k r t A E B ρ base a w Q h ht hj hq;have h:Zx t c (fun t=>lQ P cfg cU L f x (2 * p) k t A) (fun t=>lQ P cfg cU L f y (2 * p+1) k t A)=some r:=h;have key:∃ t',(∀ i,t'.get i=t.get i)/\((a.eval c = .bool true/\lQ P cfg cU L f x (2 * p) k t' A=some r)\/(a.eval c = .bool false/\lQ P cfg cU L f y (2 * p+1) k t' A=some r)):=by
   have l9:=ht.ev c;cases c with
   | tmp d=>
    have h:BK.rec (motive:=fun _=>Option R) (fun b=>Bool.rec (motive:=fun _=>Option R) (lQ P cfg cU L f y (2 * p+1) k (t.set (.bool false) d) A) (lQ P cfg cU L f x (2 * p) k (t.set (.bool true) d) A) b) none none (rl ((t.get d).getD .bz))=some r:=h;cases hb:rl ((t.get d).getD .bz) with
    | no=>rw [hb] at h; exact absurd h (by simp)
    | ng=>rw [hb] at h; exact absurd h (by simp)
    | bool b=>
     rw [hb] at h;have hbv:=zk hb;have l9:VC P E ρ ((t.get d).getD .bz) (a.eval (.tmp d)):=l9;rw [hbv] at l9;have:=l9.dr;refine ⟨t.set (.bool b) d,Gq hb,?_⟩;cases b
     ·exact .inr ⟨this,h⟩
     ·exact .inl ⟨this,h⟩
   | const v=>
    have h:BK.rec (motive:=fun _=>Option R) (fun b=>Bool.rec (motive:=fun _=>Option R) (lQ P cfg cU L f y (2 * p+1) k t A) (lQ P cfg cU L f x (2 * p) k t A) b) none none (rl (nR t (.const v)))=some r:=h;cases hb:rl (nR t (.const v)) with
    | no=>rw [hb] at h; exact absurd h (by simp)
    | ng=>rw [hb] at h; exact absurd h (by simp)
    | bool b=>
     rw [hb] at h;rw [zk hb] at l9;have:=l9.dr;refine ⟨t,fun _=>rfl,?_⟩;cases b
     ·exact .inr ⟨this,h⟩
     ·exact .inl ⟨this,h⟩
   | global g=>exact absurd h (by simp [Zx,nR,rl])
   | func g=>exact absurd h (by simp [Zx,nR,rl])
  obtain ⟨t',zF,h⟩:=key;have wh:=ht.same zF;rcases h with ⟨hb,h⟩ | ⟨hb,h⟩
  ·exact wp_cond_true hb (gi eV uW hm gE x (2 * p) hs.ajf hc.1 k r t' A E B ρ base a w Q h wh hj hq)
  ·exact wp_cond_false hb (gi eV uW hm gE y (2 * p+1) hs.ajg hc.2 k r t' A E B ρ base a w Q h wh hj hq)
 | .block id x,p,hs,hc=>by
  have hc:codeOk N x=true:=hc;intro k r t A E B ρ base a w Q h ht hj hq;have h:lQ P cfg cU L f x (2 * p) (afB id k) t A=some r:=h;refine wp_block ?_;refine gi eV uW hm gE x (2 * p) hs.block hc _ r t A E B ρ base a w _ h ht hj fun e t' E' A' B' ak a' w' h1 h2 h3 h4=>?_;cases e with
  | normal=>exact hq .normal t' E' A' B' ak a' w' h1 h2 h3 h4
  | exit oZ=>
   have h1:Bool.rec (motive:=fun _=>Option R) (k (.exit oZ) t' A') (k .normal t' A') (Nat.beq oZ id)=some r:=h1;cases hb:Nat.beq oZ id with
   | true=>
    rw [hb] at h1;have:=aD hb;simp only [aa.out,Exit.inBlock,ax this];exact hq .normal t' E' A' B' ak a' w' h1 h2 h3 h4
   | false=>
    rw [hb] at h1;have:=Nat.ne_of_beq_eq_false hb;simp only [aa.out,Exit.inBlock,ae this];exact hq (.exit oZ) t' E' A' B' ak a' w' h1 h2 h3 h4
  | goto l=>exact hq (.goto l) t' E' A' B' ak a' w' h1 h2 h3 h4
  | ret=>exact hq .ret t' E' A' B' ak a' w' h1 h2 h3 h4
 | .loop x,p,hs,hc=>by
  have hc:codeOk N x=true:=hc;intro k r t A E B ρ base a w Q h ht hj hq;have h:Option.rec (motive:=fun _=>bJ->ai->Option R) (QW (lQ P cfg cU L f x (2 * p)) k L) (fun F=>QY (lQ P cfg cU L f x (2 * p)) F k L) (cfg.lp f p) t A=some r:=h;cases hF:cfg.lp f p with
  | some F=>
   rw [hF] at h;exact wp_loop_rounds (gI+L) (Pf (gi eV uW hm gE x (2 * p) hs.loop hc) (gE.1 p F x hF hs N hc) L k r t A E B ρ base a w Q h ht hj hq)
  | none=>
   rw [hF] at h;exact wp_loop_rounds L (Pe (gi eV uW hm gE x (2 * p) hs.loop hc) L k r t A E B ρ base a w Q h ht hj hq)
 | .scope x,p,hs,hc=>by
  have hc:codeOk N x=true:=hc;intro k r t A E B ρ base a w Q h ht hj hq;have h:Option.rec (motive:=fun _=>bJ->ai->Option R) (lQ P cfg cU L f x (2 * p) (UT k)) (fun F=>lQ P cfg cU L f x (2 * p) (Zy (C4 x) F k)) (cfg.lp f p) t A=some r:=h;cases hF:cfg.lp f p with
  | none=>
   rw [hF] at h;refine wp_scope_straight ?_;refine gi eV uW hm gE x (2 * p) hs.scope hc _ r t A E B ρ base a w _ h ht hj fun e t' E' A' B' ak a' w' h1 h2 h3 h4=>?_;cases e with
   | normal=>exact hq .normal t' E' A' B' ak a' w' h1 h2 h3 h4
   | exit id=>exact hq (.exit id) t' E' A' B' ak a' w' h1 h2 h3 h4
   | goto l=>exact absurd h1 (by simp [UT])
   | ret=>exact hq .ret t' E' A' B' ak a' w' h1 h2 h3 h4
  | some F=>
   rw [hF] at h;have h:lQ P cfg cU L f x (2 * p) (Zy (C4 x) F k) t A=some r:=h;cases hl:C4 x with
   | none=>
    refine wp_scope_straight ?_;refine gi eV uW hm gE x (2 * p) hs.scope hc _ r t A E B ρ base a w _ h ht hj fun e t' E' A' B' ak a' w' h1 h2 h3 h4=>?_;rw [hl] at h1;cases e with
    | normal=>exact hq .normal t' E' A' B' ak a' w' h1 h2 h3 h4
    | exit id=>exact hq (.exit id) t' E' A' B' ak a' w' h1 h2 h3 h4
    | goto l=>exact absurd h1 (by simp [Zy])
    | ret=>exact hq .ret t' E' A' B' ak a' w' h1 h2 h3 h4
   | some l=>
    obtain ⟨rest,CG,amC⟩:=gE.2 p F x hF hs N hc l hl;refine Z0 CG ?_;refine gi eV uW hm gE x (2 * p) hs.scope hc _ r t A E B ρ base a w _ h ht hj fun e t' E' A' B' ak a' w' h1 h2 h3 h4=>?_;rw [hl] at h1;cases e with
    | normal=>exact hq .normal t' E' A' B' ak a' w' h1 h2 h3 h4
    | exit id=>exact hq (.exit id) t' E' A' B' ak a' w' h1 h2 h3 h4
    | goto l'=>
     have hx:Bool.rec (motive:=fun _=>Option R) none (pZ.run (QX k) (F t' A')) (Nat.beq l' l)=some r:=h1;cases hb:Nat.beq l' l with
     | false=>rw [hb] at hx; exact absurd hx (by simp)
     | true=>
      rw [hb] at hx;have hll:=aD hb;subst hll;have hx:pZ.run (QX k) (F t' A')=some r:=hx;refine ⟨rfl,amC R k r t' A' E' B' ak base a' w' Q hx h2 h4.kj fun e2 t2 E2 A2 B2 nv a2 w2 q1 q2 q3 q4=>?_⟩;exact hq e2 t2 E2 A2 B2 nv a2 w2 q1 q2 (q3.trans h3) (h4.trans q4)
    | ret=>exact hq .ret t' E' A' B' ak a' w' h1 h2 h3 h4
 | .rangeFunc ..,p,_,_ | .refuse _,p,_,_=>by
  intro k r t A E B ρ base a w Q h ht hj hq;exact absurd h (by simp [lQ])
end
theorem BR:∀ (l:List KV) (i k:Nat) (t:bJ),(lR l i t).get k=if i<=k/\k < i+l.length then l[k - i]? else t.get k
 | [],i,k,t=>by
  rw [lR,ae];simp
 | v::l,i,k,t=>by
  rw [lR,BR l (i+1) k,Trie.iX];by_cases h1:k=i
  ·subst h1
   rw [ae (by omega),ax rfl,ax (by simp)];simp
  ·by_cases h2:i+1<=k/\k < i+1+l.length
   ·rw [ax h2,ax (by simp; omega),show k - i=(k - (i+1))+1 by omega]
    simp
   ·rw [ae h2,ae h1,ae (by simp; omega)]
theorem zN {A:ai} {B:St} {base N:Nat} {w:World} {ρ:Ren} {t:bJ} {a:Act} (hj:KJ P E A B ρ base w) (ht:jB P E ρ t N a):∀ (rs:List ResultVar) (vs:List KV),EU P A t rs=some vs->
  ∃ bw,ny P E ρ vs bw/\(rs.mapM (F4 a)).run P w=Result.ok bw w
 | [],vs,h=>by simp [EU] at h; subst h; exact ⟨[],⟨[],.nil,.nil⟩,by simp⟩
 | .tmp x::rs,vs,h=>by
  simp only [EU] at h;obtain ⟨us,hu,rfl⟩:=aU.1 h;obtain ⟨Xd,⟨m,h1,h3⟩,h2⟩:=zN hj ht rs us hu;obtain ⟨u,h4,h5⟩:=ht.ev (.tmp x);refine ⟨_::Xd,⟨u::m,.cons h4 h1,.cons h5 h3⟩,?_⟩;simp [List.mapM_cons,h2,Act.eval,F4]
 | .cell x ty::rs,vs,h=>by
  simp only [EU] at h;split at h
  ·rename_i v hv
   obtain ⟨us,hu,rfl⟩:=aU.1 h;obtain ⟨Xd,⟨m,h1,h3⟩,h2⟩:=zN hj ht rs us hu;obtain ⟨u,h4,h5⟩:=ht.ev (.tmp x);have hg:aA (QO P ty A [nR t (.tmp x)]) v:=by rw [hv]; exact rfl
   obtain ⟨z,h6,h7⟩:=abE E A B _ _ v hj.k (.cons h4 .nil) hg;have h6:loadAt P ty B u=some z:=h6;obtain ⟨ad,h8,z',h9,qg⟩:=DE (P:=P) hj.s.rel h5 h6;refine ⟨z'::Xd,⟨z::m,.cons h7 h1,.cons h9 h3⟩,?_⟩;have h8:a.tmps.getD x undef = .pointer (some ad):=h8;simp only [List.mapM_cons,Sem.run_bind,F4,h8,asAddr,Sem.run_pure,fA,qg,h2]
  ·simp at h
theorem I5 {ρ:Ren} {vs:List KV} {bw:List Value} (h:ny P E ρ vs bw):VC P E ρ (BH vs) (if h:bw.toArray.size=1 then bw.toArray[0] else .tuple bw.toArray):=by
 obtain ⟨m,h1,h2⟩:=h
 match vs with
 | []=>
  rw [h1.bA] at h2;rw [h2.bA];exact ⟨_,.Q0 .nil,VR.mkTuple .nil⟩
 | [v]=>
  obtain ⟨u,rfl,h3⟩:=h1.dD;obtain ⟨y,ys,rfl,h4,h5⟩:=h2.cons_inv;rw [h5.bA];exact ⟨u,h3,h4⟩
 | v::v2::vs=>
  obtain ⟨u,us,rfl,h3,h4⟩:=h1.cons_inv;obtain ⟨u2,us2,rfl,h5,h6⟩:=h4.cons_inv;obtain ⟨y,ys,rfl,h7,h8⟩:=h2.cons_inv;obtain ⟨y2,ys2,rfl,h9,qg⟩:=h8.cons_inv;rw [dif_neg (by simp)];exact ⟨_,.Q0 (.cons h3 (.cons h5 h6)),VR.mkTuple (.cons h7 (.cons h9 qg))⟩
def Z1 (vs:List Value):Value:=if h:vs.toArray.size=1 then vs.toArray[0] else .tuple vs.toArray
theorem Gs {R:Type} {cfg:fV} {cU:rm R} (eV:oX P cfg.pc) (uW:IY P cU) (hm:P.follows .mixedOrders=true) (L:Nat) {f:FuncId} {fn:Func} {c:Code} (hf:P.funcs[f]? = some fn) (hb:fn.body=some c) (bM:codeOk fn.ntmps c=true) (gE:afX P cfg f c)
  {args:List KV} {A:ai} {k:List KV->ai->Option R} {r:R} (h:lQ P cfg cU L f c 1 (abr P fn k) (lR args 0 .leaf) A=some r) {E:Env} {B:St} {ρ:Ren} {bN:List Value} {base:Nat} {w:World} (hv:ny P E ρ args bN) (hj:KJ P E A B ρ base w) :
  Calls P f bN.toArray w fun e w'=>∃ vs bw E' A' B' ak,e = .returned (Z1 bw)/\ny P E' ak vs bw/\Ev P base E A B ρ w E' A' B' ak w'/\k vs A' = some r:=by
 refine calls_of_wp hf hb ?_;obtain ⟨ad9,zD,Mo⟩:=hv;have hlen:bN.length=args.length:=by rw [Mo.length,zD.length]
 have ht:jB P E ρ (lR args 0 .leaf) (max fn.ntmps args.length) { tmps:=bN.toArray++Array.replicate (fn.ntmps - bN.toArray.size) undef,defers:=[] }:=by
  have cT:(bN.toArray++Array.replicate (fn.ntmps - bN.toArray.size) undef).size=max fn.ntmps args.length:=by
   simp [hlen];omega
  refine ⟨cT,fun i=>?_,fun i hi=>?_⟩
  ·rw [BR]
   simp only [mc,true_and,bG,Nat.sub_zero,Trie.Bb];by_cases hi:i < args.length
   ·rw [ax hi]
    obtain ⟨u,hu⟩:∃ u,args[i]? = some u:=⟨_,cl hi⟩
    obtain ⟨m,h1,h2⟩:=zD.get hu;obtain ⟨u',h3,h4⟩:=Mo.get h1;rw [hu];have:(bN.toArray++Array.replicate (fn.ntmps - bN.toArray.size) undef).getD i undef=u':=by
     rw [dF,Array.getElem?_append_left (by simpa [hlen] using hi)];simp [h3]
    rw [this];exact ⟨m,h2,h4⟩
   ·rw [ae hi]
    exact VC.bz
  ·rw [BR,ae,Trie.Bb]
   simp only [mc,true_and,bG];have:=Nat.le_max_right fn.ntmps args.length;omega
 have R9:codeOk (max fn.ntmps args.length) c=true:=jw (Nat.le_max_left _ _) c bM;refine gi (L:=L) (f:=f) (N:=max fn.ntmps args.length) eV uW hm gE c 1 .root R9 _ r _ A E B ρ base _ w _ h ht hj fun e t' E' A' B' ak a' w' h1 h2 h3 h4=>?_;have fin:∀ vs,EU P A' t' fn.results.toList=some vs->k vs A' = some r->∀ e:aa,(e = .normal\/e = .ret)->bodyPost P fn (fun e w'=>∃ vs bw E' A' B' ak,e = .returned (Z1 bw)/\ny P E' ak vs bw/\Ev P base E A B ρ w E' A' B' ak w'/\k vs A' = some r) e.out a' w':=by
  intro vs hr hk e he;obtain ⟨bw,Ug,ky⟩:=zN (P:=P) h4.kj h2 _ _ hr;have C0:(results fn a'.tmps).run P w' = .ok (if h:bw.toArray.size=1 then bw.toArray[0] else .tuple bw.toArray) w':=by
   rw [Iv,Sem.run_bind,Array.mapM_eq_mapM_toList,Sem.run_map,ky];rfl
  have Vy:bodyPost P fn (fun e w'=>∃ vs bw E' A' B' ak,e = .returned (Z1 bw)/\ny P E' ak vs bw/\Ev P base E A B ρ w E' A' B' ak w'/\k vs A' = some r) .ret a' w':=by
   exact ⟨h3,_,C0,vs,bw,E',A',B',ak,rfl,Ug,h4,hk⟩
  rcases he with rfl | rfl
  ·exact Vy
  ·exact Vy
 cases e with
 | normal=>
  have h1:Option.rec (motive:=fun _=>Option R) none (fun vs=>k vs A') (EU P A' t' fn.results.toList)=some r:=h1;cases hr:EU P A' t' fn.results.toList with
  | none=>rw [hr] at h1; exact absurd h1 (by simp)
  | some vs=>rw [hr] at h1; exact fin vs hr h1 .normal (.inl rfl)
 | ret=>
  have h1:Option.rec (motive:=fun _=>Option R) none (fun vs=>k vs A') (EU P A' t' fn.results.toList)=some r:=h1;cases hr:EU P A' t' fn.results.toList with
  | none=>rw [hr] at h1; exact absurd h1 (by simp)
  | some vs=>rw [hr] at h1; exact fin vs hr h1 .ret (.inr rfl)
 | exit id=>exact absurd h1 (by simp [abr])
 | goto l=>exact absurd h1 (by simp [abr])
end Go.K
end
section
namespace Go.K
open Go Go.az
variable {P:Program} {E:Env}
def Yf (P:Program) (ac:FuncId->Option (List KV->ai->rj)):Prop:=∀ g F,ac g=some F->∀ {R:Type} (args:List KV) (A:ai) (k:KV->ai->Option R) (r:R),rj.run k (F args A)=some r->pq P g/\
 ∀ (E:Env) (B:St) (ρ:Ren) (base:Nat) (w:World) (bN:List Value),ny P E ρ args bN->KJ P E A B ρ base w->
  Calls P g bN.toArray w fun e w'=>∃ v v' E' A' B' ak,e = .returned v'/\VC P E' ak v v'/\Ev P base E A B ρ w E' A' B' ak w'/\k v A' = some r
theorem Yf.none {P:Program} : Yf P fun _=>.none:=fun g F h=>by simp at h
def pt (P:Program) (cfg:fV):Prop:=Yf P cfg.x.ac/\∀ f fn c,P.funcs[f]? = some fn->fn.body=some c->afX P cfg f c
theorem I6 {R:Type} {cfg:fV} {cU:rm R} {L:Nat} {f:FuncId} {args:List KV} {A:ai} {k:List KV->ai->Option R} {r:R} (hP:P.funcs.toList.all gh=true) (h:QZ P cfg cU L f args A k=some r) :
  ∃ fn c, P.funcs[f]? = some fn ∧ fn.body = some c ∧ codeOk fn.ntmps c = true ∧ (fn.name == "runtime.NumGoroutine") = false ∧ lQ P cfg cU L f c 1 (abr P fn k) (lR args 0 .leaf) A = some r := by
 unfold QZ at h;split at h
 ·rename_i fn hf
  split at h
  ·rename_i c hc
   have Tf:P.funcs[f]? = some fn:=by simpa using hf
   have bM:=dU.1 hP fn (eS hf);unfold gh at bM;rw [hc] at bM;simp only [aj,iy] at bM;exact ⟨fn,c,Tf,hc,bM.1,bM.2,h⟩
  ·simp at h
 ·simp at h
theorem oT {R:Type} {cfg:fV} (hP:P.funcs.toList.all gh=true) (hm:P.follows .mixedOrders=true) (eV:oX P cfg.pc) (gE:pt P cfg) (L:Nat):∀ n,IY (R:=R) P (AL P cfg L n)
 | 0=>fun f args A k r h=>absurd h (by simp [AL])
 | n+1=>fun f args A k r h=>by
  have h:Bool.rec (motive:=fun _=>Option R) none (Option.rec (motive:=fun _=>Option R) (QZ P cfg (AL P cfg L n) L f args A fun vs B=>k (BH vs) B) (fun F=>rj.run k (F args A)) (cfg.x.ac f)) (Nat.blt f yB)=some r:=h;cases hy:Nat.blt f yB with
  | false=>rw [hy] at h; exact absurd h (by simp)
  | true=>
   rw [hy] at h;cases Xp:cfg.x.ac f with
   | some F=>
    rw [Xp] at h;exact gE.1 f F Xp args A k r h
   | none=>
    rw [Xp] at h;have h:QZ P cfg (AL P cfg L n) L f args A (fun vs B=>k (BH vs) B)=some r:=h;obtain ⟨fn,c,hf,hc,bM,hnm,h⟩:=I6 hP h;refine ⟨⟨hy,fn,hf,by simp [hc],hnm⟩,fun E B ρ base w bN hv hj=>?_⟩;refine (Gs eV (oT hP hm eV gE L n) hm L hf hc bM (gE.2 f fn c hf hc) h hv hj).mono ?_;rintro e w' ⟨vs,bw,E',A',B',ak,rfl,h1,h2,h3⟩;exact ⟨BH vs,_,E',A',B',ak,rfl,I5 h1,h2,h3⟩
def Ti (E E0:Env):Prop:=∀ b r,E.z b=some r->∃ r0,E0.z b=some r0/\r0.aQ=r.aQ/\r0.cs=r.cs
theorem Ti.of {E E0:Env} (h:E0.z=E.z):Ti E E0:=fun b r e=>⟨r,by rw [h]; exact e,rfl,rfl⟩
mutual
theorem VK.zK {E0:Env} (hz:Ti E E0):∀ {v:KV} {u:Value} {c:CK},VK P E v u->kindOk c v=true->VK P E0 v u
 | .int k n,u,c,h,_=>h
 | .bool b,u,c,h,_=>h
 | .str s,u,c,h,_=>h
 | .ts T m n es acc,u,c,h,hk=>by
  cases c <;> simp [kindOk] at hk;rename_i t;cases m <;> simp at hk;obtain ⟨ht,aP,h1,a,cap,rfl,h2,h3,h4⟩:=h.jz;simp only [VK];refine ⟨ht,aP,aK.zEs hz h1 ht.typed,a,cap,rfl,h2,?_,trivial⟩;refine h3.imp id ?_;rintro ⟨b,off,r,e1,e2,e3⟩;obtain ⟨r0,q1,q2,q3⟩:=hz b r e2;exact ⟨b,off,r0,e1,q1,by rw [q2]; exact e3.1,by rw [q3]; exact e3.2⟩
 | .agg cs,u,c,h,hk=>by cases c <;> simp [kindOk] at hk
 | .ng cs,u,c,h,hk=>by cases c <;> simp [kindOk] at hk
 | .tp T Tc i k es acc,u,c,h,hk=>by cases c <;> simp [kindOk] at hk
 | .al T b o n,u,c,h,hk=>by cases c <;> simp [kindOk] at hk
 | .ap T Tc b i k,u,c,h,hk=>by cases c <;> simp [kindOk] at hk
 | .ptr b off,u,c,h,hk=>by cases c <;> simp [kindOk] at hk
 | .sl b off n cap,u,c,h,hk=>by cases c <;> simp [kindOk] at hk
 | .Al,u,c,h,hk=>by cases c <;> simp [kindOk] at hk
 | .jd,u,c,h,hk=>by cases c <;> simp [kindOk] at hk
 | .wk,u,c,h,hk=>by cases c <;> simp [kindOk] at hk
 | .map b,u,c,h,hk=>by cases c <;> simp [kindOk] at hk
 | .fn f a b,u,c,h,hk=>by cases c <;> simp [kindOk] at hk
 | .BF,u,c,h,hk=>by cases c <;> simp [kindOk] at hk
 | .iface t x,u,c,h,hk=>by cases c <;> simp [kindOk] at hk
 | .BG,u,c,h,hk=>by cases c <;> simp [kindOk] at hk
 | .bz,u,c,h,hk=>by cases c <;> simp [kindOk] at hk
theorem VK.zE {E0:Env} (hz:Ti E E0):∀ {v:KV} {u:Value} {l:Lay},VK P E v u->ca l v=true->VK P E0 v u
 | .int k n,u,l,h,_=>h
 | .bool b,u,l,h,_=>h
 | .str s,u,l,h,_=>h
 | .agg cs,u,l,h,hk=>by
  simp only [ca,aj] at hk;obtain ⟨m,rfl,h1⟩:=h.jr;exact .ns (aK.zKs hz h1 hk.2)
 | .ts T m n es acc,u,l,h,hk=>by
  have pd:∃ c,kindOk c (.ts T m n es acc)=true:=by
   simp only [ca,aj] at hk;cases nu:l.ks with
   | nil=>rw [nu] at hk; simp [au] at hk
   | cons c cs=>rw [nu] at hk; simp only [au,aj] at hk; exact ⟨c,hk.2.1⟩
  obtain ⟨c,hk⟩:=pd;cases c <;> simp [kindOk] at hk;rename_i t;cases m <;> simp at hk;obtain ⟨ht,aP,h1,a,cap,rfl,h2,h3,h4⟩:=h.jz;simp only [VK];refine ⟨ht,aP,aK.zEs hz h1 ht.typed,a,cap,rfl,h2,?_,trivial⟩;refine h3.imp id ?_;rintro ⟨b,off,r,e1,e2,e3⟩;obtain ⟨r0,q1,q2,q3⟩:=hz b r e2;exact ⟨b,off,r0,e1,q1,by rw [q2]; exact e3.1,by rw [q3]; exact e3.2⟩
 | .ng cs,u,l,h,hk=>by simp [ca] at hk
 | .tp T Tc i k es acc,u,l,h,hk=>by
  obtain ⟨h1,_⟩:=fp hk;cases nu:l.ks with
  | nil=>rw [nu] at h1; simp [KV.cells,au] at h1
  | cons c cs=>rw [nu] at h1; cases c <;> simp [KV.cells,au,kindOk] at h1
 | .al T b o n,u,l,h,hk=>by
  obtain ⟨h1,_⟩:=fp hk;cases nu:l.ks with
  | nil=>rw [nu] at h1; simp [KV.cells,au] at h1
  | cons c cs=>rw [nu] at h1; cases c <;> simp [KV.cells,au,kindOk] at h1
 | .ap T Tc b i k,u,l,h,hk=>by
  obtain ⟨h1,_⟩:=fp hk;cases nu:l.ks with
  | nil=>rw [nu] at h1; simp [KV.cells,au] at h1
  | cons c cs=>rw [nu] at h1; cases c <;> simp [KV.cells,au,kindOk] at h1
 | .ptr b off,u,l,h,hk=>by
  obtain ⟨h1,_⟩:=fp hk;cases nu:l.ks with
  | nil=>rw [nu] at h1; simp [KV.cells,au] at h1
  | cons c cs=>rw [nu] at h1; cases c <;> simp [KV.cells,au,kindOk] at h1
 | .sl b off n cap,u,l,h,hk=>by
  obtain ⟨h1,_⟩:=fp hk;cases nu:l.ks with
  | nil=>rw [nu] at h1; simp [KV.cells,au] at h1
  | cons c cs=>rw [nu] at h1; cases c <;> simp [KV.cells,au,kindOk] at h1
 | .Al,u,l,h,hk=>h
 | .jd,u,l,h,hk=>h
 | .wk,u,l,h,hk=>h
 | .map b,u,l,h,hk=>by
  obtain ⟨h1,_⟩:=fp hk;cases nu:l.ks with
  | nil=>rw [nu] at h1; simp [KV.cells,au] at h1
  | cons c cs=>rw [nu] at h1; cases c <;> simp [KV.cells,au,kindOk] at h1
 | .fn f a b,u,l,h,hk=>by
  obtain ⟨h1,_⟩:=fp hk;cases nu:l.ks with
  | nil=>rw [nu] at h1; simp [KV.cells,au] at h1
  | cons c cs=>rw [nu] at h1; cases c <;> simp [KV.cells,au,kindOk] at h1
 | .BF,u,l,h,hk=>h
 | .iface t x,u,l,h,hk=>by
  obtain ⟨h1,_⟩:=fp hk;cases nu:l.ks with
  | nil=>rw [nu] at h1; simp [KV.cells,au] at h1
  | cons c cs=>rw [nu] at h1; cases c <;> simp [KV.cells,au,kindOk] at h1
 | .BG,u,l,h,hk=>h
 | .bz,u,l,h,hk=>h
theorem aK.zKs {E0:Env} (hz:Ti E E0):∀ {vs:List KV} {us:List Value} {ks:List CK},aK P E vs us->au ks vs=true->aK P E0 vs us
 | [],us,ks,h,_=>by rw [h.bA]; exact .nil
 | v::vs,us,[],h,hk=>by simp [au] at hk
 | v::vs,us,c::ks,h,hk=>by
  simp only [au,aj] at hk;simp only [aK] at h ⊢;obtain ⟨y,ys,e,h1,h2⟩:=h;exact ⟨y,ys,e,VK.zK hz h1 hk.1,aK.zKs hz h2 hk.2⟩
theorem aK.zEs {E0:Env} (hz:Ti E E0):∀ {vs:List KV} {us:List Value} {l:Lay},aK P E vs us->dp l vs=true->aK P E0 vs us
 | [],us,l,h,_=>by rw [h.bA]; exact .nil
 | v::vs,us,l,h,hk=>by
  simp only [dp,aj] at hk;simp only [aK] at h ⊢;obtain ⟨y,ys,e,h1,h2⟩:=h;exact ⟨y,ys,e,VK.zE hz h1 hk.1,aK.zEs hz h2 hk.2⟩
end
theorem VK.ajh {E0:Env} (hz:Ti E E0) {c:CK} {v:KV} {u:Value} (h:VK P E v u):VK P E0 (K.kP c v) u:=by
 have hn:=h.kP (c:=c);cases hk:kindOk c (K.kP c v) with
 | true=>exact hn.zK hz hk
 | false=>
  have:K.kP c v = .bz:=by
   revert hk
   unfold K.kP;split
   ·intro hk; simp [kindOk] at hk
   ·rename_i t t' m n es acc
    cases hb:Nat.beq t t' with
    | false=>intro _; rfl
    | true=>intro hk; simp [kindOk] at hk
   ·cases hb:kindOk c v with
    | false=>intro _; rfl
    | true=>intro hk; rw [ah,hb] at hk; simp at hk
  rw [this];exact .qo
theorem aK.ab4 {E0:Env} (hz:Ti E E0):∀ {ks:List CK} {cs:List KV} {l:List Value},aK P E cs l->cs.length=ks.length->aK P E0 (K.wm ks cs) l
 | [],[],l,h,_=>by rw [h.bA]; exact .nil
 | [],_::_,_,_,e=>by simp at e
 | _::_,[],_,_,e=>by simp at e
 | c::ks,v::cs,l,h,e=>by
  obtain ⟨y,ys,rfl,h1,h2⟩:=h.cons_inv;exact .cons (h1.ajh hz) (aK.ab4 hz h2 (by simpa using e))
theorem VK.akQ {E0:Env} (hz:Ti E E0) {l:Lay} {v:KV} {u:Value} (h:VK P E v u):VK P E0 (K.dv l v) u:=by
 unfold K.dv;split
 ·rename_i cs
  obtain ⟨m,rfl,h1⟩:=h.jr;cases hb:(l.agg&&Nat.beq cs.length l.ks.length) with
  | false=>exact .qo
  | true=>
   simp only [aj] at hb;exact .ns (h1.ab4 hz (aD hb.2))
 ·cases l.agg with
  | true=>exact .qo
  | false=>
   rw [ay];split
   ·exact h.ajh hz
   ·exact .qo
theorem VK.amD {E0:Env} (hz:Ti E E0) {t:TypeId} {v:KV} {u:Value} (h:VK P E v u):VK P E0 (K.OU P t v) u:=by
 unfold K.OU;cases hb:ca (aH P t) (K.dv (aH P t) v) with
 | false=>exact .qo
 | true=>exact VK.gW _ hb (h.akQ hz)
theorem aK.Gu {E0:Env} (hz:Ti E E0):∀ {ts:List TypeId} {vs:List KV} {us:List Value},aK P E vs us->vs.length=ts.length->aK P E0 (normArgs P ts vs) us
 | [],[],us,h,_=>by rw [h.bA]; exact .nil
 | [],_::_,_,_,e=>by simp at e
 | _::_,[],_,_,e=>by simp at e
 | t::ts,v::vs,us,h,e=>by
  obtain ⟨y,ys,rfl,h1,h2⟩:=h.cons_inv;exact .cons (h1.amD hz) (aK.Gu hz h2 (by simpa using e))
theorem BS:∀ (ts:List TypeId) (vs:List KV),sQ P ts vs=normArgs P ts vs
 | [],vs=>by cases vs <;> rfl
 | t::ts,[]=>rfl
 | t::ts,v::vs=>by simp [sQ,normArgs,BS ts vs]
theorem EZ:∀ {ts:List TypeId} {vs:List KV},vs.length=ts.length->(normArgs P ts vs).length=ts.length
 | [],[],_=>rfl
 | [],_::_,e=>by simp at e
 | _::_,[],e=>by simp at e
 | t::ts,v::vs,e=>by simp [normArgs,EZ (ts:=ts) (vs:=vs) (by simpa using e)]
def Env.bare (E:Env):Env:={ E with κ:=fun _=>none,φ:=fun _=>none,α:=fun _=>none }
theorem du.bare {A:ai} {B:St} (h:du P E A B):du P E.bare .empty B where
 row b cs aQ hb:=by simp [ai.empty,ai.get] at hb
 aF b top sz hb:=by simp [ai.empty,ai.get] at hb
 z:=h.z
 apart b x e:=by simp [Env.bare] at e
 inj b c x e:=by simp [Env.bare] at e
 iA b c g _ _ _ _ _ _ e:=by simp [Env.bare] at e
 fT b x e:=by simp [Env.bare] at e
 ll b g e:=by simp [Env.bare] at e
 live b o hb:=by simp [ai.empty,ai.get] at hb
 eB b x e:=by simp [Env.bare] at e
 lT:=h.lT
 iQ b g e:=by simp [Env.bare] at e
 fresh:=h.fresh
 mem:=h.mem
 ar:=by
  have hn:∀ b v,¬ ai.empty.get b=some (.arr v):=fun b v hb=>by simp [ai.empty,ai.get] at hb
  exact ⟨fun b v hb=>(hn b v hb).elim,fun b v hb=>by simp [ai.empty,ai.get] at hb,fun x ⟨b,v,_,_,hb,_⟩=>(hn b v hb).elim,fun b c v u x L N L' N' hb=>(hn b v hb).elim,fun b c v u x y L N L' N' cs e own g k bX e' nN k' hb=>(hn b v hb).elim,fun b x e=>by simp [Env.bare] at e,fun b p e=>by simp [Env.bare] at e,fun b x L N e=>by simp [Env.bare] at e,fun b v x L N cs e own g k hb=>(hn b v hb).elim,fun b v hb=>(hn b v hb).elim⟩
theorem ab5 {x:Nat} : ¬ AR .empty E.bare x:=fun ⟨b,v,_,_,hb,_⟩=>by simp [ai.empty,ai.get] at hb
theorem ab6 {B:St} {g:Nat} : ¬ AF .empty E.bare B g:=fun ⟨b,v,_,_,_,_,_,_,_,hb,_⟩=>by simp [ai.empty,ai.get] at hb
theorem aji {B:St} {y:Nat} : ¬ AT .empty E.bare B y:=fun q=>q.elim ab5 fun ⟨_,q,_⟩=>ab6 q
theorem Ev.bare {base:Nat} {A A1:ai} {B B1:St} {ρ fC:Ren} {w w1:World} {E1:Env} (h:du P E A B) (l9:Ev P base E.bare .empty B ρ w E1 A1 B1 fC w1):Ev P base E A B ρ w { E with z:=E1.z } A B1 fC w1:=by
 have hle:E.le { E with z:=E1.z }:=⟨fun _ _ e=>e,fun _ _ e=>e,l9.le.z,fun _ _ e=>e⟩
 have Gv:∀ x,x < B.next->B1.get x=B.get x:=fun x hx=>l9.dj x hx (fun b e=>by simp [Env.bare] at e) aji;have kx:∀ g,g < B.next->B1.members g=B.members g:=fun g hg=>l9.nw g hg (fun b e=>by simp [Env.bare] at e) ab6;have fU:=l9.gD.next;have IM:∀ b r,E1.z b=some r->E.z b=some r\/B.next<=b:=fun b r e=>by
  rcases l9.qN b r e with e | e | e
  ·exact .inl e
  ·exact (ab5 e).elim
  ·exact .inr e
 have po:∀ y,AR A { E with z:=E1.z } y->AR A E y:=fun y q=>q;have alO:∀ g,AF A E B g->g < B.next:=fun g ⟨b,v,x,L,N,cs,e,own,k,h1,h2,h3⟩=>(h.ar.p0 b v x L N cs e own g k h1 h2 h3).1;have IX:∀ g,AF A { E with z:=E1.z } B1 g->AF A E B g:=fun g ⟨b,v,x,L,N,cs,e,own,k,h1,h2,h3⟩=>⟨b,v,x,L,N,cs,e,own,k,h1,h2,by rw [<- Gv x (h.ar.eB b x L N h2)]; exact h3⟩
 refine ⟨⟨?_,?_,l9.dI.z,?_,h.inj,h.iA,h.fT,h.ll,h.live,?_,l9.dI.lT,?_,l9.dI.fresh,l9.dI.mem,h.ar.dj hle (fun _=>rfl) (fun _ _ e=>e) (fun _ _ e=>e) (ao _) fU (fun x q=>Gv x (h.C7 q)) IM (fun _ _ e=>.inl e) (fun b g e=>.inl ⟨b,e⟩) (fun g q=>kx g (alO g q)) h.mem⟩,l9.gD,hle,ao _,fun x hx _ _=>Gv x hx,fun _ _ e=>.inl e,fun b r e=>(IM b r e).imp id .inr,fun _ _ e=>.inl ⟨_,e⟩,fun g hg _ _=>kx g hg,fun y q=>.inl (po y q),fun g q=>.inl (IX g q),l9.rJ,fun y q=>.inl (q.imp (po y) fun ⟨g,q1,q2⟩=>⟨g,IX g q1,by rw [<- kx g (alO g (IX g q1))]; exact q2⟩),l9.rows⟩
 ·intro b cs aQ hb
  obtain ⟨x,c,h1,h2,h3⟩:=h.row b cs aQ hb;exact ⟨x,c,h1,by rw [Gv x (h.eB b x h1)]; exact h2,h3.mono hle⟩
 ·intro b top sz hb
  rcases h.aF b top sz hb with h1 | ⟨g,h1,h2,h3⟩
  ·exact .inl h1
  ·have hg:=h.iQ b g h1
   refine .inr ⟨g,h1,h2,fun x hx cs e own f k hr=>?_⟩;rw [kx g hg] at hx;rw [Gv x (h.mem g x hx)] at hr;exact h3 x hx cs e own f k hr
 ·intro b x hb
  have hx:=h.eB b x hb;cases hz:E1.z x with
  | none=>rfl
  | some r=>
   rcases IM x r hz with e | e
   ·rw [h.apart b x hb] at e; simp at e
   ·omega
 ·intro b x hb; have:=h.eB b x hb; omega
 ·intro b g hb; have:=h.iQ b g hb; omega
theorem ajj {g:FuncId} {F:List KV->KR KV} (hy:Nat.blt g yB=true) (hP:P.funcs.toList.all gh=true) (hm:P.follows .mixedOrders=true)
  (h:∀ Z2 v,Z2.length=(bL P g).length->aA (F (normArgs P (bL P g) Z2)) v->∃ cfg L n,oX P cfg.pc/\pt P cfg/\x8 P cfg L n g (normArgs P (bL P g) Z2)=some v):cA P g F:=by
 intro args v hF hlen;obtain ⟨cfg,L,n,eV,gE,ky⟩:=h _ v hlen hF;have uW:=oT (R:=KV) hP hm eV gE L n;obtain ⟨fn,c,hf,hc,bM,hnm,ky⟩:=I6 hP ky;refine ⟨⟨hy,fn,hf,by simp [hc],hnm⟩,fun E A B ρ base w bN hv hj=>?_⟩;obtain ⟨ad9,zD,Mo⟩:=hv;have hv0:ny P E.bare ρ (normArgs P (bL P g) args) bN:=⟨ad9,aK.Gu (E:=E) (E0:=E.bare) (.of rfl) zD hlen,Mo⟩
 refine (Gs eV uW hm L hf hc bM (gE.2 g fn c hf hc) ky hv0 ⟨hj.k.bare,hj.s⟩).mono ?_;rintro e w' ⟨vs,bw,E0,A0,B1,fC,rfl,⟨m,h1,h1'⟩,h2,h3⟩;have h3:Bool.rec (motive:=fun _=>Option KV) none (some (BH (sQ P (ph P g) (xz A0 vs).1))) (Nat.beq vs.length (ph P g).length)=some v:=h3;obtain ⟨E1,hf1,h1⟩:=C8 h2.dI h1;have l9:=Ev.bare hj.k (h2.trans (hf1.ev (.refl h2.gD.dI)));cases hb:Nat.beq vs.length (ph P g).length with
 | false=>rw [hb] at h3; exact absurd h3 (by simp)
 | true=>
  rw [hb] at h3;have h3:some (BH (sQ P (ph P g) (xz A0 vs).1))=some v:=h3;simp only [aR] at h3;subst h3;refine ⟨_,_,B1,fC,rfl,I5 ⟨m,?_,h1'⟩,l9⟩;rw [BS];exact aK.Gu (E:=E1) (E0:={ E with z:=E1.z }) (.of rfl) h1 ((Gp A0 vs).trans (aD hb))
end Go.K
end
section
namespace Go.K
open Go Go.az
noncomputable section
inductive CD where
 | k (c:CK)
 | lit (v:KV)
 | aF (t:TypeId)
 | arr (t:TypeId)
 | ref (w:KV)
def Q9 (bs:List Nat) (v:KV):KV:=
 match v with
 | .ptr j o=>.ptr (bs.getD j 0) o
 | v=>v
def uy (bs:List Nat):List KV->List KV
 | []=>[]
 | v::vs=>Q9 bs v::uy bs vs
def inst (bs:List Nat) (v:KV):KV:=
 match v with
 | .ptr j o=>.ptr (bs.getD j 0) o
 | .fn f first cap=>.fn f (uy bs first) (uy bs cap)
 | v=>v
def isP (nr:Nat):KV->Bool
 | .ptr j _=>Nat.blt j nr
 | _=>false
def Vz (nr:Nat):List KV->Bool
 | []=>true
 | v::vs=>isP nr v&&Vz nr vs
def Ss (nr:Nat):KV->Bool
 | .ptr j _=>Nat.blt j nr
 | .fn (.func _) first cap=>Vz nr first&&Vz nr cap
 | _=>false
def eqP:KV->KV->Bool
 | .ptr a o,.ptr b q=>Nat.beq a b&&Nat.beq o q
 | _,_=>false
def VA:List KV->List KV->Bool
 | [],[]=>true
 | v::vs,u::us=>eqP v u&&VA vs us
 | _,_=>false
def I7:KV->KV->Bool
 | .ptr a o,.ptr b q=>Nat.beq a b&&Nat.beq o q
 | .fn (.func f) a b,.fn (.func g) c d=>Nat.beq f g&&VA a c&&VA b d
 | _,_=>false
def sf:KV->KV->Bool
 | .fn (.func f) [] [],.fn (.func g) [] []=>Nat.beq f g
 | .Al,.Al=>true
 | .jd,.jd=>true
 | .wk,.wk=>true
 | .BF,.BF=>true
 | .BG,.BG=>true
 | _,_=>false
def I8 (A:ai) (t:TypeId) (v:KV):KV:=
 match v with
 | .jd=>.ts t .any 0 [] mJ
 | .al t' b o _=>match A.get b with
  | some (.arr (.ts t2 _ N es acc))=>cond (Nat.beq t t'&&Nat.beq t t2&&Nat.beq o 0) (.ts t .any N es acc) .bz
  | _=>.bz
 | _=>.bz
def dX (P:Program) (A:ai) (d:CD) (v:KV):KV:=
 match d with
 | .k c=>cond (kindOk c (kP c v)) (bU P df (leaf c (kP c v))) .bz
 | .lit w=>cond (sf w v) w .bz
 | .aF t=>match v with
  | .jd=>bU P df (.ts t .any 0 [] mJ)
  | .ts t' (.aF _) n es acc=>cond (Nat.beq t t') (bU P df (.ts t .any n es acc)) .bz
  | _=>.bz
 | .arr t=>bU P df (I8 A t v)
 | .ref w=>w
def dY (P:Program) (A:ai):List CD->List KV->List KV
 | d::ds,v::vs=>dX P A d v::dY P A ds vs
 | _,_=>[]
def hX (d:CD) (v:KV):Bool:=
 match d with
 | .k c=>kindOk c v
 | .lit w=>sf w v
 | .aF t=>kindOk (.slice t) v
 | .arr t=>kindOk (.slice t) v
 | .ref w=>I7 w v
def cK:List CD->List KV->Bool
 | [],[]=>true
 | d::ds,v::vs=>hX d v&&cK ds vs
 | _,_=>false
structure VD where
 agg:Bool
 ks:List CD
def rL (P:Program) (A:ai) (d:VD) (v:KV):KV:=
 match v with
 | .agg cs=>cond (d.agg&&Nat.beq cs.length d.ks.length) (.agg (dY P A d.ks cs)) .bz
 | v=>cond d.agg .bz (match d.ks with
  | [c]=>dX P A c v
  | _=>.bz)
def sS (d:VD) (v:KV):Bool:=
 match v with
 | .agg cs=>d.agg&&cK d.ks cs
 | v=>!d.agg&&cK d.ks [v]
structure aB where
 dh:List (Tmp×VD)
 rows:List (Tmp×List CD×Nat)
 Pg:List (Tmp×Nat×Nat)
def valOf (t:bJ) (i:Tmp):KV:=(t.get i).getD .bz
def lq (P:Program) (t:bJ) (A:ai):List (Tmp×VD)->List KV
 | []=>[]
 | p::ps=>rL P A p.2 (valOf t p.1)::lq P t A ps
def dZ:List (Tmp×VD)->List KV->Bool
 | [],[]=>true
 | p::ps,v::vs=>sS p.2 v&&dZ ps vs
 | _,_=>false
def alP:Option KV->Option Nat
 | some (.ptr b _)=>some b
 | _=>none
def anQ (t:bJ) (i:Nat):Option Nat:=
 cond (Nat.blt i 100000) (alP (t.get i)) (match t.get (i % 100000) with
  | some (.fn _ first cap)=>alP (X3 (i / 100000 - 1) (first++cap))
  | _=>none)
def rowOf (t:bJ) (A:ai) (p:Tmp×List CD×Nat):Option (Nat×List KV):=
 match anQ t p.1 with
 | some b=>match A.get b with
  | some (.row cs e)=>cond (Nat.beq e p.2.2&&Nat.beq cs.length p.2.1.length) (some (b,cs)) none
  | _=>none
 | _=>none
def afY (t:bJ) (A:ai) (p:Tmp×List CD×Nat):Nat:=((rowOf t A p).getD (0,[])).1
def BT (t:bJ) (A:ai) (p:Tmp×List CD×Nat):List KV:=((rowOf t A p).getD (0,[])).2
def uX (t:bJ) (A:ai):List (Tmp×List CD×Nat)->List Nat
 | []=>[]
 | p::ps=>afY t A p::uX t A ps
def DW (P:Program) (t:bJ) (A:ai):List (Tmp×List CD×Nat)->List (List KV)
 | []=>[]
 | p::ps=>dY P A p.2.1 (BT t A p)::DW P t A ps
def uz (P:Program) (t:bJ) (A:ai):List (Tmp×List CD×Nat)->Bool
 | []=>true
 | p::ps=>(rowOf t A p).isSome&&(cK p.2.1 (dY P A p.2.1 (BT t A p))&&uz P t A ps)
def ajk (v:Option KV) (b:Option Nat) (off:Nat):Bool:=
 match v,b with
 | some (.ptr b o),some b'=>Nat.beq o off&&Nat.beq b b'
 | _,_=>false
def Z3 (v w:Option KV):Bool:=
 match v,w with
 | some (.al T b o n),some (.al T' b' o' n')=>Nat.beq T T'&&Nat.beq b b'&&Nat.beq o o'&&Nat.beq n n'
 | _,_=>false
def zO (p:Tmp×Nat×Nat):Bool:=Nat.blt p.2.1 1000000
def Kl (t:bJ) (bs:List Nat):List (Tmp×Nat×Nat)->Bool
 | []=>true
 | p::ps=>cond (zO p) (ajk (t.get p.1) bs[p.2.1]? p.2.2) (Z3 (t.get p.1) (t.get (p.2.1 - 1000000)))&&Kl t bs ps
def sU:List Nat->Bool
 | []=>true
 | b::bs=>bs.all (fun c=>!Nat.beq b c)&&sU bs
structure FI where
 ok:Bool
 f:Option Nat
 fm:Bool
def szL (P:Program) (t:TypeId):Nat:=(aH P t).ks.length
def qq (P:Program) (A:ai) (t:TypeId) (v:KV):FI:=
 match v with
 | .jd=>⟨true,none,true⟩
 | .ts _ (.aF f) n _ _=>match A.get f with
  | some (.aF top sz)=>⟨cond (Nat.beq sz (szL P t)) (ck top n) false,some f,true⟩
  | _=>⟨false,none,true⟩
 | _=>⟨false,none,true⟩
def DX (P:Program) (A:ai) (t:TypeId) (v:KV):FI:=
 match v with
 | .jd=>⟨Nat.ble 1 (szL P t),none,false⟩
 | .al _ b _ n=>match A.get b with
  | some (.arr (.ts _ _ N _ _))=>⟨ck N n,some b,false⟩
  | _=>⟨false,none,false⟩
 | _=>⟨false,none,false⟩
def uY:Option gG->Bool
 | some (.aF _ _)=>true
 | _=>false
theorem Yg (P:Program) (A:ai) (t:TypeId) (v:KV):(qq P A t v).fm=true:=by
 unfold qq;split
 ·rfl
 ·split <;> rfl
 ·rfl
theorem ahl (P:Program) (A:ai) (t:TypeId) (v:KV):(DX P A t v).fm=false:=by
 unfold DX;split
 ·rfl
 ·split <;> rfl
 ·rfl
theorem ahm {P:Program} {A:ai} {t:TypeId} {v:KV} {x:Nat} (h:(qq P A t v).f=some x):uY (A.get x)=true:=by
 unfold qq at h;split at h
 ·simp at h
 ·split at h
  ·rename_i e; simp at h; subst h; rw [e]; rfl
  ·simp at h
 ·simp at h
def jE (P:Program) (A:ai):List CD->List KV->List FI
 | .aF t::ds,v::vs=>qq P A t v::jE P A ds vs
 | .arr t::ds,v::vs=>DX P A t v::jE P A ds vs
 | _::ds,_::vs=>jE P A ds vs
 | _,_=>[]
def yc (P:Program) (t:bJ) (A:ai):List (Tmp×VD)->List FI
 | []=>[]
 | p::ps=>jE P A p.2.ks (valOf t p.1).cells++yc P t A ps
def BU (P:Program) (t:bJ) (A:ai):List (Tmp×List CD×Nat)->List FI
 | []=>[]
 | p::ps=>jE P A p.2.1 (BT t A p)++BU P t A ps
def Ra:List FI->Bool
 | []=>true
 | x::xs=>cond (Ra xs) x.ok false
def Gw:List FI->List (Option Nat)
 | []=>[]
 | x::xs=>x.f::Gw xs
def iq:List (Option Nat)->List Nat
 | []=>[]
 | some f::xs=>f::iq xs
 | none::xs=>iq xs
def zP (nr:Nat) (bs:List Nat):List CD->List KV->Bool
 | .ref w::ds,v::vs=>Ss nr w&&(I7 (inst bs w) v&&zP nr bs ds vs)
 | _::ds,_::vs=>zP nr bs ds vs
 | _,_=>true
def DY (nr:Nat) (bs:List Nat) (t:bJ):List (Tmp×VD)->Bool
 | []=>true
 | p::ps=>zP nr bs p.2.ks (valOf t p.1).cells&&DY nr bs t ps
def Rb (nr:Nat) (bs:List Nat) (t:bJ) (A:ai):List (Tmp×List CD×Nat)->Bool
 | []=>true
 | p::ps=>zP nr bs p.2.1 (BT t A p)&&Rb nr bs t A ps
structure GR where
 ok:Bool
 bs:List Nat
 fs:List (Option Nat)
 vs:List KV
 rs:List (List KV)
def aB.KO (S:aB) (P:Program) (t:bJ) (A:ai):List FI:=yc P t A S.dh++BU P t A S.rows
def aB.cQ (S:aB) (P:Program) (t:bJ) (A:ai):GR:=
 ⟨cond (uz P t A S.rows&&sU (uX t A S.rows)&&Kl t (uX t A S.rows) S.Pg&&dZ S.dh (lq P t A S.dh)&&sU (iq (Gw (S.KO P t A)))&&DY S.rows.length (uX t A S.rows) t S.dh&&Rb S.rows.length (uX t A S.rows) t A S.rows) (Ra (S.KO P t A)) false,
  uX t A S.rows,Gw (S.KO P t A),lq P t A S.dh,DW P t A S.rows⟩
def Gx (j:Nat) (v:KV):KV:=
 match v with
 | .ts t _ n es acc=>.ts t (.aF j) n es acc
 | v=>v
def Km (j:Nat) (v:KV):KV:=
 match v with
 | .ts t _ n _ _=>.al t j 0 n
 | v=>v
def ov:List CD->Nat
 | []=>0
 | .aF _::ds=>Nat.succ (ov ds)
 | .arr _::ds=>Nat.succ (ov ds)
 | _::ds=>ov ds
def nT (j:Nat) (bs:List Nat):List CD->List KV->List KV
 | .aF _::ds,v::vs=>Gx j v::nT (Nat.succ j) bs ds vs
 | .arr _::ds,v::vs=>Km j v::nT (Nat.succ j) bs ds vs
 | .ref w::ds,_::vs=>inst bs w::nT j bs ds vs
 | _::ds,v::vs=>v::nT j bs ds vs
 | _,_=>[]
def Su (j:Nat) (bs:List Nat) (d:VD) (v:KV):KV:=
 match v with
 | .agg cs=>.agg (nT j bs d.ks cs)
 | v=>match d.ks with
  | [.aF _]=>Gx j v
  | [.arr _]=>Km j v
  | [.ref w]=>inst bs w
  | _=>v
def Hf (j:Nat) (bs:List Nat):List (Tmp×VD)->List KV->List (Nat×KV)
 | p::ps,v::vs=>(p.1,Su j bs p.2 v)::Hf (j+ov p.2.ks) bs ps vs
 | _,_=>[]
def lr:List (Tmp×VD)->Nat
 | []=>0
 | p::ps=>ov p.2.ks+lr ps
def Sv (j:Nat) (bs:List Nat):List (Tmp×List CD×Nat)->List (List KV)->List (List KV)
 | p::ps,r::rs=>nT j bs p.2.1 r::Sv (j+ov p.2.1) bs ps rs
 | _,_=>[]
def lW (P:Program):List CD->List KV->List gG
 | .aF t::ds,v::vs=>.aF (lenOf v) (szL P t)::lW P ds vs
 | .arr _::ds,v::vs=>.arr v::lW P ds vs
 | _::ds,_::vs=>lW P ds vs
 | _,_=>[]
def wH (P:Program):List (Tmp×VD)->List KV->List gG
 | p::ps,v::vs=>lW P p.2.ks v.cells++wH P ps vs
 | _,_=>[]
def yd (P:Program):List (Tmp×List CD×Nat)->List (List KV)->List gG
 | p::ps,r::rs=>lW P p.2.1 r++yd P ps rs
 | _,_=>[]
def aB.lens (S:aB) (P:Program) (vs:List KV) (rs:List (List KV)):List gG:=wH P S.dh vs++yd P S.rows rs
def sX (bs:List Nat):List (Tmp×Nat×Nat)->List (Nat×KV)
 | []=>[]
 | p::ps=>cond (zO p) ((p.1,.ptr (bs.getD p.2.1 0) p.2.2)::sX bs ps) (sX bs ps)
def M5 (l:List (Nat×KV)) (i:Nat):KV:=((gH l).get i).getD .bz
def Gy (l:List (Nat×KV)):List (Tmp×Nat×Nat)->List (Nat×KV)
 | []=>[]
 | p::ps=>cond (zO p) (Gy l ps) ((p.1,M5 l (p.2.1 - 1000000))::Gy l ps)
def aB.prs (S:aB) (fb:Nat) (bs:List Nat) (vs:List KV):List (Nat×KV):=Hf fb bs S.dh vs++(sX bs S.Pg++Gy (Hf fb bs S.dh vs) S.Pg)
def aB.tm (S:aB) (fb:Nat) (bs:List Nat) (vs:List KV):bJ:=gH (S.prs fb bs vs)
def aB.BV (S:aB) (fb:Nat) (bs:List Nat) (rs:List (List KV)):List (List KV):=Sv (fb+lr S.dh) bs S.rows rs
def pw (A:ai):List gG->ai
 | []=>A
 | p::ps=>pw (A.new p) ps
def uZ (A:ai):List (Option Nat)->ai
 | []=>A
 | some f::fs=>uZ (A.put f .dead) fs
 | none::fs=>uZ A fs
def mj (A:ai):List Nat->List (Tmp×List CD×Nat)->List (List KV)->ai
 | b::bs,p::ps,r::rs=>mj (A.put b (.row r p.2.2)) bs ps rs
 | _,_,_=>A
def aB.back (S:aB) (P:Program) (bs:List Nat) (fs:List (Option Nat)) (vs:List KV) (rs:List (List KV)) (A:ai):ai:=
 pw (uZ (mj A bs S.rows (S.BV A.next bs rs)) fs) (S.lens P vs rs)
def ow (A:ai):List (Tmp×List CD×Nat)->List (List KV)->ai
 | p::ps,r::rs=>ow (A.new (.row r p.2.2)) ps rs
 | _,_=>A
def aB.nr (S:aB):Nat:=S.rows.length
def upto:Nat->List Nat->List Nat
 | 0,l=>l
 | n+1,l=>upto n (n::l)
def aB.ids (S:aB):List Nat:=upto S.rows.length []
def aB.mem (S:aB) (P:Program) (vs:List KV) (rs:List (List KV)):ai:=pw (ow .empty S.rows (S.BV S.nr S.ids rs)) (S.lens P vs rs)
def px:List Nat->List Nat->Bool
 | [],[]=>true
 | a::aow,b::bs=>Nat.beq a b&&px aow bs
 | _,_=>false
def wI (P:Program) (cfg:fV) (L n:Nat) (f:FuncId) (p:Nat) (body:Code) (S:aB) (vs:List KV) (rs:List (List KV)):Option (aa×List KV×List (List KV)):=
 lQ P cfg (AL P cfg L n) L f body (2 * p) (fun e t A=>
  Bool.rec (motive:=fun _=>Option (aa×List KV×List (List KV))) none (some (e,(S.cQ P t A).vs,(S.cQ P t A).rs)) (cond (px (S.cQ P t A).bs S.ids) (S.cQ P t A).ok false)) (S.tm S.nr S.ids vs) (S.mem P vs rs)
def lu:aa->Bool
 | .normal=>true
 | _=>false
def py (rd:List KV->List (List KV)->Option (aa×List KV×List (List KV))):Nat->List KV->List (List KV)->Option (aa×List KV×List (List KV))
 | 0,_,_=>none
 | n+1,vs,rs=>match rd vs rs with
  | some (e,bw,gF)=>cond (lu e) (py rd n bw gF) (some (e,bw,gF))
  | none=>none
inductive qt where
 | no
 | out (e:aa) (vs:List KV) (rs:List (List KV))
 | br (c:Bool) (x y:qt)
def qt.ev:qt->Option (aa×List KV×List (List KV))
 | .no=>none
 | .out e vs rs=>some (e,vs,rs)
 | .br c x y=>cond c x.ev y.ev
def qt.tell (P:Program) (S:aB) (bs:List Nat) (fs:List (Option Nat)) (A:ai):qt->pZ
 | .no=>.no
 | .out e vs rs=>.out e (S.tm A.next bs vs) (S.back P bs fs vs rs A)
 | .br c x y=>.br c (x.tell P S bs fs A) (y.tell P S bs fs A)
abbrev Z4:=List KV->List (List KV)->qt
def isExact (v:KV):Bool:=
 match v with
 | .ts _ .exact _ _ _=>true
 | _=>false
def Ph:List CD->List KV->Bool
 | .aF _::ds,v::vs=>isExact v||Ph ds vs
 | .arr _::ds,v::vs=>isExact v||Ph ds vs
 | _::ds,_::vs=>Ph ds vs
 | _,_=>false
def afZ (t:bJ):List (Tmp×VD)->Bool
 | []=>false
 | p::ps=>Ph p.2.ks (valOf t p.1).cells||afZ t ps
def af0 (t:bJ) (A:ai):List (Tmp×List CD×Nat)->Bool
 | []=>false
 | p::ps=>Ph p.2.1 (BT t A p)||af0 t A ps
def aB.ajl (S:aB) (t:bJ) (A:ai):Bool:=afZ t S.dh||af0 t A S.rows
def Pj (P:Program) (S:aB) (F:Z4):bJ->ai->pZ:=fun t A=>
 cond (S.ajl t A) .once <| .br (S.cQ P t A).ok ((F (S.cQ P t A).vs (S.cQ P t A).rs).tell P S (S.cQ P t A).bs (S.cQ P t A).fs A) .no
end
end Go.K
end
section
namespace Go.K
open Go Go.az
variable {P:Program} {E:Env}
theorem Yh {w v:KV} (h:sf w v=true):v=w:=by
 unfold sf at h;split at h <;> simp at h
 ·rename_i f g; rw [h]
 all_goals rfl
theorem aea {w v:KV} (h:sf w v=true) {E0:Env} {u:Value} (k:VK P E v u):VK P E0 v u:=by
 have:=Yh h;subst this;unfold sf at h;split at h <;> try (simp at h)
 ·obtain ⟨l,m,rfl,h1,h2⟩:=k.Ga
  rw [h1.bA,h2.bA];exact .abw .nil .nil
 all_goals exact k
theorem VK.mix {T:TypeId} {m m' : Mk} {n:Nat} {es mu:List KV} {acc fa:Nat->KV} {u:Value} (h:VK P E (.ts T m n es acc) u) (k:VK P E (.ts T m' n mu fa) u):VK P E (.ts T m n mu fa) u:=by
 obtain ⟨_,aP,_,a,cap,rfl,h2,_,h4⟩:=h.jz;obtain ⟨ht,anR,k1,a',Uk,e,_,k3,_⟩:=k.jz;simp only [Value.slice.injEq] at e;obtain ⟨rfl,_,rfl⟩:=e;simp only [VK];exact ⟨ht,anR,k1,a,cap,rfl,h2,k3,h4⟩
theorem VK.swap {E0:Env} (hz:E0.z=E.z) {T:TypeId} {m m' : Mk} {n:Nat} {es:List KV} {acc:Nat->KV} {u:Value} (h:VK P E (.ts T m n es acc) u) (hm:∀ sz a cap,u = .slice a n cap->Kf E sz a n cap m->Kf E0 sz a n cap m'):VK P E0 (.ts T m' n es acc) u:=by
 obtain ⟨ht,aP,h1,a,cap,rfl,h2,h3,h4⟩:=h.jz;simp only [VK];refine ⟨ht,aP,aK.zEs (.of hz) h1 ht.typed,a,cap,rfl,h2,?_,hm _ _ _ rfl h4⟩;refine h3.imp id ?_;rintro ⟨b,off,r,e1,e2,e3⟩;exact ⟨b,off,r,e1,by rw [hz]; exact e2,e3⟩
theorem M6 (t:TypeId) (m:Mk) (n:Nat) (es:List KV) (acc:Nat->KV):∃ mu fa,bU P df (.ts t m n es acc) = .ts t .any n mu fa:=⟨_,_,rfl⟩
theorem aeb {c:CK} {v:KV} (h:kindOk c v=true):leaf c v=v:=by
 cases c <;> cases v <;> simp [kindOk] at h
 ·subst h; rfl
 ·rfl
 ·rfl
 ·rename_i t t' m n es acc
  cases m <;> simp at h;subst h; rfl
theorem VK.nCD {A:ai} {d:CD} {v:KV} {u:Value} (h:VK P E v u) (hd:∀ w,d≠.ref w) (ha:∀ t,d≠.arr t):VK P E (dX P A d v) u:=by
 cases d with
 | ref w=>exact absurd rfl (hd w)
 | arr t=>exact absurd rfl (ha t)
 | k c=>
  show VK P E (cond (kindOk c (K.kP c v)) (K.bU P df (leaf c (K.kP c v))) .bz) u;cases hb:kindOk c (K.kP c v) with
  | false=>exact .qo
  | true=>
   rw [ah,aeb hb];exact VK.bU _ h.kP
 | lit w=>
  show VK P E (cond (sf w v) w .bz) u;cases hb:sf w v with
  | true=>rw [Yh hb] at h; exact h
  | false=>exact .qo
 | aF t=>
  unfold dX;cases v with
  | jd=>have:=h.mw; subst this; exact VK.bU _ .adX
  | ts t' m n es acc=>
   cases m with
   | aF f=>
    show VK P E (cond (Nat.beq t t') _ .bz) u;cases hb:Nat.beq t t' with
    | false=>exact .qo
    | true=>
     have:=aD hb;subst this;exact VK.bU df h.aiY
   | _=>exact .qo
  | _=>exact .qo
def Lk (E E0:Env) (f:Option Nat) (j:Nat):Prop:=∀ x g,f=some x->E.φ x=some g->E0.φ j=some g
theorem VK.af1 {E0:Env} (hz:E0.z=E.z) {A:ai} {t:TypeId} {v:KV} {u:Value} {j:Nat} (h:VK P E v u) (hg:hX (.aF t) (dX P A (.aF t) v)=true) (hl:Lk E E0 (qq P A t v).f j) (bM:(qq P A t v).ok=true):VK P E0 (Gx j (dX P A (.aF t) v)) u:=by
 cases v with
 | jd=>
  have:=h.mw; subst this;have h1:VK P E (K.bU P df (.ts t .any 0 [] mJ)) (.slice none 0 0):=VK.bU _ .adX;obtain ⟨mu,fa,e⟩:=M6 (P:=P) t .any 0 [] mJ;show VK P E0 (Gx j (K.bU P df (.ts t .any 0 [] mJ))) _;rw [e] at h1 ⊢;exact h1.swap hz fun sz a cap he _=>by
   simp only [Value.slice.injEq] at he;obtain ⟨rfl,_,rfl⟩:=he;exact ⟨rfl,.inl ⟨rfl,rfl⟩⟩
 | ts t' m n es acc=>
  cases m with
  | aF f=>
   have e1:dX P A (.aF t) (.ts t' (.aF f) n es acc)=cond (Nat.beq t t') (K.bU P df (.ts t .any n es acc)) .bz:=rfl;rw [e1] at hg ⊢;cases hb:Nat.beq t t' with
   | false=>rw [hb] at hg; simp [hX,kindOk] at hg
   | true=>
    have:=aD hb;subst this;have h1:=VK.bU (P:=P) df h.aiY;obtain ⟨mu,fa,e⟩:=M6 (P:=P) t .any n es acc;rw [ah,e];rw [e] at h1;have hf:(qq P A t (.ts t (.aF f) n es acc)).f=some f:=by
     revert bM
     unfold qq;simp only;split
     ·intro _; rfl
     ·intro bM; simp at bM
    exact (h.mix h1).swap hz fun sz a cap he hm=>by
     refine ⟨hm.1,hm.2.imp id ?_⟩;rintro ⟨b,r,g,q1,q2,q3,q4,q5⟩;exact ⟨b,r,g,q1,by rw [hz]; exact q2,q3,hl f g hf q4,q5⟩
  | any=>simp [qq] at bM
  | exact=>simp [qq] at bM
 | _=>simp [qq] at bM
def La (E E0:Env) (f:Option Nat) (j:Nat):Prop:=∀ x p,f=some x->E.α x=some p->E0.α j=some p
theorem aec:K.bU P df .bz = .bz:=rfl
theorem Rc {A:ai} {t:TypeId} {v:KV} (hg:hX (.arr t) (dX P A (.arr t) v)=true):v = .jd\/∃ b n m N es acc,v = .al t b 0 n/\A.get b=some (.arr (.ts t m N es acc))/\dX P A (.arr t) v=K.bU P df (.ts t .any N es acc):=by
 have hu:∀ w,w=KV.bz->hX (.arr t) (K.bU P df w)=false:=fun w e=>by rw [e]; rfl
 have hg:hX (.arr t) (K.bU P df (I8 A t v))=true:=hg;have e0:dX P A (.arr t) v=K.bU P df (I8 A t v):=rfl;rw [e0];cases v with
 | jd=>exact .inl rfl
 | al t' b o n=>
  have e1:I8 A t (.al t' b o n)=(match A.get b with
   | some (.arr (.ts t2 _ N es acc))=>cond (Nat.beq t t'&&Nat.beq t t2&&Nat.beq o 0) (.ts t .any N es acc) .bz
   | _=>.bz):=rfl
  rw [e1] at hg ⊢;split at hg
  ·rename_i t2 m N es acc hb
   cases hc:(Nat.beq t t'&&Nat.beq t t2&&Nat.beq o 0) with
   | false=>rw [hc,ay,hu _ rfl] at hg; simp at hg
   | true=>
    simp only [aj] at hc;have:=aD hc.1.1;subst this;have:=aD hc.1.2;subst this;have:=aD hc.2;subst this;refine .inr ⟨b,n,m,N,es,acc,rfl,hb,?_⟩;rw [ah]
  ·rw [hu _ rfl] at hg; simp at hg
 | _=>exact absurd (hg.symm.trans (hu _ rfl)) (by simp)
theorem VK.ajm {E0:Env} {A:ai} {t:TypeId} {v:KV} {u:Value} {j:Nat} (h:VK P E v u) (hg:hX (.arr t) (dX P A (.arr t) v)=true) (hl:La E E0 (DX P A t v).f j) (bM:(DX P A t v).ok=true):VK P E0 (Km j (dX P A (.arr t) v)) u:=by
 rcases Rc hg with rfl | ⟨b,n,m,N,es,acc,rfl,hb,he⟩
 ·have:=h.mw; subst this
  exact .IE (.inl ⟨rfl,rfl,rfl⟩)
 ·obtain ⟨mu,fa,e⟩:=M6 (P:=P) t .any N es acc
  rw [he,e];have hao:DX P A t (.al t b 0 n)=⟨ck N n,some b,false⟩:=by simp only [DX,hb]
  rw [hao] at bM hl;have hN:N=n:=aD bM;subst hN;show VK P E0 (.al t j 0 N) u;rcases h.rI with ⟨q1,_,q2⟩ | ⟨x,L,M,c,q1,q2⟩
  ·exact .IE (.inl ⟨q1,rfl,q2⟩)
  ·exact .IE (.inr ⟨x,L,M,c,hl b _ rfl q1,q2⟩)
theorem VK.gCD {E0:Env} (hz:E0.z=E.z) {d:CD} {v:KV} {u:Value} (h:VK P E v u) (hg:hX d v=true) (hd:∀ w,d≠.ref w):VK P E0 v u:=by
 cases d with
 | ref w=>exact absurd rfl (hd w)
 | arr t=>exact h.zK (c:=.slice t) (.of hz) hg
 | k c=>exact h.zK (.of hz) hg
 | lit w=>exact aea hg h
 | aF t=>exact h.zK (c:=.slice t) (.of hz) hg
theorem iI {A:ai} : ∀ {ds:List CD} {vs:List KV},vs.length=ds.length->(jE P A ds vs).length=ov ds
 | [],[],_=>rfl
 | [],_::_,e=>by simp at e
 | _::_,[],e=>by simp at e
 | .k c::ds,v::vs,e=>by simp only [jE,ov]; exact iI (by simpa using e)
 | .lit w::ds,v::vs,e=>by simp only [jE,ov]; exact iI (by simpa using e)
 | .aF t::ds,v::vs,e=>by simp only [jE,ov,lG]; rw [iI (by simpa using e)]
 | .arr t::ds,v::vs,e=>by simp only [jE,ov,lG]; rw [iI (by simpa using e)]
 | .ref w::ds,v::vs,e=>by simp only [jE,ov]; exact iI (by simpa using e)
theorem akR {a b:KV} (h:eqP a b=true):a=b:=by
 unfold eqP at h;split at h
 ·simp only [aj] at h
  rw [aD h.1,aD h.2]
 ·simp at h
theorem VB:∀ {a b:List KV},VA a b=true->a=b
 | [],[],_=>rfl
 | [],_::_,h=>by simp [VA] at h
 | _::_,[],h=>by simp [VA] at h
 | x::a,y::b,h=>by
  simp only [VA,aj] at h;rw [akR h.1,VB h.2]
theorem Ko {a b:KV} (h:I7 a b=true):a=b:=by
 unfold I7 at h;split at h
 ·simp only [aj] at h
  rw [aD h.1,aD h.2]
 ·simp only [aj] at h
  rw [aD h.1.1,VB h.1.2,VB h.2]
 ·simp at h
def Rk (E E0:Env) (nr:Nat) (bs AV:List Nat):Prop:=∀ j x,j < nr->E.κ (bs.getD j 0)=some x->E0.κ (AV.getD j 0)=some x
theorem VK.Q9 {E0:Env} {nr:Nat} {bs AV:List Nat} (hk:Rk E E0 nr bs AV) {w:KV} {u:Value} (hw:isP nr w=true) (h:VK P E (K.Q9 bs w) u):VK P E0 (K.Q9 AV w) u:=by
 cases w <;> simp [isP] at hw;rename_i j o;obtain ⟨x,h1,rfl⟩:=(show VK P E (.ptr (bs.getD j 0) o) u from h).fX;exact .v8 (hk j x hw h1)
theorem aK.uy {E0:Env} {nr:Nat} {bs AV:List Nat} (hk:Rk E E0 nr bs AV):∀ {ws:List KV} {us:List Value},Vz nr ws=true->aK P E (K.uy bs ws) us->aK P E0 (K.uy AV ws) us
 | [],us,_,h=>by rw [h.bA]; exact .nil
 | w::ws,us,hw,h=>by
  simp only [Vz,aj] at hw;obtain ⟨y,ys,rfl,h1,h2⟩:=aK.cons_inv (show aK P E (K.Q9 bs w::K.uy bs ws) us from h);exact .cons (VK.Q9 hk hw.1 h1) (aK.uy hk hw.2 h2)
theorem VK.inst {E0:Env} {nr:Nat} {bs AV:List Nat} (hk:Rk E E0 nr bs AV) {w:KV} {u:Value} (hw:Ss nr w=true) (h:VK P E (K.inst bs w) u):VK P E0 (K.inst AV w) u:=by
 cases w with
 | ptr j o=>
  obtain ⟨x,h1,rfl⟩:=(show VK P E (.ptr (bs.getD j 0) o) u from h).fX;exact .v8 (hk j x (by simpa [Ss] using hw) h1)
 | fn f first cap=>
  cases f with
  | func f=>
   simp only [Ss,aj] at hw;obtain ⟨l,m,rfl,h1,h2⟩:=(show VK P E (.fn (.func f) (K.uy bs first) (K.uy bs cap)) u from h).Ga;exact .abw (aK.uy hk hw.1 h1) (aK.uy hk hw.2 h2)
  | _=>simp [Ss] at hw
 | _=>simp [Ss] at hw
def ml (E E0:Env) (l:List FI) (j:Nat):Prop:=∀ (i:Nat) fi,l[i]? = some fi->fi.ok=true/\(fi.fm=true->Lk E E0 fi.f (j+i))/\La E E0 fi.f (j+i)
theorem ml.left {E0:Env} {l m:List FI} {j:Nat} (h:ml E E0 (l++m) j):ml E E0 l j:=fun i fi e=>h i fi (by rw [nE (cw.1 e).1]; exact e)
theorem ml.right {E0:Env} {l m:List FI} {j:Nat} (h:ml E E0 (l++m) j):ml E E0 m (j+l.length):=fun i fi e=>by
 have:=h (l.length+i) fi (by rw [o3 (by omega)]; simpa using e);rw [nG]; exact this
theorem ml.head {E0:Env} {x:FI} {l:List FI} {j:Nat} (h:ml E E0 (x::l) j):x.ok=true/\(x.fm=true->Lk E E0 x.f j)/\La E E0 x.f j:=h 0 x rfl
theorem ml.tail {E0:Env} {x:FI} {l:List FI} {j:Nat} (h:ml E E0 (x::l) j):ml E E0 l (j+1):=fun i fi e=>by
 have:=h (i+1) fi (by simpa using e);rw [show j+1+i=j+(i+1) by omega]; exact this
theorem aK.cellsIn {E0:Env} (hz:E0.z=E.z) {A:ai} {nr:Nat} {bs AV:List Nat} (hk:Rk E E0 nr bs AV):∀ {ds:List CD} {vs:List KV} {us:List Value} {j:Nat},aK P E vs us->vs.length=ds.length->cK ds (dY P A ds vs)=true->ml E E0 (jE P A ds vs) j->zP nr bs ds vs=true->aK P E0 (nT j AV ds (dY P A ds vs)) us
 | [],[],us,j,h,_,_,_,_=>by rw [h.bA]; exact .nil
 | [],_::_,_,_,_,e,_,_,_=>by simp at e
 | _::_,[],_,_,_,e,_,_,_=>by simp at e
 | d::ds,v::vs,us,j,h,e,hg,hf,hr=>by
  simp only [dY,cK,aj] at hg;obtain ⟨y,ys,rfl,h1,h2⟩:=h.cons_inv;have e' : vs.length=ds.length:=by simpa using e
  cases d with
  | k c=>exact .cons ((h1.nCD (by simp) (by simp)).gCD (d:=.k c) hz hg.1 (by simp)) (aK.cellsIn hz hk h2 e' hg.2 hf hr)
  | lit w=>exact .cons ((h1.nCD (by simp) (by simp)).gCD (d:=.lit w) hz hg.1 (by simp)) (aK.cellsIn hz hk h2 e' hg.2 hf hr)
  | aF t=>exact .cons (h1.af1 hz hg.1 (hf.head.2.1 (Yg ..)) hf.head.1) (aK.cellsIn hz hk h2 e' hg.2 hf.tail hr)
  | arr t=>exact .cons (h1.ajm hg.1 hf.head.2.2 hf.head.1) (aK.cellsIn hz hk h2 e' hg.2 hf.tail hr)
  | ref w=>
   simp only [zP,aj] at hr;exact .cons (VK.inst hk hr.1 (by rw [Ko hr.2.1]; exact h1)) (aK.cellsIn hz hk h2 e' hg.2 hf hr.2.2)
theorem Z5 {ds:List CD} {v:KV} (h:cK ds [v] = true):∃ d,ds = [d]/\hX d v=true:=by
 cases ds with
 | nil=>simp [cK] at h
 | cons d ds=>
  simp only [cK,aj] at h;cases ds with
  | nil=>exact ⟨d,rfl,h.1⟩
  | cons e ds=>simp [cK] at h
theorem ub {d:VD} {v:KV} (h:sS d v=true):(∃ cs,v = .agg cs/\d.agg=true/\cK d.ks cs=true)\/((∀ cs,v≠.agg cs)/\d.agg=false/\∃ c,d.ks = [c]/\hX c v=true):=by
 by_cases ha:∃ cs,v = .agg cs
 ·obtain ⟨cs,rfl⟩:=ha
  simp only [sS,aj] at h;exact .inl ⟨cs,rfl,h.1,h.2⟩
 ·have h:(!d.agg&&cK d.ks [v])=true:=by
   cases v <;> first | exact h | exact absurd ⟨_,rfl⟩ ha
  simp only [aj,iy] at h;exact .inr ⟨fun cs e=>ha ⟨cs,e⟩,h.1,Z5 h.2⟩
theorem uc {A:ai} {d:VD} {v:KV} (h:sS d (rL P A d v)=true):(∃ cs,v = .agg cs/\cs.length=d.ks.length/\rL P A d v = .agg (dY P A d.ks cs)/\cK d.ks (dY P A d.ks cs)=true)\/
  ((∀ cs,v≠.agg cs)/\∃ c,d.ks = [c]/\rL P A d v=dX P A c v/\hX c (dX P A c v)=true/\v.cells = [v]/\(∀ cs,dX P A c v≠.agg cs)):=by
 have ajn:sS d .bz=false:=by
  cases hb:sS d .bz with
  | false=>rfl
  | true=>
   rcases ub hb with ⟨cs,e,_⟩ | ⟨_,_,c,_,hc⟩
   ·simp at e
   ·cases c with
    | k c=>cases c <;> simp [hX,kindOk] at hc
    | lit w=>cases w <;> first | (simp [hX,sf] at hc; done) | (rename_i f a b; cases f <;> cases a <;> cases b <;> simp [hX,sf] at hc)
    | aF t=>simp [hX,kindOk] at hc
    | arr t=>simp [hX,kindOk] at hc
    | ref w=>
     have hc:I7 w .bz=true:=hc;have:=Ko hc;subst this;simp [I7] at hc
 by_cases ha:∃ cs,v = .agg cs
 ·obtain ⟨cs,rfl⟩:=ha
  have e:rL P A d (.agg cs)=cond (d.agg&&Nat.beq cs.length d.ks.length) (.agg (dY P A d.ks cs)) .bz:=rfl;cases hb:(d.agg&&Nat.beq cs.length d.ks.length) with
  | false=>rw [e,hb,ay,ajn] at h; simp at h
  | true=>
   rw [e,hb,ah] at h;simp only [aj] at hb;simp only [sS,aj] at h;exact .inl ⟨cs,rfl,aD hb.2,by rw [e]; simp only [hb.1,hb.2,cY,ah],h.2⟩
 ·have e:rL P A d v=cond d.agg .bz (match d.ks with | [c]=>dX P A c v | _=>.bz):=by
   cases v <;> first | rfl | exact absurd ⟨_,rfl⟩ ha
  have uq:v.cells = [v]:=by cases v <;> first | rfl | exact absurd ⟨_,rfl⟩ ha
  cases uM:d.agg with
  | true=>rw [e,uM,ah,ajn] at h; simp at h
  | false=>
   rw [uM,ay] at e;rw [e] at h;split at h
   ·rename_i c hc
    rw [hc] at e;simp only at e;rcases ub h with ⟨cs,e2,h2,_⟩ | ⟨h1,_,c',h2,h3⟩
    ·rw [uM] at h2; simp at h2
    ·rw [hc] at h2
     simp only [List.cons.injEq,and_true] at h2;subst h2;exact .inr ⟨fun cs ec=>ha ⟨cs,ec⟩,c,hc,e,h3,uq,h1⟩
   ·rw [ajn] at h; simp at h
theorem zl {A:ai} {d:VD} {v:KV} (h:sS d (rL P A d v)=true):v.cells.length=d.ks.length:=by
 rcases uc h with ⟨cs,rfl,h1,_⟩ | ⟨_,c,h1,_,_,h2,_⟩
 ·exact h1
 ·rw [h1,h2]; rfl
theorem VK.alQ {E0:Env} (hz:E0.z=E.z) {A:ai} {nr:Nat} {bs AV:List Nat} (hk:Rk E E0 nr bs AV) {d:VD} {v:KV} {u:Value} {j:Nat} (h:VK P E v u) (hg:sS d (rL P A d v)=true) (hf:ml E E0 (jE P A d.ks v.cells) j) (hr:zP nr bs d.ks v.cells=true):VK P E0 (Su j AV d (rL P A d v)) u:=by
 rcases uc hg with ⟨cs,rfl,h1,h2,h3⟩ | ⟨h0,c,h1,h2,h3,h4,h5⟩
 ·rw [h2]
  obtain ⟨l,rfl,k⟩:=h.jr;exact .ns (aK.cellsIn hz hk k h1 h3 hf hr)
 ·rw [h2]
  have e:Su j AV d (dX P A c v)=(match d.ks with | [.aF _]=>Gx j (dX P A c v) | [.arr _]=>Km j (dX P A c v) | [.ref w]=>K.inst AV w | _=>dX P A c v):=by
   generalize dX P A c v=w at h5;cases w <;> first | rfl | exact absurd rfl (h5 _)
  rw [e,h1];rw [h1,h4] at hf hr;cases c with
  | k c=>exact (h.nCD (by simp) (by simp)).gCD (d:=.k c) hz h3 (by simp)
  | lit w=>exact (h.nCD (by simp) (by simp)).gCD (d:=.lit w) hz h3 (by simp)
  | aF t=>exact h.af1 hz h3 (hf.head.2.1 (Yg ..)) hf.head.1
  | arr t=>exact h.ajm h3 hf.head.2.2 hf.head.1
  | ref w=>
   simp only [zP,aj] at hr;exact VK.inst hk hr.1 (by rw [Ko hr.2.1]; exact h)
theorem VK.Q1 {A:ai} {nr:Nat} {bs:List Nat} {d:VD} {t:bJ} {i:Tmp} (h:sS d (rL P A d (valOf t i))=true) (hr:zP nr bs d.ks (valOf t i).cells=true):∃ v,t.get i=some v:=by
 cases hg:t.get i with
 | some v=>exact ⟨v,rfl⟩
 | none=>
  exfalso;have e:valOf t i = .bz:=by simp [valOf,hg]
  rw [e] at h hr;rcases uc h with ⟨cs,e2,_⟩ | ⟨_,c,nu,_,h3,_,_⟩
  ·simp at e2
  ·cases c with
   | ref w=>
    rw [nu] at hr;have hr:(Ss nr w&&(I7 (K.inst bs w) .bz&&true))=true:=hr;simp only [aj] at hr;have h1:=hr.2.1;have:=Ko h1;rw [this] at h1;simp [I7] at h1
   | k c=>
    have h4:kindOk c (K.kP c .bz)=false:=by cases c <;> rfl
    have h5:dX P A (.k c) .bz = .bz:=by
     show cond (kindOk c (K.kP c .bz)) (K.bU P df (leaf c (K.kP c .bz))) KV.bz=KV.bz;rw [h4]; rfl
    rw [h5] at h3;cases c <;> simp [hX,kindOk] at h3
   | lit w=>cases w <;> first | (simp [dX,hX,sf] at h3; done) | (rename_i f a b; cases f <;> cases a <;> cases b <;> simp [dX,hX,sf] at h3)
   | aF t=>simp [dX,hX,kindOk] at h3
   | arr t=>exact absurd h3 (by simp [dX,I8,aec,hX,kindOk])
end Go.K
end
section
namespace Go.K
open Go Go.az
variable {P:Program} {E:Env}
theorem VE:∀ {bs:List Nat},sU bs=true->∀ (i j b:Nat),bs[i]? = some b->bs[j]? = some b->i=j
 | [],_,i,j,b,hi,_=>by simp at hi
 | a::bs,h,i,j,b,hi,hj=>by
  simp only [sU,aj,dU,iy] at h;cases i with
  | zero=>
   cases j with
   | zero=>rfl
   | succ j=>
    simp at hi hj; subst hi;have:=h.1 a (eS hj);exact absurd (p8 a) (by rw [this]; simp)
  | succ i=>
   cases j with
   | zero=>
    simp at hi hj; subst hj;have:=h.1 a (eS hi);exact absurd (p8 a) (by rw [this]; simp)
   | succ j=>
    simp at hi hj;rw [VE h.2 i j b hi hj]
theorem sh:∀ {l:List (Option Nat)} {f:Nat},f∈iq l↔some f∈l
 | [],f=>by simp [iq]
 | some g::l,f=>by simp [iq,sh (l:=l)]
 | none::l,f=>by simp [iq,sh (l:=l)]
theorem sZ:∀ {l:List (Option Nat)},sU (iq l)=true->∀ (i j f:Nat),l[i]? = some (some f)->l[j]? = some (some f)->i=j
 | [],_,i,j,b,hi,_=>by simp at hi
 | none::l,h,i,j,f,hi,hj=>by
  cases i with
  | zero=>simp at hi
  | succ i=>
   cases j with
   | zero=>simp at hj
   | succ j=>
    simp at hi hj;rw [sZ (l:=l) h i j f hi hj]
 | some g::l,h,i,j,f,hi,hj=>by
  simp only [iq,sU,aj,dU,iy] at h;have key:∀ {k:Nat},l[k]? = some (some g)->False:=by
   intro k hk;have:=h.1 g (sh.2 (eS hk));exact absurd (p8 g) (by rw [this]; simp)
  cases i with
  | zero=>
   cases j with
   | zero=>rfl
   | succ j=>
    simp at hi hj; subst hi;exact (key hj).elim
  | succ i=>
   cases j with
   | zero=>
    simp at hi hj; subst hj;exact (key hi).elim
   | succ j=>
    simp at hi hj;rw [sZ (l:=l) h.2 i j f hi hj]
theorem Gz:∀ {l:List FI} {i:Nat} {x:FI},l[i]? = some x->(Gw l)[i]? = some x.f
 | [],_,_,h=>by simp at h
 | y::l,0,x,h=>by simp at h; subst h; rfl
 | y::l,i+1,x,h=>by simp at h; simpa [Gw] using Gz h
theorem oU:∀ {l:List FI},(Gw l).length=l.length
 | []=>rfl
 | y::l=>by simp [Gw,oU]
theorem M7:∀ {l:List FI},Ra l=true->∀ x∈l,x.ok=true
 | [],_,x,h=>by simp at h
 | y::l,h,x,hx=>by
  simp only [Ra] at h;cases hl:Ra l with
  | false=>rw [hl] at h; simp at h
  | true=>
   rw [hl,ah] at h;rcases bd.1 hx with rfl | hx
   ·exact h
   ·exact M7 hl x hx
theorem eQ:∀ (l:List gG) (A:ai),(pw A l).next=A.next+l.length
 | [],_=>rfl
 | p::l,A=>by rw [pw,eQ l]; simp; omega
theorem AW:∀ {l:List gG} {A:ai} {x:Nat},x < A.next->(pw A l).get x=A.get x
 | [],_,_,_=>rfl
 | p::l,A,x,h=>by rw [pw,AW (by simp; omega),ai.cV,ae (by omega)]
theorem I9:∀ {l:List gG} {A:ai} {i:Nat} {p:gG},l[i]? = some p->(pw A l).get (A.next+i)=some p
 | [],_,_,_,h=>by simp at h
 | q::l,A,0,p,h=>by
  simp at h; subst h;rw [pw,p7,AW (by simp),ai.cV,ax rfl]
 | q::l,A,i+1,p,h=>by
  simp at h;have:=I9 (A:=A.new q) h;rw [ai.cv] at this;rw [pw,show A.next+(i+1)=A.next+1+i by omega];exact this
theorem Pk:∀ {l:List gG} {A:ai} {x:Nat} {o:gG},(pw A l).get x=some o->(A.get x=some o/\x < A.next+l.length)\/(x < A.next/\A.get x=some o)\/(∃ i p,x=A.next+i/\l[i]? = some p/\o=p)\/A.get x=some o
 | [],_,_,_,h=>.inr (.inr (.inr h))
 | p::l,A,x,o,h=>by
  rw [pw] at h;have key:(A.new p).get x=some o->(∃ i q,x=A.next+i/\(p::l)[i]? = some q/\o=q)\/A.get x=some o:=by
   intro h;rw [ai.cV] at h;split at h
   ·rename_i e; simp at h; exact .inl ⟨0,p,by omega,rfl,h.symm⟩
   ·exact .inr h
  rcases Pk h with ⟨h,_⟩ | ⟨_,h⟩ | ⟨i,q,e,h1,h2⟩ | h
  ·exact .inr (.inr (key h))
  ·exact .inr (.inr (key h))
  ·exact .inr (.inr (.inl ⟨i+1,q,by rw [e]; simp; omega,by simpa using h1,h2⟩))
  ·exact .inr (.inr (key h))
theorem Pl {l:List gG} {A:ai} {x:Nat} {o:gG} (h:(pw A l).get x=some o):A.get x=some o\/∃ i p,x=A.next+i/\l[i]? = some p/\o=p:=by
 rcases Pk h with ⟨h,_⟩ | ⟨_,h⟩ | h | h
 ·exact .inl h
 ·exact .inl h
 ·exact .inr h
 ·exact .inl h
theorem Da:∀ (l:List (Option Nat)) (A:ai),(uZ A l).next=A.next
 | [],_=>rfl
 | some f::l,A=>by rw [uZ,Da l]; rfl
 | none::l,A=>by rw [uZ,Da l]
theorem BX:∀ {l:List (Option Nat)} {A:ai} {x:Nat},(uZ A l).get x=if x∈iq l then some .dead else A.get x
 | [],A,x=>by simp [uZ,iq]
 | none::l,A,x=>by rw [uZ,BX,iq]
 | some f::l,A,x=>by
  rw [uZ,BX,iq,ai.bZ];by_cases h1:x∈iq l
  ·rw [ax h1,ax (rB _ h1)]
  ·rw [ae h1]
   by_cases h2:x=f
   ·rw [ax h2,ax (by simp [h2])]
   ·rw [ae h2,ae (by simp [h1,h2])]
theorem M8:∀ (bs:List Nat) (ps:List (Tmp×List CD×Nat)) (rs:List (List KV)) (A:ai),(mj A bs ps rs).next=A.next
 | [],_,_,_=>rfl
 | _::_,[],_,_=>rfl
 | _::_,_::_,[],_=>rfl
 | b::bs,p::ps,r::rs,A=>by rw [mj,M8 bs ps rs]; rfl
theorem Ja:∀ {bs:List Nat} {ps:List (Tmp×List CD×Nat)} {rs:List (List KV)} {A:ai} {x:Nat},x ∉ bs->(mj A bs ps rs).get x=A.get x
 | [],_,_,_,_,_=>rfl
 | _::_,[],_,_,_,_=>rfl
 | _::_,_::_,[],_,_,_=>rfl
 | b::bs,p::ps,r::rs,A,x,h=>by
  simp only [bd,not_or] at h;rw [mj,Ja h.2,ai.bZ,ae h.1]
theorem ab7:∀ {bs:List Nat} {ps:List (Tmp×List CD×Nat)} {rs:List (List KV)} {A:ai} {k b:Nat} {p:Tmp×List CD×Nat} {r:List KV},sU bs=true->bs[k]? = some b->ps[k]? = some p->rs[k]? = some r->(mj A bs ps rs).get b=some (.row r p.2.2)
 | [],_,_,_,_,_,_,_,_,h,_,_=>by simp at h
 | _::_,[],_,_,_,_,_,_,_,_,h,_=>by simp at h
 | _::_,_::_,[],_,_,_,_,_,_,_,_,h=>by simp at h
 | b::bs,p::ps,r::rs,A,k,x,p',r',hn,hb,hp,hr=>by
  have hn':=hn;simp only [sU,aj] at hn;cases k with
  | zero=>
   simp at hb hp hr;subst hb hp hr;rw [mj,Ja,ai.bZ,ax rfl];intro hm;have:=dU.1 hn.1 b hm;simp at this
  | succ k=>
   simp only [Fy] at hb hp hr;rw [mj];exact ab7 hn.2 hb hp hr
theorem Yi:∀ {ps:List (Tmp×List CD×Nat)} {rs:List (List KV)} {A:ai},rs.length=ps.length->(ow A ps rs).next=A.next+ps.length
 | [],[],_,_=>rfl
 | [],_::_,_,h=>by simp at h
 | _::_,[],_,h=>by simp at h
 | p::ps,r::rs,A,h=>by rw [ow,Yi (by simpa using h)]; simp; omega
theorem ab8:∀ {ps:List (Tmp×List CD×Nat)} {rs:List (List KV)} {A:ai} {x:Nat},x < A.next->(ow A ps rs).get x=A.get x
 | [],_,_,_,_=>rfl
 | _::_,[],_,_,_=>rfl
 | p::ps,r::rs,A,x,h=>by rw [ow,ab8 (by simp; omega),ai.cV,ae (by omega)]
theorem af2:∀ {ps:List (Tmp×List CD×Nat)} {rs:List (List KV)} {A:ai} {k:Nat} {p:Tmp×List CD×Nat} {r:List KV},ps[k]? = some p->rs[k]? = some r->(ow A ps rs).get (A.next+k)=some (.row r p.2.2)
 | [],_,_,_,_,_,h,_=>by simp at h
 | _::_,[],_,_,_,_,_,h=>by simp at h
 | p::ps,r::rs,A,k,p',r',hp,hr=>by
  cases k with
  | zero=>
   simp at hp hr; subst hp hr;rw [ow,p7,ab8 (by simp),ai.cV,ax rfl]
  | succ k=>
   simp only [Fy] at hp hr;have:=af2 (A:=A.new (.row r p.2.2)) hp hr;rw [ow];simpa [Nat.add_comm,Nat.add_left_comm] using this
theorem ab9:∀ {ps:List (Tmp×List CD×Nat)} {rs:List (List KV)} {A:ai} {x:Nat} {o:gG},(ow A ps rs).get x=some o->A.get x=some o\/∃ k p r,x=A.next+k/\ps[k]? = some p/\rs[k]? = some r/\o = .row r p.2.2
 | [],_,_,_,_,h=>.inl h
 | _::_,[],_,_,_,h=>.inl h
 | p::ps,r::rs,A,x,o,h=>by
  rw [ow] at h;rcases ab9 h with h | ⟨k,p',r',rfl,h1,h2,h3⟩
  ·rw [ai.cV] at h
   by_cases e:x=A.next
   ·rw [ax e] at h; simp at h
    exact .inr ⟨0,p,r,by omega,rfl,rfl,h.symm⟩
   ·rw [ae e] at h; exact .inl h
  ·exact .inr ⟨k+1,p',r',by simp; omega,by simpa using h1,by simpa using h2,h3⟩
theorem Yj:∀ (n:Nat) (l:List Nat) (k:Nat),(upto n l)[k]? = if k < n then some k else l[k - n]?
 | 0,l,k=>by simp [upto]
 | n+1,l,k=>by
  rw [upto,Yj n];by_cases h:k < n
  ·rw [ax h,ax (by omega)]
  ·rw [ae h]
   by_cases h2:k=n
   ·subst h2
    rw [ax (by omega)];simp
   ·rw [ae (by omega),show k - n=(k - (n+1))+1 by omega]
    simp
theorem BZ (S:aB) (k:Nat) (h:k < S.rows.length):S.ids[k]? = some k:=by rw [aB.ids,Yj,ax h]
theorem Db:∀ {a b:List Nat},px a b=true->a=b
 | [],[],_=>rfl
 | [],_::_,h=>by simp [px] at h
 | _::_,[],h=>by simp [px] at h
 | x::a,y::b,h=>by
  simp only [px,aj] at h;rw [aD h.1,Db h.2]
theorem Dc {t:bJ} {A:ai} {p:Tmp×List CD×Nat} (h:(rowOf t A p).isSome=true):∃ b cs,A.get b=some (.row cs p.2.2)/\cs.length=p.2.1.length/\afY t A p=b/\BT t A p=cs:=by
 unfold rowOf at h;split at h
 ·rename_i b hb
  split at h
  ·rename_i cs e hr
   cases hc:(Nat.beq e p.2.2&&Nat.beq cs.length p.2.1.length) with
   | false=>rw [hc] at h; simp at h
   | true=>
    have Xb:rowOf t A p=some (b,cs):=by simp only [rowOf,hb,hr,hc,ah]
    simp only [aj] at hc;have he:=aD hc.1;subst he;exact ⟨b,cs,hr,aD hc.2,by simp [afY,Xb],by simp [BT,Xb]⟩
  ·simp at h
 ·simp at h
structure cS (P:Program) (S:aB) (t:bJ) (A:ai) (g:GR):Prop where
 rows:uz P t A S.rows=true
 nodup:sU g.bs=true
 Pg:Kl t g.bs S.Pg=true
 dh:dZ S.dh g.vs=true
 TG:sU (iq g.fs)=true
 ajo:DY S.rows.length g.bs t S.dh=true
 alR:Rb S.rows.length g.bs t A S.rows=true
 rD:Ra (S.KO P t A)=true
 bs:g.bs=uX t A S.rows
 fs:g.fs=Gw (S.KO P t A)
 vs:g.vs=lq P t A S.dh
 rs:g.rs=DW P t A S.rows
theorem zn {S:aB} {t:bJ} {A:ai} (h:(S.cQ P t A).ok=true):cS P S t A (S.cQ P t A):=by
 unfold aB.cQ at h ⊢;simp only at h ⊢;cases hc:(uz P t A S.rows&&sU (uX t A S.rows)&&Kl t (uX t A S.rows) S.Pg&&dZ S.dh (lq P t A S.dh)&&sU (iq (Gw (S.KO P t A)))&&DY S.rows.length (uX t A S.rows) t S.dh&&Rb S.rows.length (uX t A S.rows) t A S.rows) with
 | false=>rw [hc] at h; simp at h
 | true=>
  rw [hc,ah] at h;simp only [aj] at hc;exact ⟨hc.1.1.1.1.1.1,hc.1.1.1.1.1.2,hc.1.1.1.1.2,hc.1.1.1.2,hc.1.1.2,hc.1.2,hc.2,h,rfl,rfl,rfl,rfl⟩
theorem VF {t:bJ} {A:ai} : ∀ {ps:List (Tmp×List CD×Nat)} {k:Nat} {p:Tmp×List CD×Nat},ps[k]? = some p->(uX t A ps)[k]? = some (afY t A p)
 | [],_,_,h=>by simp at h
 | p::ps,0,q,h=>by simp at h; subst h; rfl
 | p::ps,k+1,q,h=>by simp at h; simpa [uX] using VF h
theorem yN {t:bJ} {A:ai} : ∀ {ps:List (Tmp×List CD×Nat)},(uX t A ps).length=ps.length
 | []=>rfl
 | p::ps=>by simp [uX,yN]
theorem LI {t:bJ} {A:ai} : ∀ {ps:List (Tmp×List CD×Nat)},(DW P t A ps).length=ps.length
 | []=>rfl
 | p::ps=>by simp [DW,LI]
theorem Sx {t:bJ} {A:ai} : ∀ {ps:List (Tmp×List CD×Nat)},uz P t A ps=true->∀ {k:Nat} {p:Tmp×List CD×Nat},ps[k]? = some p->(rowOf t A p).isSome=true/\cK p.2.1 (dY P A p.2.1 (BT t A p))=true
 | [],_,k,p,h=>by simp at h
 | q::ps,h,k,p,hp=>by
  simp only [uz,aj] at h;cases k with
  | zero=>simp at hp; subst hp; exact ⟨h.1,h.2.1⟩
  | succ k=>simp at hp; exact Sx h.2.2 hp
theorem Pm:∀ {ps:List (Tmp×List CD×Nat)} {rs:List (List KV)},rs.length=ps.length->∀ (j:Nat) (bs:List Nat),(Sv j bs ps rs).length=ps.length
 | [],[],_,_,_=>rfl
 | [],_::_,h,_,_=>by simp at h
 | _::_,[],h,_,_=>by simp at h
 | p::ps,r::rs,h,j,bs=>by simp [Sv,Pm (by simpa using h)]
def vE (j:Nat):List (Tmp×List CD×Nat)->Nat->Nat
 | [],_=>j
 | _::_,0=>j
 | p::ps,k+1=>vE (j+ov p.2.1) ps k
theorem Kq {bs:List Nat} : ∀ {ps:List (Tmp×List CD×Nat)} {rs:List (List KV)} {j k:Nat} {p:Tmp×List CD×Nat} {r:List KV},ps[k]? = some p->rs[k]? = some r->(Sv j bs ps rs)[k]? = some (nT (vE j ps k) bs p.2.1 r)
 | [],_,_,_,_,_,h,_=>by simp at h
 | _::_,[],_,_,_,_,_,h=>by simp at h
 | p::ps,r::rs,j,0,p',r',h1,h2=>by simp at h1 h2; subst h1 h2; rfl
 | p::ps,r::rs,j,k+1,p',r',h1,h2=>by
  simp at h1 h2;simp only [Sv,Fy];exact Kq h1 h2
theorem VG {E0:Env} {t:bJ} {A:ai} : ∀ {ps:List (Tmp×List CD×Nat)} {j:Nat},uz P t A ps=true->ml E E0 (BU P t A ps) j->∀ {k:Nat} {p:Tmp×List CD×Nat},ps[k]? = some p->ml E E0 (jE P A p.2.1 (BT t A p)) (vE j ps k)
 | [],_,_,_,_,_,h=>by simp at h
 | q::ps,j,hr,hf,k,p,hp=>by
  simp only [uz,aj] at hr;obtain ⟨b,cs,_,hl,_,hC⟩:=Dc hr.1;cases k with
  | zero=>simp at hp; subst hp; exact hf.left
  | succ k=>
   simp at hp;have:=hf.right;rw [iI (by rw [hC]; exact hl)] at this;exact VG hr.2.2 this hp
theorem yO {t:bJ} {A:ai} : ∀ {ps:List (Tmp×VD)},dZ ps (lq P t A ps)=true->(yc P t A ps).length=lr ps
 | [],_=>rfl
 | p::ps,h=>by
  simp only [lq,dZ,aj] at h;simp only [yc,lr,gd];rw [iI (zl h.1),yO h.2]
def E4 (P:Program) (A:ai) (x:FI) (q:gG):Prop:=
 (∃ n sz,q = .aF n sz/\((x.f=none/\n=0)\/∃ f,x.f=some f/\A.get f=some (.aF n sz)))\/
 ∃ t v,q = .arr v/\((x.f=none/\1<=aI P t/\v=K.bU P df (.ts t .any 0 [] mJ))\/∃ f m N es acc,x.f=some f/\A.get f=some (.arr (.ts t m N es acc))/\v=K.bU P df (.ts t .any N es acc))
theorem ajp {A:ai} {t:TypeId} {v:KV} (bM:(DX P A t v).ok=true) (hg:hX (.arr t) (dX P A (.arr t) v)=true):E4 P A (DX P A t v) (.arr (dX P A (.arr t) v)):=by
 rcases Rc hg with rfl | ⟨b,n,m,N,es,acc,rfl,hb,he⟩
 ·exact .inr ⟨t,_,rfl,.inl ⟨rfl,cM bM,rfl⟩⟩
 ·refine .inr ⟨t,_,rfl,.inr ⟨b,m,N,es,acc,?_,hb,he⟩⟩
  simp only [DX,hb]
theorem ajq {A:ai} {t:TypeId} {v:KV} (bM:(qq P A t v).ok=true) (hg:hX (.aF t) (dX P A (.aF t) v)=true):E4 P A (qq P A t v) (.aF (lenOf (dX P A (.aF t) v)) (szL P t)):=by
 refine .inl ⟨_,_,rfl,?_⟩;cases v with
 | jd=>exact .inl ⟨rfl,rfl⟩
 | ts t' m n es acc=>
  cases m with
  | aF f=>
   have e1:dX P A (.aF t) (.ts t' (.aF f) n es acc)=cond (Nat.beq t t') (K.bU P df (.ts t .any n es acc)) .bz:=rfl;rw [e1] at hg ⊢;cases hb:Nat.beq t t' with
   | false=>rw [hb] at hg; simp [hX,kindOk] at hg
   | true=>
    rw [ah];refine .inr ⟨f,?_,?_⟩
    ·revert bM
     unfold qq;simp only;split
     ·intro _; rfl
     ·intro bM; simp at bM
    ·revert bM
     unfold qq;simp only;split
     ·rename_i top sz he
      intro bM;simp only at bM;cases hs:Nat.beq sz (szL P t) with
      | false=>rw [hs] at bM; simp at bM
      | true=>
       rw [hs,ah] at bM;have h1:=aD hs;have h2:=aD (show Nat.beq top n=true from bM);subst h1 h2;exact he
     ·intro bM; simp at bM
  | any=>simp [qq] at bM
  | exact=>simp [qq] at bM
 | _=>simp [qq] at bM
theorem si {A:ai} : ∀ {ds:List CD} {vs:List KV} {i:Nat} {x:FI},vs.length=ds.length->cK ds (dY P A ds vs)=true->(jE P A ds vs)[i]? = some x->x.ok=true->∃ q,(lW P ds (dY P A ds vs))[i]? = some q/\E4 P A x q
 | [],[],_,_,_,_,h,_=>by simp [jE] at h
 | [],_::_,_,_,e,_,_,_=>by simp at e
 | _::_,[],_,_,e,_,_,_=>by simp at e
 | .k c::ds,v::vs,i,x,e,hg,h,bM=>by
  simp only [dY,cK,aj] at hg;have h' : (jE P A ds vs)[i]? = some x:=h;exact si (ds:=ds) (vs:=vs) (by simpa using e) hg.2 h' bM
 | .lit c::ds,v::vs,i,x,e,hg,h,bM=>by
  simp only [dY,cK,aj] at hg;have h' : (jE P A ds vs)[i]? = some x:=h;exact si (ds:=ds) (vs:=vs) (by simpa using e) hg.2 h' bM
 | .ref c::ds,v::vs,i,x,e,hg,h,bM=>by
  simp only [dY,cK,aj] at hg;have h' : (jE P A ds vs)[i]? = some x:=h;exact si (ds:=ds) (vs:=vs) (by simpa using e) hg.2 h' bM
 | .aF t::ds,v::vs,i,x,e,hg,h,bM=>by
  simp only [dY,cK,aj] at hg;cases i with
  | zero=>
   simp [jE] at h;subst h;exact ⟨_,rfl,ajq bM hg.1⟩
  | succ i=>
   simp [jE] at h;obtain ⟨q,h1,h2⟩:=si (by simpa using e) hg.2 h bM;exact ⟨q,by simpa [lW,dY] using h1,h2⟩
 | .arr t::ds,v::vs,i,x,e,hg,h,bM=>by
  simp only [dY,cK,aj] at hg;cases i with
  | zero=>
   simp [jE] at h;subst h;exact ⟨_,rfl,ajp bM hg.1⟩
  | succ i=>
   simp [jE] at h;obtain ⟨q,h1,h2⟩:=si (by simpa using e) hg.2 h bM;exact ⟨q,by simpa [lW,dY] using h1,h2⟩
theorem lH:∀ {ds:List CD} {vs:List KV},vs.length=ds.length->(lW P ds vs).length=ov ds
 | [],[],_=>rfl
 | [],_::_,e=>by simp at e
 | _::_,[],e=>by simp at e
 | .k c::ds,v::vs,e=>by simp only [lW,ov]; exact lH (by simpa using e)
 | .lit w::ds,v::vs,e=>by simp only [lW,ov]; exact lH (by simpa using e)
 | .ref w::ds,v::vs,e=>by simp only [lW,ov]; exact lH (by simpa using e)
 | .aF t::ds,v::vs,e=>by simp only [lW,ov,lG]; rw [lH (by simpa using e)]
 | .arr t::ds,v::vs,e=>by simp only [lW,ov,lG]; rw [lH (by simpa using e)]
theorem wJ:∀ {ds:List CD} {vs:List KV},cK ds vs=true->vs.length=ds.length
 | [],[],_=>rfl
 | [],_::_,h=>by simp [cK] at h
 | _::_,[],h=>by simp [cK] at h
 | d::ds,v::vs,h=>by
  simp only [cK,aj] at h;simp [wJ h.2]
theorem Jb {d:VD} {v:KV} (h:sS d v=true):v.cells.length=d.ks.length:=by
 rcases ub h with ⟨cs,rfl,_,h1⟩ | ⟨h0,_,c,h1,_⟩
 ·exact wJ h1
 ·have:v.cells = [v]:=by cases v <;> first | rfl | exact absurd rfl (h0 _)
  rw [this,h1]; rfl
theorem yP:∀ {ps:List (Tmp×VD)} {vs:List KV},dZ ps vs=true->(wH P ps vs).length=lr ps
 | [],[],_=>rfl
 | [],_::_,h=>by simp [dZ] at h
 | _::_,[],h=>by simp [dZ] at h
 | p::ps,v::vs,h=>by
  simp only [dZ,aj] at h;simp only [wH,lr,gd];rw [lH (Jb h.1),yP h.2]
theorem Sy {t:bJ} {A:ai} : ∀ {ps:List (Tmp×VD)} {i:Nat} {x:FI},dZ ps (lq P t A ps)=true->(yc P t A ps)[i]? = some x->x.ok=true->∃ p,(wH P ps (lq P t A ps))[i]? = some p/\E4 P A x p
 | [],_,_,_,h,_=>by simp [yc] at h
 | p::ps,i,x,hg,h,bM=>by
  simp only [lq,dZ,aj] at hg;simp only [yc] at h;have hl:=zl hg.1;by_cases hi:i < (jE P A p.2.ks (valOf t p.1).cells).length
  ·rw [nE hi] at h
   have DI:cK p.2.ks (dY P A p.2.ks (valOf t p.1).cells)=true/\(rL P A p.2 (valOf t p.1)).cells=dY P A p.2.ks (valOf t p.1).cells:=by
    rcases uc hg.1 with ⟨cs,e,_,h2,h3⟩ | ⟨_,c,h1,h2,h3,h4,h5⟩
    ·rw [e] at h2 ⊢; exact ⟨h3,by rw [h2]; rfl⟩
    ·rw [h4,h1]
     refine ⟨by simp [dY,cK,h3],?_⟩;rw [h2];show (dX P A c (valOf t p.1)).cells = [dX P A c (valOf t p.1)];generalize dX P A c (valOf t p.1)=w at h5 ⊢;cases w <;> first | rfl | exact absurd rfl (h5 _)
   obtain ⟨q,h2,h3⟩:=si hl DI.1 h bM;refine ⟨q,?_,h3⟩;simp only [lq,wH];rw [DI.2,nE (cw.1 h2).1];exact h2
  ·rw [o3 (by omega)] at h
   obtain ⟨q,h1,h2⟩:=Sy hg.2 h bM;refine ⟨q,?_,h2⟩;simp only [lq,wH];have e1:(lW P p.2.ks (rL P A p.2 (valOf t p.1)).cells).length=(jE P A p.2.ks (valOf t p.1).cells).length:=by rw [lH (Jb hg.1),iI hl]
   rw [o3 (by omega),e1];exact h1
theorem Sz {t:bJ} {A:ai} : ∀ {ps:List (Tmp×List CD×Nat)} {i:Nat} {x:FI},uz P t A ps=true->(BU P t A ps)[i]? = some x->x.ok=true->∃ p,(yd P ps (DW P t A ps))[i]? = some p/\E4 P A x p
 | [],_,_,_,h,_=>by simp [BU] at h
 | p::ps,i,x,hg,h,bM=>by
  simp only [uz,aj] at hg;simp only [BU] at h;obtain ⟨b,cs,_,hl,_,hC⟩:=Dc hg.1;rw [<- hC] at hl;by_cases hi:i < (jE P A p.2.1 (BT t A p)).length
  ·rw [nE hi] at h
   obtain ⟨q,h2,h3⟩:=si hl hg.2.1 h bM;refine ⟨q,?_,h3⟩;simp only [DW,yd];rw [nE (cw.1 h2).1];exact h2
  ·rw [o3 (by omega)] at h
   obtain ⟨q,h1,h2⟩:=Sz hg.2.2 h bM;refine ⟨q,?_,h2⟩;simp only [DW,yd];have e1:(lW P p.2.1 (dY P A p.2.1 (BT t A p))).length=(jE P A p.2.1 (BT t A p)).length:=by rw [lH (wJ hg.2.1),iI hl]
   rw [o3 (by omega),e1];exact h1
theorem DZ:∀ {ps:List (Tmp×List CD×Nat)} {rs:List (List KV)},rs.length=ps.length->(∀ (k:Nat) p r,ps[k]? = some p->rs[k]? = some r->cK p.2.1 r=true)->∀ {l:Nat},l=(ps.map fun p=>ov p.2.1).sum->(yd P ps rs).length=l
 | [],[],_,_,l,hl=>by subst hl; rfl
 | [],_::_,h,_,_,_=>by simp at h
 | _::_,[],h,_,_,_=>by simp at h
 | p::ps,r::rs,h,hk,l,hl=>by
  simp only [yd,gd];rw [lH (wJ (hk 0 p r rfl rfl)),DZ (by simpa using h) (fun k p r h1 h2=>hk (k+1) p r (by simpa using h1) (by simpa using h2)) rfl,hl];simp
theorem LJ {t:bJ} {A:ai} : ∀ {ps:List (Tmp×List CD×Nat)},uz P t A ps=true->(BU P t A ps).length=(ps.map fun p=>ov p.2.1).sum
 | [],_=>rfl
 | p::ps,h=>by
  simp only [uz,aj] at h;obtain ⟨b,cs,_,hl,_,hC⟩:=Dc h.1;simp only [BU,gd,List.map_cons,List.sum_cons];rw [iI (by rw [hC]; exact hl),LJ h.2.2]
end Go.K
end
section
namespace Go.K
open Go Go.az
variable {P:Program} {E:Env}
noncomputable def Env.sub (E:Env) (A:ai) (bs:List Nat) (fs:List (Option Nat)) (nr:Nat):Env:=
 { κ:=fun i=>(bs[i]?).bind E.κ,z:=E.z,φ:=fun i=>if nr<=i then (fs[i - nr]?).bind (fun f=>f.bind fun x=>cond (uY (A.get x)) (E.φ x) none) else none,α:=fun i=>if nr<=i then (fs[i - nr]?).bind (fun f=>f.bind E.α) else none }
theorem Kr {E:Env} {A:ai} {x q:Nat} (e:cond (uY (A.get x)) (E.φ x) none=some q):E.φ x=some q/\uY (A.get x)=true:=by
 cases h:uY (A.get x) with
 | true=>rw [h] at e; exact ⟨e,rfl⟩
 | false=>rw [h] at e; simp at e
theorem aca {A:ai} {x:Nat} (h:uY (A.get x)=true):∃ n sz,A.get x=some (.aF n sz):=by
 unfold uY at h;split at h
 ·rename_i n sz e; exact ⟨n,sz,e⟩
 ·simp at h
theorem Env.VH {A:ai} {bs:List Nat} {fs:List (Option Nat)} {nr i:Nat} : (E.sub A bs fs nr).φ (nr+i)=(fs[i]?).bind (fun f=>f.bind fun x=>cond (uY (A.get x)) (E.φ x) none):=by
 simp only [Env.sub];rw [ax (by omega),show nr+i - nr=i by omega]
theorem Env.B4 {A:ai} {bs:List Nat} {fs:List (Option Nat)} {nr i:Nat} : (E.sub A bs fs nr).α (nr+i)=(fs[i]?).bind (fun f=>f.bind E.α):=by
 simp only [Env.sub];rw [ax (by omega),show nr+i - nr=i by omega]
theorem GA:∀ {l:List (Nat×KV)} {i:Nat} {v:KV},(gH l).get i=some v->(i,v)∈l
 | [],i,v,h=>by simp [gH] at h
 | p::ps,i,v,h=>by
  rw [gH,Trie.iX] at h;split at h
  ·rename_i e
   simp at h; subst h e;simp
  ·exact rB _ (GA h)
theorem jB.gH {ρ:Ren} {l:List (Nat×KV)} {N:Nat} {a:Act} (hs:a.tmps.size=N) (h:∀ q∈l,q.1 < N/\VC P E ρ q.2 (a.tmps.getD q.1 undef)):jB P E ρ (K.gH l) N a:=by
 refine ⟨hs,fun i=>?_,fun i hi=>?_⟩
 ·cases hg:(K.gH l).get i with
  | none=>exact .bz
  | some v=>exact (h _ (GA hg)).2
 ·cases hg:(K.gH l).get i with
  | none=>rfl
  | some v=>have:=(h _ (GA hg)).1; exact absurd hi (Nat.not_le_of_lt this)
theorem ye {A:ai} {x:Nat} : ∀ {ds:List CD} {vs:List KV} {fi:FI},fi∈jE P A ds vs->fi.fm=true->fi.f=some x->uY (A.get x)=true
 | [],_,_,h,_,_=>by simp [jE] at h
 | d::ds,[],_,h,_,_=>by cases d <;> simp [jE] at h
 | d::ds,v::vs,fi,h,hm,hx=>by
  cases d <;> simp only [jE,bd] at h
  ·exact ye h hm hx
  ·exact ye h hm hx
  ·rcases h with rfl | h
   ·exact ahm hx
   ·exact ye h hm hx
  ·rcases h with rfl | h
   ·rw [ahl] at hm; simp at hm
   ·exact ye h hm hx
  ·exact ye h hm hx
theorem aB.akS (S:aB) {t:bJ} {A:ai} {x:Nat} {fi:FI} (h:fi∈S.KO P t A) (hm:fi.fm=true) (hx:fi.f=some x):uY (A.get x)=true:=by
 have one:∀ {ps:List (Tmp×VD)},fi∈yc P t A ps->uY (A.get x)=true:=by
  intro ps
  induction ps with
  | nil=>intro h; simp [yc] at h
  | cons p ps ih=>
   intro h;simp only [yc,eX] at h;exact h.elim (fun h=>ye h hm hx) ih
 have two:∀ {ps:List (Tmp×List CD×Nat)},fi∈BU P t A ps->uY (A.get x)=true:=by
  intro ps
  induction ps with
  | nil=>intro h; simp [BU] at h
  | cons p ps ih=>
   intro h;simp only [BU,eX] at h;exact h.elim (fun h=>ye h hm hx) ih
 simp only [aB.KO,eX] at h;exact h.elim one two
theorem cS.hyp {S:aB} {t:bJ} {A:ai} {g:GR} (h:cS P S t A g):ml E (E.sub A g.bs g.fs S.nr) (S.KO P t A) S.nr:=fun i fi hi=>by
 refine ⟨M7 h.rD fi (eS hi),fun hm x q hx hq=>?_,fun x q hx hq=>?_⟩
 ·rw [Env.VH,h.fs,Gz hi,cD,hx,cD,S.akS (eS hi) hm hx]
  exact hq
 ·rw [Env.B4,h.fs,Gz hi,cD,hx,cD]
  exact hq
theorem acb {E0:Env} {t:bJ} {A:ai} {ρ:Ren} {N nr:Nat} {bs AV:List Nat} {a:Act} (hz:E0.z=E.z) (hk:Rk E E0 nr bs AV) (ht:jB P E ρ t N a):∀ {ps:List (Tmp×VD)} {j:Nat},dZ ps (lq P t A ps)=true->ml E E0 (yc P t A ps) j->DY nr bs t ps=true->∀ q∈Hf j AV ps (lq P t A ps),q.1 < N/\VC P E0 ρ q.2 (a.tmps.getD q.1 undef)
 | [],_,_,_,_,q,hq=>by simp [Hf] at hq
 | p::ps,j,hg,hf,hr,q,hq=>by
  simp only [DY,aj] at hr;simp only [lq,dZ,aj] at hg;simp only [lq,Hf,bd] at hq;rcases hq with rfl | hq
  ·refine ⟨?_,?_⟩
   ·obtain ⟨v,hv⟩:=VK.Q1 hg.1 hr.1
    by_cases hN:N<=p.1
    ·rw [ht.none _ hN] at hv; simp at hv
    ·exact Nat.lt_of_not_le hN
   ·obtain ⟨u,h1,h2⟩:=ht.val p.1
    exact ⟨u,h1.alQ hz hk hg.1 hf.left hr.1,h2⟩
  ·have h2:=hf.right
   rw [iI (zl hg.1)] at h2;exact acb hz hk ht hg.2 h2 hr.2 q hq
theorem D0 {bs:List Nat} : ∀ {ps:List (Tmp×Nat×Nat)} {q:Nat×KV},q∈sX bs ps->∃ p∈ps,zO p=true/\q=(p.1,.ptr (bs.getD p.2.1 0) p.2.2)
 | [],_,h=>by simp [sX] at h
 | p::ps,q,h=>by
  unfold sX at h;cases hp:zO p with
  | true=>
   rw [hp,ah] at h;rcases bd.1 h with rfl | h
   ·exact ⟨p,by simp,hp,rfl⟩
   ·obtain ⟨p',h1,h2⟩:=D0 h
    exact ⟨p',rB _ h1,h2⟩
  | false=>
   rw [hp,ay] at h;obtain ⟨p',h1,h2⟩:=D0 h;exact ⟨p',rB _ h1,h2⟩
theorem M9 {l:List (Nat×KV)} : ∀ {ps:List (Tmp×Nat×Nat)} {q:Nat×KV},q∈Gy l ps->∃ p∈ps,zO p=false/\q=(p.1,M5 l (p.2.1 - 1000000))
 | [],_,h=>by simp [Gy] at h
 | p::ps,q,h=>by
  unfold Gy at h;cases hp:zO p with
  | false=>
   rw [hp,ay] at h;rcases bd.1 h with rfl | h
   ·exact ⟨p,by simp,hp,rfl⟩
   ·obtain ⟨p',h1,h2⟩:=M9 h
    exact ⟨p',rB _ h1,h2⟩
  | true=>
   rw [hp,ah] at h;obtain ⟨p',h1,h2⟩:=M9 h;exact ⟨p',rB _ h1,h2⟩
theorem aed {v w:Option KV} (h:Z3 v w=true):v=w/\v.isSome=true:=by
 unfold Z3 at h;split at h
 ·simp only [aj] at h
  obtain ⟨⟨⟨h1,h2⟩,h3⟩,h4⟩:=h;rw [aD h1,aD h2,aD h3,aD h4];exact ⟨rfl,rfl⟩
 ·simp at h
theorem Dd {t:bJ} {bs:List Nat} : ∀ {ps:List (Tmp×Nat×Nat)},Kl t bs ps=true->∀ q∈ps,(zO q=true->∃ b,t.get q.1=some (.ptr b q.2.2)/\bs[q.2.1]? = some b)/\(zO q=false->t.get q.1=t.get (q.2.1 - 1000000)/\(t.get q.1).isSome=true)
 | [],_,q,hq=>by simp at hq
 | p::ps,h,q,hq=>by
  simp only [Kl,aj] at h;rcases bd.1 hq with rfl | hq
  ·refine ⟨fun hp=>?_,fun hp=>?_⟩
   ·have h1:=h.1
    rw [hp,ah] at h1;unfold ajk at h1;split at h1
    ·rename_i b o b' e1 e2
     simp only [aj] at h1;have:=aD h1.1;have:=aD h1.2
     subst_vars
     exact ⟨_,e1,e2⟩
    ·simp at h1
   ·have h1:=h.1
    rw [hp,ay] at h1;exact aed h1
  ·exact Dd h.2 q hq
theorem cS.rk {S:aB} {t:bJ} {A:ai} {g:GR} (h:cS P S t A g):Rk E (E.sub A g.bs g.fs S.nr) S.rows.length g.bs S.ids:=fun j x hj e=>by
 have aJ:j < g.bs.length:=by rw [h.bs,yN]; exact hj
 rw [eN,cl aJ] at e;rw [eN,BZ S j hj];simp only [Env.sub,iB,cl aJ,cD];exact e
theorem Pn:∀ {l:List (Nat×KV)} {i:Nat} {v:KV},(gH l).get i=some v->(i,v)∈l
 | [],_,_,h=>by simp [gH] at h
 | x::l,i,v,h=>by
  rw [gH,Trie.iX] at h;split at h
  ·rename_i e
   simp only [aR] at h;subst h; subst e;exact List.mem_cons_self ..
  ·exact rB _ (Pn h)
theorem Yk {E E0:Env} {A:ai} {t:bJ} (hz:E0.z=E.z) {nr:Nat} {bs AV:List Nat} (hk:Rk E E0 nr bs AV):∀ {ps:List (Tmp×VD)} {j:Nat},dZ ps (lq P t A ps)=true->ml E E0 (yc P t A ps) j->DY nr bs t ps=true->∀ q∈Hf j AV ps (lq P t A ps),∀ u,VK P E (valOf t q.1) u->VK P E0 q.2 u
 | [],_,_,_,_,q,hq,_,_=>by simp [Hf] at hq
 | p::ps,j,hg,hf,hr,q,hq,u,hu=>by
  simp only [lq,dZ,aj] at hg;simp only [DY,aj] at hr;simp only [lq,Hf,bd] at hq;rcases hq with rfl | hq
  ·exact hu.alQ hz hk hg.1 hf.left hr.1
  ·have h2:=hf.right
   rw [iI (zl hg.1)] at h2;exact Yk hz hk hg.2 h2 hr.2 q hq u hu
theorem cS.tkr {S:aB} {t:bJ} {A:ai} {g:GR} {ρ:Ren} {N:Nat} {a:Act} (h:cS P S t A g) (ht:jB P E ρ t N a):jB P (E.sub A g.bs g.fs S.nr) ρ (S.tm S.nr S.ids g.vs) N a:=by
 refine jB.gH ht.size fun q hq=>?_;have hh:ml E (E.sub A g.bs g.fs S.nr) (S.KO P t A) S.nr:=h.hyp;rcases eX.1 hq with hq | hq
 ·rw [h.vs] at hq
  exact acb (E:=E) (E0:=E.sub A g.bs g.fs S.nr) (A:=A) rfl h.rk ht (h.vs ▸ h.dh) hh.left h.ajo q hq
 rcases eX.1 hq with hq | hq
 ·obtain ⟨p,hp,hip,rfl⟩:=D0 hq
  obtain ⟨b,h1,h2⟩:=(Dd h.Pg p hp).1 hip;refine ⟨?_,?_⟩
  ·by_cases hN:N<=p.1
   ·rw [ht.none _ hN] at h1; simp at h1
   ·exact Nat.lt_of_not_le hN
  ·have hk:p.2.1 < S.rows.length:=by
    have:=(cw.1 h2).1;rw [h.bs,yN] at this; exact this
   have hv:=ht.val p.1;rw [h1] at hv;obtain ⟨u,h3,h4⟩:=hv;refine ⟨u,?_,h4⟩;obtain ⟨x,h5,rfl⟩:=(show VK P E (.ptr b p.2.2) u from h3).fX;have:S.ids.getD p.2.1 0=p.2.1:=by rw [eN,BZ S _ hk]; rfl
   rw [this];exact .v8 (by simp [Env.sub,h2,h5])
 ·obtain ⟨p,hp,hip,rfl⟩:=M9 hq
  obtain ⟨h1,h2⟩:=(Dd h.Pg p hp).2 hip;refine ⟨?_,?_⟩
  ·by_cases hN:N<=p.1
   ·rw [ht.none _ hN] at h2; simp at h2
   ·exact Nat.lt_of_not_le hN
  ·obtain ⟨u,h3,h4⟩:=ht.val p.1
   rw [h1] at h3;have h3:VK P E (valOf t (p.2.1 - 1000000)) u:=h3;show ∃ u,VK P _ (M5 _ (p.2.1 - 1000000)) u/\_;unfold M5;cases hl:(gH (Hf S.nr S.ids S.dh g.vs)).get (p.2.1 - 1000000) with
   | none=>exact VC.bz
   | some v=>
    refine ⟨u,?_,h4⟩;have hm:=Pn hl;rw [h.vs] at hm;exact Yk (E:=E) (E0:=E.sub A g.bs g.fs S.nr) (A:=A) rfl h.rk (h.vs ▸ h.dh) hh.left h.ajo _ hm u h3
theorem cS.row {S:aB} {t:bJ} {A:ai} {g:GR} (h:cS P S t A g) {k:Nat} {p:Tmp×List CD×Nat} (hp:S.rows[k]? = some p):∃ b cs,g.bs[k]? = some b/\A.get b=some (.row cs p.2.2)/\cs.length=p.2.1.length/\BT t A p=cs/\g.rs[k]? = some (dY P A p.2.1 cs)/\cK p.2.1 (dY P A p.2.1 cs)=true:=by
 obtain ⟨h1,h2⟩:=Sx h.rows hp;obtain ⟨b,cs,h4,h5,h6,h7⟩:=Dc h1;refine ⟨b,cs,by rw [h.bs,VF hp,h6],h4,h5,h7,?_,by rw [<- h7]; exact h2⟩;have:∀ {ps:List (Tmp×List CD×Nat)} {k:Nat},ps[k]? = some p->(DW P t A ps)[k]? = some (dY P A p.2.1 (BT t A p)):=by
  intro ps
  induction ps with
  | nil=>intro k h; simp at h
  | cons q ps ih=>
   intro k h;cases k with
   | zero=>simp at h; subst h; rfl
   | succ k=>simp at h; simpa [DW] using ih h
 rw [h.rs,this hp,h7]
theorem cS.nz {S:aB} {t:bJ} {A:ai} {g:GR} (h:cS P S t A g):g.rs.length=S.rows.length:=by rw [h.rs,LI]
theorem cS.VI {S:aB} {t:bJ} {A:ai} {g:GR} (h:cS P S t A g):g.bs.length=S.rows.length:=by rw [h.bs,yN]
theorem cS.pf {S:aB} {t:bJ} {A:ai} {g:GR} (h:cS P S t A g):∀ (k:Nat) p r,S.rows[k]? = some p->g.rs[k]? = some r->cK p.2.1 r=true:=fun k p r hp hr=>by
 obtain ⟨b,cs,_,_,_,_,h1,h2⟩:=h.row hp;rw [hr] at h1; simp at h1; subst h1; exact h2
theorem cS.lens {S:aB} {t:bJ} {A:ai} {g:GR} (h:cS P S t A g):(S.lens P g.vs g.rs).length=(S.KO P t A).length:=by
 simp only [aB.lens,aB.KO,gd];rw [yP h.dh,DZ h.nz h.pf rfl,LJ h.rows,yO (h.vs ▸ h.dh)]
theorem cS.fact {S:aB} {t:bJ} {A:ai} {g:GR} (h:cS P S t A g) {i:Nat} {q:gG} (hq:(S.lens P g.vs g.rs)[i]? = some q):∃ fi,(S.KO P t A)[i]? = some fi/\g.fs[i]? = some fi.f/\E4 P A fi q:=by
 have aJ:i < (S.KO P t A).length:=by rw [<- h.lens]; exact (cw.1 hq).1
 have hfi:=cl aJ;have bM:=M7 h.rD _ (JU aJ);refine ⟨_,hfi,by rw [h.fs]; exact Gz hfi,?_⟩;have hv:(yc P t A S.dh).length=lr S.dh:=yO (h.vs ▸ h.dh);have U9:(wH P S.dh g.vs).length=lr S.dh:=yP h.dh;simp only [aB.lens] at hq;have acd:=hfi;simp only [aB.KO] at acd;by_cases hi:i < lr S.dh
 ·rw [nE (by omega)] at hq acd
  obtain ⟨p,h1,h2⟩:=Sy (h.vs ▸ h.dh) acd bM;rw [h.vs,h1] at hq;simp at hq; subst hq; exact h2
 ·rw [o3 (by omega)] at hq acd
  obtain ⟨p,h1,h2⟩:=Sz h.rows acd bM;rw [h.rs,U9,<- hv,h1] at hq;simp at hq; subst hq; exact h2
theorem Na {t:bJ} {A:ai} {nr:Nat} {bs:List Nat} : ∀ {ps:List (Tmp×List CD×Nat)},Rb nr bs t A ps=true->∀ {k:Nat} {p:Tmp×List CD×Nat},ps[k]? = some p->zP nr bs p.2.1 (BT t A p)=true
 | [],_,k,p,h=>by simp at h
 | q::ps,h,k,p,hp=>by
  simp only [Rb,aj] at h;cases k with
  | zero=>simp at hp; subst hp; exact h.1
  | succ k=>simp at hp; exact Na h.2 hp
theorem mz {S:aB} {rs:List (List KV)} (h:rs.length=S.rows.length):(ow .empty S.rows (S.BV S.nr S.ids rs)).next=S.nr:=by
 show (ow .empty S.rows (Sv (S.nr+lr S.dh) S.ids S.rows rs)).next=S.nr;rw [Yi (Pm h _ _)];simp [ai.empty,aB.nr]
theorem B5 {S:aB} {vs:List KV} {rs:List (List KV)} (h:rs.length=S.rows.length) {b:Nat} {o:gG} (hb:(S.mem P vs rs).get b=some o) :
  (∃ p r,S.rows[b]? = some p/\rs[b]? = some r/\o = .row (nT (vE (S.nr+lr S.dh) S.rows b) S.ids p.2.1 r) p.2.2)\/∃ i q,b=S.nr+i/\(S.lens P vs rs)[i]? = some q/\o=q:=by
 rcases Pl hb with hb | ⟨i,q,h1,h2,h3⟩
 ·rcases ab9 hb with e | ⟨k,p,r,rfl,h1,h2,h3⟩
  ·simp [ai.empty,ai.get] at e
  ·have hk:(ai.empty.next+k)=k:=by simp [ai.empty]
   rw [hk];have aJ:k < rs.length:=by rw [h]; exact (cw.1 h1).1
   have e1:=cl aJ;have e2:=Kq (bs:=S.ids) (j:=S.nr+lr S.dh) h1 e1;have h2:(Sv (S.nr+lr S.dh) S.ids S.rows rs)[k]? = some r:=h2;rw [e2] at h2;simp at h2;exact .inl ⟨p,_,h1,e1,by rw [h3,<- h2]⟩
 ·rw [mz h] at h1
  exact .inr ⟨i,q,h1,h2,h3⟩
theorem Jc {t:TypeId} {n:Nat} {es:List KV} {acc:Nat->KV} {aP:List Value} (ht:fP P t n es acc) (h:aK P E es aP):∃ mu fa,K.bU P df (.ts t .any n es acc) = .ts t .any n mu fa/\fP P t n mu fa/\aK P E mu aP:=by
 refine ⟨(List.range n).map fun i=>gW P (K.bU P 5) t (acc i),fun i=>gW P (K.bU P 5) t (acc i),rfl,?_⟩;have wA:∀ i,i < n->∃ e e',es[i]? = some e/\aP[i]? = some e'/\acc i=e/\ca (aH P t) e=true/\VK P E e e':=by
  intro i hi;have hl:i < es.length:=by rw [<- ht.len]; exact hi
  have e1:=cl hl;obtain ⟨e',e2,e3⟩:=h.get e1;exact ⟨_,e',e1,e2,by rw [ht.acc i hi,eN,e1]; rfl,fD ht.typed e1,e3⟩
 have hlen:aP.length=n:=by rw [h.length,ht.len]
 refine ⟨⟨by simp,fun i hi=>?_,?_⟩,?_⟩
 ·rw [eN,mf,List.getElem?_range hi]; rfl
 ·refine lV fun i e he=>?_
  rw [mf] at he;by_cases hi:i < n
  ·rw [List.getElem?_range hi] at he
   simp only [Option.map_some,aR] at he;obtain ⟨x,x',_,_,q3,q4,_⟩:=wA i hi;rw [<- he,q3,gW];obtain ⟨r1,r2,_⟩:=Gh q4;rw [r1];exact Vb q4 (BN 5 r2) (by simp)
  ·rw [List.getElem?_eq_none (by simp; omega)] at he; simp at he
 ·refine aK.Oa (by simp [hlen]) fun i e e' he he'=>?_
  rw [mf] at he;by_cases hi:i < n
  ·rw [List.getElem?_range hi] at he
   simp only [Option.map_some,aR] at he;obtain ⟨x,x',_,q2,q3,q4,q5⟩:=wA i hi;rw [he'] at q2;simp only [aR] at q2;subst q2;rw [<- he,q3];exact VK.gW 5 q4 q5
  ·rw [List.getElem?_eq_none (by simp; omega)] at he; simp at he
theorem cS.af3 {S:aB} {t:bJ} {A:ai} {g:GR} (h:cS P S t A g) {b:Nat} {v:KV} (hb:(S.mem P g.vs g.rs).get b=some (.arr v)) :
  ∃ i T,b=S.nr+i/\((g.fs[i]? = some none/\1<=aI P T/\v=K.bU P df (.ts T .any 0 [] mJ))\/∃ f m N es acc,g.fs[i]? = some (some f)/\A.get f=some (.arr (.ts T m N es acc))/\v=K.bU P df (.ts T .any N es acc)):=by
 rcases B5 h.nz hb with ⟨p,r,_,_,h3⟩ | ⟨i,q,rfl,h2,h3⟩
 ·simp at h3
 ·subst h3
  obtain ⟨fi,h4,h5,h6⟩:=h.fact h2;rcases h6 with ⟨_,_,e,_⟩ | ⟨T,v',e,h6⟩
  ·simp at e
  ·simp only [gG.arr.injEq] at e
   subst e;rcases h6 with ⟨h6,h7⟩ | ⟨f,m,N,es,acc,h6,h7⟩
   ·exact ⟨i,T,rfl,.inl ⟨by rw [h5,h6],h7⟩⟩
   ·exact ⟨i,T,rfl,.inr ⟨f,m,N,es,acc,by rw [h5,h6],h7⟩⟩
theorem cS.B6 {S:aB} {t:bJ} {A:ai} {g:GR} (h:cS P S t A g) {b:Nat} {v:KV} (hb:(S.mem P g.vs g.rs).get b=some (.arr v)) {p:Nat×Nat×Nat} (hp:(E.sub A g.bs g.fs S.nr).α b=some p) :
  ∃ i f u,b=S.nr+i/\g.fs[i]? = some (some f)/\A.get f=some (.arr u)/\E.α f=some p:=by
 obtain ⟨i,T,rfl,h1⟩:=h.af3 hb;rw [Env.B4] at hp;rcases h1 with ⟨h1,_⟩ | ⟨f,m,N,es,acc,h1,h2,_⟩
 ·rw [h1] at hp; simp at hp
 ·rw [h1] at hp; exact ⟨i,f,_,rfl,h1,h2,hp⟩
theorem cS.AR {S:aB} {t:bJ} {A:ai} {g:GR} (h:cS P S t A g) {x:Nat} (q:K.AR (S.mem P g.vs g.rs) (E.sub A g.bs g.fs S.nr) x):∃ f u L N,f∈iq g.fs/\A.get f=some (.arr u)/\E.α f=some (x,L,N):=by
 obtain ⟨b,v,L,N,h1,h2⟩:=q;obtain ⟨i,f,u,_,h3,h4,h5⟩:=h.B6 h1 h2;exact ⟨f,u,L,N,sh.2 (eS h3),h4,h5⟩
theorem cS.ar {S:aB} {t:bJ} {A:ai} {g:GR} (h:cS P S t A g) {x:Nat} (q:K.AR (S.mem P g.vs g.rs) (E.sub A g.bs g.fs S.nr) x):K.AR A E x:=by
 obtain ⟨f,u,L,N,_,h2,h3⟩:=h.AR q;exact ⟨f,u,L,N,h2,h3⟩
theorem cS.AF {S:aB} {t:bJ} {A:ai} {B:St} {g:GR} (h:cS P S t A g) {q:Nat} (k:K.AF (S.mem P g.vs g.rs) (E.sub A g.bs g.fs S.nr) B q):∃ f u x L N cs e own m,f∈iq g.fs/\A.get f=some (.arr u)/\E.α f=some (x,L,N)/\B.get x=some (.row cs e own (some (q,m))):=by
 obtain ⟨b,v,x,L,N,cs,e,own,m,h1,h2,h3⟩:=k;obtain ⟨i,f,u,_,h4,h5,h6⟩:=h.B6 h1 h2;exact ⟨f,u,x,L,N,cs,e,own,m,sh.2 (eS h4),h5,h6,h3⟩
theorem cS.af {S:aB} {t:bJ} {A:ai} {B:St} {g:GR} (h:cS P S t A g) {q:Nat} (k:K.AF (S.mem P g.vs g.rs) (E.sub A g.bs g.fs S.nr) B q):K.AF A E B q:=by
 obtain ⟨f,u,x,L,N,cs,e,own,m,_,h1,h2,h3⟩:=h.AF k;exact ⟨f,u,x,L,N,cs,e,own,m,h1,h2,h3⟩
theorem cS.at {S:aB} {t:bJ} {A:ai} {B:St} {g:GR} (h:cS P S t A g) {y:Nat} (k:K.AT (S.mem P g.vs g.rs) (E.sub A g.bs g.fs S.nr) B y):K.AT A E B y:=k.imp h.ar fun ⟨q,h1,h2⟩=>⟨q,h.af h1,h2⟩
theorem cS.dI {S:aB} {t:bJ} {A:ai} {B:St} {g:GR} (h:cS P S t A g) (hk:du P E A B):du P (E.sub A g.bs g.fs S.nr) (S.mem P g.vs g.rs) B where
 row b cs aQ hb:=by
  rcases B5 h.nz hb with ⟨p,r,h1,h2,h3⟩ | ⟨i,q,_,h2,h3⟩
  ·simp only [gG.row.injEq] at h3
   obtain ⟨rfl,rfl⟩:=h3;obtain ⟨b',cs,h4,h5,h6,h7,h8,h9⟩:=h.row h1;rw [h2] at h8; simp at h8; subst h8;obtain ⟨x,bX,qg,Vc,h12⟩:=hk.row _ _ _ h5;refine ⟨x,bX,by simp [Env.sub,h4,qg],Vc,?_⟩;have hh:ml E (E.sub A g.bs g.fs S.nr) (S.KO P t A) S.nr:=h.hyp;have hr:=hh.right;rw [yO (h.vs ▸ h.dh)] at hr;have:=VG h.rows hr h1;rw [h7] at this;have hrr:=Na h.alR h1;rw [h7] at hrr;exact aK.cellsIn (E:=E) (E0:=E.sub A g.bs g.fs S.nr) rfl h.rk h12 h6 h9 this hrr
  ·subst h3
   obtain ⟨fi,_,_,h6⟩:=h.fact h2;rcases h6 with ⟨_,_,e,_⟩ | ⟨_,_,e,_⟩ <;> simp at e
 aF b top sz hb:=by
  rcases B5 h.nz hb with ⟨p,r,_,_,h3⟩ | ⟨i,q,rfl,h2,h3⟩
  ·simp at h3
  ·subst h3
   obtain ⟨fi,h4,h5,h6⟩:=h.fact h2;rcases h6 with ⟨_,_,e,h6⟩ | ⟨_,_,e,_⟩
   ·simp only [gG.aF.injEq] at e
    obtain ⟨rfl,rfl⟩:=e;rw [Env.VH,h5,cD];rcases h6 with ⟨h6,h7⟩ | ⟨f,h6,h7⟩
    ·rw [h6]; exact .inl ⟨h7,rfl⟩
    ·rw [h6,cD,show uY (A.get f)=true by rw [h7]; rfl,ah]; exact hk.aF f _ _ h7
   ·simp at e
 z:=hk.z
 apart b x e:=by
  simp only [Env.sub,aO] at e;obtain ⟨b',_,e⟩:=e;exact hk.apart b' x e
 inj b c x e1 e2:=by
  simp only [Env.sub,aO] at e1 e2;obtain ⟨b',h1,e1⟩:=e1;obtain ⟨c',h2,e2⟩:=e2;have:=hk.inj _ _ _ e1 e2;subst this;exact VE h.nodup _ _ _ h1 h2
 iA b c q tb sb tc sc hb hc e1 e2:=by
  have key:∀ {b t s},(S.mem P g.vs g.rs).get b=some (.aF t s)->∃ i,b=S.nr+i/\((g.fs[i]? = some none)\/∃ f,g.fs[i]? = some (some f)/\A.get f=some (.aF t s)):=by
   intro b t s hb;rcases B5 h.nz hb with ⟨p,r,_,_,h3⟩ | ⟨i,q1,rfl,h2,h3⟩
   ·simp at h3
   subst h3;obtain ⟨fi,h4,h5,h6⟩:=h.fact h2;rcases h6 with ⟨_,_,e,h6⟩ | ⟨_,_,e,_⟩
   ·simp only [gG.aF.injEq] at e
    obtain ⟨rfl,rfl⟩:=e;rcases h6 with ⟨h6,_⟩ | ⟨f,h6,h7⟩
    ·exact ⟨i,rfl,.inl (by rw [h5,h6])⟩
    ·exact ⟨i,rfl,.inr ⟨f,by rw [h5,h6],h7⟩⟩
   ·simp at e
  obtain ⟨i,rfl,h1⟩:=key hb;obtain ⟨j,rfl,h2⟩:=key hc;rw [Env.VH] at e1 e2;rcases h1 with h1 | ⟨f,h1,h3⟩
  ·rw [h1] at e1; simp at e1
  rcases h2 with h2 | ⟨f',h2,h4⟩
  ·rw [h2] at e2; simp at e2
  rw [h1,cD,cD] at e1;rw [h2,cD,cD] at e2;rw [show uY (A.get f)=true by rw [h3]; rfl,ah] at e1;rw [show uY (A.get f')=true by rw [h4]; rfl,ah] at e2;have:=hk.iA f f' q _ _ _ _ h3 h4 e1 e2;subst this;have:=sZ h.TG i j f h1 h2;omega
 fT b x e:=by
  simp only [Env.sub,aO] at e;obtain ⟨b',h1,_⟩:=e;have:b < g.bs.length:=(cw.1 h1).1;rw [aB.mem,eQ,mz h.nz];rw [h.VI] at this;simp only [aB.nr]; omega
 ll b q e:=by
  simp only [Env.sub] at e;split at e
  ·rename_i hle
   obtain ⟨f,h1,_⟩:=aO.1 e;have h2:b - S.nr < g.fs.length:=(cw.1 h1).1;rw [h.fs,oU,<- h.lens] at h2;rw [aB.mem,eQ,mz h.nz];omega
  ·simp at e
 live b o hb:=by
  rw [aB.mem,eQ,mz h.nz];rcases B5 h.nz hb with ⟨p,r,h1,_,_⟩ | ⟨i,q,rfl,h2,h3⟩
  ·have:=(cw.1 h1).1
   simp only [aB.nr]; omega
  ·have:=(cw.1 h2).1
   omega
 eB b x e:=by
  simp only [Env.sub,aO] at e;obtain ⟨b',_,e⟩:=e;exact hk.eB b' x e
 lT:=hk.lT
 iQ b q e:=by
  simp only [Env.sub] at e;split at e
  ·obtain ⟨f,_,e⟩:=aO.1 e
   obtain ⟨f',_,e⟩:=aO.1 e;exact hk.iQ _ _ (Kr e).1
  ·simp at e
 fresh:=hk.fresh
 mem:=hk.mem
 ar:=by
  have Z6:∀ b p,(E.sub A g.bs g.fs S.nr).α b=some p->S.nr<=b/\b - S.nr < g.fs.length/\∃ f,E.α f=some p:=by
   intro b p e;simp only [Env.sub] at e;split at e
   ·rename_i hle
    obtain ⟨f,h1,e⟩:=aO.1 e;obtain ⟨f',_,e⟩:=aO.1 e;exact ⟨hle,(cw.1 h1).1,f',e⟩
   ·simp at e
  refine ⟨fun b v hb=>?_,fun b v hb=>?_,fun x q=>?_,fun b c v u x L N L' N' h1 h2 h3 h4=>?_,fun b c v u x y L N L' N' cs e own q k bX e' nN k' h1 h2 h3 h4 h5 h6=>?_,fun b x e=>?_,fun b p e=>?_,fun b x L N e=>?_,fun b v x L N cs e own q k h1 h2 h3=>?_,fun b v hb=>?_⟩
  ·obtain ⟨i,T,rfl,h1⟩:=h.af3 hb
   rcases h1 with ⟨h1,h2,h3⟩ | ⟨f,m,N,es,acc,h1,h2,h3⟩
   ·obtain ⟨mu,fa,e1,e2,_⟩:=Jc (P:=P) (E:=E) (t:=T) (n:=0) (es:=[]) (acc:=mJ) (aP:=[]) ⟨rfl,fun i hi=>by omega,rfl⟩ .nil
    rw [e1] at h3;refine ⟨T,0,mu,fa,h3,e2,h2,.inl ⟨rfl,?_⟩⟩;rw [Env.B4,h1]; rfl
   ·obtain ⟨T2,N2,mu,fa,e,ht,cT,rp⟩:=hk.ar.arr f _ h2
    simp only [KV.ts.injEq] at e;obtain ⟨rfl,rfl,rfl,rfl,rfl⟩:=e;rcases rp with ⟨h4,h5⟩ | ⟨x,cs,aZ,aP,h4,h5,h6,h7⟩
    ·subst h4
     have MV:es = []:=lE.1 ht.len.symm;subst MV;obtain ⟨mu,fa,e1,e2,_⟩:=Jc (P:=P) (E:=E) (aP:=[]) ht .nil;rw [e1] at h3;refine ⟨T,0,mu,fa,h3,e2,cT,.inl ⟨rfl,?_⟩⟩;rw [Env.B4,h1]; exact h5
    ·obtain ⟨mu,fa,e1,e2,e3⟩:=Jc ht h6
     rw [e1] at h3;refine ⟨T,N,mu,fa,h3,e2,cT,.inr ⟨x,cs,aZ,aP,?_,h5,aK.zEs (E:=E) (E0:=E.sub A g.bs g.fs S.nr) (.of rfl) e3 e2.typed,h7⟩⟩;rw [Env.B4,h1]; exact h4
  ·rcases B5 h.nz hb with ⟨p,r,_,_,h3⟩ | ⟨i,q,rfl,h2,h3⟩
   ·simp at h3
   ·subst h3
    obtain ⟨fi,_,_,h6⟩:=h.fact h2;rcases h6 with ⟨_,_,e,_⟩ | ⟨_,_,e,_⟩ <;> simp at e
  ·obtain ⟨h1,h2⟩:=hk.ar.z x (h.ar q)
   refine ⟨h1,fun c e=>?_⟩;simp only [Env.sub,aO] at e;obtain ⟨b',_,e⟩:=e;exact h2 b' e
  ·obtain ⟨i,f,u1,rfl,k1,k2,k3⟩:=h.B6 h1 h3
   obtain ⟨j,f',u2,rfl,k1',ZE,k3'⟩:=h.B6 h2 h4;have:=hk.ar.inj f f' u1 u2 x L N L' N' k2 ZE k3 k3';subst this;have:=sZ h.TG i j f k1 k1';omega
  ·obtain ⟨i,f,u1,rfl,k1,k2,k3⟩:=h.B6 h1 h3
   obtain ⟨j,f',u2,rfl,k1',ZE,k3'⟩:=h.B6 h2 h4;have:=hk.ar.rD f f' u1 u2 x y L N L' N' cs e own q k bX e' nN k' k2 ZE k3 k3' h5 h6;subst this;have:=sZ h.TG i j f k1 k1';omega
  ·cases oS:(E.sub A g.bs g.fs S.nr).α b with
   | none=>rfl
   | some p=>
    obtain ⟨h1,_,_⟩:=Z6 b p oS;simp only [Env.sub,aO] at e;obtain ⟨b',h2,_⟩:=e;have:b < g.bs.length:=(cw.1 h2).1;rw [h.VI] at this;simp only [aB.nr] at h1; omega
  ·obtain ⟨h1,h2,_⟩:=Z6 b p e
   rw [h.fs,oU,<- h.lens] at h2;rw [aB.mem,eQ,mz h.nz];omega
  ·obtain ⟨_,_,f,e⟩:=Z6 b _ e
   exact hk.ar.eB f x L N e
  ·obtain ⟨i,f,u,rfl,k1,k2,k3⟩:=h.B6 h1 h2
   obtain ⟨h4,h5,h6⟩:=hk.ar.p0 f u x L N cs e own q k k2 k3 h3;refine ⟨h4,fun c e=>?_,fun y hy bx=>?_⟩
   ·simp only [Env.sub] at e
    split at e
    ·obtain ⟨f1,_,e⟩:=aO.1 e
     obtain ⟨f',_,e⟩:=aO.1 e;exact h5 f' (Kr e).1
    ·simp at e
   ·obtain ⟨h7,h8,h9⟩:=h6 y hy bx
    refine ⟨h7,fun q=>h8 (h.ar q),fun c e=>?_⟩;simp only [Env.sub,aO] at e;obtain ⟨b',_,e⟩:=e;exact h9 b' e
  ·rcases B5 h.nz hb with ⟨p,r,_,_,h3⟩ | ⟨i,q,rfl,h2,_⟩
   ·simp at h3
   ·refine ⟨?_,?_⟩
    ·rw [aB.mem,eQ,mz h.nz]
     have:=(cw.1 h2).1;omega
    ·simp only [Env.sub]
     rw [List.getElem?_eq_none (by rw [h.VI]; simp only [aB.nr]; omega)];rfl
structure Co (base:Nat) (E:Env) (A:ai) (B:St) (ρ:Ren) (w:World) (E' : Env) (A' : ai) (B' : St) (ak:Ren) (w' : World):Prop where
 gD:cp base ρ B w ak B' w'
 z:∀ b r,E.z b=some r->E'.z b=some r
 dj:∀ x,x < B.next->(∀ b,E.κ b≠some x)->¬ AT A E B x->B'.get x=B.get x
 new:∀ b x,E'.κ b=some x->(∃ c,E.κ c=some x)\/B.next<=x
 qN:∀ b r,E'.z b=some r->E.z b=some r\/AR A E b\/B.next<=b
 pk:∀ b g,E'.φ b=some g->(∃ c,E.φ c=some g)\/B.next<=g
 nw:∀ g,g < B.next->(∀ b,E.φ b≠some g)->¬ AF A E B g->B'.members g=B.members g
 jR:∀ x,AR A' E' x->AR A E x\/B.next<=x
 j6:∀ g,AF A' E' B' g->AF A E B g\/B.next<=g
 rJ:∀ g y,y∈B'.members g->y∈B.members g\/B.next<=y
 lU:∀ y,AT A' E' B' y->AT A E B y\/B.next<=y
 rows:∀ y,y < B.next->∀ cs e own aZ,B'.get y=some (.row cs e own aZ)->∃ mI,B.get y=some (.row mI e own aZ)/\mI.length=cs.length
theorem Co.trans {base:Nat} {E1 E2 E3:Env} {A1 A2 A3:ai} {B1 B2 B3:St} {fC nv QL:Ren} {w1 w2 w3:World} (h:Co base E1 A1 B1 fC w1 E2 A2 B2 nv w2) (k:Co base E2 A2 B2 nv w2 E3 A3 B3 QL w3):Co base E1 A1 B1 fC w1 E3 A3 B3 QL w3 where
 gD:=h.gD.trans k.gD
 z b r e:=k.z b r (h.z b r e)
 dj x hx hn ha:=by
  refine (k.dj x (dG hx h.gD.next) (fun b e=>?_) fun q=>?_).trans (h.dj x hx hn ha)
  ·rcases h.new b x e with ⟨c,e⟩ | e
   ·exact hn c e
   ·omega
  ·rcases h.lU x q with e | e
   ·exact ha e
   ·omega
 new b x e:=by
  rcases k.new b x e with ⟨c,e⟩ | e
  ·exact h.new c x e
  ·have:=h.gD.next; exact .inr (by omega)
 qN b r e:=by
  rcases k.qN b r e with e | e | e
  ·exact h.qN b r e
  ·exact .inr (h.jR b e)
  ·have:=h.gD.next; exact .inr (.inr (by omega))
 pk b g e:=by
  rcases k.pk b g e with ⟨c,e⟩ | e
  ·exact h.pk c g e
  ·have:=h.gD.next; exact .inr (by omega)
 nw g hg hn ha:=by
  refine (k.nw g (dG hg h.gD.next) (fun b e=>?_) fun q=>?_).trans (h.nw g hg hn ha)
  ·rcases h.pk b g e with ⟨c,e⟩ | e
   ·exact hn c e
   ·omega
  ·rcases h.j6 g q with e | e
   ·exact ha e
   ·omega
 jR x e:=by
  rcases k.jR x e with e | e
  ·exact h.jR x e
  ·have:=h.gD.next; exact .inr (by omega)
 j6 g e:=by
  rcases k.j6 g e with e | e
  ·exact h.j6 g e
  ·have:=h.gD.next; exact .inr (by omega)
 rJ g y e:=by
  rcases k.rJ g y e with e | e
  ·exact h.rJ g y e
  ·have:=h.gD.next; exact .inr (by omega)
 lU y e:=by
  rcases k.lU y e with e | e
  ·exact h.lU y e
  ·have:=h.gD.next; exact .inr (by omega)
 rows y hy cs e own aZ q:=by
  obtain ⟨c1,h1,h2⟩:=k.rows y (dG hy h.gD.next) cs e own aZ q;obtain ⟨c0,h3,h4⟩:=h.rows y hy c1 e own aZ h1;exact ⟨c0,h3,h4.trans h2⟩
theorem Ev.co {base:Nat} {A A1:ai} {B B1:St} {ρ fC:Ren} {w w1:World} {E1:Env} {S:aB} {t:bJ} {g:GR} (h:Ev P base E A B ρ w E1 A1 B1 fC w1) (hG:cS P S t A1 g):Co base E A B ρ w (E1.sub A1 g.bs g.fs S.nr) (S.mem P g.vs g.rs) B1 fC w1 where
 gD:=h.gD
 z:=h.le.z
 dj:=h.dj
 new b x e:=by
  simp only [Env.sub,aO] at e;obtain ⟨b',_,e⟩:=e;exact (h.new b' x e).imp (fun e=>⟨_,e⟩) id
 qN:=h.qN
 pk b g e:=by
  simp only [Env.sub] at e;split at e
  ·obtain ⟨f,_,e⟩:=aO.1 e
   obtain ⟨f',_,e⟩:=aO.1 e;exact h.pk _ _ (Kr e).1
  ·simp at e
 nw:=h.nw
 jR x q:=h.jR x (hG.ar q)
 j6 g q:=h.j6 g (hG.af q)
 rJ:=h.rJ
 lU y q:=h.lU y (hG.at q)
 rows:=h.rows
def Po (nr:Nat):List CD->Bool
 | []=>true
 | .ref w::ds=>Ss nr w&&Po nr ds
 | _::ds=>Po nr ds
theorem B7 {nr:Nat} {bs:List Nat} : ∀ {ds:List CD} {vs:List KV},zP nr bs ds vs=true->vs.length=ds.length->Po nr ds=true
 | [],_,_,_=>rfl
 | _::_,[],_,e=>by simp at e
 | .k c::ds,v::vs,h,e=>B7 (ds:=ds) (vs:=vs) h (by simpa using e)
 | .lit c::ds,v::vs,h,e=>B7 (ds:=ds) (vs:=vs) h (by simpa using e)
 | .aF c::ds,v::vs,h,e=>B7 (ds:=ds) (vs:=vs) h (by simpa using e)
 | .arr c::ds,v::vs,h,e=>B7 (ds:=ds) (vs:=vs) h (by simpa using e)
 | .ref w::ds,v::vs,h,e=>by
  simp only [zP,aj] at h;simp only [Po,aj];exact ⟨h.1,B7 h.2.2 (by simpa using e)⟩
def Nb (E1 E2:Env) (i j n:Nat):Prop:=∀ m,m < n->(∀ g,E1.φ (i+m)=some g->E2.φ (j+m)=some g)/\∀ p,E1.α (i+m)=some p->E2.α (j+m)=some p
theorem Nb.tail {E1 E2:Env} {i j n:Nat} (h:Nb E1 E2 i j (n+1)):Nb E1 E2 (i+1) (j+1) n:=fun m hm=>by
 have:=h (m+1) (by omega);rw [show i+(m+1)=i+1+m by omega,show j+(m+1)=j+1+m by omega] at this;exact this
theorem Nb.left {E1 E2:Env} {i j n n' : Nat} (h:Nb E1 E2 i j n') (hn:n<=n'):Nb E1 E2 i j n:=fun m hm=>h m (by omega)
theorem Nb.right {E1 E2:Env} {i j n n' : Nat} (h:Nb E1 E2 i j (n+n')):Nb E1 E2 (i+n) (j+n) n':=fun m hm=>by
 have:=h (n+m) (by omega);rw [<- nG,<- nG] at this;exact this
theorem aK.vF {E1 E2:Env} (hz:E2.z=E1.z) {nr:Nat} {Nc bs2:List Nat} (hk:Rk E1 E2 nr Nc bs2):∀ {ds:List CD} {vs:List KV} {us:List Value} {i j:Nat},aK P E1 (nT i Nc ds vs) us->cK ds vs=true->Po nr ds=true->Nb E1 E2 i j (ov ds)->aK P E2 (nT j bs2 ds vs) us
 | [],[],us,_,_,h,_,_,_=>by rw [h.bA]; exact .nil
 | [],_::_,_,_,_,_,hg,_,_=>by simp [cK] at hg
 | _::_,[],_,_,_,_,hg,_,_=>by simp [cK] at hg
 | d::ds,v::vs,us,i,j,h,hg,hw,hf=>by
  simp only [cK,aj] at hg;cases d with
  | k c=>
   obtain ⟨y,ys,rfl,h1,h2⟩:=aK.cons_inv (show aK P E1 (v::nT i Nc ds vs) us from h);exact .cons (h1.gCD (d:=.k c) hz hg.1 (by simp)) (aK.vF hz hk h2 hg.2 hw hf)
  | lit w=>
   obtain ⟨y,ys,rfl,h1,h2⟩:=aK.cons_inv (show aK P E1 (v::nT i Nc ds vs) us from h);exact .cons (h1.gCD (d:=.lit w) hz hg.1 (by simp)) (aK.vF hz hk h2 hg.2 hw hf)
  | ref w=>
   simp only [Po,aj] at hw;obtain ⟨y,ys,rfl,h1,h2⟩:=aK.cons_inv (show aK P E1 (inst Nc w::nT i Nc ds vs) us from h);exact .cons (VK.inst hk hw.1 h1) (aK.vF hz hk h2 hg.2 hw.2 hf)
  | aF t=>
   obtain ⟨y,ys,rfl,h1,h2⟩:=aK.cons_inv (show aK P E1 (Gx i v::nT (i+1) Nc ds vs) us from h);refine .cons ?_ (aK.vF (i:=i+1) (j:=j+1) hz hk h2 hg.2 hw (Nb.tail hf));have hv:∃ n es acc,v = .ts t .any n es acc:=by
    have OQ:kindOk (.slice t) v=true:=hg.1;cases v <;> simp [kindOk] at OQ;rename_i t' m n es acc;cases m <;> simp at OQ;subst OQ; exact ⟨_,_,_,rfl⟩
   obtain ⟨n,es,acc,rfl⟩:=hv;exact VK.swap hz (show VK P E1 (.ts t (.aF i) n es acc) y from h1) fun sz a cap _ hm=>by
    refine ⟨hm.1,hm.2.imp id ?_⟩;rintro ⟨b,r,g,q1,q2,q3,q4,q5⟩;exact ⟨b,r,g,q1,by rw [hz]; exact q2,q3,(hf 0 (by simp [ov])).1 g q4,q5⟩
  | arr t=>
   obtain ⟨y,ys,rfl,h1,h2⟩:=aK.cons_inv (show aK P E1 (Km i v::nT (i+1) Nc ds vs) us from h);refine .cons ?_ (aK.vF (i:=i+1) (j:=j+1) hz hk h2 hg.2 hw (Nb.tail hf));have hv:∃ n es acc,v = .ts t .any n es acc:=by
    have OQ:kindOk (.slice t) v=true:=hg.1;cases v <;> simp [kindOk] at OQ;rename_i t' m n es acc;cases m <;> simp at OQ;subst OQ; exact ⟨_,_,_,rfl⟩
   obtain ⟨n,es,acc,rfl⟩:=hv;show VK P E2 (.al t j 0 n) y;rcases (show VK P E1 (.al t i 0 n) y from h1).rI with ⟨q1,q2,q3⟩ | ⟨x,L,N,c,q1,q2⟩
   ·exact .IE (.inl ⟨q1,q2,q3⟩)
   ·exact .IE (.inr ⟨x,L,N,c,(hf 0 (by simp [ov])).2 _ q1,q2⟩)
theorem ahn (j:Nat) (bs:List Nat) (d:VD) (cs:List KV):Su j bs d (.agg cs) = .agg (nT j bs d.ks cs):=rfl
theorem Yl {j:Nat} {bs:List Nat} {d:VD} {v:KV} (h:∀ cs,v≠.agg cs) {c:CD} (hc:d.ks = [c]) : [Su j bs d v] = nT j bs d.ks [v]:=by
 have e:Su j bs d v=(match d.ks with | [.aF _]=>Gx j v | [.arr _]=>Km j v | [.ref w]=>inst bs w | _=>v):=by
  cases v <;> first | rfl | exact absurd rfl (h _)
 rw [e,hc];cases c <;> rfl
theorem VK.amE {E1 E2:Env} (hz:E2.z=E1.z) {nr:Nat} {Nc bs2:List Nat} (hk:Rk E1 E2 nr Nc bs2) {d:VD} {v:KV} {u:Value} {i j:Nat} (h:VK P E1 (Su i Nc d v) u) (hg:sS d v=true) (hw:Po nr d.ks=true) (hf:Nb E1 E2 i j (ov d.ks)):VK P E2 (Su j bs2 d v) u:=by
 rcases ub hg with ⟨cs,rfl,_,h2⟩ | ⟨h0,_,c,h1,h2⟩
 ·rw [ahn] at h ⊢
  obtain ⟨l,rfl,k⟩:=h.jr;exact .ns (aK.vF hz hk k h2 hw hf)
 ·have k:aK P E1 (nT i Nc d.ks [v]) [u]:=by rw [<- Yl h0 h1]; exact .cons h .nil
  have k2:=aK.vF hz hk k (by rw [h1]; simp [cK,h2]) hw hf;rw [<- Yl h0 h1] at k2;obtain ⟨y,e,k3⟩:=k2.dD;simp at e; subst e; exact k3
def oy (P:Program) (E1 E2:Env):List (Nat×KV)->List (Nat×KV)->Prop
 | [],[]=>True
 | x::xs,y::ys=>x.1=y.1/\(∀ u,VK P E1 x.2 u->VK P E2 y.2 u)/\oy P E1 E2 xs ys
 | _,_=>False
theorem oy.append {E1 E2:Env} : ∀ {a b c d:List (Nat×KV)},oy P E1 E2 a b->oy P E1 E2 c d->oy P E1 E2 (a++c) (b++d)
 | [],[],_,_,_,h=>h
 | [],_::_,_,_,h,_=>h.elim
 | _::_,[],_,_,h,_=>h.elim
 | _::_,_::_,_,_,h,k=>⟨h.1,h.2.1,oy.append h.2.2 k⟩
theorem oy.get {E1 E2:Env} : ∀ {a b:List (Nat×KV)},oy P E1 E2 a b->∀ i,((gH a).get i=none/\(gH b).get i=none)\/∃ x y,(gH a).get i=some x/\(gH b).get i=some y/\∀ u,VK P E1 x u->VK P E2 y u
 | [],[],_,i=>.inl (by simp [gH])
 | [],_::_,h,_=>h.elim
 | _::_,[],h,_=>h.elim
 | x::a,y::b,h,i=>by
  rw [gH,gH,Trie.iX,Trie.iX];by_cases e:i=x.1
  ·rw [ax e,ax (by rw [e,h.1])]
   exact .inr ⟨_,_,rfl,rfl,h.2.1⟩
  ·rw [ae e,ae (by rw [<- h.1]; exact e)]
   exact oy.get h.2.2 i
theorem jB.ajr {E1 E2:Env} {ρ:Ren} {l m:List (Nat×KV)} {N:Nat} {a:Act} (h:jB P E1 ρ (K.gH l) N a) (hp:oy P E1 E2 l m):jB P E2 ρ (K.gH m) N a:=by
 refine ⟨h.size,fun i=>?_,fun i hi=>?_⟩
 ·rcases hp.get i with ⟨_,h2⟩ | ⟨x,y,h1,h2,h3⟩
  ·rw [h2]; exact .bz
  ·have:=h.val i
   rw [h1] at this;rw [h2];obtain ⟨u,k1,k2⟩:=this;exact ⟨u,h3 u k1,k2⟩
 ·rcases hp.get i with ⟨_,h2⟩ | ⟨x,y,h1,h2,h3⟩
  ·exact h2
  ·have:=h.none i hi
   rw [h1] at this; simp at this
def wsV (nr:Nat):List (Tmp×VD)->Bool
 | []=>true
 | p::ps=>Po nr p.2.ks&&wsV nr ps
theorem af4 {A:ai} {t:bJ} {nr:Nat} {bs:List Nat} : ∀ {ps:List (Tmp×VD)},DY nr bs t ps=true->dZ ps (lq P t A ps)=true->wsV nr ps=true
 | [],_,_=>rfl
 | p::ps,h,hg=>by
  simp only [DY,aj] at h;simp only [lq,dZ,aj] at hg;simp only [wsV,aj];exact ⟨B7 h.1 (zl hg.1),af4 h.2 hg.2⟩
theorem Ym {E1 E2:Env} (hz:E2.z=E1.z) {nr:Nat} {Nc bs2:List Nat} (hk:Rk E1 E2 nr Nc bs2):∀ {ps:List (Tmp×VD)} {vs:List KV} {i j:Nat},dZ ps vs=true->wsV nr ps=true->Nb E1 E2 i j (lr ps)->oy P E1 E2 (Hf i Nc ps vs) (Hf j bs2 ps vs)
 | [],[],_,_,_,_,_=>trivial
 | [],_::_,_,_,hg,_,_=>by simp [dZ] at hg
 | _::_,[],_,_,hg,_,_=>by simp [dZ] at hg
 | p::ps,v::vs,i,j,hg,hw,hf=>by
  simp only [wsV,aj] at hw;simp only [dZ,aj] at hg;have hf:Nb E1 E2 i j (ov p.2.ks+lr ps):=hf;exact ⟨rfl,fun u h=>h.amE hz hk hg.1 hw.1 (hf.left (Nat.le_add_right _ _)),Ym hz hk hg.2 hw.2 hf.right⟩
theorem ace {E1 E2:Env} {ids bs:List Nat} : ∀ {ps:List (Tmp×Nat×Nat)},(∀ p∈ps,zO p=true->∀ x,E1.κ (ids.getD p.2.1 0)=some x->E2.κ (bs.getD p.2.1 0)=some x)->oy P E1 E2 (sX ids ps) (sX bs ps)
 | [],_=>trivial
 | p::ps,h=>by
  have ih:=ace (E1:=E1) (E2:=E2) (ids:=ids) (bs:=bs) (ps:=ps) fun q hq=>h q (by simp [hq]);unfold sX;cases hp:zO p with
  | true=>
   exact ⟨rfl,fun u k=>by
    obtain ⟨x,h1,rfl⟩:=(show VK P E1 (.ptr (ids.getD p.2.1 0) p.2.2) u from k).fX;exact .v8 (h p (by simp) hp x h1),ih⟩
  | false=>exact ih
theorem acf {E1 E2:Env} {a b:List (Nat×KV)} (hab:oy P E1 E2 a b):∀ {ps:List (Tmp×Nat×Nat)},oy P E1 E2 (Gy a ps) (Gy b ps)
 | []=>trivial
 | p::ps=>by
  have ih:=acf hab (ps:=ps);unfold Gy;cases hp:zO p with
  | true=>exact ih
  | false=>
   refine ⟨rfl,fun u k=>?_,ih⟩;have k:VK P E1 (M5 a (p.2.1 - 1000000)) u:=k;show VK P E2 (M5 b (p.2.1 - 1000000)) u;unfold M5 at k ⊢;rcases hab.get (p.2.1 - 1000000) with ⟨h1,h2⟩ | ⟨x,y,h1,h2,h3⟩
   ·rw [h1] at k
    rw [h2];simp [VK]
   ·rw [h1] at k
    rw [h2];exact h3 u k
end Go.K
end
section
namespace Go.K
open Go Go.az
variable {P:Program} {E:Env}
theorem Bj:∀ (ps:List (Tmp×List CD×Nat)) (j k:Nat),vE j ps k=j+vE 0 ps k
 | [],j,k=>by simp [vE]
 | _::_,j,0=>by simp [vE]
 | p::ps,j,k+1=>by
  simp only [vE];rw [Bj ps (j+ov p.2.1) k,Bj ps (0+ov p.2.1) k];omega
theorem mem_row {S:aB} {vs:List KV} {rs:List (List KV)} (h:rs.length=S.rows.length) {k:Nat} {p:Tmp×List CD×Nat} {r:List KV} (hp:S.rows[k]? = some p) (hr:rs[k]? = some r):(S.mem P vs rs).get k=some (.row (nT (vE (S.nr+lr S.dh) S.rows k) S.ids p.2.1 r) p.2.2):=by
 have hk:k < S.nr:=(cw.1 hp).1;rw [aB.mem,AW (by rw [mz h]; exact hk)];have:=af2 (A:=.empty) hp (show (S.BV S.nr S.ids rs)[k]? = some _ from Kq hp hr);simpa [ai.empty] using this
theorem Pp {S:aB} {vs:List KV} {rs:List (List KV)} (h:rs.length=S.rows.length) {i:Nat} {q:gG} (hq:(S.lens P vs rs)[i]? = some q):(S.mem P vs rs).get (S.nr+i)=some q:=by
 have:=I9 (A:=ow .empty S.rows (S.BV S.nr S.ids rs)) hq;rw [mz h] at this;exact this
def Env.up (E E1:Env) (nr nx:Nat):Env:={ κ:=E.κ,z:=E1.z,φ:=fun b=>if nx<=b then E1.φ (nr+(b - nx)) else E.φ b,α:=fun b=>if nx<=b then E1.α (nr+(b - nx)) else E.α b }
theorem Env.wK {E1:Env} {nr nx j:Nat} : (E.up E1 nr nx).φ (nx+j)=E1.φ (nr+j):=by
 simp only [Env.up];rw [ax (by omega),show nx+j - nx=j by omega]
theorem Env.wL {E1:Env} {nr nx b:Nat} (h:b < nx):(E.up E1 nr nx).φ b=E.φ b:=by
 simp only [Env.up];rw [ae (by omega)]
theorem Env.E5 {E1:Env} {nr nx j:Nat} : (E.up E1 nr nx).α (nx+j)=E1.α (nr+j):=by
 simp only [Env.up];rw [ax (by omega),show nx+j - nx=j by omega]
theorem Env.E6 {E1:Env} {nr nx b:Nat} (h:b < nx):(E.up E1 nr nx).α b=E.α b:=by
 simp only [Env.up];rw [ae (by omega)]
theorem du.anS {A:ai} {B:St} (h:du P E A B) {b x:Nat} (hx:E.κ b=some x) : ¬ AT A E B x:=by
 rintro (q | ⟨g,⟨c,v,y,L,N,cs,e,own,k,h1,h2,h3⟩,hm⟩)
 ·exact (h.ar.z x q).2 b hx
 ·by_cases v7:x=y
  ·subst v7
   exact (h.ar.z x ⟨c,v,L,N,h1,h2⟩).2 b hx
  ·exact ((h.ar.p0 c v y L N cs e own g k h1 h2 h3).2.2 x hm v7).2.2 b hx
theorem Yn {S:aB} {t:bJ} {A:ai} {B B1:St} {g:GR} {ρ fC:Ren} {base N:Nat} {w w1:World} {a1:Act} {vs:List KV} {rs:List (List KV)} {E1:Env} (hG:cS P S t A g) (hk:du P E A B)
  (ht:jB P E1 fC (S.tm S.nr S.ids vs) N a1) (hs:du P E1 (S.mem P vs rs) B1) (lk:Co base (E.sub A g.bs g.fs S.nr) (S.mem P g.vs g.rs) B ρ w E1 (S.mem P vs rs) B1 fC w1) (MO:∀ k,k < S.rows.length->E1.κ k=(E.sub A g.bs g.fs S.nr).κ k)
  (hv:dZ S.dh vs=true) (Ia:rs.length=S.rows.length) (hrg:∀ (k:Nat) p r,S.rows[k]? = some p->rs[k]? = some r->cK p.2.1 r=true) :
  jB P (E.up E1 S.nr A.next) fC (S.tm A.next g.bs vs) N a1/\Ev P base E A B ρ w (E.up E1 S.nr A.next) (S.back P g.bs g.fs vs rs A) B1 fC w1:=by
 have hle:E.le (E.up E1 S.nr A.next):=⟨fun b p e=>by rw [Env.E6 (hk.ar.fT b p e)]; exact e,fun _ _ e=>e,fun b r e=>lk.z b r e,fun b q e=>by rw [Env.wL (hk.ll b q e)]; exact e⟩
 have ajs:∀ (k b:Nat),g.bs[k]? = some b->E1.κ k=E.κ b:=fun k b hb=>by
  rw [MO k (by rw [<- hG.VI]; exact (cw.1 hb).1)];simp [Env.sub,hb]
 have fU:(uZ (mj A g.bs S.rows (S.BV A.next g.bs rs)) g.fs).next=A.next:=by rw [Da,M8]
 have Gv:∀ x,x < B.next->(∀ (k b:Nat),g.bs[k]? = some b->E.κ b≠some x)->¬ AT (S.mem P g.vs g.rs) (E.sub A g.bs g.fs S.nr) B x->B1.get x=B.get x:=fun x hx bx ha=>lk.dj x hx (fun k e=>by
  simp only [Env.sub,aO] at e;obtain ⟨b,h1,e⟩:=e;exact bx k b h1 e) ha
 have Tj:∀ f,f∈iq g.fs->∃ i:Nat,g.fs[i]? = some (some f)/\((∃ n sz,A.get f=some (.aF n sz))\/∃ v,A.get f=some (.arr v)):=by
  intro f hf;obtain ⟨i,hi⟩:=List.getElem?_of_mem (sh.1 hf);have aJ:i < (S.lens P g.vs g.rs).length:=by rw [hG.lens,<- oU,<- hG.fs]; exact (cw.1 hi).1
  obtain ⟨fi,_,h2,h3⟩:=hG.fact (cl aJ);rw [hi] at h2; simp at h2;rcases h3 with ⟨n,sz,_,⟨h3,_⟩ | ⟨f',h3,h4⟩⟩ | ⟨T,v,_,⟨h3,_⟩ | ⟨f',m,N,es,acc,h3,h4,_⟩⟩
  ·rw [h3] at h2; simp at h2
  ·rw [h3] at h2; simp at h2; subst h2; exact ⟨i,hi,.inl ⟨_,_,h4⟩⟩
  ·rw [h3] at h2; simp at h2
  ·rw [h3] at h2; simp at h2; subst h2; exact ⟨i,hi,.inr ⟨_,h4⟩⟩
 have anT:∀ f v,f∈iq g.fs->A.get f=some v->(∃ n sz,v = .aF n sz)\/∃ u,v = .arr u:=by
  intro f v hf hv;obtain ⟨_,_,⟨n,sz,h1⟩ | ⟨u,h1⟩⟩:=Tj f hf
  ·rw [hv] at h1; simp at h1; exact .inl ⟨n,sz,h1⟩
  ·rw [hv] at h1; simp at h1; exact .inr ⟨u,h1⟩
 have hrk:Rk E1 (E.up E1 S.nr A.next) S.rows.length S.ids g.bs:=fun j x hj e=>by
  have aJ:j < g.bs.length:=by rw [hG.VI]; exact hj
  rw [eN,BZ S j hj,iB] at e;rw [eN,cl aJ,iB];show E.κ _=some x;rw [<- ajs j _ (cl aJ)]; exact e
 have QJ:∀ (k b:Nat),g.bs[k]? = some b->∃ (p:Tmp×List CD×Nat) (r:List KV) (x:Nat) (bX:List Value),S.rows[k]? = some p/\rs[k]? = some r/\E.κ b=some x/\B1.get x=some (.row bX p.2.2 true none)/\aK P (E.up E1 S.nr A.next) (nT (vE (A.next+lr S.dh) S.rows k) g.bs p.2.1 r) bX/\
   (uZ (mj A g.bs S.rows (S.BV A.next g.bs rs)) g.fs).get b=some (.row (nT (vE (A.next+lr S.dh) S.rows k) g.bs p.2.1 r) p.2.2)/\b ∉ iq g.fs:=by
  intro k b hb;have aJ:k < S.rows.length:=by rw [<- hG.VI]; exact (cw.1 hb).1
  have hp:=cl aJ;have hr:=cl (show k < rs.length by rw [Ia]; exact aJ);obtain ⟨b',cs,q1,q2,_⟩:=hG.row hp;rw [hb] at q1; simp at q1; subst q1;obtain ⟨x,bX,h1,h2,h3⟩:=hs.row k _ _ (mem_row Ia hp hr);have hnf:b ∉ iq g.fs:=fun hf=>by
   rcases anT b _ hf q2 with ⟨_,_,e⟩ | ⟨_,e⟩ <;> simp at e
  refine ⟨_,_,x,bX,hp,hr,by rw [<- ajs k b hb]; exact h1,h2,?_,?_,hnf⟩
  ·have hws:Po S.rows.length S.rows[k].2.1=true:=by
    obtain ⟨_,mI,_,_,Ez,hc0,_,_⟩:=hG.row hp;have:=Na hG.alR hp;rw [hc0] at this;exact B7 this Ez
   refine aK.vF (E1:=E1) (E2:=E.up E1 S.nr A.next) rfl hrk h3 (hrg _ _ _ hp hr) hws fun m _=>⟨fun q e=>?_,fun q e=>?_⟩
   ·rw [Bj,show A.next+lr S.dh+vE 0 S.rows k+m=A.next+(lr S.dh+vE 0 S.rows k+m) by omega,Env.wK]
    rw [Bj,show S.nr+lr S.dh+vE 0 S.rows k+m=S.nr+(lr S.dh+vE 0 S.rows k+m) by omega] at e;exact e
   ·rw [Bj,show A.next+lr S.dh+vE 0 S.rows k+m=A.next+(lr S.dh+vE 0 S.rows k+m) by omega,Env.E5]
    rw [Bj,show S.nr+lr S.dh+vE 0 S.rows k+m=S.nr+(lr S.dh+vE 0 S.rows k+m) by omega] at e;exact e
  ·rw [BX,ae hnf]
   exact ab7 hG.nodup hb hp (show (S.BV A.next g.bs rs)[k]? = some _ from Kq hp hr)
 have mr:∀ b,b∈g.bs->∃ k:Nat,g.bs[k]? = some b:=fun b hb=>List.getElem?_of_mem hb;have Ks:∀ c q,(E.sub A g.bs g.fs S.nr).φ c=some q->∃ f n sz,f∈iq g.fs/\E.φ f=some q/\A.get f=some (.aF n sz):=by
  intro c q e;simp only [Env.sub] at e;split at e
  ·obtain ⟨f,h1,e⟩:=aO.1 e
   obtain ⟨f',h2,e⟩:=aO.1 e;subst h2;obtain ⟨e1,e2⟩:=Kr e;obtain ⟨n,sz,e3⟩:=aca e2;exact ⟨f',n,sz,sh.2 (eS h1),e1,e3⟩
  ·simp at e
 have hinv:∀ b o,(S.back P g.bs g.fs vs rs A).get b=some o->(b∈g.bs/\∃ cs e,o = .row cs e/\(uZ (mj A g.bs S.rows (S.BV A.next g.bs rs)) g.fs).get b=some (.row cs e))\/(b ∉ g.bs/\b ∉ iq g.fs/\A.get b=some o)\/(b∈iq g.fs/\o = .dead)\/∃ i q,b=A.next+i/\(S.lens P vs rs)[i]? = some q/\o=q:=by
  intro b o hb;rcases Pl hb with hb | ⟨i,q,h1,h2,h3⟩
  ·by_cases VJ:b∈g.bs
   ·obtain ⟨k,pd⟩:=mr b VJ
    obtain ⟨p,r,x,bX,h1,h2,h3,h4,h5,h6,h7⟩:=QJ k b pd;rw [h6] at hb; simp at hb;exact .inl ⟨VJ,_,_,hb.symm,h6⟩
   ·rw [BX] at hb
    split at hb
    ·rename_i hf; simp at hb; exact .inr (.inr (.inl ⟨hf,hb.symm⟩))
    ·rename_i hf
     rw [Ja VJ] at hb;exact .inr (.inl ⟨VJ,hf,hb⟩)
  ·rw [fU] at h1
   exact .inr (.inr (.inr ⟨i,q,h1,h2,h3⟩))
 have hnewobj:∀ i q,(S.lens P vs rs)[i]? = some q->(S.mem P vs rs).get (S.nr+i)=some q:=fun i q hq=>Pp Ia hq;have af5:∀ (i:Nat) (q:gG),(S.lens P vs rs)[i]? = some q->(∃ n sz,q=gG.aF n sz)\/∃ v,q=gG.arr v:=by
  have one:∀ (ds:List CD) (vs:List KV),∀ q∈lW P ds vs,(∃ n sz,q = .aF n sz)\/∃ v,q = .arr v:=by
   intro ds
   induction ds with
   | nil=>intro vs q hq; simp [lW] at hq
   | cons d ds ih=>
    intro vs q hq;cases vs with
    | nil=>cases d <;> simp [lW] at hq
    | cons v vs=>
     cases d <;> simp only [lW,bd] at hq
     ·exact ih vs q hq
     ·exact ih vs q hq
     ·rcases hq with rfl | hq
      ·exact .inl ⟨_,_,rfl⟩
      ·exact ih vs q hq
     ·rcases hq with rfl | hq
      ·exact .inr ⟨_,rfl⟩
      ·exact ih vs q hq
     ·exact ih vs q hq
  have two:∀ (ps:List (Tmp×VD)) (vs:List KV),∀ q∈wH P ps vs,(∃ n sz,q = .aF n sz)\/∃ v,q = .arr v:=by
   intro ps
   induction ps with
   | nil=>intro vs q hq; simp [wH] at hq
   | cons p ps ih=>
    intro vs q hq;cases vs with
    | nil=>simp [wH] at hq
    | cons v vs=>
     simp only [wH,eX] at hq;exact hq.elim (one _ _ q) (ih vs q)
  have three:∀ (ps:List (Tmp×List CD×Nat)) (rs:List (List KV)),∀ q∈yd P ps rs,(∃ n sz,q = .aF n sz)\/∃ v,q = .arr v:=by
   intro ps
   induction ps with
   | nil=>intro vs q hq; simp [yd] at hq
   | cons p ps ih=>
    intro vs q hq;cases vs with
    | nil=>simp [yd] at hq
    | cons v vs=>
     simp only [yd,eX] at hq;exact hq.elim (one _ _ q) (ih vs q)
  intro i q hq;have:=eS hq;simp only [aB.lens,eX] at this;exact this.elim (two _ _ q) (three _ _ q)
 have iL:∀ b v,(S.back P g.bs g.fs vs rs A).get b=some (.arr v)->(b < A.next/\b ∉ iq g.fs/\A.get b=some (.arr v)/\(E.up E1 S.nr A.next).α b=E.α b)\/∃ i,b=A.next+i/\(S.mem P vs rs).get (S.nr+i)=some (.arr v)/\(E.up E1 S.nr A.next).α b=E1.α (S.nr+i):=by
  intro b v hb;rcases hinv b _ hb with ⟨_,_,_,e,_⟩ | ⟨_,HI,h1⟩ | ⟨_,e⟩ | ⟨i,q,rfl,h2,e⟩
  ·simp at e
  ·exact .inl ⟨hk.live b _ h1,HI,h1,Env.E6 (hk.live b _ h1)⟩
  ·simp at e
  ·subst e; exact .inr ⟨i,rfl,Pp Ia h2,Env.E5⟩
 have alS:∀ {b v x L N},b ∉ iq g.fs->A.get b=some (.arr v)->E.α b=some (x,L,N)->¬ AR (S.mem P g.vs g.rs) (E.sub A g.bs g.fs S.nr) x:=by
  intro b v x L N HI hb hx q;obtain ⟨f,u,L',N',h1,h2,h3⟩:=hG.AR q;have:=hk.ar.inj b f v u x L N L' N' hb h2 hx h3;subst this;exact HI h1
 have anU:∀ {b v x L N},b ∉ iq g.fs->A.get b=some (.arr v)->E.α b=some (x,L,N)->¬ AT (S.mem P g.vs g.rs) (E.sub A g.bs g.fs S.nr) B x:=by
  intro b v x L N HI hb hx q;rcases q with q | ⟨aF,q,hm⟩
  ·exact alS HI hb hx q
  ·obtain ⟨f,u,y,L',N',cs,e,own,m,h1,h2,h3,h4⟩:=hG.AF q
   by_cases v7:x=y
   ·subst v7
    have:=hk.ar.inj b f v u x L N L' N' hb h2 hx h3;subst this;exact HI h1
   ·exact ((hk.ar.p0 f u y L' N' cs e own aF m h2 h3 h4).2.2 x hm v7).2.1 ⟨b,v,L,N,hb,hx⟩
 have E7:∀ {b v x L N},b ∉ iq g.fs->A.get b=some (.arr v)->E.α b=some (x,L,N)->B1.get x=B.get x:=by
  intro b v x L N HI hb hx;exact Gv x (hk.ar.eB b x L N hx) (fun k c _ e=>(hk.ar.z x ⟨b,v,L,N,hb,hx⟩).2 c e) (anU HI hb hx)
 have ajt:∀ {i v x L N},(S.mem P vs rs).get (S.nr+i)=some (.arr v)->E1.α (S.nr+i)=some (x,L,N)->(∃ f u L' N',f∈iq g.fs/\A.get f=some (.arr u)/\E.α f=some (x,L',N'))\/B.next<=x:=by
  intro i v x L N h1 h2;rcases lk.jR x ⟨_,v,L,N,h1,h2⟩ with q | q
  ·obtain ⟨f,u,L',N',q1,q2,q3⟩:=hG.AR q
   exact .inl ⟨f,u,L',N',q1,q2,q3⟩
  ·exact .inr q
 have aju:∀ x,AR (S.back P g.bs g.fs vs rs A) (E.up E1 S.nr A.next) x->AR A E x\/AR (S.mem P vs rs) E1 x:=by
  rintro x ⟨b,v,L,N,h1,h2⟩;rcases iL b v h1 with ⟨q1,q2,q3,q4⟩ | ⟨i,rfl,q2,q3⟩
  ·rw [q4] at h2; exact .inl ⟨b,v,L,N,q3,h2⟩
  ·rw [q3] at h2; exact .inr ⟨_,v,L,N,q2,h2⟩
 have ajv:∀ q,AF (S.back P g.bs g.fs vs rs A) (E.up E1 S.nr A.next) B1 q->AF A E B q\/AF (S.mem P vs rs) E1 B1 q:=by
  rintro q ⟨b,v,x,L,N,cs,e,own,k,h1,h2,h3⟩;rcases iL b v h1 with ⟨q1,q2,q3,q4⟩ | ⟨i,rfl,q2,q3⟩
  ·rw [q4] at h2
   rw [E7 q2 q3 h2] at h3;exact .inl ⟨b,v,x,L,N,cs,e,own,k,q3,h2,h3⟩
  ·rw [q3] at h2; exact .inr ⟨_,v,x,L,N,cs,e,own,k,q2,h2,h3⟩
 have Z7:∀ x,AR (S.back P g.bs g.fs vs rs A) (E.up E1 S.nr A.next) x->AR A E x\/B.next<=x:=fun x q=>by
  rcases aju x q with q | q
  ·exact .inl q
  ·exact (lk.jR x q).imp hG.ar id
 have af6:∀ q,AF (S.back P g.bs g.fs vs rs A) (E.up E1 S.nr A.next) B1 q->AF A E B q\/B.next<=q:=fun x q=>by
  rcases ajv x q with q | q
  ·exact .inl q
  ·exact (lk.j6 x q).imp hG.af id
 have ajw:∀ x,x < B.next->E.z x=none->¬ AR (S.mem P g.vs g.rs) (E.sub A g.bs g.fs S.nr) x->E1.z x=none:=fun x hx h1 h2=>by
  cases hz:E1.z x with
  | none=>rfl
  | some r=>
   rcases lk.qN x r hz with e | e | e
   ·have e:E.z x=some r:=e
    rw [h1] at e; simp at e
   ·exact (h2 e).elim
   ·omega
 have alT:∀ {b v x L N cs e own q k},b ∉ iq g.fs->A.get b=some (.arr v)->E.α b=some (x,L,N)->B.get x=some (.row cs e own (some (q,k)))->¬ AF (S.mem P g.vs g.rs) (E.sub A g.bs g.fs S.nr) B q:=by
  intro b v x L N cs e own q k HI hb hx dC r;obtain ⟨f,u,y,L',N',bX,e',nN,m,h1,h2,h3,h4⟩:=hG.AF r;have:=hk.ar.rD b f v u x y L N L' N' cs e own q k bX e' nN m hb h2 hx h3 dC h4;subst this;exact HI h1
 have po:Ge P (E.up E1 S.nr A.next) (S.back P g.bs g.fs vs rs A) B1:=by
  refine ⟨?_,?_,?_,?_,?_,?_,?_,?_,?_,?_⟩
  ·intro b v hb
   rcases iL b v hb with ⟨q1,q2,q3,q4⟩ | ⟨i,rfl,q2,q3⟩
   ·obtain ⟨T,N,es,acc,h1,h2,h3,h4⟩:=hk.ar.arr b v q3
    refine ⟨T,N,es,acc,h1,h2,h3,?_⟩;rcases h4 with ⟨h4,h5⟩ | ⟨x,cs,aZ,aP,h4,h5,h6,h7⟩
    ·exact .inl ⟨h4,by rw [q4]; exact h5⟩
    ·exact .inr ⟨x,cs,aZ,aP,by rw [q4]; exact h4,by rw [E7 q2 q3 h4]; exact h5,h6.mono hle,h7⟩
   ·obtain ⟨T,N,es,acc,h1,h2,h3,h4⟩:=hs.ar.arr _ v q2
    refine ⟨T,N,es,acc,h1,h2,h3,?_⟩;rcases h4 with ⟨h4,h5⟩ | ⟨x,cs,aZ,aP,h4,h5,h6,h7⟩
    ·exact .inl ⟨h4,by rw [q3]; exact h5⟩
    ·exact .inr ⟨x,cs,aZ,aP,by rw [q3]; exact h4,h5,aK.zEs (E:=E1) (E0:=E.up E1 S.nr A.next) (.of rfl) h6 h2.typed,h7⟩
  ·intro b v hb
   rcases hinv b _ hb with ⟨_,_,_,e,_⟩ | ⟨_,_,h1⟩ | ⟨_,e⟩ | ⟨i,q,_,h2,e⟩
   ·simp at e
   ·obtain ⟨T,N,es,acc,h2,h3,h4,h5⟩:=hk.ar.iG b v h1
    have oS:(E.up E1 S.nr A.next).α b=E.α b:=Env.E6 (hk.live b _ h1);refine ⟨T,N,es,acc,h2,h3,h4,?_⟩;rcases h5 with ⟨h5,h6⟩ | ⟨x,r,aP,h5,h6,h7,h8,h9⟩
    ·exact .inl ⟨h5,by rw [oS]; exact h6⟩
    ·exact .inr ⟨x,r,aP,by rw [oS]; exact h5,lk.z x r h6,h7,h8.mono hle,h9⟩
   ·simp at e
   ·rcases af5 i q h2 with ⟨_,_,e2⟩ | ⟨_,e2⟩ <;> rw [<- e] at e2 <;> simp at e2
  ·rintro x ⟨b,v,L,N,h1,h2⟩
   rcases iL b v h1 with ⟨q1,q2,q3,q4⟩ | ⟨i,rfl,q2,q3⟩
   ·rw [q4] at h2
    obtain ⟨h3,h4⟩:=hk.ar.z x ⟨b,v,L,N,q3,h2⟩;exact ⟨ajw x (hk.ar.eB b x L N h2) h3 (alS q2 q3 h2),h4⟩
   ·rw [q3] at h2
    refine ⟨(hs.ar.z x ⟨_,v,L,N,q2,h2⟩).1,fun c e=>?_⟩;rcases lk.jR x ⟨_,v,L,N,q2,h2⟩ with q | q
    ·exact (hk.ar.z x (hG.ar q)).2 c e
    ·have:=hk.eB c x e; omega
  ·intro b c v u x L N L' N' hb hc e1 e2
   have BO:∀ {b v c u L N L' N'},b ∉ iq g.fs->A.get b=some (.arr v)->E.α b=some (x,L,N)->(S.mem P vs rs).get (S.nr+c)=some (.arr u)->E1.α (S.nr+c)=some (x,L',N')->False:=by
    intro b v c u L N L' N' h1 h2 h3 h4 h5;rcases ajt h4 h5 with ⟨f,u',L2,N2,k1,k2,k3⟩ | k
    ·have:=hk.ar.inj b f v u' x L N L2 N2 h2 k2 h3 k3
     subst this;exact h1 k1
    ·have:=hk.ar.eB b x L N h3; omega
   rcases iL b v hb with ⟨q1,q2,q3,q4⟩ | ⟨i,rfl,q2,q3⟩ <;> rcases iL c u hc with ⟨r1,r2,r3,r4⟩ | ⟨j,rfl,r2,r3⟩
   ·rw [q4] at e1; rw [r4] at e2
    exact hk.ar.inj b c v u x L N L' N' q3 r3 e1 e2
   ·rw [q4] at e1; rw [r3] at e2
    exact (BO q2 q3 e1 r2 e2).elim
   ·rw [q3] at e1; rw [r4] at e2
    exact (BO r2 r3 e2 q2 e1).elim
   ·rw [q3] at e1; rw [r3] at e2
    have:=hs.ar.inj _ _ v u x L N L' N' q2 r2 e1 e2;omega
  ·intro b c v u x y L N L' N' cs e own q k bX e' nN k' hb hc e1 e2 w1 w2
   have BO:∀ {b v c u x y L N L' N' cs e own k bX e' nN k'},b ∉ iq g.fs->A.get b=some (.arr v)->E.α b=some (x,L,N)->(S.mem P vs rs).get (S.nr+c)=some (.arr u)->E1.α (S.nr+c)=some (y,L',N')->B1.get x=some (.row cs e own (some (q,k)))->B1.get y=some (.row bX e' nN (some (q,k')))->False:=by
    intro b v c u x y L N L' N' cs e own k bX e' nN k' h1 h2 h3 h4 h5 w1 w2;rw [E7 h1 h2 h3] at w1;rcases lk.j6 q ⟨_,u,y,L',N',bX,e',nN,k',h4,h5,w2⟩ with r | r
    ·exact alT h1 h2 h3 w1 r
    ·have:=(hk.ar.p0 b v x L N cs e own q k h2 h3 w1).1; omega
   rcases iL b v hb with ⟨q1,q2,q3,q4⟩ | ⟨i,rfl,q2,q3⟩ <;> rcases iL c u hc with ⟨r1,r2,r3,r4⟩ | ⟨j,rfl,r2,r3⟩
   ·rw [q4] at e1; rw [r4] at e2
    rw [E7 q2 q3 e1] at w1; rw [E7 r2 r3 e2] at w2;exact hk.ar.rD b c v u x y L N L' N' cs e own q k bX e' nN k' q3 r3 e1 e2 w1 w2
   ·rw [q4] at e1; rw [r3] at e2
    exact (BO q2 q3 e1 r2 e2 w1 w2).elim
   ·rw [q3] at e1; rw [r4] at e2
    exact (BO r2 r3 e2 q2 e1 w2 w1).elim
   ·rw [q3] at e1; rw [r3] at e2
    have:=hs.ar.rD _ _ v u x y L N L' N' cs e own q k bX e' nN k' q2 r2 e1 e2 w1 w2;omega
  ·intro b x hb
   have hb:E.κ b=some x:=hb;rw [Env.E6 (hk.fT b x hb)];exact hk.ar.Xg b x hb
  ·intro b p hb
   rw [aB.back,eQ,fU];by_cases h1:b < A.next
   ·omega
   ·obtain ⟨i,rfl⟩:=Nat.exists_eq_add_of_le (Nat.le_of_not_lt h1)
    rw [Env.E5] at hb;have:=hs.ar.fT _ _ hb;rw [aB.mem,eQ,mz Ia] at this;omega
  ·intro b x L N hb
   by_cases h1:b < A.next
   ·rw [Env.E6 h1] at hb
    have:=hk.ar.eB b x L N hb; have:=lk.gD.next; omega
   ·obtain ⟨i,rfl⟩:=Nat.exists_eq_add_of_le (Nat.le_of_not_lt h1)
    rw [Env.E5] at hb;exact hs.ar.eB _ _ _ _ hb
  ·intro b v x L N cs e own q k hb hx dC
   rcases iL b v hb with ⟨q1,q2,q3,q4⟩ | ⟨i,rfl,q2,q3⟩
   ·rw [q4] at hx
    have aee:=dC;rw [E7 q2 q3 hx] at aee;obtain ⟨h1,h2,h3⟩:=hk.ar.p0 b v x L N cs e own q k q3 hx aee;have hm:B1.members q=B.members q:=lk.nw q h1 (fun c e=>by
     obtain ⟨f',_,_,_,k2,_⟩:=Ks c q e;exact h2 f' k2) (alT q2 q3 hx aee)
    refine ⟨by have:=lk.gD.next; omega,fun f e=>?_,fun y hy bx=>?_⟩
    ·by_cases hf:f < A.next
     ·rw [Env.wL hf] at e; exact h2 f e
     ·obtain ⟨j,rfl⟩:=Nat.exists_eq_add_of_le (Nat.le_of_not_lt hf)
      rw [Env.wK] at e;rcases lk.pk _ _ e with ⟨c,e⟩ | e
      ·obtain ⟨f',_,_,_,k2,_⟩:=Ks c q e
       exact h2 f' k2
      ·omega
    ·rw [hm] at hy
     obtain ⟨h4,h5,h6⟩:=h3 y hy bx;have aJ:=hk.mem q y hy;refine ⟨ajw y aJ h4 fun r=>h5 (hG.ar r),fun r=>?_,h6⟩;rcases Z7 y r with r | r
     ·exact h5 r
     ·omega
   ·rw [q3] at hx
    obtain ⟨h1,h2,h3⟩:=hs.ar.p0 _ v x L N cs e own q k q2 hx dC;have rX:=lk.j6 q ⟨_,v,x,L,N,cs,e,own,k,q2,hx,dC⟩;refine ⟨h1,fun f e=>?_,fun y hy bx=>?_⟩
    ·by_cases hf:f < A.next
     ·rw [Env.wL hf] at e
      rcases rX with r | r
      ·obtain ⟨f0,u,x0,L0,N0,mI,e0,ajx,m,k1,k2,k3,k4⟩:=hG.AF r
       exact (hk.ar.p0 f0 u x0 L0 N0 mI e0 ajx q m k2 k3 k4).2.1 f e
      ·have:=hk.iQ f q e; omega
     ·obtain ⟨j,rfl⟩:=Nat.exists_eq_add_of_le (Nat.le_of_not_lt hf)
      rw [Env.wK] at e;exact h2 _ e
    ·obtain ⟨h4,h5,h6⟩:=h3 y hy bx
     have wA:y∈B.members q->(∀ c,c ∉ iq g.fs->∀ v' L' N',A.get c=some (.arr v')->E.α c≠some (y,L',N'))/\∀ c,E.κ c≠some y:=by
      intro hm;rcases rX with r | r
      ·obtain ⟨f0,u,x0,L0,N0,mI,e0,ajx,m,k1,k2,k3,k4⟩:=hG.AF r
       by_cases hy0:y=x0
       ·subst hy0
        refine ⟨fun c hc v' L' N' p1 p2=>?_,(hk.ar.z y ⟨f0,u,L0,N0,k2,k3⟩).2⟩;have:=hk.ar.inj c f0 v' u y L' N' L0 N0 p1 k2 p2 k3;subst this;exact hc k1
       ·obtain ⟨_,p5,p6⟩:=(hk.ar.p0 f0 u x0 L0 N0 mI e0 ajx q m k2 k3 k4).2.2 y hm hy0
        exact ⟨fun c _ v' L' N' p1 p2=>p5 ⟨c,v',L',N',p1,p2⟩,p6⟩
      ·rw [hk.fresh q r] at hm; simp at hm
     refine ⟨h4,?_,fun c e=>?_⟩
     ·rintro ⟨c,v',L',N',r1,r2⟩
      rcases iL c v' r1 with ⟨p1,p2,p3,p4⟩ | ⟨j,rfl,p2,p3⟩
      ·rw [p4] at r2
       rcases lk.rJ q y hy with hm | hm
       ·exact (wA hm).1 c p2 v' L' N' p3 r2
       ·have:=hk.ar.eB c y L' N' r2; omega
      ·rw [p3] at r2
       exact h5 ⟨_,v',L',N',p2,r2⟩
     ·have e:E.κ c=some y:=e
      rcases lk.rJ q y hy with hm | hm
      ·exact (wA hm).2 c e
      ·have:=hk.eB c y e; omega
  ·intro b v hb
   rw [aB.back,eQ,fU];rcases iL b v hb with ⟨q1,q2,q3,q4⟩ | ⟨i,rfl,q2,q3⟩
   ·obtain ⟨k1,k2⟩:=hk.ar.nk b v q3
    exact ⟨by omega,k2⟩
   ·refine ⟨?_,?_⟩
    ·have:=hs.live _ _ q2
     rw [aB.mem,eQ,mz Ia] at this;omega
    ·show E.κ (A.next+i)=none
     cases hq:E.κ (A.next+i) with
     | none=>rfl
     | some x=>have:=hk.fT _ x hq; omega
 refine ⟨?_,⟨⟨?_,?_,hs.z,?_,hk.inj,?_,?_,?_,?_,?_,hs.lT,?_,hs.fresh,hs.mem,?_⟩,lk.gD,hle,?_,?_,fun _ _ e=>.inl e,?_,?_,?_,?_,?_,lk.rJ,?_,lk.rows⟩⟩
 ·have Xb:=Ym (P:=P) (E1:=E1) (E2:=E.up E1 S.nr A.next) (i:=S.nr) (j:=A.next) rfl hrk hv (af4 hG.ajo (hG.vs ▸ hG.dh)) fun m _=>⟨fun q e=>by rw [Env.wK]; exact e,fun q e=>by rw [Env.E5]; exact e⟩
  refine jB.ajr ht (oy.append Xb (oy.append (ace fun p hp hip x e=>?_) (acf Xb)));obtain ⟨b,_,h2⟩:=(Dd hG.Pg p hp).1 hip;have aJ:p.2.1 < S.rows.length:=by rw [<- hG.VI]; exact (cw.1 h2).1
  rw [eN,BZ S _ aJ] at e;rw [eN,h2];have e:E1.κ p.2.1=some x:=e;rw [ajs _ _ h2] at e;exact e
 ·intro b cs aQ hb
  rcases hinv b _ hb with ⟨VJ,_,_,e,h1⟩ | ⟨VJ,_,h1⟩ | ⟨_,e⟩ | ⟨i,q,_,hq,e⟩
  ·obtain ⟨k,pd⟩:=mr b VJ
   obtain ⟨p,r,x,bX,q1,q2,q3,q4,q5,q6,q7⟩:=QJ k b pd;rw [h1] at q6;simp only [gG.row.injEq] at e;obtain ⟨rfl,rfl⟩:=e;simp only [aR,gG.row.injEq] at q6;obtain ⟨rfl,rfl⟩:=q6;exact ⟨x,bX,q3,q4,q5⟩
  ·obtain ⟨x,c,q1,q2,q3⟩:=hk.row b cs aQ h1
   refine ⟨x,c,q1,?_,q3.mono hle⟩;rw [Gv x (hk.eB b x q1) (fun k b' KQ e=>?_) fun q=>hk.anS q1 (hG.at q)]
   ·exact q2
   ·have:=hk.inj _ _ _ q1 e
    subst this;exact VJ (eS KQ)
  ·simp at e
  ·rcases af5 i q hq with ⟨_,_,e2⟩ | ⟨_,e2⟩ <;> rw [<- e] at e2 <;> simp at e2
 ·intro b top sz hb
  rcases hinv b _ hb with ⟨_,_,_,e,_⟩ | ⟨VJ,HI,h1⟩ | ⟨_,e⟩ | ⟨i,q,rfl,h2,e⟩
  ·simp at e
  ·rcases hk.aF b top sz h1 with ⟨h2,h3⟩ | ⟨q,h2,h3,h4⟩
   ·exact .inl ⟨h2,by rw [Env.wL (hk.live b _ h1)]; exact h3⟩
   ·have hq:=hk.iQ b q h2
    refine .inr ⟨q,by rw [Env.wL (hk.live b _ h1)]; exact h2,h3,fun x hx cs e own f k dC=>?_⟩;have hmq:B1.members q=B.members q:=lk.nw q hq (fun c e=>by
     obtain ⟨f',_,_,h5,h6,h7⟩:=Ks c q e;have:=hk.iA b f' q _ _ _ _ h1 h7 h2 h6;subst this;exact HI h5) fun k=>by
      obtain ⟨c,v,y,L,N,cs,e,own,m,h5,h6,h7⟩:=hG.af k;exact (hk.ar.p0 c v y L N cs e own q m h5 h6 h7).2.1 b h2
    rw [hmq] at hx;obtain ⟨mI,q1,q2⟩:=lk.rows x (hk.mem q x hx) _ _ _ _ dC;obtain ⟨q3,q4⟩:=h4 x hx mI e own f k q1;exact ⟨q3,by rw [<- q2]; exact q4⟩
  ·simp at e
  ·subst e
   have:=hs.aF _ _ _ (Pp Ia h2);rw [Env.wK];exact this
 ·intro b x hb
  have hx:=hk.eB b x hb;show E1.z x=none;cases hz:E1.z x with
  | none=>rfl
  | some r=>
   rcases lk.qN x r hz with e | e | e
   ·have e:E.z x=some r:=e
    rw [hk.apart b x hb] at e; simp at e
   ·exact absurd hb ((hk.ar.z x (hG.ar e)).2 b)
   ·omega
 ·intro b c q tb sb tc sc hb hc e1 e2
  have key:∀ {b tb sb},(S.back P g.bs g.fs vs rs A).get b=some (.aF tb sb)->(b < A.next/\b ∉ iq g.fs/\A.get b=some (.aF tb sb))\/∃ i,b=A.next+i/\(S.mem P vs rs).get (S.nr+i)=some (.aF tb sb):=by
   intro b tb sb hb;rcases hinv b _ hb with ⟨_,_,_,e,_⟩ | ⟨_,HI,h1⟩ | ⟨_,e⟩ | ⟨i,q,rfl,h2,e⟩
   ·simp at e
   ·exact .inl ⟨hk.live b _ h1,HI,h1⟩
   ·simp at e
   ·subst e
    exact .inr ⟨i,rfl,Pp Ia h2⟩
  have BO:∀ {b c tb sb i},b < A.next->b ∉ iq g.fs->A.get b=some (.aF tb sb)->c=A.next+i->E.φ b=some q->E1.φ (S.nr+i)=some q->False:=by
   intro b c tb sb i _ h2 h3 _ h5 h6;rcases lk.pk _ _ h6 with ⟨c',e⟩ | e
   ·obtain ⟨f',_,_,k1,k2,k3⟩:=Ks c' q e
    have:=hk.iA b f' q _ _ _ _ h3 k3 h5 k2;subst this;exact h2 k1
   ·have:=hk.iQ b q h5; omega
  rcases key hb with ⟨h1,h2,h3⟩ | ⟨i,rfl,h2⟩ <;> rcases key hc with ⟨k1,k2,k3⟩ | ⟨j,rfl,k2⟩
  ·rw [Env.wL h1] at e1; rw [Env.wL k1] at e2
   exact hk.iA b c q _ _ _ _ h3 k3 e1 e2
  ·rw [Env.wL h1] at e1; rw [Env.wK] at e2
   exact (BO h1 h2 h3 rfl e1 e2).elim
  ·rw [Env.wK] at e1; rw [Env.wL k1] at e2
   exact (BO k1 k2 k3 rfl e2 e1).elim
  ·rw [Env.wK] at e1 e2
   have:=hs.iA _ _ q _ _ _ _ h2 k2 e1 e2;omega
 ·intro b x hb; have h1:=hk.fT b x hb; rw [aB.back,eQ,fU]; omega
 ·intro b q hb
  rw [aB.back,eQ,fU];by_cases h1:b < A.next
  ·omega
  ·obtain ⟨i,rfl⟩:=Nat.exists_eq_add_of_le (Nat.le_of_not_lt h1)
   rw [Env.wK] at hb;have:=hs.ll _ _ hb;rw [aB.mem,eQ,mz Ia] at this;omega
 ·intro b o hb
  rw [aB.back,eQ,fU];rcases hinv b _ hb with ⟨VJ,_⟩ | ⟨_,_,h1⟩ | ⟨h1,_⟩ | ⟨i,q,rfl,h2,_⟩
  ·obtain ⟨k,pd⟩:=mr b VJ
   obtain ⟨p,r,x,bX,_,_,h3,_⟩:=QJ k b pd;have:=hk.fT b x h3; omega
  ·have:=hk.live b _ h1; omega
  ·obtain ⟨_,_,⟨_,_,h3⟩ | ⟨_,h3⟩⟩:=Tj b h1
   ·have:=hk.live b _ h3; omega
   ·have:=hk.live b _ h3; omega
  ·have:=(cw.1 h2).1; omega
 ·intro b x hb; have:=hk.eB b x hb; have:=lk.gD.next; omega
 ·intro b q hb
  by_cases h1:b < A.next
  ·rw [Env.wL h1] at hb
   have:=hk.iQ b q hb; have:=lk.gD.next; omega
  ·obtain ⟨i,rfl⟩:=Nat.exists_eq_add_of_le (Nat.le_of_not_lt h1)
   rw [Env.wK] at hb;exact hs.iQ _ _ hb
 ·exact po
 ·rw [aB.back,eQ,fU]; omega
 ·intro x hx bx zJ
  exact Gv x hx (fun k b _ e=>bx b e) fun q=>zJ (hG.at q)
 ·intro b r e
  exact (lk.qN b r e).imp id (fun e=>e.imp hG.ar id)
 ·intro b q hb
  by_cases h1:b < A.next
  ·rw [Env.wL h1] at hb; exact .inl ⟨b,hb⟩
  ·obtain ⟨i,rfl⟩:=Nat.exists_eq_add_of_le (Nat.le_of_not_lt h1)
   rw [Env.wK] at hb;rcases lk.pk _ _ hb with ⟨c,e⟩ | e
   ·obtain ⟨f',_,_,_,k2,_⟩:=Ks c q e
    exact .inl ⟨f',k2⟩
   ·exact .inr e
 ·intro q hq bx zJ
  refine lk.nw q hq (fun c e=>?_) fun k=>zJ (hG.af k);obtain ⟨f',_,_,_,k2,_⟩:=Ks c q e;exact bx f' k2
 ·exact Z7
 ·exact af6
 ·rintro y (q | ⟨q,h1,h2⟩)
  ·exact (Z7 y q).imp .inl id
  ·rcases lk.rJ q y h2 with h2 | h2
   ·rcases af6 q h1 with h1 | h1
    ·exact .inl (.inr ⟨q,h1,h2⟩)
    ·rw [hk.fresh q h1] at h2; simp at h2
   ·exact .inr h2
theorem restore {S:aB} {t:bJ} {A:ai} {B B1:St} {g:GR} {ρ fC:Ren} {base N:Nat} {w w1:World} {a1:Act} {vs:List KV} {rs:List (List KV)} {E1:Env} (hG:cS P S t A g) (hk:du P E A B)
  (ht:jB P E1 fC (S.tm S.nr S.ids vs) N a1) (hs:du P E1 (S.mem P vs rs) B1) (lk:Co base (E.sub A g.bs g.fs S.nr) (S.mem P g.vs g.rs) B ρ w E1 (S.mem P vs rs) B1 fC w1) (MO:∀ k,k < S.rows.length->E1.κ k=(E.sub A g.bs g.fs S.nr).κ k)
  (hv:dZ S.dh vs=true) (Ia:rs.length=S.rows.length) (hrg:∀ (k:Nat) p r,S.rows[k]? = some p->rs[k]? = some r->cK p.2.1 r=true) :
  ∃ E',jB P E' fC (S.tm A.next g.bs vs) N a1/\Ev P base E A B ρ w E' (S.back P g.bs g.fs vs rs A) B1 fC w1:=⟨_,Yn hG hk ht hs lk MO hv Ia hrg⟩
end Go.K
end
section
namespace Go.K
open Go Go.az
variable {P:Program} {E:Env}
structure rM (P:Program) (S:aB) (vs:List KV) (rs:List (List KV)):Prop where
 v:dZ S.dh vs=true
 nz:rs.length=S.rows.length
 pf:∀ (k:Nat) p r,S.rows[k]? = some p->rs[k]? = some r->cK p.2.1 r=true
 vn:∃ t A,vs=lq P t A S.dh
 rn:∀ (k:Nat) p,S.rows[k]? = some p->∃ A mI,rs[k]? = some (dY P A p.2.1 mI)/\mI.length=p.2.1.length
theorem cS.B8 {S:aB} {t:bJ} {A:ai} {g:GR} (h:cS P S t A g):rM P S g.vs g.rs:=
 ⟨h.dh,h.nz,h.pf,⟨t,A,h.vs⟩,fun _ _ hp=>by obtain ⟨_,cs,_,_,h1,_,h2,_⟩:=h.row hp; exact ⟨A,cs,h2,h1⟩⟩
section
variable {cfg:fV} {L n:Nat} {f:FuncId} {S:aB} {root body:Code} {p N:Nat}
theorem aef (hP:P.funcs.toList.all gh=true) (hm:P.follows .mixedOrders=true) (eV:oX P cfg.pc) (gE:pt P cfg) {fn:Func} (hf:P.funcs[f]? = some fn) (hb:fn.body=some root) (hs:Sub root p (.loop body)) (hc:codeOk N body=true)
  {vs bw:List KV} {rs gF:List (List KV)} {e:aa} (hr:wI P cfg L n f p body S vs rs=some (e,bw,gF)) {B:St} {ρ:Ren} {base:Nat} {a:Act} {w:World} {Q:Exit->Act->World->Prop} (bM:rM P S vs rs)
  (ht:jB P E ρ (S.tm S.nr S.ids vs) N a) (hj:KJ P E (S.mem P vs rs) B ρ base w)
  (hq:∀ E' B' ak a' w',jB P E' ak (S.tm S.nr S.ids bw) N a'->a'.defers=a.defers->KJ P E' (S.mem P bw gF) B' ak base w'->Co base E (S.mem P vs rs) B ρ w E' (S.mem P bw gF) B' ak w'->(∀ k,k < S.rows.length->E'.κ k=E.κ k)->rM P S bw gF->Q e.out a' w'):body.wp P Q a w:=by
 have uW:=oT (R:=aa×List KV×List (List KV)) hP hm eV gE L n;refine gi eV uW hm (gE.2 f fn root hf hb) body (2 * p) hs.loop hc _ _ _ _ E B ρ base a w Q hr ht hj fun e' t' E1 A1 B1 fC a1 w1 h1 h2 h3 h4=>?_;cases hi:px (S.cQ P t' A1).bs S.ids with
 | false=>
  simp only [hi,ay] at h1;exact absurd h1 (by simp)
 | true=>
  simp only [hi,ah] at h1;cases ho:(S.cQ P t' A1).ok with
  | false=>simp only [ho] at h1; exact absurd h1 (by simp)
  | true=>
   simp only [ho,aR,bH] at h1;obtain ⟨rfl,rfl,rfl⟩:=h1;have hG:=zn ho;have acg:=Db hi;refine hq _ B1 fC a1 w1 (hG.tkr h2) h3 ⟨hG.dI h4.dI,h4.gD.dI⟩ (h4.co hG) (fun k hk=>?_) hG.B8;have hp:=cl hk;have vP:=cl (show k < rs.length by rw [bM.nz]; exact hk);obtain ⟨x,_,hx,_⟩:=hj.k.row k _ _ (mem_row bM.nz hp vP);have e1:(E1.sub A1 (S.cQ P t' A1).bs (S.cQ P t' A1).fs S.nr).κ k=E1.κ k:=by
    simp only [Env.sub];rw [acg,BZ S k hk,cD]
   rw [e1,hx];exact h4.le.κ k x hx
theorem Yo (hP:P.funcs.toList.all gh=true) (hm:P.follows .mixedOrders=true) (eV:oX P cfg.pc) (gE:pt P cfg) {fn:Func} (hf:P.funcs[f]? = some fn) (hb:fn.body=some root) (hs:Sub root p (.loop body)) (hc:codeOk N body=true)
  {e:aa} {bw:List KV} {gF:List (List KV)} : ∀ (m:Nat) {vs:List KV} {rs:List (List KV)},py (wI P cfg L n f p body S) m vs rs=some (e,bw,gF)->∀ {E:Env} {B:St} {ρ:Ren} {base:Nat} {a:Act} {w:World} {Q:Exit->Act->World->Prop},rM P S vs rs->
  jB P E ρ (S.tm S.nr S.ids vs) N a->KJ P E (S.mem P vs rs) B ρ base w->
  (∀ E' B' ak a' w',jB P E' ak (S.tm S.nr S.ids bw) N a'->a'.defers=a.defers->KJ P E' (S.mem P bw gF) B' ak base w'->Co base E (S.mem P vs rs) B ρ w E' (S.mem P bw gF) B' ak w'->(∀ k,k < S.rows.length->E'.κ k=E.κ k)->rM P S bw gF->Q e.out a' w')->Code.rounds P body Q m a w
 | 0,vs,rs,h,E,B,ρ,base,a,w,Q,bM,ht,hj,hq=>by simp [py] at h
 | m+1,vs,rs,h,E,B,ρ,base,a,w,Q,bM,ht,hj,hq=>by
  unfold py at h;split at h
  ·rename_i e1 Z8 rs1 hr
   rw [rounds_succ];refine aef hP hm eV gE hf hb hs hc hr bM ht hj fun E' B' ak a' w' h1 h2 h3 h4 h5 h6=>?_;have fin:lu e1=false->some (e1,Z8,rs1)=some (e,bw,gF)->Q e1.out a' w':=by
    intro _ h;simp only [aR,bH] at h;obtain ⟨rfl,rfl,rfl⟩:=h;exact hq E' B' ak a' w' h1 h2 h3 h4 h5 h6
   cases e1 with
   | normal=>
    have h:py (wI P cfg L n f p body S) m Z8 rs1=some (e,bw,gF):=h;exact Yo hP hm eV gE hf hb hs hc m h h6 h1 h3 fun I0 I1 mG BB xP q1 q2 q3 q4 q5 q6=>hq I0 I1 mG BB xP q1 (q2.trans h2) q3 (h4.trans q4) (fun k hk=>(q5 k hk).trans (h5 k hk)) q6
   | exit id=>exact fin rfl h
   | goto l=>exact fin rfl h
   | ret=>exact fin rfl h
  ·simp at h
theorem Kt {R:Type} {bs:List Nat} {fs:List (Option Nat)} {A:ai} {k:KE R} {r:R} : ∀ (x:qt),(x.tell P S bs fs A).run k=some r->∃ e bw gF,x.ev=some (e,bw,gF)/\k e (S.tm A.next bs bw) (S.back P bs fs bw gF A)=some r
 | .no,h=>absurd h (by simp [qt.tell,pZ.run])
 | .out e vs rs,h=>⟨e,vs,rs,rfl,h⟩
 | .br c x y,h=>by
  have h:Bool.rec (motive:=fun _=>Option R) ((y.tell P S bs fs A).run k) ((x.tell P S bs fs A).run k) c=some r:=h;cases c with
  | true=>exact Kt x h
  | false=>exact Kt y h
theorem aeg (hP:P.funcs.toList.all gh=true) (hm:P.follows .mixedOrders=true) (eV:oX P cfg.pc) (gE:pt P cfg) {fn:Func} (hf:P.funcs[f]? = some fn) (hb:fn.body=some root) (hs:Sub root p (.loop body)) (hc:codeOk N body=true) {F:Z4}
  (hF:∀ vs rs e bw gF,rM P S vs rs->(F vs rs).ev=some (e,bw,gF)->py (wI P cfg L n f p body S) gI vs rs=some (e,bw,gF)):Kk P N body (Pj P S F):=by
 intro R k r t A E B ρ base a w Q h ht hj hq;cases hpe:S.ajl t A with
 | true=>
  unfold MK Pj at h;rw [hpe] at h;exact absurd h (by simp [pZ.run])
 | false=>
 have h:MK (Pj P S F) k t A=some r:=h;unfold MK Pj at h;rw [hpe,ay] at h;have h:Bool.rec (motive:=fun _=>Option R) none (((F (S.cQ P t A).vs (S.cQ P t A).rs).tell P S (S.cQ P t A).bs (S.cQ P t A).fs A).run k) (S.cQ P t A).ok=some r:=h;cases ho:(S.cQ P t A).ok with
 | false=>rw [ho] at h; exact absurd h (by simp)
 | true=>
  rw [ho] at h;have hG:=zn ho;obtain ⟨e,bw,gF,h9,qg⟩:=Kt _ h;have Ey:=hF _ _ e bw gF hG.B8 h9;refine Yo hP hm eV gE hf hb hs hc gI Ey hG.B8 (hG.tkr ht) ⟨hG.dI hj.k,hj.s⟩ fun E' B' ak a' w' q1 q2 q3 q4 q5 q6=>?_;obtain ⟨E2,r1,r2⟩:=restore hG hj.k q1 q3.k q4 q5 q6.v q6.nz q6.pf;exact hq e _ E2 _ B' ak a' w' qg r1 q2 r2
end
end Go.K
end
